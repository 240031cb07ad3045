import Derived.Test.YtedcgbkilmlbhaaGreatPk04
import Derived.Test.YtedcgbkilmlbhaaGreatPk01
import Derived.Test.YtedcgbkilmlbhaaGreatProg
import Derived.Test.YtedcgbkilmlbhaaGreatChecked
import Derived.KernelRfl
import Derived.Laws.BitsLemmas
import Derived.Laws.StructEq
section
namespace Go.Tv
open Go Go.Di
def VR (ty:gF) (te:List TV) (tS:List TB):ResultVar→Option TV
 | .tmp t=>some (te.getD t .unk)
 | .cell a t=>match ty t,te.getD a .unk with
  | some d,.ptr id off=>match tS[id]? with
   | some (.cells l)=>xN d.k.isAgg d.size l off
   | _=>none
  | _,_=>none
def zF (ty:gF) (te:List TV) (tS:List TB):List ResultVar→Option (List TV)
 | []=>some []
 | x::r=>match VR ty te tS x,zF ty te tS r with
  | some v,some l=>some (v::l)
  | _,_=>none
def kG:List TV→TV
 | [d]=>d
 | l => .gI l
variable {P:Program} {ty:gF} {tt:TypeId→Option TT} {ι ι' w:lW} {S S':av} {te mh:List TV} {env:List DV} {tS jh:List TB} {aI:bP} {call:bM} {yf:eW} {o:Oper} {aB nT:Nat} {B:List Nat} {r:TR} {ops:Array Oper}
theorem vo (h:cM ι te tS env S):∀ {rs:List ResultVar} {vs:List TV},zF ty te tS rs=some vs→∃ ds,qJ ty env S rs=some ds∧dg ι S vs ds
 | [],vs,hx=>by cases hx; exact⟨[],rfl,cz⟩
 | x::r,vs,hx=>by
  simp only[zF] at hx
  split at hx
  ·rename_i v l h1 h2
   cases hx
   obtain⟨ds,k1,k2⟩:=vo h h2
   cases x with
   | tmp t =>
    cases h1
    exact⟨_,by simp only[qJ,k1,Option.map_some],aY (Ar h.env t) k2⟩
   | cell a t =>
    simp only[VR] at h1
    split at h1
    ·rename_i d id off e1 e2
     split at h1
     ·rename_i l' e3
      have hg:=Ar h.env a
      rw[e2] at hg
      generalize hd:env.getD a bz=da at hg
      cases da<;>simp only[RT] at hg
      obtain⟨g1,rfl⟩:=hg
      obtain⟨iT,gW,m1,m2,m3⟩:=h.cells id l' e3
      rw[g1] at m1
      cases m1
      obtain⟨q,m4,m5⟩:=oZ m3 h1
      exact⟨q::ds,by simp only[qJ,hd,jN,e1,m2,m4,k1],aY m5 k2⟩
     ·cases h1
    ·cases h1
  ·cases hx
theorem My {ts:List (Option TT)} {vs:List TV} {ds:List DV} (hp:vs.all gf=true) (h:dg ι S vs ds):(oneOf ds).strip.pure=true∧RT ι' S' (kG (bN ts vs)) (oneOf ds).strip:=by
 have many:∀ {ts:List (Option TT)} {l:List TV} {m:List DV},l.all gf=true→dg ι S l m→(m.map DV.di).all DV.jf=true∧dg ι' S' (bN ts l) (m.map DV.di):=by
  intro ts l
  induction l generalizing ts with
  | nil=>intro m _ h; rw[aW h]; cases ts<;>exact⟨rfl,by simp only[bN,fB]; exact cz⟩
  | cons a l ih =>
   intro m hp h
   obtain⟨d,m',rfl,h1,h2⟩:=ak h
   simp only[List.all_cons,aG] at hp
   cases ts with
   | nil =>
    obtain⟨k1,k0,k2⟩:=kU (t:=none) (ι':=ι') (S':=S') hp.1 h1
    obtain⟨k3,k4⟩:=ih (ts:=[]) hp.2 h2
    have e:d.strip=d.di:=by cases d<;>first | rfl | exact(k0 _ rfl).elim
    rw[e] at k1 k2
    have e2:d.di.jf=true:=by cases d<;>first | exact k1 | exact(k0 _ rfl).elim
    exact⟨by rw[bT,List.all_cons,e2,k3]; rfl,by simp only[bN,bT]; exact aY k2 k4⟩
   | cons t ts =>
    obtain⟨k1,k0,k2⟩:=kU (t:=t) (ι':=ι') (S':=S') hp.1 h1
    obtain⟨k3,k4⟩:=ih (ts:=ts) hp.2 h2
    have e:d.strip=d.di:=by cases d<;>first | rfl | exact(k0 _ rfl).elim
    rw[e] at k1 k2
    have e2:d.di.jf=true:=by cases d<;>first | exact k1 | exact(k0 _ rfl).elim
    exact⟨by rw[bT,List.all_cons,e2,k3]; rfl,by simp only[bN,bT]; exact aY k2 k4⟩
 match vs,ds,hp,h with
 | [],ds,_,h=>rw[aW h]; cases ts<;>exact⟨rfl,by simp only[bN,kG,oneOf,DV.strip,RT,fB]; exact cz⟩
 | [v],ds,hp,h =>
  obtain⟨d,m',rfl,h1,h2⟩:=ak h
  rw[aW h2]
  simp only[List.all_cons,List.all_nil,Bool.and_true] at hp
  cases ts with
  | nil =>
   obtain⟨k1,k0,k2⟩:=kU (t:=none) (ι':=ι') (S':=S') hp h1
   exact⟨k1,k2⟩
  | cons t ts =>
   obtain⟨k1,k0,k2⟩:=kU (t:=t) (ι':=ι') (S':=S') hp h1
   cases ts<;>exact⟨k1,k2⟩
 | v::u::l,ds,hp,h =>
  obtain⟨k1,k2⟩:=many (ts:=ts) hp h
  obtain⟨d,m',rfl,h1,h2⟩:=ak h
  obtain⟨d',m'',rfl,h3,h4⟩:=ak h2
  refine⟨k1,?_⟩
  have e:∀ {ts:List (Option TT)},kG (bN ts (v::u::l)) = .gI (bN ts (v::u::l)):=by
   intro ts
   cases ts with
   | nil=>simp only[bN,kG]
   | cons t ts=>cases ts<;>simp only[bN,kG]
  rw[e]
  simp only[oneOf,DV.strip,RT]
  exact k2
theorem Mz {ts:List (Option TT)} {vs:List TV} {ds:List DV} (hp:vs.all gf=true) (h:dg ι S vs ds):RT ι' S' (kG (bN ts vs)) (oneOf ds):=by
 have k:=jW (ts:=ts) (ι':=ι') (S':=S') hp h
 match vs,ds,hp,h,k with
 | [],ds,_,h,k=>rw[aW h]; cases ts<;>(simp only[bN,kG,oneOf,RT]; exact cz)
 | [v],ds,hp,h,k =>
  obtain⟨d,m',rfl,h1,h2⟩:=ak h
  rw[aW h2] at k ⊢
  cases ts with
  | nil=>simp only[bN] at k ⊢; obtain⟨_,_,e,k1,-⟩:=ak k; cases e; exact k1
  | cons t ts=>cases ts<;>(simp only[bN] at k ⊢; obtain⟨_,_,e,k1,-⟩:=ak k; cases e; exact k1)
 | v::u::l,ds,hp,h,k =>
  obtain⟨d,m',rfl,h1,h2⟩:=ak h
  obtain⟨d',m'',rfl,h3,h4⟩:=ak h2
  have e:∀ {ts:List (Option TT)},kG (bN ts (v::u::l)) = .gI (bN ts (v::u::l)):=by
   intro ts
   cases ts with
   | nil=>simp only[bN,kG]
   | cons t ts=>cases ts<;>simp only[bN,kG]
  rw[e]
  simp only[oneOf,RT]
  exact k
section
variable (P:Program) (ty:gF) (bF:bP) (L:Nat)
def yB (n:Nat):bP:=j6 bF (dG P ty bF L n).1
def xW (n:Nat):bM:=(dG P ty bF L n).1
def yfN (n:Nat):eW:=(dG P ty bF L n).2
end
theorem gY {t:TT}:∀ {l:List t.den} {ds:List DV},eP t l ds→ds.length=l.length*t.size
 | [],ds,h=>by simp only[eP] at h; subst h; simp
 | x::l,ds,h=>by
  simp only[eP] at h
  obtain⟨c,m,rfl,h1,h2⟩:=h
  rw[bU,lT h1,gY h2,List.length_cons,iZ,Nat.one_mul,Nat.add_comm]
theorem uD {t:TT} (h0:(t.agg||t.size==1)=true):∀ {l:List t.den} {ds:List DV},eP t l ds→ek (CR t) t.agg l (rowsOf t.size t.agg ds l.length)
 | [],ds,h=>by simp only[eP] at h; subst h; simp[rowsOf,ek]
 | x::l,ds,h=>by
  simp only[eP] at h
  obtain⟨c,m,rfl,h1,h2⟩:=h
  rw[List.length_cons,yc (lT h1)]
  refine⟨?_,uD h0 h2⟩
  cases ha:t.agg with
  | true=>exact⟨h1,by simp[u9]⟩
  | false =>
   have h3:=row_one h1 ha
   rw[ha] at h3
   have hs:t.size=1:=by rw[ha] at h0; simpa using h0
   have e2:(c++m).getD 0 bz=c.getD 0 bz:=by
    have:=lT h1
    simp only[aL,eG (show 0<c.length by omega)]
   simp only[aD,if_false]
   rw[e2]
   exact h3
theorem Ce (h:cM ι te tS env S) {g:Nat} {t t':TT} {e:Nat} {l:List t'.den} {z:Bool} {d:DV} (hg:tS[g]? = some (.rows t' e l z)) (hd:RT ι S (.so g t) d) (ht:t'=t):∃ id ds,d = .jG id l.length t'.agg∧ι g=some id∧S[id]? = some (.op e t'.size ds z)∧BC S id l.length=some (e,t'.size,ds,z)∧eP t' l ds∧0<t'.size∧(t'.agg||t'.size==1)=true:=by
 subst ht
 cases d<;>simp only[RT] at hd
 rename_i id n agg
 obtain⟨h1,rfl,e',s',l',z',h2,h3⟩:=hd
 obtain⟨q0,q1,ds,q2,q3⟩:=h.mp g _ hg id h1
 rw[h2] at q2
 cases q2
 have hl:=gY q3
 have hn:n=l.length:=Nat.eq_of_mul_eq_mul_right q0 (h3.trans hl)
 subst hn
 refine⟨id,l',rfl,h1,h2,?_,q3,q0,q1⟩
 unfold BC
 rw[h2]
 simp only[h3,if_true]
theorem KL {id n:Nat} {t:TT} {e:Nat} {ds:List DV} (h:BC S id n=some (e,t.size,ds,true)) (h0:0<t.size) (h1:(t.agg||t.size==1)=true):kJ S (.jG id n t.agg) = .sl (rowsOf t.size t.agg ds n) none ⟨false,some false⟩:=by
 simp only[kJ,h,fM h0,h1,gm,if_true]
def zN (tS:List TB):List TV→List TV
 | [.so g t]=>match tS[g]? with
  | some (.rows t' _ l _)=>if h:t'=t then [.sl t (h▸l) .no] else [.so g t]
  | _=>[.so g t]
 | vs=>vs
theorem Y7 (h:cM ι te tS env S) {vs:List TV} {ds:List DV} (hd:dg ι S vs ds) (hp:(zN tS vs).all gf=true):∃ gW,oneOf gW=kJ (sX S (oneOf ds)) (oneOf ds)∧dg ι S (zN tS vs) gW:=by
 have other:vs.all gf=true→∃ gW,oneOf gW=kJ (sX S (oneOf ds)) (oneOf ds)∧dg ι S vs gW:=fun hp=>by
  refine⟨ds,?_,hd⟩
  match vs,ds,hd,hp with
  | [],ds,hd,_=>rw[aW hd]; rfl
  | [v],ds,hd,hp =>
   obtain⟨d,m',rfl,k1,k2⟩:=ak hd
   rw[aW k2]
   simp only[oneOf]
   cases v<;>first | (cases hp; done) | skip
   all_goals cases d<;>simp only[RT] at k1<;>rfl
  | v::u::l,ds,hd,_ =>
   obtain⟨d,m',rfl,k1,k2⟩:=ak hd
   obtain⟨d',m'',rfl,k3,k4⟩:=ak k2
   rfl
 unfold zN at hp ⊢
 split at hp
 ·rename_i g t
  split at hp
  ·rename_i t' e l z hg
   split at hp
   ·rename_i ht
    obtain⟨d,m',rfl,k1,k2⟩:=ak hd
    rw[aW k2]
    obtain⟨id,cs,rfl,h1,h2,h3,h4,h5,h6⟩:=Ce h hg k1 ht
    subst ht
    refine⟨[.sl (rowsOf t'.size t'.agg cs l.length) none ⟨false,some false⟩],?_,?_⟩
    ·simp only[oneOf]
     symm
     have hS:BC (sX S (.jG id l.length t'.agg)) id l.length=some (e,t'.size,cs,true):=by
      cases z with
      | true=>simp only[sX,h3]
      | false =>
       have hlt:=(aJ.1 h2).1
       have hn:l.length*t'.size=cs.length:=(gY h4).symm
       have e1:sX S (.jG id l.length t'.agg)=S.set id (.op e t'.size cs true):=by simp only[sX,h3]
       rw[e1]
       unfold BC
       rw[aP,if_pos rfl,if_pos hlt]
       simp only[hn,if_true]
     exact KL hS h5 h6
    ·simp only[dif_pos]
     exact iW (by simp only[RT,s4,and_true]; exact uD h6 h4)
   ·rename_i ht
    rw[dif_neg ht]
    exact other hp
  ·exact other hp
 ·exact other hp
def XT (ty:gF) (rs:List ResultVar) (lU:List (Option TT)) (Q:TV→Prop) (e:DX) (te:List TV) (tS:List TB):Prop :=
 (match e with | .exit _=>False | _=>True)∧∃ vs,zF ty te tS rs=some vs∧(zN tS vs).all gf=true∧refs (kG (bN lU (zN tS vs)))=[]∧Q (kG (bN lU (zN tS vs)))
theorem Rc {bF:bP} {L n:Nat} {f:FuncId} {fn:Func} {c:Code} {targs:List TV} {lU:List (Option TT)} {Q:TV→Prop} (hf:P.funcs[f]? = some fn) (hb:fn.body=some c) (ht:∀ a,dg ej [] targs a→bF f a=none)
  (h:WT P ty (yB P ty bF L n) (xW P ty bF L n) (yfN P ty bF L n) [] L f false c (targs++List.replicate (fn.ntmps-targs.length) .unk) [] (XT ty fn.results.toList lU Q)):qR (yB P ty bF L (n+1)) f targs Q:=by
 intro cR hd
 have hlen:=ig hd
 have hR:cM ej (targs++List.replicate (fn.ntmps-targs.length) .unk) [] (cR++List.replicate (fn.ntmps-cR.length) bz) []:=by
  refine⟨fu hd (by rw[hlen]; exact vn _ _),fun k l hk=>(by simp at hk),fun k e s hk=>(by simp at hk),fun k k' hk=>(by cases hk),fun i j k' hi=>(by cases hi),fun k b hk=>(by simp at hk)⟩
 obtain⟨e,aC,S',ι',cL,cN,h1,h2,h3,h4,h5,h6⟩:=h ej _ [] hR (fun k hk=>(by cases hk))
 obtain⟨h6,vs,h7,h8,h9,wB⟩:=h6
 obtain⟨ds,k1,k2⟩:=vo h2 h7
 obtain⟨ds2,c1,c2⟩:=Y7 h2 k2 h8
 obtain⟨k3,k4⟩:=My (ts:=lU) (ι':=ej) (S':=[]) h8 c2
 refine⟨(oneOf ds2).strip,_,?_,k3,k4,h9,wB⟩
 have hc:(dG P ty bF L (n+1)).1 f cR []=some (oneOf ds,S'):=by
  simp only[dG,hf,tq,hb]
  have HL:cG P ty (j6 bF (dG P ty bF L n).1) (dG P ty bF L n).1 (dG P ty bF L n).2 L f false c (cR++List.replicate (fn.ntmps-cR.length) bz) []=some (e,aC,S'):=h1
  rw[HL]
  cases e with
  | normal=>simp only[k1,Option.map_some]
  | ret=>simp only[k1,Option.map_some]
  | exit id=>exact h6.elim
 simp only[yB,j6,ht _ hd,hc,← c1,k3,if_true]
def Od (ty:gF) (rs:List ResultVar) (lU:List (Option TT)) (oK:List (Option TT)) (Q:TV→List TV→Prop) (e:DX) (te:List TV) (tS:List TB):Prop :=
 (match e with | .exit _=>False | _=>True)∧∃ vs ts,zF ty te tS rs=some vs∧vs.all gf=true∧refs (kG (bN lU vs))=[]∧tS[0]? = some (.cells ts)∧ts.all gf=true∧iD (bN oK ts)=[]∧Q (kG (bN lU vs)) (bN oK ts)
theorem Rq {bF:bP} {L n:Nat} {f:FuncId} {fn:Func} {c:Code} {targs ts:List TV} {lU oK:List (Option TT)} {Q:TV→List TV→Prop} (hf:P.funcs[f]? = some fn) (hb:fn.body=some c)
  (h:WT P ty (yB P ty bF L n) (xW P ty bF L n) (yfN P ty bF L n) [0] L f false c (targs++List.replicate (fn.ntmps-targs.length) .unk) [.cells ts] (Od ty fn.results.toList lU oK Q)):x5 (xW P ty bF L (n+1)) f targs ts Q:=by
 intro ι cR S hR
 have hlen:=ig hR.env
 have lR:cM ι (targs++List.replicate (fn.ntmps-targs.length) .unk) [.cells ts] (cR++List.replicate (fn.ntmps-cR.length) bz) S :=
  ⟨fu hR.env (by rw[hlen]; exact vn _ _),hR.cells,hR.own,hR.xH,hR.inj,hR.mp⟩
 obtain⟨e,aC,S',ι',cL,cN,h1,h2,h3,h4,h5,h6⟩:=h ι _ S lR (fun k hk=>(by
  have:k=0:=by simpa using hk
  subst this
  exact⟨ts,rfl⟩))
 obtain⟨h6,vs,wm,h7,h8,h9,wB,Fe,Vr,h13⟩:=h6
 obtain⟨ds,k1,k2⟩:=vo h2 h7
 obtain⟨k',gW,m1,m2,m3⟩:=h2.cells 0 wm wB
 refine⟨oneOf ds,S',ι',_,bN oK wm,k',gW,?_,Mz (ts:=lU) h8 k2,h9,Vr,by rw[← h4.base 0 (by simp)]; exact m1,m2,jW Fe m3,h4,h5,h13⟩
 simp only[xW,dG,hf,tq,hb]
 have HL:cG P ty (j6 bF (dG P ty bF L n).1) (dG P ty bF L n).1 (dG P ty bF L n).2 L f false c (cR++List.replicate (fn.ntmps-cR.length) bz) S=some (e,aC,S'):=h1
 rw[HL]
 cases e with
 | normal=>simp only[k1,Option.map_some]
 | ret=>simp only[k1,Option.map_some]
 | exit id=>exact h6.elim
end Go.Tv
end
section
namespace Go.Tv
open Go Go.Di
section
variable (P:Program) (ty:gF) (tt:TypeId→Option TT)
def Oj:List TV→Option Nat
 | []=>none
 | v::l=>match refs v with
  | k::_=>if isRef v then some k else Oj l
  | []=>Oj l
end
variable {P:Program} {ty:gF} {tt:TypeId→Option TT} {ι ι' w:lW} {S S':av} {te mh:List TV} {env:List DV} {tS jh:List TB} {aI:bP} {call:bM} {yf:eW} {o:Oper} {aB nT:Nat} {B:List Nat} {r:TR} {ops:Array Oper} {L:Nat} {fn:FuncId} {iA:Bool} {a b c:Code} {Q Q':DX→List TV→List TB→Prop}
variable {fs:List dh}
def WI (P:Program) (ty:gF) (aI:bP) (call:bM) (yf:eW) (B:List Nat) (L:Nat) (fn:FuncId) (iA:Bool) (n:Nat) (c:Code) (te:List TV) (tS:List TB) (Q:DX→List TV→List TB→Prop):Prop :=
 ∀ ι env S,cM ι te tS env S→ow B tS→∃ e aC S' ι' cL cN,lZ (cG P ty aI call yf L fn iA c) n env S=some (e,aC,S')∧cM ι' cL cN aC S'∧ow B cN∧Fr B ι S ι' S'∧Nn S.length S S'∧Q e cL cN
theorem xw {f:List DV→av→Option (DX×List DV×av)}:∀ {n m:Nat} {env:List DV} {S:av} {r:DX×List DV×av},n≤m→lZ f n env S=some r→lZ f m env S=some r
 | 0,_,_,_,_,_,h=>by cases h
 | n+1,0,_,_,_,hn,_=>by omega
 | n+1,m+1,env,S,r,hn,h=>by
  simp only[lZ] at h ⊢
  split at h
  ·rename_i aC S' e
   exact xw (by omega) h
  ·exact h
theorem LG {n:Nat} (hn:n≤L) (h:WI P ty aI call yf B L fn iA n c te tS Q):WT P ty aI call yf B L fn iA (.loop c) te tS Q:=by
 intro ι env S hR hB
 obtain⟨e,aC,S',ι',cL,cN,h1,h2⟩:=h ι env S hR hB
 exact⟨e,aC,S',ι',cL,cN,by simp only[cG]; exact xw hn h1,h2⟩
theorem Tk {n:Nat} (h:WT P ty aI call yf B L fn iA c te tS fun e te tS=>match e with | .normal=>WI P ty aI call yf B L fn iA n c te tS Q | e=>Q e te tS):WI P ty aI call yf B L fn iA (n+1) c te tS Q:=by
 intro ι env S hR hB
 obtain⟨e,aC,S',ι',cL,cN,h1,h2,h3,h4,h5,h6⟩:=h ι env S hR hB
 cases e with
 | normal =>
  obtain⟨e,oR,tI,ι'',tM,tN,k1,k2,k3,k4,k5,k6⟩:=h6 ι' aC S' h2 h3
  exact⟨e,oR,tI,ι'',tM,tN,by simp only[lZ,h1,k1],k2,k3,h4.trans k4,rA h5 k5,k6⟩
 | exit id=>exact⟨_,aC,S',ι',cL,cN,by simp only[lZ,h1],h2,h3,h4,h5,h6⟩
 | ret=>exact⟨_,aC,S',ι',cL,cN,by simp only[lZ,h1],h2,h3,h4,h5,h6⟩
theorem To {n:Nat} (hl:uN mh te) (hb:Bz jh tS) (jr:okB mh jh=true) (hB:∀ k,k∈B→nw jh k=true) (h:WI P ty aI call yf B L fn iA n c mh jh Q):WI P ty aI call yf B L fn iA n c te tS Q:=by
 intro ι env S hR Vq
 have RS:=AV hb Vq hB
 obtain⟨ι1,h1,h2,-⟩:=Ax hR hl hb jr RS
 obtain⟨e,aC,S',ι',cL,cN,m1,m2,m3,m4,m5⟩:=h ι1 env S h1 RS
 exact⟨e,aC,S',ι',cL,cN,m1,m2,m3,h2.trans m4,m5⟩
theorem Tn {σ:Type} {N:Nat} (f:σ→List TV×List TB) (cB:σ→Prop) (m:σ→Nat) (s0:σ) (h0:Fits B (f s0).1 (f s0).2 te tS) (hg:cB s0) (hm:m s0<N)
  (hstep:∀ s,cB s→WT P ty aI call yf B L fn iA c (f s).1 (f s).2 fun e te tS=>match e with | .normal=>∃ s',Fits B (f s').1 (f s').2 te tS∧cB s'∧m s'<m s | e=>Q e te tS):WI P ty aI call yf B L fn iA N c te tS Q:=by
 refine To h0.l h0.b h0.ok h0.base ?_
 have key:∀ n s,cB s→m s<n→∀ ι env S,cM ι (f s).1 (f s).2 env S→ow B (f s).2→∃ e aC S' ι' cL cN,lZ (cG P ty aI call yf L fn iA c) n env S=some (e,aC,S')∧cM ι' cL cN aC S'∧ow B cN∧Fr B ι S ι' S'∧Nn S.length S S'∧Q e cL cN:=by
  intro n
  induction n with
  | zero=>intro s _ h; omega
  | succ n ih =>
   intro s hs hn ι env S hR hB
   obtain⟨e,aC,S',ι',cL,cN,h1,h2,h3,h4,h5,h6⟩:=hstep s hs ι env S hR hB
   cases e with
   | normal =>
    obtain⟨s',hf,lQ,hlt⟩:=h6
    have RS:=AV hf.b h3 hf.base
    obtain⟨ι1,k1,k2,-⟩:=Ax h2 hf.l hf.b hf.ok RS
    obtain⟨e,oR,tI,ι'',tM,tN,m1,m2,m3,m4,m5,m6⟩:=ih s' lQ (by omega) ι1 aC S' k1 RS
    exact⟨e,oR,tI,ι'',tM,tN,by simp only[lZ,h1,m1],m2,m3,(h4.trans k2).trans m4,rA h5 m5,m6⟩
   | exit id=>exact⟨_,aC,S',ι',cL,cN,by simp only[lZ,h1],h2,h3,h4,h5,h6⟩
   | ret=>exact⟨_,aC,S',ι',cL,cN,by simp only[lZ,h1],h2,h3,h4,h5,h6⟩
 intro ι env S hR hB
 exact key N s0 hg hm ι env S hR hB
theorem Tc {σ:Type} (f:σ→List TV×List TB) (cB:σ→Prop) (h1:WT P ty aI call yf B L fn iA a te tS fun e te tS=>match e with | .normal=>∃ s,Fits B (f s).1 (f s).2 te tS∧cB s | e=>Q e te tS)
  (h2:∀ s,cB s→WT P ty aI call yf B L fn iA b (f s).1 (f s).2 Q):WT P ty aI call yf B L fn iA (.seq a b) te tS Q:=by
 refine OX (h1.mono ?_)
 intro e te tS hq
 cases e with
 | normal =>
  obtain⟨s,hf,hg⟩:=hq
  exact Ta hf.l hf.b hf.ok hf.base (h2 s hg)
 | exit id=>exact hq
 | ret=>exact hq
theorem Gp:∀ owns:List (Nat×Nat),Bz (owns.map fun p=>TB.own p.1 p.2) []
 | [] => .nil
 | _::l => .new (Gp l)
end Go.Tv
end
section
namespace Go.Di
open Go Go.Proofs
def abx (d:Tmp) (t:TypeId):Nat:=if t==23 then (if d==19 then 1 else if d==38 then 2 else 0) else if t==22 then (if d==18 then 1 else if d==12 then 1 else if d==26 then 2 else 0) else 0
noncomputable abbrev TyH:gF:=⟨NQ Tryz.prog,abx⟩
end Go.Di
end
section
namespace Go.Tv
open Go Go.Di Go.Proofs
abbrev cv:TT := .int .i64
abbrev bG:TT := .sl cv
abbrev aK:TT := .pair bG (.pair bG (.pair cv (.pair bG .unit)))
abbrev PI:TT := .pair cv (.pair cv .unit)
abbrev jQ:TT := .pair cv (.pair cv (.pair cv .unit))
abbrev mm:TT := .pair .bool (.pair jQ .unit)
abbrev jP:TT := .pair bG (.pair bG (.pair cv (.pair bG (.pair bG (.pair bG (.pair bG (.pair bG (.pair bG (.pair bG (.pair bG (.pair bG .unit)))))))))))
def ttL:List (Nat×TT):=[(3,cv),(4,.bool),(35,cv),(23,bG),(25,aK),(22,.sl aK),(75,PI),(83,.int .u64),(79,jQ),(34,.sl jQ),(81,jQ),(47,.sl jQ),(41,.sl bG),(9,.str),(145,mm),(142,mm),(143,.sl .bool),(30,.sl (.sl aK)),(99,.sl jP),(150,mm),(148,.sl mm)]
def Zp (t:TypeId):Option TT:=(ttL.find? fun p=>p.1==t).map (·.2)
abbrev vv:=TV.val
abbrev vi:=Value.int IntKind.i64
abbrev vb:=Value.bool
abbrev bg (n:Int):TV := .val (.int .i64 n)
abbrev iy (b:Bool):TV := .val (.bool b)
noncomputable abbrev Tp:Program:=Tryz.prog
noncomputable abbrev Ty:gF:=TyH
def LL:Nat:=1001000
structure uS (bF:bP):Prop where
 other:∀ f a,f≠60→f≠133→f≠12→f≠43→f≠52→bF f a=none
 fit:bF 12 []=some (.val (.bool true))
section
variable (bF:bP) (n:Nat)
noncomputable abbrev Fh:bP:=yB Tp Ty bF LL n
noncomputable abbrev Ae:bM:=xW Tp Ty bF LL n
noncomputable abbrev yfT:eW:=yfN Tp Ty bF LL n
end
theorem wH {n:Int} (h : -9223372036854775808≤n) (h':n≤9223372036854775807):IntKind.i64.wrap n=n:=by rw[IntKind.wrap_i64]; omega
end Go.Tv
end
section
namespace Go.Tv
open Go Go.Di
def zX (aI:bP) (call:bM) (g:FuncId) (targs:List TV) (Q:List TV→Prop):Prop :=
 ∀ cR S,dg ej S targs cR→(∀ ds,dg ej [] targs ds→aI g ds=none)∧∃ S' id ds ts,call g cR S=some (.ptr id 0,S')∧¬ Lv S id∧S'[id]? = some (.cells ds)∧dg ej [] ts ds∧iD ts=[]∧(∀ k',Lv S k'→S'[k']? = S[k']?)∧Nn S.length S S'∧Q ts
theorem zX.mono {aI:bP} {call:bM} {g:FuncId} {targs:List TV} {Q Q':List TV→Prop} (h:zX aI call g targs Q) (hq:∀ v,Q v→Q' v):zX aI call g targs Q':=fun cR S hd=>by
 obtain⟨h0,S',id,ds,ts,h1,h2,h3,h4,h5,h6,h7,h8⟩:=h cR S hd
 exact⟨h0,S',id,ds,ts,h1,h2,h3,h4,h5,h6,h7,hq _ h8⟩
variable {P:Program} {ty:gF} {tt:TypeId→Option TT} {ι ι' w:lW} {S S':av} {te mh:List TV} {env:List DV} {tS jh:List TB} {aI:bP} {call:bM} {yf:eW} {o:Oper} {aB nT:Nat} {B:List Nat} {r:TR} {ops:Array Oper}
theorem Jk {f:Operand} {args:Array Operand} {argTypes:Array TypeId} {g:FuncId} {fs cs xs targs:List TV} {Q:List TV→Prop} (hop:o.op = .call { callee := .value f,args,argTypes }) (hh:ty.h o≠1) (hf:gE te f=some (.fn g fs cs)) (ha:nP te args.toList=some xs) (hp:(fs++xs++cs).all gf=true)
  (hn:bN (iK tt fs argTypes) (fs++xs++cs)=targs) (hs:zX aI call g targs Q):Does P ty aI call yf B o nT te tS false fun v cL cN _=>∃ ts,Q ts∧v = .ptr nT 0∧cL=te∧cN=qI tS nT (.cells ts):=by
 intro ι w env S aB hR hB hw hT RN hS
 obtain⟨zB,iU,Lb,k1,k2,k3⟩:=kV hR.env hf ha
 obtain⟨k4,k5⟩:=jV (ts:=iK tt fs argTypes) (ι':=ej) (S':=[]) hp k3
 have k6:=jW (ts:=iK tt fs argTypes) (ι':=ej) (S':=S) hp k3
 rw[hn] at k5 k6
 obtain⟨h0,S',id,ds,ts,m1,m2,m3,m4,m5,m6,m7,m8⟩:=hs _ S k6
 have hne:∀ {k k':Nat},ι k=some k'→k'≠id:=fun hk e=>m2 (e▸hR.live hk)
 have wD:ι nT=none:=hR.new hT
 have K:lH ι S (upd ι nT id) S' fun _=>False:=fun k k' _ hk=>by
  have h1:k≠nT:=by rintro rfl; rw[wD] at hk; cases hk
  exact⟨by simp only[upd,h1,if_false]; exact hk,fH (m6 k' (hR.live hk))⟩
 refine⟨.ptr id 0,S',upd ι nT id,fun j=>if j=id then some nT else w j,.ptr nT 0,te,qI tS nT (.cells ts),⟨none,true⟩,⟨none,true⟩,fun _ => ?_,fun e=>(by cases e),⟨fun e=>e,fun l hl=>(by cases hl)⟩,fun l m hl=>(by cases hl),?_,by simp[RT,upd],?_,?_,?_,kB hB hT,⟨m7.1,fun j hj eZ=>m7.2 j (by have:=(aJ.1 eZ).1; omega) eZ⟩,ts,m8,rfl,rfl,rfl⟩
 ·simp only[af,hop,k1,k2,u6,k4,if_true,h0 _ k5,m1]
 ·refine⟨bW K _ _ hR.env,fun k l hk => ?_,fun k e s hk t ht => ?_,fun k k' hk => ?_,fun i j k' hi hj => ?_,fun k b hk t ht => ?_⟩
  ·rw[cC hT] at hk
   split at hk
   ·rename_i e
    subst e
    cases hk
    exact⟨id,ds,by simp[upd],m3,iP _ _ m5 m4⟩
   ·rename_i e
    obtain⟨k',gW,h1,h2,h3⟩:=hR.cells k l hk
    exact⟨k',gW,by simp only[upd,e,if_false]; exact h1,by rw[m6 k' (hR.live h1)]; exact h2,bW K _ _ h3⟩
  ·rw[cC hT] at hk
   split at hk
   ·cases hk
   ·rename_i e'
    simp only[upd,e',if_false] at ht
    obtain⟨n,h1⟩:=hR.own k e s hk t ht
    exact⟨n,by rw[m6 t (hR.live ht)]; exact h1⟩
  ·rw[cC hT]
   split
   ·exact⟨_,rfl,fun e=>by cases e⟩
   ·rename_i e
    simp only[upd,e,if_false] at hk
    exact hR.xH k k' hk
  ·unfold upd at hi hj
   split at hi<;>split at hj
   ·omega
   ·cases hi; exact(hne hj rfl).elim
   ·cases hj; exact(hne hi rfl).elim
   ·exact hR.inj i j k' hi hj
  ·rw[cC hT] at hk
   split at hk
   ·cases hk; trivial
   ·rename_i e'
    simp only[upd,e',if_false] at ht
    rw[m6 t (hR.live ht)]; exact hR.mp k b hk t ht
 ·intro a b pK
  unfold upd at pK
  split at pK
  ·rename_i e; subst e; cases pK; simp
  ·simp only[hne pK,if_false]; exact hw _ _ pK
 ·intro e; cases e
 ·refine⟨fun k' hl _=>m6 k' hl,fun k k' hk => ?_,fun k hk => ?_⟩
  ·unfold upd at hk
   split at hk
   ·cases hk; exact .inr m2
   ·exact .inl ⟨k,hk⟩
  ·have:=mG hB hT
   unfold upd
   rw[if_neg (fun e:k=nT=>this (e▸hk))]
def XS (ty:gF) (rs:List ResultVar) (oK:List (Option TT)) (Q:List TV→Prop) (e:DX) (te:List TV) (tS:List TB):Prop :=
 (match e with | .exit _=>False | _=>True)∧∃ ts,zF ty te tS rs=some [.ptr 0 0]∧tS[0]? = some (.cells ts)∧ts.all gf=true∧iD (bN oK ts)=[]∧Q (bN oK ts)
theorem QU {bF:bP} {L n:Nat} {f:FuncId} {fn:Func} {c:Code} {targs:List TV} {oK:List (Option TT)} {Q:List TV→Prop} (hf:P.funcs[f]? = some fn) (hb:fn.body=some c) (ht:∀ a,bF f a=none)
  (h:WT P ty (yB P ty bF L n) (xW P ty bF L n) (yfN P ty bF L n) [] L f false c (targs++List.replicate (fn.ntmps-targs.length) .unk) [] (XS ty fn.results.toList oK Q)):zX (yB P ty bF L (n+1)) (xW P ty bF L (n+1)) f targs Q:=by
 have key:∀ cR S,dg ej S targs cR→∃ S' id ds ts,(dG P ty bF L (n+1)).1 f cR S=some (.ptr id 0,S')∧¬ Lv S id∧S'[id]? = some (.cells ds)∧dg ej [] ts ds∧iD ts=[]∧(∀ k',Lv S k'→S'[k']? = S[k']?)∧Nn S.length S S'∧Q ts:=by
  intro cR S hd
  have hlen:=ig hd
  have hR:cM ej (targs++List.replicate (fn.ntmps-targs.length) .unk) [] (cR++List.replicate (fn.ntmps-cR.length) bz) S:=by
   refine⟨fu hd (by rw[hlen]; exact vn _ _),fun k l hk=>(by simp at hk),fun k e s hk=>(by simp at hk),fun k k' hk=>(by cases hk),fun i j k' hi=>(by cases hi),fun k b hk=>(by simp at hk)⟩
  obtain⟨e,aC,S',ι',cL,cN,h1,h2,h3,h4,h5,h6⟩:=h ej _ S hR (fun k hk=>(by cases hk))
  obtain⟨h6,ts,h7,h8,h9,wB,Fe⟩:=h6
  obtain⟨ds,k1,k2⟩:=vo h2 h7
  obtain⟨d,m',rfl,k3,k4⟩:=ak k2
  rw[aW k4] at k1
  cases d<;>simp only[RT] at k3
  rename_i id off
  obtain⟨k3,rfl⟩:=k3
  obtain⟨iT,gW,m1,m2,m3⟩:=h2.cells 0 ts h8
  rw[k3] at m1
  cases m1
  refine⟨S',id,gW,bN oK ts,?_,?_,m2,jW h9 m3,wB,fun k' hl=>h4.rest k' hl (fun k hk=>by cases hk),h5,Fe⟩
  ·simp only[dG,hf,tq,hb]
   have HL:cG P ty (j6 bF (dG P ty bF L n).1) (dG P ty bF L n).1 (dG P ty bF L n).2 L f false c (cR++List.replicate (fn.ntmps-cR.length) bz) S=some (e,aC,S'):=h1
   rw[HL]
   cases e with
   | normal=>simp only[k1,Option.map_some,oneOf]
   | ret=>simp only[k1,Option.map_some,oneOf]
   | exit id=>exact h6.elim
  ·rcases h4.ours 0 id k3 with ⟨j,hj⟩ | hl
   ·cases hj
   ·exact hl
 intro cR S hd
 refine⟨fun ds hds => ?_,key cR S hd⟩
 obtain⟨S',id,gW,ts,k1,-⟩:=key ds [] hds
 simp only[yB,j6,ht,kJ,sX,k1,DV.strip,DV.di,DV.pure,DV.jf,aD,if_false]
end Go.Tv
end
section
namespace Go.Tv
open Go Go.Di Go.Proofs
variable {P:Program}
theorem dR {α β:Type} (s:Sem α) (f:α→Sem β):cu P (s >>= f)=(cu P s).bind fun a=>cu P (f a):=by
 change cu P (s.bind f)=_
 cases s with
 | pure a=>rfl
 | program k =>
  simp only[Sem.bind,cu]
  generalize k P=s'
  induction s' with
  | pure a=>rfl
  | program k ih=>simp only[Sem.bind,cu]; exact ih P
  | _=>simp only[Sem.bind,cu,Option.bind_none]
 | _=>simp only[Sem.bind,cu,Option.bind_none]
theorem uk {α:Type} (a:α):cu P (pure a:Sem α)=some a:=rfl
theorem lD:cu P program=some P:=rfl
theorem kX {t:TypeId} {d:TypeDesc} (h:P.underlying t=some d):cu P (underlying t)=some d:=by
 unfold underlying
 rw[dR,lD]
 simp only[Option.bind_some,h]
 rfl
theorem Mj (d:Nat) (t:TypeId) (k k':IntKind) (a b:Int) (h:P.underlying t=some (.int k')):cu P (Op.equalIn (d+1) t (.int k a) (.int k b))=some (a==b):=by
 simp only[Op.equalIn,dR,kX h,Option.bind_some,if_true]
 rfl
theorem Mi {α:Type} {c:Prop} [Decidable c] {a b:Sem α}:cu P (if c then a else b)=if c then cu P a else cu P b:=by split<;>rfl
theorem qm (d:Nat) (t:TypeId) (xs ys:Array Value) (ht:P.underlying t=some (.struct (P.fieldsOf t))) (hp:P.stoodInHeld t=false) :
  cu P (Op.equalIn (d+1) t (.agg xs) (.agg ys))=cu P (Op.eqFields d xs ys (P.fieldsOf t).toList):=by
 simp only[Op.equalIn,dR,kX ht,Option.bind_some,lD,hp,aD,if_false]
 rw[← Array.forIn_toList]
 generalize (P.fieldsOf t).toList=fs
 clear ht
 induction fs with
 | nil=>rfl
 | cons f fs ih =>
  simp only[List.forIn_cons,Op.eqFields,dR,Mi]
  split
  ·generalize cu P (part f.type xs f.offset)=r1
   cases r1 with
   | none=>rfl
   | some a =>
    generalize cu P (part f.type ys f.offset)=r2
    cases r2 with
    | none=>rfl
    | some b =>
     simp only[Option.bind_some]
     generalize cu P (Op.equalIn d f.type a b)=r3
     cases r3 with
     | none=>rfl
     | some r =>
      cases r
      ·simp only[Option.bind_some,Bool.not_false,if_true,uk]
      ·simp only[Option.bind_some,fD,aD,if_false,uk]
       exact ih
  ·simp only[uk,Option.bind_some]
   exact ih
theorem UJ {d:Nat} {xs ys:Array Value}:cu P (Op.eqFields d xs ys [])=some true:=rfl
theorem UQ {t:TypeId} {xs ys:Array Value} {b:Bool} (ht:P.underlying t=some (.struct (P.fieldsOf t))) (hp:P.stoodInHeld t=false) (hm:P.eqGuardType P.depth t=false) (hf:cu P (Op.eqFields 9999 xs ys (P.fieldsOf t).toList)=some b) (x y:Operand) :
  iE P (do eqGuard .neq t x y (.agg xs) (.agg ys); binOp .neq t (.agg xs) (.agg ys))=some (.val (.bool !b)):=by
 have h1:cu P (eqGuard .neq t x y (.agg xs) (.agg ys))=some ():=by
  simp only[eqGuard]
  simp only[fD,aD,if_false,dR,lD,Option.bind_some,hm,Bool.not_false,if_true]
  rfl
 have h2:cu P (binOp .neq t (.agg xs) (.agg ys))=some (.bool !b):=by
  simp only[binOp,dR,Op.equal,Op.maxDepth,qm 9999 t xs ys ht hp,hf,Option.bind_some]
  rfl
 rw[iE,dR,h1,Option.bind_some,h2]
 rfl
variable {ty:gF} {tt:TypeId→Option TT} {ι ι' w:lW} {S S':av} {te mh:List TV} {env:List DV} {tS jh:List TB} {aI:bP} {call:bM} {yf:eW} {o:Oper} {aB nT:Nat} {B:List Nat} {ops:Array Oper}
end Go.Tv
end
section
namespace Go.Tv
open Go Go.Di Go.Proofs
def N8:(t:TT)→DecidableEq t.den
 | .int _=>inferInstanceAs (DecidableEq Int)
 | .bool=>inferInstanceAs (DecidableEq Bool)
 | .str=>inferInstanceAs (DecidableEq ByteArray)
 | .unit=>inferInstanceAs (DecidableEq Unit)
 | .pair a b=>fun x y=>@instDecidableEqProd _ _ (N8 a) (N8 b) x y
 | .sl t=>fun x y=>@instDecidableEqList _ (N8 t) x y
def BN (t:TT) (x:t.den) (l:List t.den):Bool:=l.any fun y=>@decide (x=y) (N8 t x y)
def yC (t:TT) (x:t.den) (l:List t.den):List t.den:=bif BN t x l then l else l++[x]
structure Cr (P:Program) (t:TypeId) (kt:TT):Prop where
 look:∀ (x:kt.den) (l:List kt.den),cu P (JG t ((yG kt l).map Di.RG) (Fg kt x) false)=some (.bool (BN kt x l))
 find:∀ (x:kt.den) (l:List kt.den),∃ r,cu P (JR t ((yG kt l).map Di.RG) (Fg kt x))=some r∧NT (yG kt l) (Fg kt x) (.bool true) r=some (yG kt (yC kt x l))
def SJ (kt:TT) (v:TV):Option kt.den :=
 match v with
 | .agg l=>match gR l,kt.of l with
  | some vs,some (x,[])=>if vs.length=(Cb kt x).length then some x else none
  | _,_=>none
 | _=>none
def Xi (P:Program) (tt:TypeId→Option TT) (te:List TV) (tS:List TB) (o:Oper) (nT:Nat):Option (TV×List TB×Prop) :=
 match o.op with
 | .makeMap t none=>match tt t with
  | some kt=>some (.mp nT,qI tS nT (.map kt []),True)
  | none=>none
 | .lookup t m k false=>match gE te m,gE te k with
  | some (.mp id),some v=>match tS[id]? with
   | some (.map kt l)=>match SJ kt v with
    | some x=>some (.val (.bool (BN kt x l)),tS,Cr P t kt)
    | none=>none
   | _=>none
  | _,_=>none
 | .mapUpdate t m k y=>match gE te m,gE te k,gE te y with
  | some (.mp id),some v,some (.val (.bool true))=>match tS[id]? with
   | some (.map kt l)=>match SJ kt v with
    | some x=>some (.unk,tS.set id (.map kt (yC kt x l)),Cr P t kt)
    | none=>none
   | _=>none
  | _,_,_=>none
 | _=>none
theorem Ep:∀ {t:TT} {l:List TV} {x:t.den} {r:List TV} {vs:List Value},t.of l=some (x,r)→gR l=some vs→∃ R7,gR r=some R7∧vs=Cb t x++R7
 | .int k,l,x,r,vs,h,hv=>by
  simp only[TT.of] at h
  unfold ofInt at h
  split at h
  ·split at h
   ·rename_i hk
    subst hk
    cases h
    simp only[gR,ah] at hv
    obtain⟨R7,h1,rfl⟩:=hv
    exact⟨R7,h1,rfl⟩
   ·cases h
  ·cases h
 | .bool,l,x,r,vs,h,hv=>by
  simp only[TT.of] at h
  unfold ofBool at h
  split at h
  ·cases h
   simp only[gR,ah] at hv
   obtain⟨R7,h1,rfl⟩:=hv
   exact⟨R7,h1,rfl⟩
  ·cases h
 | .str,l,x,r,vs,h,hv=>by
  simp only[TT.of] at h
  unfold ofStr at h
  split at h
  ·cases h
   simp only[gR,ah] at hv
   obtain⟨R7,h1,rfl⟩:=hv
   exact⟨R7,h1,rfl⟩
  ·cases h
 | .unit,l,x,r,vs,h,hv=>by
  simp only[TT.of] at h
  cases h
  exact⟨vs,hv,rfl⟩
 | .sl t,l,x,r,vs,h,hv=>by
  simp only[TT.of] at h
  unfold SI at h
  split at h
  ·simp[gR] at hv
  ·simp[gR] at hv
  ·cases h
 | .pair a b,l,x,r,vs,h,hv=>by
  simp only[TT.of] at h
  split at h
  ·rename_i y m h1
   split at h
   ·rename_i z m' h2
    cases h
    obtain⟨vs1,k1,rfl⟩:=Ep h1 hv
    obtain⟨vs2,k2,rfl⟩:=Ep h2 k1
    exact⟨vs2,k2,by simp[Cb]⟩
   ·cases h
  ·cases h
theorem KU {kt:TT} {v:TV} {x:kt.den} (h:SJ kt v=some x):gJ v=some (Fg kt x):=by
 unfold SJ at h
 split at h
 ·split at h
  ·rename_i vs y h1 h2
   split at h
   ·cases h
    obtain⟨R7,k1,rfl⟩:=Ep h2 h1
    cases k1
    simp only[gJ,h1,Option.map_some,Fg,eU]
   ·cases h
  ·cases h
 ·cases h
section
variable (P:Program)
def SV (t:TypeId) (a b:Value):Option Bool :=
 match a,b,P.underlying t with
 | .int k a,.int k' b,some (.int _)=>if k'=k then some (a==b) else none
 | .bool a,.bool b,some .bool=>some (a==b)
 | _,_,_=>none
def FG (E:TypeId→Value→Value→Option Bool) (xs ys:Array Value):List Field→Option Bool
 | []=>some true
 | f :: fs => match f.name != "_", cu P (part f.type xs f.offset), cu P (part f.type ys f.offset) with
  | true,some a,some b=>match E f.type a b,FG E xs ys fs with
   | some u,some r=>some (u&&r)
   | _,_=>none
  | _,_,_=>none
def eqV:Nat→TypeId→Value→Value→Option Bool
 | 0,t,a,b=>SV P t a b
 | n+1,t,a,b=>match a,b with
  | .agg xs,.agg ys=>match P.underlying t,P.stoodInHeld t with
   | some (.struct fs),false=>FG P (eqV n) xs ys fs.toList
   | _,_=>none
  | a,b=>SV P t a b
end
section
variable {P:Program}
theorem qj {t:TypeId} {fs:Array Field} (h:P.underlying t=some (.struct fs)):P.underlying t=some (.struct (P.fieldsOf t)):=by
 have:P.fieldsOf t=fs:=by simp only[Program.fieldsOf,h]
 rw[this]; exact h
theorem KW {d:Nat} {t:TypeId} {a b:Value} {r:Bool} (h:SV P t a b=some r):cu P (Op.equalIn (d+1) t a b)=some r:=by
 unfold SV at h
 split at h
 ·rename_i k a k' b k2 hu
  split at h
  ·rename_i hk
   subst hk
   cases h
   exact Mj d t _ _ a b hu
  ·cases h
 ·rename_i a b hu
  cases h
  simp only[Op.equalIn,dR,kX hu,Option.bind_some]
  rfl
 ·cases h
theorem AO {E:TypeId→Value→Value→Option Bool} {d:Nat} (hE:∀ t a b r,E t a b=some r→cu P (Op.equalIn d t a b)=some r) {xs ys:Array Value}:∀ {fs:List Field} {b:Bool},FG P E xs ys fs=some b→cu P (Op.eqFields d xs ys fs)=some b
 | [],_,h=>by cases h; exact UJ
 | f::fs,b,h=>by
  unfold FG at h
  split at h
  ·rename_i a b' hn ha hb
   split at h
   ·rename_i u r h1 h2
    cases h
    have Js : f.name ≠ "_" := by simpa using hn
    simp only[Op.eqFields,Js,ne_eq,not_false_eq_true,if_true,dR,ha,hb,Option.bind_some,hE _ _ _ _ h1]
    cases u
    ·rfl
    ·simp only[fD,aD,if_false,Bool.true_and]; exact AO hE h2
   ·cases h
  ·cases h
theorem Pz:∀ {n d:Nat} {t:TypeId} {a b:Value} {r:Bool},n<d→eqV P n t a b=some r→cu P (Op.equalIn d t a b)=some r
 | 0,0,_,_,_,_,hd,_=>by omega
 | 0,d+1,_,_,_,_,_,h=>KW h
 | n+1,0,_,_,_,_,hd,_=>by omega
 | n+1,d+1,t,a,b,r,hd,h=>by
  unfold eqV at h
  split at h
  ·rename_i xs ys
   split at h
   ·rename_i fs h1 h2
    rw[qm d t xs ys (qj h1) h2]
    simp only[Program.fieldsOf,h1]
    exact AO (fun t a b r h=>Pz (by omega) h) h
   ·cases h
  ·exact KW h
end
variable {P:Program} {ty:gF} {tt:TypeId→Option TT} {ι ι' w:lW} {S S':av} {te mh:List TV} {env:List DV} {tS jh:List TB} {aI:bP} {call:bM} {yf:eW} {o:Oper} {aB nT:Nat} {B:List Nat} {ops:Array Oper}
theorem GW (h:cM ι te tS env S) (hT:wF tS nT) (hn:wG S aB) (kt:TT):cM (upd ι nT aB) te (qI tS nT (.map kt [])) env (ez S aB (.map [])):=by
 have K:=sE h hT hn (.map [])
 refine⟨bW K _ _ h.env,fun k l hk => ?_,fun k e s hk t ht => ?_,fun k k' hk => ?_,fun i j k' hi hj => ?_,fun k b hk t ht => ?_⟩
 ·rw[cC hT] at hk
  split at hk
  ·cases hk
  ·rename_i e
   obtain⟨k',gW,h1,h2,h3⟩:=h.cells k l hk
   exact⟨k',gW,by simp only[upd,e,if_false]; exact h1,by rw[bn hn,if_neg (h.dn hn h1)]; exact h2,bW K _ _ h3⟩
 ·rw[cC hT] at hk
  split at hk
  ·cases hk
  ·rename_i e'
   simp only[upd,e',if_false] at ht
   obtain⟨n,h1⟩:=h.own k e s hk t ht
   exact⟨n,by rw[bn hn,if_neg (h.dn hn ht)]; exact h1⟩
 ·rw[cC hT]
  split
  ·exact⟨_,rfl,fun e=>by cases e⟩
  ·rename_i e
   simp only[upd,e,if_false] at hk
   exact h.xH k k' hk
 ·unfold upd at hi hj
  split at hi<;>split at hj
  ·omega
  ·cases hi; exact(h.dn hn hj rfl).elim
  ·cases hj; exact(h.dn hn hi rfl).elim
  ·exact h.inj i j k' hi hj
 ·rw[cC hT] at hk
  split at hk
  ·rename_i e'
   cases hk
   simp only[upd,e',if_true,az] at ht
   subst ht
   rw[bn hn,if_pos rfl]; exact rfl
  ·rename_i e'
   simp only[upd,e',if_false] at ht
   rw[bn hn,if_neg (h.dn hn ht)]; exact h.mp k b hk t ht
theorem GV (h:cM ι te tS env S) {id iT:Nat} {kt:TT} {l l':List kt.den} (hi:ι id=some iT) (hl:tS[id]? = some (.map kt l)):cM ι te (tS.set id (.map kt l')) env (S.set iT (.map (yG kt l'))):=by
 have hS:S[iT]? = some (.map (yG kt l)):=h.mp id _ hl iT hi
 have hlt:=(aJ.1 hl).1
 have NZ:=(aJ.1 hS).1
 have K:lH ι S ι (S.set iT (.map (yG kt l'))) fun _=>False:=fun a b _ pK=>⟨pK,by
  rw[aP]
  split
  ·rename_i e1; subst e1; exact y9 (by rw[hS]; simp) (by rw[hS]; simp)
  ·exact fH rfl⟩
 have hg:∀ j,(tS.set id (.map kt l'))[j]? = if j=id then some (.map kt l') else tS[j]? := fun j=>by
  rw[aP]
  by_cases e:j=id
  ·subst e; simp[hlt]
  ·rw[if_neg (Ne.symm e),if_neg e]
 have lQ:∀ j,j≠iT→(S.set iT (.map (yG kt l')))[j]? = S[j]? := fun j hj=>by rw[aP,if_neg (Ne.symm hj)]
 refine⟨bW K _ _ h.env,fun j m hj => ?_,fun j e s hj t ht => ?_,fun j j' hj => ?_,h.inj,fun j b hj t ht => ?_⟩
 ·rw[hg] at hj
  split at hj
  ·cases hj
  ·rename_i e
   obtain⟨j',NN,h1,h2,h3⟩:=h.cells j m hj
   exact⟨j',NN,h1,by rw[lQ j' fun e1=>e (h.inj _ _ _ (e1▸h1) hi)]; exact h2,bW K _ _ h3⟩
 ·rw[hg] at hj
  split at hj
  ·cases hj
  ·obtain⟨n,h1⟩:=h.own j e s hj t ht
   exact⟨n,(K j t (fun e=>e) ht).2.1 _ _ _ h1⟩
 ·rw[hg]
  split
  ·exact⟨_,rfl,by simp⟩
  ·exact h.xH j j' hj
 ·rw[hg] at hj
  split at hj
  ·rename_i e
   subst e
   cases hj
   rw[hi] at ht
   cases ht
   rw[aP,if_pos rfl,if_pos NZ]; exact rfl
  ·rename_i e
   rw[lQ t fun e1=>e (h.inj _ _ _ (e1▸ht) hi)]
   exact h.mp j b hj t ht
theorem UZ {id:Nat} {kt:TT} {l l':List kt.den} (hB:ow B tS) (hl:tS[id]? = some (.map kt l)):ow B (tS.set id (.map kt l')):=fun k hk=>by
 obtain⟨c,hc⟩:=hB k hk
 refine⟨c,?_⟩
 rw[aP,if_neg]
 ·exact hc
 ·rintro rfl; rw[hl] at hc; cases hc
theorem Rn {v:TV} {jh:List TB} {c:Prop} (h:Xi P tt te tS o nT=some (v,jh,c)) (hc:c):Does P ty aI call yf B o nT te tS false fun v' cL cN _=>v'=v∧cL=te∧cN=jh:=by
 intro ι w env S aB hR hB hw hT hn hS
 unfold Xi at h
 split at h
 ·rename_i t ho
  split at h
  ·rename_i kt ht
   cases h
   refine⟨.map aB,ez S aB (.map []),upd ι nT aB,upd w aB nT,.mp nT,te,_,⟨none,true⟩,⟨none,true⟩,fun _ => ?_,fun hd=>(by cases hd),⟨fun e=>e,fun l hl=>(by cases hl)⟩,fun l m hl=>(by cases hl),GW hR hT hn kt,?_,pP hR hn hT hw,fun hd=>(by cases hd),qY hn (mG hB hT),kB hB hT,nZ hn,rfl,rfl,rfl⟩
   ·simp only[af,ho]
   ·simp[RT,upd]
  ·cases h
 ·rename_i t m k ho
  split at h
  ·rename_i id u h1 h2
   split at h
   ·rename_i kt l h3
    split at h
    ·rename_i x h4
     cases h
     obtain⟨d,k1,k2⟩:=bt hR.env h1
     cases d<;>simp only[RT] at k2
     rename_i iT
     have k3:S[iT]? = some (.map (yG kt l)):=hR.mp id _ h3 iT k2
     have k4:valOf (iB env) k=some (Fg kt x):=ff hR.env (by rw[h2]; exact KU h4)
     refine⟨.val (.bool (BN kt x l)),S,ι,w,.val (.bool (BN kt x l)),te,tS,⟨none,true⟩,⟨none,true⟩,fun _ => ?_,fun hd=>(by cases hd),⟨fun e=>e,fun l hl=>(by cases hl)⟩,fun l m hl=>(by cases hl),hR,by simp only[RT],hw,fun hd=>(by cases hd),Fr.refl _ _ _,hB,fJ _ _,rfl,rfl,rfl⟩
     simp only[af,ho,k1,k4,k3,hc.look x l,Option.bind_some,Ft,xP]
     rfl
    ·cases h
   ·cases h
  ·cases h
 ·rename_i t m k y ho
  split at h
  ·rename_i id u h1 h2 h5
   split at h
   ·rename_i kt l h3
    split at h
    ·rename_i x h4
     cases h
     obtain⟨d,k1,k2⟩:=bt hR.env h1
     cases d<;>simp only[RT] at k2
     rename_i iT
     have k3:S[iT]? = some (.map (yG kt l)):=hR.mp id _ h3 iT k2
     have k4:valOf (iB env) k=some (Fg kt x):=ff hR.env (by rw[h2]; exact KU h4)
     have k5:valOf (iB env) y=some (.bool true):=ff hR.env (by rw[h5]; rfl)
     obtain⟨r,k6,k7⟩:=hc.find x l
     refine⟨bz,S.set iT (.map (yG kt (yC kt x l))),ι,w,.unk,te,_,⟨none,true⟩,⟨none,true⟩,fun _ => ?_,fun hd=>(by cases hd),⟨fun e=>e,fun l hl=>(by cases hl)⟩,fun l m hl=>(by cases hl),GV hR k2 h3,by simp only[RT],hw,fun hd=>(by cases hd),wS k2,UZ hB h3,wN k3 (fun e=>by cases e),rfl,rfl,rfl⟩
     simp only[af,ho,k1,k4,k5,k3,k6,k7,Option.map_some]
    ·cases h
   ·cases h
  ·cases h
 ·cases h
end Go.Tv
end
