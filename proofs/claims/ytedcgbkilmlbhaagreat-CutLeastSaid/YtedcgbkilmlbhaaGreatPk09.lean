import Derived.Test.YtedcgbkilmlbhaaGreatPk08
section
namespace Go.Tv
open Go Go.Di Go.Proofs
abbrev Dn := Option (List Prop × s7 × List (Nat × LA))
def dS (d : Dn) : Sp := d.map fun x => (x.1, x.2.1)
def dJ (d : Dn) : List (Nat × LA) := match d with
 | some x => x.2.2
 | none => []
def VI (T : gd) (f : Func) (lU : List (Option TT)) (D : List TV → Dn) (d : Nat := 0) : Prop := ∀ a p s j, D a = some (p, s, j) → dx p → vcI T d f lU j a s
def VC (T : gd) (f : Func) (lU oK : List (Option TT)) (D : List TV → List TV → Dn) (d : Nat := 0) : Prop := ∀ a cs p s j, D a cs = some (p, s, j) → dx p → aaa T d f lU oK j a cs s
def VN (T : gd) (f : Func) (oK : List (Option TT)) (D : List TV → Dn) (d : Nat := 0) : Prop := ∀ a p s j, D a = some (p, s, j) → dx p → vcN T d f oK j a s
def dV (d : Dn) (K : s7 → List (Nat × LA) → Prop) : Prop :=
 match d with
 | some (p, s, j) => dx p → K s j
 | none => True
structure Hd (p : Prop) : Prop where
 h : p
theorem tH {A B : Prop} (h : A = B) (a : A) : Hd B := ⟨h ▸ a⟩
theorem fF {T : gd} {f : Func} {lU : List (Option TT)} {D : List TV → Dn} {d : Nat} (h : ∀ a, dV (D a) fun s j => Hd (vcI T d f lU j a s)) : VI T f lU D d := fun a p s j hd hp => by
 have := h a
 rw [hd] at this
 exact (this hp).h
theorem aaW {T : gd} {f : Func} {lU oK : List (Option TT)} {D : List TV → List TV → Dn} {d : Nat} (h : ∀ a cs, dV (D a cs) fun s j => Hd (aaa T d f lU oK j a cs s)) : VC T f lU oK D d := fun a cs p s j hd hp => by
 have := h a cs
 rw [hd] at this
 exact (this hp).h
theorem d_some {d : Dn} {p : List Prop} {s : s7} (h : dS d = some (p, s)) : d = some (p, s, dJ d) := by
 cases d with
 | none => cases h
 | some x => cases h; rfl
variable {bF : bP} {k : Nat} {T : gd}
theorem xC {fn : Func} (hb : fn.body.isSome = true) : fn.body = some (xX fn) := by unfold xX; revert hb; cases fn.body <;> simp
theorem mkJ (hT : ji bF k T) {f : FuncId} {fn : Func} {lU : List (Option TT)} {D : List TV → Dn} {d : Nat} (hn : ∀ a p s, dS (D a) = some (p, s) → dx p → ∀ da, dg ej [] a da → bF f da = none) (hf : Tp.funcs[f]? = some fn) (hb : fn.body.isSome = true) (h : VI T fn lU D d) {T' : gd} (WU : ji bF (k + d + 1) T') : ji bF (k + d + 1) (T'.cA f fun a => dS (D a)) :=
 Fq WU fun n a p s hs hp => Rc (n := n + (k + d)) hf (xC hb) (hn a p s hs hp) ((nt (za (pS hT d n)) (DU hT.1 d (pS hT d n)) _ _ _ _ _ _ (cU _ (h a p s _ (d_some hs) hp))).mono fun _ _ _ hq => OO (fun _ _ => abJ) hq)
theorem kL (tk : uS bF) (hT : ji bF k T) {f : FuncId} {fn : Func} {lU : List (Option TT)} {D : List TV → Dn} {d : Nat} (hne : f ≠ 60 ∧ f ≠ 133 ∧ f ≠ 12 ∧ f ≠ 43 ∧ f ≠ 52) (hf : Tp.funcs[f]? = some fn) (hb : fn.body.isSome = true) (h : VI T fn lU D d) {T' : gd} (WU : ji bF (k + d + 1) T') : ji bF (k + d + 1) (T'.cA f fun a => dS (D a)) :=
 mkJ hT (fun _ _ _ _ _ _ _ => tk.other _ _ hne.1 hne.2.1 hne.2.2.1 hne.2.2.2.1 hne.2.2.2.2) hf hb h WU
theorem Le (hT : ji bF k T) {f : FuncId} {fn : Func} {lU oK : List (Option TT)} {D : List TV → List TV → Dn} {d : Nat} (hf : Tp.funcs[f]? = some fn) (hb : fn.body.isSome = true) (h : VC T fn lU oK D d) {T' : gd} (WU : ji bF (k + d + 1) T') : ji bF (k + d + 1) (T'.sZ f fun a c => dS (D a c)) :=
 aaY WU fun n a cs p s hs hp => Rq (n := n + (k + d)) hf (xC hb) ((nt (za (pS hT d n)) (DU hT.1 d (pS hT d n)) _ _ _ _ _ _ (cU _ (h a cs p s _ (d_some hs) hp))).mono fun _ _ _ hq => OO (fun _ _ => abK) hq)
theorem mkN (tk : uS bF) (hT : ji bF k T) {f : FuncId} {fn : Func} {oK : List (Option TT)} {D : List TV → Dn} {d : Nat} (hne : f ≠ 60 ∧ f ≠ 133 ∧ f ≠ 12 ∧ f ≠ 43 ∧ f ≠ 52) (hf : Tp.funcs[f]? = some fn) (hb : fn.body.isSome = true) (h : VN T fn oK D d) {T' : gd} (WU : ji bF (k + d + 1) T') : ji bF (k + d + 1) (T'.S6 f fun a => dS (D a)) :=
 aaX WU fun n a p s hs hp => QU (n := n + (k + d)) hf (xC hb) (fun _ => tk.other _ _ hne.1 hne.2.1 hne.2.2.1 hne.2.2.2.1 hne.2.2.2.2) ((nt (za (pS hT d n)) (DU hT.1 d (pS hT d n)) _ _ _ _ _ _ (cU _ (h a p s _ (d_some hs) hp))).mono fun _ _ _ hq => OO (fun _ _ => abI) hq)
def iu (α : Type) : Prop := ([] : List α) = []
theorem eO {α : Type} : iu α = True := by simp [iu]
theorem uJ {A B : Prop} (h : A = B) (a : A) : B := h ▸ a
theorem iG {b : Bool} {A B : Prop} : ay b A B ↔ (b = true → A) ∧ (b = false → B) := by cases b <;> simp [ay]
theorem bR {p : Prop} [Decidable p] {A B : Prop} : ay (decide p) A B ↔ (p → A) ∧ (¬p → B) := by rw [iG]; simp
theorem dH {b : Bool} {A B : Prop} : ay (!b) A B ↔ ay b B A := by cases b <;> rfl
theorem cZ {a c : Int} {A B : Prop} : ay (a == c) A B ↔ (a = c → A) ∧ (¬a = c → B) := by rw [iG]; simp
theorem cF {a c : Int} {A B : Prop} : ay (a != c) A B ↔ (a = c → B) ∧ (¬a = c → A) := by rw [iG]; simp [and_comm]
theorem aaV {A B : Prop} : ay true A B ↔ A := Iff.rfl
end Go.Tv
end
section
namespace Go.Tv
open Go Go.Di Go.Proofs
set_option maxRecDepth 100000
theorem mD {l:List Int} {i:Nat} (h:i<l.length):l.getD i 0=l[i]:=by simp[aL,h]
theorem take_one {l:List Int} {i:Nat} (h:i<l.length):l.take (i+1)=l.take i++[l.getD i 0]:=by
 rw[mD h,List.take_append_getElem]
theorem drop_one {l:List Int} {i:Nat} (h:i<l.length):(l.drop (i+1)).reverse++[l.getD i 0]=(l.drop i).reverse:=by
 rw[mD h,mO h,List.reverse_cons]
theorem fo {l:List Int} {i:Nat} (h:i<l.length):l.getD i 0∈l:=by
 rw[mD h]; exact mJ _
def qX (l:List Int) (x:Int):Int:=if x∈l then (l.idxOf x:Int) else -1
theorem MN {l:List Int} {x:Int} {i:Nat} (h:i<l.length) (h1:x ∉ l.take i) (h2:l.getD i 0=x):qX l x=i:=by
 have hm:x∈l:=by rw[← h2]; exact fo h
 have e:l=l.take i++x::l.drop (i+1):=by
  rw[← h2,mD h,← mO h,List.take_append_drop]
 rw[qX,if_pos hm]
 congr 1
 conv=>lhs; rw[e]
 rw[List.idxOf_append,if_neg h1,List.idxOf_cons_self,gq]
 omega
abbrev wE (rest:List Int) (last:Int):List TV:=[.sl cv rest .no,.val (.int .u64 last)]
theorem wU (n:Int):IntKind.u64.wrap n=n % 18446744073709551616:=by simp[IntKind.wrap,IntKind.bits,IntKind.signed]
theorem u64_in (n:Int):0≤IntKind.u64.wrap n∧IntKind.u64.wrap n<18446744073709551616:=by rw[wU]; omega
theorem Px (a:Int):a.fdiv 4294967296=a / 4294967296:=Int.fdiv_eq_ediv_of_nonneg _ (by omega)
theorem V7 {x n:Int} (h:IntKind.u64.wrap n=x):0≤x.fdiv 4294967296∧x.fdiv 4294967296<4294967296:=by
 have:=u64_in n
 rw[Px,← h]; omega
theorem Vx {k m:Int} (hm:m≤1000) (h0:0<m) (hk:0≤k) (oI:k<4294967296):0≤IntKind.i64.wrap ((IntKind.u64.wrap (k*IntKind.u64.wrap (m+1))).fdiv 4294967296)∧(IntKind.i64.wrap ((IntKind.u64.wrap (k*IntKind.u64.wrap (m+1))).fdiv 4294967296)≤m∨IntKind.i64.wrap ((IntKind.u64.wrap (k*IntKind.u64.wrap (m+1))).fdiv 4294967296)=0):=by
 have h1:k*(m+1)≤4294967295*(m+1):=Int.mul_le_mul_of_nonneg_right (by omega) (by omega)
 have h2:0≤k*(m+1):=Int.mul_nonneg hk (by omega)
 rw[wU (m+1),Int.emod_eq_of_lt (a:=m+1) (by omega) (by omega),Px,wU]
 generalize k*(m+1)=p at *
 rw[Int.emod_eq_of_lt (by omega) (by omega),wH (by omega) (by omega)]
 omega
theorem GG {α:Type} {P:α→Prop} {l:List α} {a:α} (h:∀ x∈l,P x) (ha:P a):∀ x∈l++[a],P x:=by
 intro x hx
 rcases gn.1 hx with hx | hx
 ·exact h x hx
 ·rw[bJ.1 hx]; exact ha
theorem RB {l:List Int} {a:Int} (h:l.Pairwise (· < ·)) (ha:∀ x∈l,x<a):(l++[a]).Pairwise (· < ·):=by
 rw[List.pairwise_append]
 exact⟨h,List.pairwise_singleton _ _,fun x hx y hy=>by rw[bJ.1 hy]; exact ha x hx⟩
theorem BZ {f:Int→Int} {l:List Int} {i:Nat} (h:i<l.length):(l.take i).map f++[f (l.getD i 0)]=(l.take (i+1)).map f:=by
 rw[take_one h,gM]; rfl
abbrev RF (u l:List Int) (w:Int) (ls:List Int):TV := .agg [.sl cv u .no,.sl cv l .no,bg w,.sl cv ls .no]
abbrev Num (u l:List Int) (w:Int):Prop:=3≤u.length∧u.length≤8∧l.length=u.length∧0≤w∧w≤2
structure Ok (u l:List Int) (w:Int) (ls:List Int):Prop where
 n3:3≤u.length
 n8:u.length≤8
 len:l.length=u.length
 hu:∀ x∈u,0≤x∧x≤9
 hl:∀ x∈l,0≤x∧x≤9
 w0:0≤w
 w2:w≤2
 ne:ls≠[]
 B5:∀ x∈ls,0≤x∧x≤3
 WY:ls.Pairwise (· < ·)
def jZ (a b:Int):Int:=IntKind.i64.wrap ((BitVec.ofInt 64 a ^^^ BitVec.ofInt 64 b).toNat:Int)
def eY (y:Int) (ls:List Int) (i:Nat):List Int:=((List.range i).map Int.ofNat).filter fun x=>decide (jZ x y∈ls)
theorem MJ {y:Int} {ls:List Int} {i:Nat} (h:jZ i y∈ls):eY y ls i++[(i:Int)]=eY y ls (i+1):=by
 simp[eY,fN,og,h]
theorem Q7 {y:Int} {ls:List Int} {i:Nat} (h:¬ jZ i y∈ls):eY y ls i=eY y ls (i+1):=by
 simp[eY,fN,og,h]
theorem MK (y:Int) (ls:List Int) (i:Nat):(eY y ls i).length≤i:=by
 unfold eY
 refine aM (pY _ _) ?_
 simp
theorem ML (y:Int) (ls:List Int) (i:Nat):(eY y ls i).Pairwise (· < ·):=by
 unfold eY
 refine List.Pairwise.filter _ ?_
 rw[List.pairwise_map]
 exact(List.pairwise_lt_range (n:=i)).imp fun h=>Int.ofNat_lt.2 h
def mS (dO x:Int):Bool:=decide (0≤x∧x≤dO)
theorem K8 {dO:Int} {l:List Int} {i:Nat} (h:i<l.length) (h1:(l.take i).all (mS dO)=true) (h2:mS dO (l.getD i 0)=true):(l.take (i+1)).all (mS dO)=true:=by
 rw[take_one h,lu,h1,List.all_cons,h2]; rfl
theorem Kv {dO:Int} {l:List Int} {i:Nat} (h:i<l.length) (h2:mS dO (l.getD i 0)=false):l.all (mS dO)=false:=by
 refine Bool.eq_false_iff.2 fun h1 => ?_
 rw[bh.1 h1 _ (fo h)] at h2
 cases h2
def jk (ls:List Int) (i:Nat):Int:=if i<ls.length then (if ls.getD i 0<0∨3<ls.getD i 0 then 8 else if 0<i∧ls.getD i 0≤ls.getD (i-1) 0 then 5 else jk ls (i+1)) else 0
 termination_by ls.length-i
def jv (u l:List Int) (w:Int) (ls:List Int):Int :=
 if u.length<3 then 7 else if 8<u.length then 6 else if l.length<u.length then 7 else if u.length<l.length then 6
 else if u.all (mS 9)=false∨l.all (mS 9)=false∨w<0∨2<w then 1 else if ls.length=0 then 7 else jk ls 0
theorem JH {ls:List Int} {i:Nat} (h:i<ls.length) (h1:ls.getD i 0<0∨3<ls.getD i 0):jk ls i=8:=by rw[jk,if_pos h,if_pos h1]
theorem Ou {ls:List Int} {i:Nat} (h:i<ls.length) (h1:¬ (ls.getD i 0<0∨3<ls.getD i 0)) (h2:0<i∧ls.getD i 0≤ls.getD (i-1) 0):jk ls i=5:=by rw[jk,if_pos h,if_neg h1,if_pos h2]
theorem rE {ls:List Int} {i:Nat} (h:i<ls.length) (h1:¬ (ls.getD i 0<0∨3<ls.getD i 0)) (h2:¬ (0<i∧ls.getD i 0≤ls.getD (i-1) 0)):jk ls i=jk ls (i+1):=by
 conv=>lhs; rw[jk]
 rw[if_pos h,if_neg h1,if_neg h2]
theorem Ov {ls:List Int} {i:Nat} (h:¬ i<ls.length):jk ls i=0:=by rw[jk,if_neg h]
theorem KY {u l:List Int} {w:Int} {ls:List Int} (h1:¬ u.length<3) (h2:¬ 8<u.length) (h3:¬ l.length<u.length) (h4:¬ u.length<l.length) (h5:(!u.all (mS 9))=false) (h6:(!l.all (mS 9))=false) (h7:¬ w<0) (h8:¬ 2<w) (h9:ls.length≠0):jv u l w ls=jk ls 0:=by
 simp only[Bool.not_eq_eq_eq_not,Bool.not_false] at h5 h6
 rw[jv,if_neg h1,if_neg h2,if_neg h3,if_neg h4,if_neg (by rw[h5,h6]; simp[h7,h8]),if_neg h9]
abbrev PD:Type:=aK.den
abbrev pd (u l:List Int) (w:Int) (ls:List Int):PD:=(u,l,w,ls,())
def zO (p:PD):Int:=jv p.1 p.2.1 p.2.2.1 p.2.2.2.1
def iw:List PD→Int
 | []=>0
 | p::l=>if zO p≠0 then zO p else iw l
theorem ou {l m:List PD} (h:iw l=0):iw (l++m)=iw m:=by
 induction l with
 | nil=>rfl
 | cons p l ih =>
  simp only[iw] at h ⊢
  split at h
  ·rename_i h1; exact(h1 h).elim
  ·rename_i h1; simp only[List.cons_append,iw,if_neg h1]; exact ih h
theorem UU {l:List PD} {i:Nat} {d:PD} (h:i<l.length) (h1:iw (l.take i)=0) (h2:zO (l.getD i d)≠0):iw l=zO (l.getD i d):=by
 have e:l.getD i d=l[i]:=by simp[aL,h]
 rw[e] at h2 ⊢
 conv=>lhs; rw[← List.take_append_drop i l,mO h]
 rw[ou h1,iw,if_pos h2]
theorem Rv {l:List PD} {i:Nat} {d:PD} (h:i<l.length) (h1:iw (l.take i)=0) (h2:zO (l.getD i d)=0):iw (l.take (i+1))=0:=by
 have e:l.getD i d=l[i]:=by simp[aL,h]
 rw[e] at h2
 rw[← List.take_append_getElem h,ou h1,iw,if_neg (by simp[h2])]; rfl
def dD (p:PD):Prop:=p.1.length≤1000∧p.2.1.length≤1000∧p.2.2.2.1.length≤1000
theorem eA {P:PD→Prop} {l:List PD} {i:Nat} {d:PD} (h:i<l.length) (hl:∀ p∈l,P p):P (l.getD i d):=by
 have e:l.getD i d=l[i]:=by simp[aL,h]
 rw[e]; exact hl _ (mJ _)
abbrev edV (u l:List Int):TV := .agg [.sl cv u .no,.sl cv l .no]
def lV (l:List Int):Prop:=∀ x∈l,0≤x∧x≤9
theorem wO {l:List Int} {i:Nat} (h:lV l) (hi:i<l.length):0≤l.getD i 0∧l.getD i 0≤9:=h _ (fo hi)
def dF (la ub:List Int) (s:Int):Nat→List Int
 | 0=>[]
 | i+1=>if 0≤(i:Int)+s∧(i:Int)+s<la.length then dF la ub s i++[ub.getD i 0+la.getD ((i:Int)+s).toNat 0] else dF la ub s i
def Lc (st:Int×Int×Int) (x:Int):Int×Int×Int:=(if x<(if st.2.2=0 then x else st.1) then x else (if st.2.2=0 then x else st.1),if x>(if st.2.2=0 then x else st.2.1) then x else (if st.2.2=0 then x else st.2.1),st.2.2+1)
def lM (l:List Int):Int×Int×Int:=l.foldl Lc (0,0,0)
theorem Qa {l:List Int} {lo hi m x:Int} (h:lM l=(lo,hi,m)) (h0:m=0):lM (l++[x])=(if x<x then x else x,if x>x then x else x,m+1):=by
 subst h0
 rw[lM,List.foldl_append,← lM,h]; rfl
theorem CA {l:List Int} {lo hi m x:Int} (h:lM l=(lo,hi,m)) (h0:m≠0):lM (l++[x])=(if x<lo then x else lo,if x>hi then x else hi,m+1):=by
 rw[lM,List.foldl_append,← lM,h]
 simp only[List.foldl_cons,List.foldl_nil,Lc,if_neg h0]
theorem sJ {la ub:List Int} {s:Int} (h:s ≤ -(ub.length:Int)∨(la.length:Int)≤s):dF la ub s ub.length=[]:=by
 have key:∀ i,i≤ub.length→dF la ub s i=[]:=by
  intro i
  induction i with
  | zero=>intro _; rfl
  | succ i ih=>intro hi; rw[dF,if_neg (by omega)]; exact ih (by omega)
 exact key _ (ai _)
abbrev stA (la ub:List Int) (s:Int):Int×Int×Int:=lM (dF la ub s ub.length)
def gy (la ub:List Int) (cq s:Int):Bool:=decide (3≤(lM (dF la ub s ub.length)).2.2∧(lM (dF la ub s ub.length)).2.1-(lM (dF la ub s ub.length)).1≤cq)
def pI (la ub:List Int) (cq:Int) (k:Nat):List Int:=((List.range k).map fun(j:Nat)=>(j:Int)-(ub.length:Int)).filter (gy la ub cq)
theorem TL {la ub:List Int} {cq:Int} {k:Nat} (h:gy la ub cq ((k:Int)-(ub.length:Int))=true):pI la ub cq k++[(k:Int)-(ub.length:Int)]=pI la ub cq (k+1):=by
 simp[pI,fN,og,h]
theorem O7 {la ub:List Int} {cq:Int} {k:Nat} (h:gy la ub cq ((k:Int)-(ub.length:Int))=false):pI la ub cq k=pI la ub cq (k+1):=by
 simp[pI,fN,og,h]
theorem TM (la ub:List Int) (cq:Int) (k:Nat):(pI la ub cq k).length≤k:=by
 unfold pI
 refine aM (pY _ _) ?_
 simp
theorem Yp {l:List Int} (h:∀ x∈l,0≤x∧x≤18):0≤(lM l).1∧(lM l).1≤18∧0≤(lM l).2.1∧(lM l).2.1≤18∧0≤(lM l).2.2:=by
 have key:∀ (l:List Int) (st:Int×Int×Int),(∀ x∈l,0≤x∧x≤18)→(0≤st.1∧st.1≤18∧0≤st.2.1∧st.2.1≤18∧0≤st.2.2)→0≤(l.foldl Lc st).1∧(l.foldl Lc st).1≤18∧0≤(l.foldl Lc st).2.1∧(l.foldl Lc st).2.1≤18∧0≤(l.foldl Lc st).2.2:=by
  intro l
  induction l with
  | nil=>intro st _ h; exact h
  | cons x l ih =>
   intro st hx h
   have h1:=hx x (by simp)
   refine ih _ (fun y hy=>hx y (by simp[hy])) ?_
   obtain⟨a,b,c⟩:=st
   simp only[Lc] at h ⊢
   refine⟨?_,?_,?_,?_,?_⟩<;>(repeat' split)<;>omega
 exact key l _ h (by simp)
theorem Ev {la ub:List Int} {s:Int} (h1:lV la) (h2:lV ub):∀ i,i≤ub.length→∀ x∈dF la ub s i,0≤x∧x≤18
 | 0,_,x,hx=>by cases hx
 | i+1,hi,x,hx=>by
  rw[dF] at hx
  split at hx
  ·rename_i hc
   rcases gn.1 hx with hx | hx
   ·exact Ev h1 h2 i (by omega) x hx
   ·rw[bJ] at hx
    have k1:=wO h2 (i:=i) (by omega)
    have k2:=wO h1 (i:=((i:Int)+s).toNat) (by omega)
    omega
  ·exact Ev h1 h2 i (by omega) x hx
theorem wI {la ub:List Int} (s:Int) (h1:lV la) (h2:lV ub):0≤(stA la ub s).1∧(stA la ub s).1≤18∧0≤(stA la ub s).2.1∧(stA la ub s).2.1≤18∧0≤(stA la ub s).2.2:=Yp (Ev h1 h2 _ (ai _))
theorem zo {m:Int} {l:List Int}:l.all (mS m)=true↔∀ x∈l,0≤x∧x≤m:=by simp[mS]
theorem CQ {ls:List Int}:∀ (n i:Nat),ls.length-i=n→(jk ls i=0↔∀ j,i≤j→j<ls.length→(0≤ls.getD j 0∧ls.getD j 0≤3)∧(0<j→ls.getD (j-1) 0<ls.getD j 0)):=by
 intro n
 induction n with
 | zero=>intro i h; rw[Ov (by omega)]; exact⟨fun _ j h1 h2=>by omega,fun _=>rfl⟩
 | succ n ih =>
  intro i h
  by_cases h1:ls.getD i 0<0∨3<ls.getD i 0
  ·rw[JH (by omega) h1]
   exact⟨fun e=>by omega,fun e=>by have:=(e i (ai _) (by omega)).1; omega⟩
  ·by_cases h2:0<i∧ls.getD i 0≤ls.getD (i-1) 0
   ·rw[Ou (by omega) h1 h2]
    exact⟨fun e=>by omega,fun e=>by have:=(e i (ai _) (by omega)).2 h2.1; omega⟩
   ·rw[rE (by omega) h1 h2,ih (i+1) (by omega)]
    refine⟨fun e j hj oJ => ?_,fun e j hj oJ=>e j (by omega) oJ⟩
    by_cases Jw:j=i
    ·subst Jw; exact⟨by omega,fun h3=>by omega⟩
    ·exact e j (by omega) oJ
theorem Zg {ls:List Int} (h:∀ j,0<j→j<ls.length→ls.getD (j-1) 0<ls.getD j 0):ls.Pairwise (· < ·):=by
 rw[List.pairwise_iff_getElem]
 have key:∀ j i,i<j→(hj:j<ls.length)→ls.getD i 0<ls.getD j 0:=by
  intro j
  induction j with
  | zero=>intro i hi; omega
  | succ j ih =>
   intro i hi hj
   have h1:=h (j+1) (by omega) hj
   simp only[Nat.add_sub_cancel] at h1
   by_cases e:i=j
   ·subst e; exact h1
   ·have:=ih i (by omega) (by omega); omega
 intro i j hi hj Jw
 have:=key j i Jw hj
 rwa [mD hi,mD hj] at this
theorem YO {ls:List Int} (h:ls.Pairwise (· < ·)) {j:Nat} (h0:0<j) (hj:j<ls.length):ls.getD (j-1) 0<ls.getD j 0:=by
 rw[List.pairwise_iff_getElem] at h
 rw[mD hj,mD (by omega)]
 exact h _ _ _ _ (by omega)
theorem Y8 {u l:List Int} {w:Int} {ls:List Int}:jv u l w ls=0↔Ok u l w ls:=by
 unfold jv
 constructor
 ·intro h
  split at h; omega
  split at h; omega
  split at h; omega
  split at h; omega
  split at h; omega
  split at h; omega
  rename_i h1 h2 h3 h4 h5 h6
  simp only[not_or,Bool.not_eq_false] at h5
  have hz:=(CQ _ 0 rfl).1 h
  refine⟨by omega,by omega,by omega,zo.1 h5.1,zo.1 h5.2.1,by omega,by omega,fun e=>h6 (by rw[e]; rfl),fun x hx => ?_,Zg fun j hj oJ=>(hz j (jD _) oJ).2 hj⟩
  obtain⟨j,hj,rfl⟩:=List.getElem_of_mem hx
  have:=(hz j (jD _) hj).1
  rwa [mD hj] at this
 ·intro h
  have h1:=h.n3
  have h2:=h.n8
  have h3:=h.len
  have h4:=h.w0
  have h5:=h.w2
  have h6:ls.length≠0:=fun e=>h.ne (dY e)
  rw[if_neg (by omega),if_neg (by omega),if_neg (by omega),if_neg (by omega),if_neg (by rw[zo.2 h.hu,zo.2 h.hl]; simp; omega),if_neg h6]
  exact(CQ _ 0 rfl).2 fun j _ hj=>⟨h.B5 _ (fo hj),fun h0=>YO h.WY h0 hj⟩
def Sh (u l ls:List Int):Prop:=u.length≤1000∧l.length≤1000∧ls.length≤1000
theorem Ok.num {u l:List Int} {w:Int} {ls:List Int} (h:Ok u l w ls):(3≤u.length∧u.length≤8∧l.length=u.length∧0≤w∧w≤2)∧lV u∧lV l:=⟨⟨h.n3,h.n8,h.len,h.w0,h.w2⟩,h.hu,h.hl⟩
def aeg (la ub:List Int) (wa wb s:Int):PI.den:=((lM (dF la ub s ub.length)).2.1,(lM (dF la ub s ub.length)).1+wa+wb,())
theorem xJ {u l:List Int} {w:Int} {ls:List Int} (h:Ok u l w ls):Sh u l ls:=by
 refine⟨by have:=h.n8; omega,by have:=h.n8; have:=h.len; omega,?_⟩
 have key:∀ (ls:List Int) (m:Int),m≤4→(∀ x∈ls,m≤x∧x≤3)→ls.Pairwise (· < ·)→(ls.length:Int)≤4-m:=by
  intro ls
  induction ls with
  | nil=>intro m hm _ _; simp; omega
  | cons x ls ih =>
   intro m hm h1 h2
   rw[List.pairwise_cons] at h2
   have h3:=h1 x (by simp)
   have:=ih (x+1) (by omega) (fun y hy=>⟨by have:=h2.1 y hy; omega,(h1 y (by simp[hy])).2⟩) h2.2
   simp only[List.length_cons]
   omega
 have:=key ls 0 (by omega) h.B5 h.WY
 omega
def adN (la ub:List Int) (s:Int) (i:Nat):Option Int:=if 0≤(i:Int)+s∧(i:Int)+s<la.length then some (ub.getD i 0+la.getD ((i:Int)+s).toNat 0) else none
def aX (n:Int) (u l:List Int):List Int:=if n=1 then l.reverse else if n=2 then u.reverse else if n=3 then l else u
def bk (n:Int) (u l:List Int):List Int:=if n=1 then u.reverse else if n=2 then l.reverse else if n=3 then u else l
theorem QS {l a l1:List Int} {w:Int} {ls:List Int} (h:Ok a l1 w ls) (hn:l1.length=l.length) (hl:lV l):Ok (l.map (9-·)) l1 w ls where
 n3:=by have:=h.n3; have:=h.len; simp; omega
 n8:=by have:=h.n8; have:=h.len; simp; omega
 len:=by simp; omega
 hu:=fun x hx=>by
  simp only[eF] at hx
  obtain⟨y,hy,rfl⟩:=hx
  have:=hl y hy
  omega
 hl:=h.hl
 w0:=h.w0
 w2:=h.w2
 ne:=h.ne
 B5:=h.B5
 WY:=h.WY
def aeb (la ub:List Int) (w s:Int):Int×Int×Int:=if (stA la ub s).2.2<3 then (0,0,7) else if (stA la ub s).2.1-(stA la ub s).1>w then (0,0,11) else ((stA la ub s).2.1,(stA la ub s).1+w,0)
end Go.Tv
end
section
namespace Go.Tv
open Go Go.Di Go.Proofs
set_option maxRecDepth 100000
def D53:List TV→Dn
  | [.sl (.int .i64) l .no,.val (.int .i64 x)]=>some ([l.length≤1000],.res (iy (decide (x∈l))) [] [],[(3,.ex Nat fun i => .st { sl:=[(5,bg i)],cB:=[i≤l.length,x ∉ l.take i],m:=l.length-i })])
  | _=>none
theorem v53:VI T0 Tryz.f97 [some .bool] D53:=by
  intro a p s j h hp
  unfold D53 at h
  split at h<;>cases h
  rename_i l x
  have h1:=hp.1
  refine uJ (A:=(∃ (a:Nat),0=(↑a:Int)∧a≤l.length∧¬x∈List.take a l∧l.length-a<1000000)∧∀ (a:Nat),a≤l.length→¬x∈List.take a l→ay (decide ((↑a:Int)<(↑l.length:Int))) ((0≤(↑a:Int)∧(↑a:Int)<(↑l.length:Int))∧ay (l.getD a 0==x) (true=decide (x∈l)∧True) (cn ((↑a:Int)+1)∧∃ (y:Nat),l=l∧x=x∧(↑a:Int)+1=(↑y:Int)∧y≤l.length∧¬x∈List.take y l∧l.length-y<l.length-a)) (false=decide (x∈l)∧True)) (by kernel_rfl) ?_
  simp only[bR,cZ,cF,dH,eO,cn,and_true,true_and,eq_self]
  refine⟨⟨0,by omega,by omega,by simp,by omega⟩,fun i h2 h3=>⟨fun h4=>⟨by omega,fun h5 => ?_,fun h5=>⟨by omega,i+1,by omega,by omega,?_,by omega⟩⟩,fun h4 => ?_⟩⟩
  · rw[fM]; rw[← h5]; exact fo (by omega)
  · rw[take_one (by omega)]; simp only[gn,bJ,not_or]; exact⟨h3,fun e=>h5 e.symm⟩
  · rw[show i=l.length by omega,dc] at h3; rw[fO h3]
def D52:List TV→Dn
  | [.sl (.int .i64) l .no]=>some ([l.length≤1000],.res (.sl cv l.reverse .no) [] [],[(4,.ex Nat fun i => .st { sl:=[(3,.sl cv ((l.drop i).reverse) (.nQ 0)),(4,bg ((i:Nat)-1:Int))],own:=[(3,1)],cB:=[i≤l.length],m:=i })])
  | _=>none
theorem v52:VI T0 Tryz.f119 [some bG] D52:=by
  intro a p s j h hp
  unfold D52 at h
  split at h<;>cases h
  rename_i l
  have h1:=hp.1
  refine uJ (A:=cn ((↑l.length:Int)-1)∧(∃ (a:Nat),[]=(List.drop a l).reverse∧(↑l.length:Int)-1=(↑a:Int)-1∧a≤l.length∧a<1000000)∧∀ (a:Nat),a≤l.length→ay (decide ((↑a:Int)-1≥0)) ((0≤(↑a:Int)-1∧(↑a:Int)-1<(↑l.length:Int))∧(List.drop a l).reverse.length+1≤1000000000∧cn ((↑a:Int)-1-1)∧∃ (x:Nat),l=l∧iu cv.den∧(List.drop a l).reverse++[l.getD ((↑a:Int)-1).toNat (0:Int)]=(List.drop x l).reverse∧(↑a:Int)-1-1=(↑x:Int)-1∧x≤l.length∧x<a) ((List.drop a l).reverse=l.reverse∧True)) (by kernel_rfl) ?_
  simp only[bR,cZ,cF,dH,eO,cn,and_true,true_and,eq_self]
  refine⟨by omega,⟨l.length,by simp,by omega,by omega,by omega⟩,fun i h2=>⟨fun h3=>⟨by omega,by simp; omega,by omega,i-1,?_,by omega,by omega,by omega⟩,fun h3 => ?_⟩⟩
  · obtain⟨j,rfl⟩:∃ j,i=j+1:=⟨i-1,by omega⟩
    rw[show ((j+1:Nat):Int)-1=(j:Int) by omega,Int.toNat_natCast,drop_one (by omega)]; rfl
  · rw[show i=0 by omega,lq]
def D97:List TV→List TV→Dn
  | [.val (.int .i64 x),.ptr 0 0],[.val (.int .i64 dO)]=>some ([],.res (iy (!mS dO x)) [bg dO] [],[])
  | _,_=>none
theorem v97:VC T0 Tryz.f121 [some .bool] [some cv] D97:=by
  intro a cs p s j h hp
  unfold D97 at h
  split at h<;>cases h
  rename_i x dO
  refine uJ (A:=ay (decide (x<0)) (true = !mS dO x∧dO=dO∧True) (decide (x>dO) = !mS dO x∧dO=dO∧True)) (by kernel_rfl) ?_
  simp only[bR,cZ,cF,dH,eO,cn,and_true,true_and,eq_self]
  refine⟨fun h => ?_,fun h => ?_⟩
  · rw[mS,fO (by omega)]; rfl
  · rw[mS,← decide_not,od]; omega
def T1:gd:=((T0.cA 97 fun a=>dS (D53 a)).cA 119 fun a=>dS (D52 a)).sZ 121 fun a c=>dS (D97 a c)
def X1:List TV→List TV→Dn
  | [.sl (.int .i64) l .no,.fn 121 [] [.ptr 0 0]],[.val (.int .i64 dO)]=>some ([l.length≤1000],.ex Int fun k => .res (bg k) [bg dO] [if l.all (mS dO) then k = -1 else 0≤k],[(3,.ex Nat fun i => .st { sl:=[(8,bg i)],cB:=[i≤l.length,(l.take i).all (mS dO)=true],m:=l.length-i })])
  | _,_=>none
theorem v109:VC T1 Tryz.f132 [some cv] [some cv] X1:=by
  intro a cs p s j h hp
  unfold X1 at h
  split at h<;>cases h
  rename_i l dO
  have h1:=hp.1
  refine uJ (A:=(∃ (a:Nat),0=(↑a:Int)∧a≤l.length∧(List.take a l).all (mS dO)=true∧l.length-a<1000000)∧∀ (a:Nat),a≤l.length→(List.take a l).all (mS dO)=true→ay (decide ((↑a:Int)<(↑l.length:Int))) ((0≤(↑a:Int)∧(↑a:Int)<(↑l.length:Int))∧ay (!mS dO (l.getD a 0)) (∃ (x:Int),(↑a:Int)=x∧dO=dO∧(if l.all (mS dO)=true then x=(-1:Int) else 0≤x)∧True) (cn ((↑a:Int)+1)∧∃ (x:Nat),l=l∧(↑l.length:Int)=(↑l.length:Int)∧(↑a:Int)+1=(↑x:Int)∧dO=dO∧x≤l.length∧(List.take x l).all (mS dO)=true∧l.length-x<l.length-a)) (∃ (a:Int),(-1:Int)=a∧dO=dO∧(if l.all (mS dO)=true then a=(-1:Int) else 0≤a)∧True)) (by kernel_rfl) ?_
  simp only[bR,cZ,cF,dH,eO,cn,and_true,true_and,eq_self]
  refine⟨⟨0,by omega,by omega,by simp,by omega⟩,fun i h2 h3=>⟨fun h4=>⟨by omega,?_⟩,fun h4 => ?_⟩⟩
  · rw[iG]
    refine⟨fun h5=>⟨by omega,i+1,by omega,by omega,K8 (by omega) h3 h5,by omega⟩,fun h5=>⟨_,rfl,?_⟩⟩
    rw[Kv (i:=i) (by omega) h5]; simp
  · rw[show i=l.length by omega,dc] at h3; exact⟨_,rfl,by rw[h3]; simp⟩
def ZW:List TV→Dn
  | [.agg [.sl (.int .i64) u .no,.sl (.int .i64) l .no,.val (.int .i64 w),.sl (.int .i64) ls .no],.val (.int .i64 n)]=>some ([u.length≤1000,l.length≤1000,ls.length≤1000,0≤n,n≤3],.res (RF (aX n u l) (bk n u l) w (eY n ls 4)) [] [],
    [(2,.ex (List Int) fun u1 => .ex (List Int) fun l1 => .st { sl:=[(5,.ptr 13 0)],pl:=[(13,[.sl cv u1 .no,.sl cv l1 .no,bg w,.gZ])],cB:=[u1=if n=1∨n=3 then l.reverse else u,l1=if n=1∨n=3 then u.reverse else l] }),
     (4,.st { sl:=[(5,.ptr 13 0)],pl:=[(13,[.sl cv (aX n u l) .no,.sl cv (bk n u l) .no,bg w,.gZ])] }),
     (8,.ex Nat fun i => .st { sl:=[(6,bg i)],pl:=[(13,[.sl cv (aX n u l) .no,.sl cv (bk n u l) .no,bg w,.sl cv (eY n ls i) (.nQ 14)])],own:=[(3,1)],cB:=[i≤4],m:=4-i })])
  | _=>none
theorem v16:VI T1 Tryz.f81 [some aK] ZW:=by
  intro a p s j h hp
  unfold ZW at h
  split at h<;>cases h
  rename_i u l w ls n
  obtain⟨h1,h2,h3,h4,h5,-⟩:=hp
  refine uJ (A:=0+u.length≤1000000000∧0+l.length≤1000000000∧ay (n==1) (l.length≤1000∧u.length≤1000∧∃ (a:List Int),∃ (x:List Int),n=n∧u=u∧l=l∧w=w∧ls=ls∧(0:Int)=0∧l.reverse=a∧u.reverse=x∧w=w∧(a=if n=1∨n=3 then l.reverse else u)∧(x=if n=1∨n=3 then u.reverse else l)∧True) (ay (n==3) (l.length≤1000∧u.length≤1000∧∃ (a:List Int),∃ (x:List Int),n=n∧u=u∧l=l∧w=w∧ls=ls∧(0:Int)=0∧l.reverse=a∧u.reverse=x∧w=w∧(a=if n=1∨n=3 then l.reverse else u)∧(x=if n=1∨n=3 then u.reverse else l)∧True) (∃ (a:List Int),∃ (x:List Int),n=n∧u=u∧l=l∧w=w∧ls=ls∧(0:Int)=0∧u=a∧l=x∧w=w∧(a=if n=1∨n=3 then l.reverse else u)∧(x=if n=1∨n=3 then u.reverse else l)∧True))∧∀ (a x:List Int),(a=if n=1∨n=3 then l.reverse else u)→(x=if n=1∨n=3 then u.reverse else l)→ay (n==2) (a.length≤1000∧x.length≤1000∧n=n∧u=u∧l=l∧w=w∧ls=ls∧(0:Int)=0∧a.reverse=aX n u l∧x.reverse=bk n u l∧w=w∧True) (ay (n==3) (a.length≤1000∧x.length≤1000∧n=n∧u=u∧l=l∧w=w∧ls=ls∧(0:Int)=0∧a.reverse=aX n u l∧x.reverse=bk n u l∧w=w∧True) (n=n∧u=u∧l=l∧w=w∧ls=ls∧(0:Int)=0∧a=aX n u l∧x=bk n u l∧w=w∧True))∧(∃ (a:Nat),0=(↑a:Int)∧aX n u l=aX n u l∧bk n u l=bk n u l∧w=w∧[]=eY n ls a∧a≤4∧4-a<1000000)∧∀ (a:Nat),a≤4→ay (decide ((↑a:Int)≤3)) (ls.length≤1000∧ay (decide (IntKind.i64.wrap (↑(BitVec.ofInt 64 (↑a:Int) ^^^ BitVec.ofInt 64 n).toNat:Int)∈ls)) ((eY n ls a).length+1≤1000000000∧cn ((↑a:Int)+1)∧∃ (y:Nat),n=n∧(↑a:Int)+1=(↑y:Int)∧u=u∧l=l∧w=w∧ls=ls∧(0:Int)=0∧aX n u l=aX n u l∧bk n u l=bk n u l∧w=w∧eY n ls a++[(↑a:Int)]=eY n ls y∧y≤4∧4-y<4-a) (cn ((↑a:Int)+1)∧∃ (y:Nat),n=n∧(↑a:Int)+1=(↑y:Int)∧u=u∧l=l∧w=w∧ls=ls∧(0:Int)=0∧aX n u l=aX n u l∧bk n u l=bk n u l∧w=w∧eY n ls a=eY n ls y∧y≤4∧4-y<4-a)) (aX n u l=aX n u l∧bk n u l=bk n u l∧w=w∧eY n ls a=eY n ls 4∧True)) (by kernel_rfl) ?_
  simp only[bR,cZ,cF,cn,and_true,true_and,eq_self]
  refine⟨by omega,by omega,⟨fun e=>⟨h2,h1,_,_,rfl,rfl,by simp[e],by simp[e]⟩,fun e=>⟨fun e1=>⟨h2,h1,_,_,rfl,rfl,by simp[e1],by simp[e1]⟩,fun e1=>⟨_,_,rfl,rfl,by simp[e,e1],by simp[e,e1]⟩⟩⟩,?_⟩
  rintro _ _ rfl rfl
  refine⟨⟨fun e=>⟨by split<;>simp_all,by split<;>simp_all,by simp[e,aX],by simp[e,bk]⟩,fun e=>⟨fun e1=>⟨by split<;>simp_all,by split<;>simp_all,by simp[e1,aX],by simp[e1,bk]⟩,fun e1=>⟨by simp[e,e1,aX],by simp[e,e1,bk]⟩⟩⟩,⟨0,rfl,rfl,by omega,by omega⟩,fun i hi=>⟨fun h=>⟨h3,?_⟩,fun h=>by rw[show i=4 by omega]⟩⟩
  have hx:=MK n ls i
  change (jZ i n∈ls→_)∧(¬ jZ i n∈ls→_)
  exact⟨fun h=>⟨by omega,by omega,i+1,by omega,MJ h,by omega,by omega⟩,fun h=>⟨by omega,i+1,by omega,Q7 h,by omega,by omega⟩⟩
section
variable {bF:bP} (tk:uS bF)
include tk
theorem NR:ji bF 1 T1:=Le (ee tk) Tryz.func121 rfl v97 (kL tk (ee tk) (by decide) Tryz.func119 rfl v52 (kL tk (ee tk) (by decide) Tryz.func97 rfl v53 (eM (ee tk))))
end
end Go.Tv
end
section
namespace Go.Tv
open Go Go.Di Go.Proofs
set_option maxRecDepth 100000
set_option maxHeartbeats 1000000
abbrev FH (v:Int→TV) (f:Int→List Prop):s7 := .ex Int fun k => .ex (List Int) fun r => .ex Int fun z => .res (v k) (wE r z) (f k)
def D81:List TV→List TV→Dn
 | [.ptr 0 0],[.sl (.int .i64) _ .no,.val (.int .u64 z)]=>some ([],FH (fun k => .val (.int .u64 k)) fun k=>[0≤k,k<4294967296],[(2,.ex Int fun k => .ex (List Int) fun r => .st { sl:=[(3,.val (.int .u64 k))],pl:=[(0,wE r z)] })])
 | _,_=>none
theorem v81:VC T0 Tryz.f58 [some (.int .u64)] [some bG,some (.int .u64)] D81:=by
 intro a cs p s j h hp
 unfold D81 at h
 split at h<;>cases h
 rename_i r z
 refine uJ (A:=ay (decide ((↑r.length:Int)>0)) (((0:Int)≤0∧0<(↑r.length:Int))∧((0:Int)≤1∧1≤(↑r.length:Int))∧∃ (a:Int),∃ (x:List Int),(0:Int)=0∧IntKind.u64.wrap (r.getD 0 0)=a∧List.drop 1 r=x∧z=z∧True) (∃ (a:Int),∃ (x:List Int),(0:Int)=0∧0=a∧r=x∧z=z∧True)∧∀ (a:Int) (x:List Int),∃ (y:Int),∃ (u:List Int),∃ (v:Int),(IntKind.u64.wrap (IntKind.u64.wrap (↑(BitVec.ofInt 64 (IntKind.u64.wrap (↑(BitVec.ofInt 64 (IntKind.u64.wrap (IntKind.u64.wrap (IntKind.u64.wrap (z+a)+6364136223846793005)*15074714826142052245)) ^^^ BitVec.ofInt 64 ((IntKind.u64.wrap (IntKind.u64.wrap (IntKind.u64.wrap (z+a)+6364136223846793005)*15074714826142052245)).fdiv (536870912:Int))).toNat:Int)) ^^^ BitVec.ofInt 64 ((IntKind.u64.wrap (↑(BitVec.ofInt 64 (IntKind.u64.wrap (IntKind.u64.wrap (IntKind.u64.wrap (z+a)+6364136223846793005)*15074714826142052245)) ^^^ BitVec.ofInt 64 ((IntKind.u64.wrap (IntKind.u64.wrap (IntKind.u64.wrap (z+a)+6364136223846793005)*15074714826142052245)).fdiv (536870912:Int))).toNat:Int)).fdiv (8589934592:Int))).toNat:Int)*18397679294719823053)).fdiv 4294967296=y∧x=u∧IntKind.u64.wrap (↑(BitVec.ofInt 64 (IntKind.u64.wrap (IntKind.u64.wrap (IntKind.u64.wrap (z+a)+6364136223846793005)*15074714826142052245)) ^^^ BitVec.ofInt 64 ((IntKind.u64.wrap (IntKind.u64.wrap (IntKind.u64.wrap (z+a)+6364136223846793005)*15074714826142052245)).fdiv (536870912:Int))).toNat:Int)=v∧0≤y∧y<4294967296∧True) (by kernel_rfl) ?_
 simp only[bR,cZ,cF,dH,eO,cn,and_true,true_and,eq_self]
 refine⟨⟨fun h=>⟨by omega,by omega,_,_,rfl,rfl⟩,fun h=>⟨_,_,rfl,rfl⟩⟩,fun k r1=>⟨_,_,_,rfl,rfl,rfl,(V7 rfl).1,(V7 rfl).2⟩⟩
def D11:List TV→Dn
 | [.sl (.int .i64) l .no]=>some ([],.res .unk (wE l 1) [],[])
 | _=>none
theorem v11:VN T0 Tryz.f13 [some bG,some (.int .u64)] D11:=by
 intro a p s j h hp
 unfold D11 at h
 split at h<;>cases h
 rename_i l
 refine uJ (A:=l=l∧(1:Int)=1∧True) (by kernel_rfl) ?_
 exact⟨rfl,rfl,trivial⟩
def D60:List TV→Dn
 | [.agg [.sl (.int .i64) ua .no,.sl (.int .i64) la .no],.agg [.sl (.int .i64) ub .no,.sl (.int .i64) lb .no],.val (.int .i64 s)]=>some ([la.length≤1000,ub.length≤1000,lV la,lV ub],.res (.gI [bg (stA la ub s).1,bg (stA la ub s).2.1,bg (stA la ub s).2.2]) [] [],
  [(6,.ex Nat fun i => .ex Int fun lo => .ex Int fun hi => .ex Int fun m => .st { sl:=[(6,bg lo),(7,bg hi),(8,bg m),(29,bg i)],cB:=[i≤ub.length,0≤m,m≤i,lM (dF la ub s i)=(lo,hi,m)],m:=ub.length-i })])
 | _=>none
theorem v60:VI T0 Tryz.f78 [some cv,some cv,some cv] D60:=by
 intro a p s j h hp
 unfold D60 at h
 split at h<;>cases h
 rename_i ua la ub lb s
 obtain⟨h1,h2,h5,h6,-⟩:=hp
 refine uJ (A:=cn (-(↑ub.length:Int))∧ay (decide (s ≤ -(↑ub.length:Int))) (0=(stA la ub s).1∧0=(stA la ub s).2.1∧0=(stA la ub s).2.2∧True) (ay (decide (s≥(↑la.length:Int))) (0=(stA la ub s).1∧0=(stA la ub s).2.1∧0=(stA la ub s).2.2∧True) ((∃ (a:Nat),∃ (x:Int),∃ (r:Int),∃ (u:Int),0=x∧0=r∧0=u∧0=(↑a:Int)∧a≤ub.length∧0≤u∧u≤(↑a:Int)∧lM (dF la ub s a)=(x,r,u)∧ub.length-a<1000000)∧∀ (a:Nat) (x r u:Int),a≤ub.length→0≤u→u≤(↑a:Int)→lM (dF la ub s a)=(x,r,u)→ay (decide ((↑a:Int)<(↑ub.length:Int))) ((0≤(↑a:Int)∧(↑a:Int)<(↑ub.length:Int))∧cn ((↑a:Int)+s)∧ay (decide ((↑a:Int)+s<0)) (cn ((↑a:Int)+1)∧∃ (y:Nat),∃ (w:Int),∃ (v:Int),∃ (z:Int),s=s∧x=w∧r=v∧u=z∧ub=ub∧(↑ub.length:Int)=(↑ub.length:Int)∧(↑a:Int)+1=(↑y:Int)∧ua=ua∧la=la∧ub=ub∧lb=lb∧y≤ub.length∧0≤z∧z≤(↑y:Int)∧lM (dF la ub s y)=(w,v,z)∧ub.length-y<ub.length-a) (ay (decide ((↑a:Int)+s≥(↑la.length:Int))) (cn ((↑a:Int)+1)∧∃ (y:Nat),∃ (w:Int),∃ (v:Int),∃ (z:Int),s=s∧x=w∧r=v∧u=z∧ub=ub∧(↑ub.length:Int)=(↑ub.length:Int)∧(↑a:Int)+1=(↑y:Int)∧ua=ua∧la=la∧ub=ub∧lb=lb∧y≤ub.length∧0≤z∧z≤(↑y:Int)∧lM (dF la ub s y)=(w,v,z)∧ub.length-y<ub.length-a) ((0≤(↑a:Int)+s∧(↑a:Int)+s<(↑la.length:Int))∧cn (ub.getD a 0+la.getD ((↑a:Int)+s).toNat (0:Int))∧ay (u==0) (cn (u+1)∧cn ((↑a:Int)+1)∧∃ (y:Nat),∃ (w:Int),∃ (v:Int),∃ (z:Int),s=s∧(if ub.getD a 0+la.getD ((↑a:Int)+s).toNat 0<ub.getD a 0+la.getD ((↑a:Int)+s).toNat (0:Int) then ub.getD a 0+la.getD ((↑a:Int)+s).toNat (0:Int) else ub.getD a 0+la.getD ((↑a:Int)+s).toNat (0:Int))=w∧(if ub.getD a 0+la.getD ((↑a:Int)+s).toNat 0>ub.getD a 0+la.getD ((↑a:Int)+s).toNat (0:Int) then ub.getD a 0+la.getD ((↑a:Int)+s).toNat (0:Int) else ub.getD a 0+la.getD ((↑a:Int)+s).toNat (0:Int))=v∧u+1=z∧ub=ub∧(↑ub.length:Int)=(↑ub.length:Int)∧(↑a:Int)+1=(↑y:Int)∧ua=ua∧la=la∧ub=ub∧lb=lb∧y≤ub.length∧0≤z∧z≤(↑y:Int)∧lM (dF la ub s y)=(w,v,z)∧ub.length-y<ub.length-a) (cn (u+1)∧cn ((↑a:Int)+1)∧∃ (y:Nat),∃ (w:Int),∃ (v:Int),∃ (z:Int),s=s∧(if ub.getD a 0+la.getD ((↑a:Int)+s).toNat 0<x then ub.getD a 0+la.getD ((↑a:Int)+s).toNat (0:Int) else x)=w∧(if ub.getD a 0+la.getD ((↑a:Int)+s).toNat 0>r then ub.getD a 0+la.getD ((↑a:Int)+s).toNat (0:Int) else r)=v∧u+1=z∧ub=ub∧(↑ub.length:Int)=(↑ub.length:Int)∧(↑a:Int)+1=(↑y:Int)∧ua=ua∧la=la∧ub=ub∧lb=lb∧y≤ub.length∧0≤z∧z≤(↑y:Int)∧lM (dF la ub s y)=(w,v,z)∧ub.length-y<ub.length-a)))) (x=(stA la ub s).1∧r=(stA la ub s).2.1∧u=(stA la ub s).2.2∧True)))) (by kernel_rfl) ?_
 simp only[bR,stA,cZ,cF,dH,eO,cn,and_true,true_and,eq_self]
 refine⟨by omega,fun h=>by rw[sJ (.inl h)]; exact⟨rfl,rfl,rfl⟩,fun _=>⟨fun h=>by rw[sJ (.inr h)]; exact⟨rfl,rfl,rfl⟩,fun h=>⟨⟨0,0,0,0,rfl,rfl,rfl,rfl,by omega,by omega,by omega,rfl,by omega⟩,fun i lo hi m k1 k2 k3 k4=>⟨fun k5=>⟨by omega,by omega,fun k6=>⟨by omega,i+1,lo,hi,m,rfl,rfl,rfl,by omega,by omega,by omega,by omega,by rw[dF,if_neg (by omega)]; exact k4,by omega⟩,fun k6=>⟨fun k7=>⟨by omega,i+1,lo,hi,m,rfl,rfl,rfl,by omega,by omega,by omega,by omega,by rw[dF,if_neg (by omega)]; exact k4,by omega⟩,fun k7 => ?_⟩⟩,fun k5 => ?_⟩⟩⟩⟩
 ·have e1:=wO h6 (i:=i) (by omega)
  have e2:=wO h5 (i:=((i:Int)+s).toNat) (by omega)
  exact⟨by omega,by omega,fun k8=>⟨by omega,by omega,i+1,_,_,_,rfl,rfl,rfl,by omega,by omega,by omega,by omega,by rw[dF,if_pos (by omega)]; exact Qa k4 k8,by omega⟩,fun k8=>⟨by omega,by omega,i+1,_,_,_,rfl,rfl,rfl,by omega,by omega,by omega,by omega,by rw[dF,if_pos (by omega)]; exact CA k4 k8,by omega⟩⟩
 ·rw[show i=ub.length by omega] at k4
  rw[k4]; exact⟨rfl,rfl,rfl⟩
def T1b:gd:=((T1.sZ 58 fun a c=>dS (D81 a c)).S6 13 fun a=>dS (D11 a)).cA 78 fun a=>dS (D60 a)
def D46:List TV→List TV→Dn
 | [.ptr 0 0,.val (.int .i64 m)],[.sl (.int .i64) _ .no,.val (.int .u64 _)]=>some ([m≤1000,-10000≤m],FH bg fun k=>[0≤k,k≤m∨k=0],[])
 | _,_=>none
theorem v46:VC T1b Tryz.f15 [some cv] [some bG,some (.int .u64)] D46:=by
 intro a cs p s j h hp
 unfold D46 at h
 split at h<;>cases h
 rename_i m r z
 obtain⟨h1,h2,-⟩:=hp
 refine uJ (A:=ay (decide (m≤0)) (∃ (a:Int),∃ (y:List Int),∃ (u:Int),0=a∧r=y∧z=u∧0≤a∧(a≤m∨a=0)∧True) (∀ (a:Int) (y:List Int) (u:Int),0≤a→a<4294967296→cn (m+1)∧∃ (x:Int),∃ (v:List Int),∃ (w:Int),IntKind.i64.wrap ((IntKind.u64.wrap (a*IntKind.u64.wrap (m+1))).fdiv (4294967296:Int))=x∧y=v∧u=w∧0≤x∧(x≤m∨x=0)∧True)) (by kernel_rfl) ?_
 simp only[bR,cZ,cF,dH,eO,cn,and_true,true_and,eq_self]
 exact⟨fun h=>⟨0,_,_,rfl,rfl,rfl,by omega,by omega⟩,fun h k r1 z1 h3 h4=>⟨by omega,_,_,_,rfl,rfl,rfl,(Vx h1 (by omega) h3 h4).1,(Vx h1 (by omega) h3 h4).2⟩⟩
def D65:List TV→Dn
 | [.agg [.sl (.int .i64) ua .no,.sl (.int .i64) la .no],.agg [.sl (.int .i64) ub .no,.sl (.int .i64) lb .no],.val (.int .i64 w)]=>some ([la.length≤100,ub.length≤100,lV la,lV ub],.res (.sl cv (pI la ub w (ub.length+la.length+1)) .no) [] [],
  [(4,.ex Nat fun k => .st { sl:=[(7,.sl cv (pI la ub w k) (.nQ 2)),(8,bg ((k:Int)-(ub.length:Int)))],own:=[(3,1)],cB:=[k≤ub.length+la.length+1],m:=ub.length+la.length+1-k })])
 | _=>none
theorem v65:VI T1b Tryz.f103 [some bG] D65:=by
 intro a p s j h hp
 unfold D65 at h
 split at h<;>cases h
 rename_i ua la ub lb w
 obtain⟨h1,h2,h3,h4,-⟩:=hp
 refine uJ (A:=cn (-(↑ub.length:Int))∧(∃ (a:Nat),[]=pI la ub w a ∧ -(↑ub.length:Int)=(↑a:Int)-(↑ub.length:Int)∧a≤ub.length+la.length+1∧ub.length+la.length+1-a<1000000)∧∀ (a:Nat),a≤ub.length+la.length+1→ay (decide ((↑a:Int)-(↑ub.length:Int)≤(↑la.length:Int))) (la.length≤1000∧ub.length≤1000∧lV la∧lV ub∧ay (decide ((stA la ub ((↑a:Int)-(↑ub.length:Int))).2.2≥3)) (cn ((stA la ub ((↑a:Int)-(↑ub.length:Int))).2.1-(stA la ub ((↑a:Int)-(↑ub.length:Int))).1)∧ay (decide ((stA la ub ((↑a:Int)-(↑ub.length:Int))).2.1-(stA la ub ((↑a:Int)-(↑ub.length:Int))).1≤w)) ((pI la ub w a).length+1≤1000000000∧cn ((↑a:Int)-(↑ub.length:Int)+1)∧∃ (x:Nat),w=w∧iu cv.den∧pI la ub w a++[(↑a:Int)-(↑ub.length:Int)]=pI la ub w x∧(↑a:Int)-(↑ub.length:Int)+1=(↑x:Int)-(↑ub.length:Int)∧ua=ua∧la=la∧ub=ub∧lb=lb∧x≤ub.length+la.length+1∧ub.length+la.length+1-x<ub.length+la.length+1-a) (cn ((↑a:Int)-(↑ub.length:Int)+1)∧∃ (x:Nat),w=w∧iu cv.den∧pI la ub w a=pI la ub w x∧(↑a:Int)-(↑ub.length:Int)+1=(↑x:Int)-(↑ub.length:Int)∧ua=ua∧la=la∧ub=ub∧lb=lb∧x≤ub.length+la.length+1∧ub.length+la.length+1-x<ub.length+la.length+1-a)) (cn ((↑a:Int)-(↑ub.length:Int)+1)∧∃ (x:Nat),w=w∧iu cv.den∧pI la ub w a=pI la ub w x∧(↑a:Int)-(↑ub.length:Int)+1=(↑x:Int)-(↑ub.length:Int)∧ua=ua∧la=la∧ub=ub∧lb=lb∧x≤ub.length+la.length+1∧ub.length+la.length+1-x<ub.length+la.length+1-a)) (pI la ub w a=pI la ub w (ub.length+la.length+1)∧True)) (by kernel_rfl) ?_
 simp only[bR,stA,cZ,cF,dH,eO,cn,and_true,true_and,eq_self]
 refine⟨by omega,⟨0,rfl,by omega,by omega,by omega⟩,fun k hk=>⟨fun h=>⟨by omega,by omega,h3,h4,?_⟩,fun h=>by rw[show k=ub.length+la.length+1 by omega]⟩⟩
 have e:=wI (ub:=ub) ((k:Int)-ub.length) h3 h4
 simp only[stA] at e
 have hl:=TM la ub w k
 exact⟨fun h5=>⟨by omega,fun h6=>⟨by omega,by omega,k+1,TL (fM ⟨h5,h6⟩),by omega,by omega,by omega⟩,fun h6=>⟨by omega,k+1,O7 (fO fun e=>h6 e.2),by omega,by omega,by omega⟩⟩,fun h5=>⟨by omega,k+1,O7 (fO fun e=>h5 e.1),by omega,by omega,by omega⟩⟩
def T2:gd:=(((T1b.sZ 15 fun a c=>dS (D46 a c)).cA 81 fun a=>dS (ZW a)).sZ 132 fun a c=>dS (X1 a c)).cA 103 fun a=>dS (D65 a)
def D19:List TV→List TV→Dn
 | [.ptr 0 0,.val (.int .i64 lo),.val (.int .i64 hi)],[.sl (.int .i64) _ .no,.val (.int .u64 _)]=>some ([-1000≤lo,lo≤1000,-1000≤hi,hi≤1000+lo,hi≤5000],FH bg fun k=>[lo≤k,k≤hi∨k=lo],[])
 | _,_=>none
theorem v19:VC T2 Tryz.f70 [some cv] [some bG,some (.int .u64)] D19:=by
 intro a cs p s j h hp
 unfold D19 at h
 split at h<;>cases h
 rename_i lo hi r z
 obtain⟨h1,h2,h3,h4,h5,-⟩:=hp
 refine uJ (A:=cn (hi-lo)∧hi-lo≤1000∧(-10000:Int)≤hi-lo∧∀ (a:Int) (y:List Int) (z:Int),0≤a→a≤hi-lo∨a=0→cn (lo+a)∧∃ (x:Int),∃ (u:List Int),∃ (v:Int),lo+a=x∧y=u∧z=v∧lo≤x∧(x≤hi∨x=lo)∧True) (by kernel_rfl) ?_
 simp only[bR,cZ,cF,dH,eO,cn,and_true,true_and,eq_self]
 exact⟨by omega,by omega,by omega,fun k r1 z1 h6 h7=>⟨by omega,_,_,_,rfl,rfl,rfl,by omega,by omega⟩⟩
def D27:List TV→List TV→Dn
 | [.ptr 0 0,.val (.int .i64 m)],[.sl (.int .i64) _ .no,.val (.int .u64 _)]=>some ([m≤1000,0≤m],.ex Bool fun b=>FH (fun _=>iy b) fun _=>[],[])
 | _,_=>none
theorem v27:VC T2 Tryz.f67 [some .bool] [some bG,some (.int .u64)] D27:=by
 intro a cs p s j h hp
 unfold D27 at h
 split at h<;>cases h
 rename_i m r z
 obtain⟨h1,h2,-⟩:=hp
 refine uJ (A:=cn (m-1)∧m-1≤1000∧(-10000:Int)≤m-1∧∀ (a:Int) (x:List Int) (y:Int),0≤a→a≤m-1∨a=0→∃ (z:Bool),∃ (w:Int),∃ (u:List Int),∃ (v:Int),(a==IntKind.i64.wrap (m.tdiv (2:Int)))=z∧x=u∧y=v∧True) (by kernel_rfl) ?_
 simp only[bR,cZ,cF,dH,eO,cn,and_true,true_and,eq_self]
 exact⟨by omega,by omega,by omega,fun k r1 z1 _ _=>⟨_,0,_,_,rfl,rfl,rfl⟩⟩
def D45:List TV→List TV→Dn
 | [.ptr 0 0,.sl (.int .i64) l .no],[.sl (.int .i64) _ .no,.val (.int .u64 _)]=>some ([0<l.length,l.length≤1000],FH bg fun k=>[k∈l],[])
 | _,_=>none
theorem v45:VC T2 Tryz.f69 [some cv] [some bG,some (.int .u64)] D45:=by
 intro a cs p s j h hp
 unfold D45 at h
 split at h<;>cases h
 rename_i l r z
 obtain⟨h1,h2,-⟩:=hp
 refine uJ (A:=cn ((↑l.length:Int)-1)∧(↑l.length:Int)-1≤1000∧(-10000:Int)≤(↑l.length:Int)-1∧∀ (a:Int) (y:List Int) (z:Int),0≤a→a≤(↑l.length:Int)-1∨a=0→(0≤a∧a<(↑l.length:Int))∧∃ (x:Int),∃ (u:List Int),∃ (v:Int),l.getD a.toNat 0=x∧y=u∧z=v∧x∈l∧True) (by kernel_rfl) ?_
 simp only[bR,cZ,cF,dH,eO,cn,and_true,true_and,eq_self]
 exact⟨by omega,by omega,by omega,fun k r1 z1 h3 h4=>⟨by omega,_,_,_,rfl,rfl,rfl,fo (by omega)⟩⟩
def D96:List TV→List TV→Dn
 | [.sl (.int .i64) l .no,.fn 121 [] [.ptr 0 0]],[.val (.int .i64 dO)]=>some ([l.length≤1000],.res (iy (!l.all (mS dO))) [bg dO] [],[])
 | _,_=>none
theorem v96:VC T2 Tryz.f120 [some .bool] [some cv] D96:=by
 intro a cs p s j h hp
 unfold D96 at h
 split at h<;>cases h
 rename_i l dO
 have h1:=hp.1
 refine uJ (A:=l.length≤1000∧∀ (a:Int),(if l.all (mS dO)=true then a=(-1:Int) else 0≤a)→decide (a≥0) = !l.all (mS dO)∧dO=dO∧True) (by kernel_rfl) ?_
 simp only[bR,cZ,cF,dH,eO,cn,and_true,true_and,eq_self]
 refine⟨h1,fun k hk => ?_⟩
 cases hl:l.all (mS dO)<;>simp[hl] at hk ⊢<;>omega
def T3:gd:=(((T2.sZ 70 fun a c=>dS (D19 a c)).sZ 67 fun a c=>dS (D27 a c)).sZ 69 fun a c=>dS (D45 a c)).sZ 120 fun a c=>dS (D96 a c)
def D44:List TV→List TV→Dn
 | [.ptr 0 0,.val (.int .i64 c)],[.sl (.int .i64) _ .no,.val (.int .u64 _)]=>some ([0≤c,c≤100],.ex (List Int) fun o => .ex (List Int) fun r => .ex Int fun z => .res (.sl cv o .no) (wE r z) [(o.length:Int)=c,lV o],
  [(5,.ex Nat fun i => .ex (List Int) fun o => .ex (List Int) fun r => .ex Int fun z => .st { sl:=[(6,.sl cv o (.nQ 1)),(7,bg i)],pl:=[(0,wE r z)],own:=[(3,1)],cB:=[(i:Int)≤c,o.length=i,lV o],m:=c.toNat-i })])
 | _,_=>none
theorem v44:VC T3 Tryz.f87 [some bG] [some bG,some (.int .u64)] D44:=by
 intro a cs p s j h hp
 unfold D44 at h
 split at h<;>cases h
 rename_i c r z
 obtain⟨h1,h2,-⟩:=hp
 refine uJ (A:=(7:Int)≤1000∧(-10000:Int)≤7∧∀ (a:Int) (x:List Int) (w:Int),0≤a→a≤7∨a=0→0<3∧3≤1000∧∀ (u:Int) (i:List Int) (h:Int),u∈[(0:Int),(2:Int),a]→(∃ (a:Nat),∃ (y:List Int),∃ (m:List Int),∃ (r:Int),[]=y∧0=(↑a:Int)∧i=m∧h=r∧(↑a:Int)≤c∧y.length=a∧lV y∧c.toNat-a<1000000)∧∀ (a:Nat) (y m:List Int) (r:Int),(↑a:Int)≤c→y.length=a→lV y→ay (decide ((↑a:Int)<c)) (0<4∧4≤1000∧∀ (z:Int) (s:List Int) (n:Int),z∈[(0:Int),(0:Int),(1:Int),(2:Int)]→cn (u+z)∧y.length+1≤1000000000∧cn ((↑a:Int)+1)∧∃ (v:Nat),∃ (t:List Int),∃ (k:List Int),∃ (j:Int),c=c∧iu cv.den∧u=u∧y++[u+z]=t∧(↑a:Int)+1=(↑v:Int)∧s=k∧n=j∧(↑v:Int)≤c∧t.length=v∧lV t∧c.toNat-v<c.toNat-a) (∃ (a:List Int),∃ (z:List Int),∃ (s:Int),y=a∧m=z∧r=s∧(↑a.length:Int)=c∧lV a∧True)) (by kernel_rfl) ?_
 simp only[bR,cZ,cF,dH,eO,cn,and_true,true_and,eq_self]
 refine⟨by omega,by omega,fun k1 r1 z1 h3 h4=>⟨by omega,by omega,fun k2 r2 z2 h5 => ?_⟩⟩
 have h6:0≤k2∧k2≤7:=by simp at h5; omega
 refine⟨⟨0,[],r2,z2,rfl,rfl,rfl,rfl,h1,rfl,by simp[lV],by omega⟩,fun i o r3 z3 h6 h7 h8=>⟨fun h9=>⟨by omega,by omega,fun k4 r4 z4 wB => ?_⟩,fun h9=>⟨_,_,_,rfl,rfl,rfl,by omega,h8⟩⟩⟩
 have Fe:0≤k4∧k4≤2:=by simp at wB; omega
 exact⟨by omega,by omega,by omega,i+1,_,_,_,rfl,by omega,rfl,rfl,by omega,by simp[h7],GG h8 (by omega),by omega⟩
def D47:List TV→List TV→Dn
 | [.ptr 0 0],[.sl (.int .i64) _ .no,.val (.int .u64 _)]=>some ([],.ex (List Int) fun o => .ex (List Int) fun r => .ex Int fun z => .res (.sl cv o .no) (wE r z) [o≠[],∀ x∈o,0≤x∧x≤3,o.Pairwise (· < ·)],
  [(4,.ex Nat fun i => .ex (List Int) fun o => .ex (List Int) fun r => .ex Int fun z => .st { sl:=[(3,.sl cv o (.nQ 1)),(4,bg i)],pl:=[(0,wE r z)],own:=[(3,1)],cB:=[i≤4,o.length≤i,∀ x∈o,0≤x∧x<i,o.Pairwise (· < ·)],m:=4-i })])
 | _,_=>none
theorem v47:VC T3 Tryz.f88 [some bG] [some bG,some (.int .u64)] D47:=by
 intro a cs p s j h hp
 unfold D47 at h
 split at h<;>cases h
 rename_i r z
 refine uJ (A:=(∃ (a:Nat),∃ (y:List Int),∃ (n:List Int),∃ (k:Int),[]=y∧0=(↑a:Int)∧r=n∧z=k∧a≤4∧y.length≤a∧(∀ (x:Int),x∈y→0≤x∧x<(↑a:Int))∧List.Pairwise (fun(x1 x2:Int)=>x1<x2) y∧4-a<1000000)∧∀ (a:Nat) (y n:List Int) (k:Int),a≤4→y.length≤a→(∀ (x:Int),x∈y→0≤x∧x<(↑a:Int))→List.Pairwise (fun(x1 x2:Int)=>x1<x2) y→ay (decide ((↑a:Int)≤3)) ((2:Int)≤1000∧(0:Int)≤2∧∀ (s:Bool) (t:Int) (j:List Int) (i:Int),ay s (y.length+1≤1000000000∧cn ((↑a:Int)+1)∧∃ (u:Nat),∃ (v:List Int),∃ (w:List Int),∃ (m:Int),iu cv.den∧y++[(↑a:Int)]=v∧(↑a:Int)+1=(↑u:Int)∧j=w∧i=m∧u≤4∧v.length≤u∧(∀ (x:Int),x∈v→0≤x∧x<(↑u:Int))∧List.Pairwise (fun(x1 x2:Int)=>x1<x2) v∧4-u<4-a) (cn ((↑a:Int)+1)∧∃ (u:Nat),∃ (v:List Int),∃ (w:List Int),∃ (m:Int),iu cv.den∧y=v∧(↑a:Int)+1=(↑u:Int)∧j=w∧i=m∧u≤4∧v.length≤u∧(∀ (x:Int),x∈v→0≤x∧x<(↑u:Int))∧List.Pairwise (fun(x1 x2:Int)=>x1<x2) v∧4-u<4-a)) (ay ((↑y.length:Int)==0) ((3:Int)≤1000∧(-10000:Int)≤3∧∀ (a:Int) (s:List Int) (t:Int),0≤a→a≤3∨a=0→∃ (u:List Int),∃ (v:List Int),∃ (w:Int),[a]=u∧s=v∧t=w∧u≠[]∧(∀ (x:Int),x∈u→0≤x∧x≤3)∧List.Pairwise (fun(x1 x2:Int)=>x1<x2) u∧True) (∃ (a:List Int),∃ (s:List Int),∃ (t:Int),y=a∧n=s∧k=t∧a≠[]∧(∀ (x:Int),x∈a→0≤x∧x≤3)∧List.Pairwise (fun(x1 x2:Int)=>x1<x2) a∧True))) (by kernel_rfl) ?_
 simp only[bR,cZ,cF,dH,eO,cn,and_true,true_and,eq_self]
 refine⟨⟨0,[],_,_,rfl,rfl,rfl,rfl,by omega,by simp,by simp,by simp,by omega⟩,fun i o r1 z1 h1 h2 h3 h4=>⟨fun h5=>⟨by omega,by omega,fun b _ r2 z2 => ?_⟩,fun h5=>⟨fun h6=>⟨by omega,by omega,fun k r2 z2 h7 h8=>⟨_,_,_,rfl,rfl,rfl,by simp,by simp; omega,by simp⟩⟩,fun h6=>⟨_,_,_,rfl,rfl,rfl,fun e=>h6 (by rw[e]; rfl),fun x hx=>by have:=h3 x hx; omega,h4⟩⟩⟩⟩
 rw[iG]
 exact⟨fun _=>⟨by omega,by omega,i+1,_,_,_,rfl,by omega,rfl,rfl,by omega,by simp; omega,GG (fun x hx=>by have:=h3 x hx; omega) (by omega),RB h4 (fun x hx=>(h3 x hx).2),by omega⟩,fun _=>⟨by omega,i+1,_,_,_,rfl,by omega,rfl,rfl,by omega,by omega,fun x hx=>by have:=h3 x hx; omega,h4,by omega⟩⟩
def D78:List TV→Dn
 | [.sl (.int .i64) l .no,.val (.int .i64 dO)]=>some ([l.length≤1000],.res (iy (l.all (mS dO))) [] [],[])
 | _=>none
theorem v78:VI T3 Tryz.f90 [some .bool] D78:=by
 intro a p s j h hp
 unfold D78 at h
 split at h<;>cases h
 rename_i l dO
 have h1:=hp.1
 refine uJ (A:=l.length≤1000∧(!!l.all (mS dO))=l.all (mS dO)∧True) (by kernel_rfl) ?_
 exact⟨h1,Bool.not_not _,trivial⟩
def T4:gd:=((T3.sZ 87 fun a c=>dS (D44 a c)).sZ 88 fun a c=>dS (D47 a c)).cA 90 fun a=>dS (D78 a)
section
variable {bF:bP} (tk:uS bF)
include tk
theorem Og:ji bF 1 T1b:=kL tk (ee tk) (by decide) Tryz.func78 rfl v60 (mkN tk (ee tk) (by decide) Tryz.func13 rfl v11 (Le (ee tk) Tryz.func58 rfl v81 (NR tk)))
theorem Ds:ji bF 2 T2:=kL tk (Og tk) (by decide) Tryz.func103 rfl v65 (Le (NR tk) Tryz.func132 rfl v109 (kL tk (NR tk) (by decide) Tryz.func81 rfl v16 (Le (Og tk) Tryz.func15 rfl v46 (eM (Og tk)))))
theorem SB:ji bF 3 T3:=Le (Ds tk) Tryz.func120 rfl v96 (Le (Ds tk) Tryz.func69 rfl v45 (Le (Ds tk) Tryz.func67 rfl v27 (Le (Ds tk) Tryz.func70 rfl v19 (eM (Ds tk)))))
theorem W6:ji bF 4 T4:=kL tk (SB tk) (by decide) Tryz.func90 rfl v78 (Le (SB tk) Tryz.func88 rfl v47 (Le (SB tk) Tryz.func87 rfl v44 (eM (SB tk))))
end
end Go.Tv
end
