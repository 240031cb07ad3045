import Derived.Test.YtedcgbkilmlbhaaGreatPk08
section
namespace Go.Tv
open Go Go.Di Go.Proofs
abbrev Dn := Option (List Prop × qX × List (Nat × LA))
def dS (d : Dn) : Sp := d.map fun x => (x.1, x.2.1)
def dJ (d : Dn) : List (Nat × LA) := match d with
 | some x => x.2.2
 | none => []
def VI (T : gh) (f : Func) (j7 : List (Option TT)) (D : List TV → Dn) (d : Nat := 0) : Prop := ∀ a p s j, D a = some (p, s, j) → cA p → vcI T d f j7 j a s
def VC (T : gh) (f : Func) (j7 mF : List (Option TT)) (D : List TV → List TV → Dn) (d : Nat := 0) : Prop := ∀ a cs p s j, D a cs = some (p, s, j) → cA p → Zq T d f j7 mF j a cs s
def VN (T : gh) (f : Func) (mF : List (Option TT)) (D : List TV → Dn) (d : Nat := 0) : Prop := ∀ a p s j, D a = some (p, s, j) → cA p → vcN T d f mF j a s
def dV (d : Dn) (K : qX → List (Nat × LA) → Prop) : Prop :=
 match d with
 | some (p, s, j) => cA p → K s j
 | none => True
structure Hd (p : Prop) : Prop where
 h : p
theorem Am {A B : Prop} (h : A = B) (a : A) : Hd B := ⟨h ▸ a⟩
theorem jN {T : gh} {f : Func} {j7 : List (Option TT)} {D : List TV → Dn} {d : Nat} (h : ∀ a, dV (D a) fun s j => Hd (vcI T d f j7 j a s)) : VI T f j7 D d := fun a p s j hd hp => by
 have := h a
 rw [hd] at this
 exact (this hp).h
theorem aaj {T : gh} {f : Func} {j7 mF : List (Option TT)} {D : List TV → List TV → Dn} {d : Nat} (h : ∀ a cs, dV (D a cs) fun s j => Hd (Zq T d f j7 mF j a cs s)) : VC T f j7 mF D d := fun a cs p s j hd hp => by
 have := h a cs
 rw [hd] at this
 exact (this hp).h
theorem d_some {d : Dn} {p : List Prop} {s : qX} (h : dS d = some (p, s)) : d = some (p, s, dJ d) := by
 cases d with
 | none => cases h
 | some x => cases h; rfl
variable {aV : bk} {k : Nat} {T : gh}
theorem nv {fn : Func} (hb : fn.body.isSome = true) : fn.body = some (wE fn) := by unfold wE; revert hb; cases fn.body <;> simp
theorem mkJ (hT : jU aV k T) {f : FuncId} {fn : Func} {j7 : List (Option TT)} {D : List TV → Dn} {d : Nat} (hn : ∀ a p s, dS (D a) = some (p, s) → cA p → ∀ da, cq c9 [] a da → aV f da = none) (hf : Tp.funcs[f]? = some fn) (hb : fn.body.isSome = true) (h : VI T fn j7 D d) {T' : gh} (Vk : jU aV (k + d + 1) T') : jU aV (k + d + 1) (T'.dw f fun a => dS (D a)) :=
 Il Vk fun n a p s hs hp => Pm (n := n + (k + d)) hf (nv hb) (hn a p s hs hp) ((jk (nM (mb hT d n)) (rV hT.1 d (mb hT d n)) _ _ _ _ _ _ (cg _ (h a p s _ (d_some hs) hp))).mono fun _ _ _ hq => IC (fun _ _ => UK) hq)
theorem qI (tk : oK aV) (hT : jU aV k T) {f : FuncId} {fn : Func} {j7 : List (Option TT)} {D : List TV → Dn} {d : Nat} (hne : f ≠ 60 ∧ f ≠ 133 ∧ f ≠ 12 ∧ f ≠ 43 ∧ f ≠ 52) (hf : Tp.funcs[f]? = some fn) (hb : fn.body.isSome = true) (h : VI T fn j7 D d) {T' : gh} (Vk : jU aV (k + d + 1) T') : jU aV (k + d + 1) (T'.dw f fun a => dS (D a)) :=
 mkJ hT (fun _ _ _ _ _ _ _ => tk.other _ _ hne.1 hne.2.1 hne.2.2.1 hne.2.2.2.1 hne.2.2.2.2) hf hb h Vk
theorem JK (hT : jU aV k T) {f : FuncId} {fn : Func} {j7 mF : List (Option TT)} {D : List TV → List TV → Dn} {d : Nat} (hf : Tp.funcs[f]? = some fn) (hb : fn.body.isSome = true) (h : VC T fn j7 mF D d) {T' : gh} (Vk : jU aV (k + d + 1) T') : jU aV (k + d + 1) (T'.qU f fun a c => dS (D a c)) :=
 aal Vk fun n a cs p s hs hp => Pz (n := n + (k + d)) hf (nv hb) ((jk (nM (mb hT d n)) (rV hT.1 d (mb hT d n)) _ _ _ _ _ _ (cg _ (h a cs p s _ (d_some hs) hp))).mono fun _ _ _ hq => IC (fun _ _ => aa2) hq)
theorem mkN (tk : oK aV) (hT : jU aV k T) {f : FuncId} {fn : Func} {mF : List (Option TT)} {D : List TV → Dn} {d : Nat} (hne : f ≠ 60 ∧ f ≠ 133 ∧ f ≠ 12 ∧ f ≠ 43 ∧ f ≠ 52) (hf : Tp.funcs[f]? = some fn) (hb : fn.body.isSome = true) (h : VN T fn mF D d) {T' : gh} (Vk : jU aV (k + d + 1) T') : jU aV (k + d + 1) (T'.Re f fun a => dS (D a)) :=
 aak Vk fun n a p s hs hp => O6 (n := n + (k + d)) hf (nv hb) (fun _ => tk.other _ _ hne.1 hne.2.1 hne.2.2.1 hne.2.2.2.1 hne.2.2.2.2) ((jk (nM (mb hT d n)) (rV hT.1 d (mb hT d n)) _ _ _ _ _ _ (cg _ (h a p s _ (d_some hs) hp))).mono fun _ _ _ hq => IC (fun _ _ => aa1) hq)
def ox (α : Type) : Prop := ([] : List α) = []
theorem eR {α : Type} : ox α = True := by simp [ox]
theorem sY {A B : Prop} (h : A = B) (a : A) : B := h ▸ a
theorem iB {b : Bool} {A B : Prop} : aI b A B ↔ (b = true → A) ∧ (b = false → B) := by cases b <;> simp [aI]
theorem bJ {p : Prop} [Decidable p] {A B : Prop} : aI (decide p) A B ↔ (p → A) ∧ (¬p → B) := by rw [iB]; simp
theorem cS {b : Bool} {A B : Prop} : aI (!b) A B ↔ aI b B A := by cases b <;> rfl
theorem dm {a c : Int} {A B : Prop} : aI (a == c) A B ↔ (a = c → A) ∧ (¬a = c → B) := by rw [iB]; simp
theorem cE {a c : Int} {A B : Prop} : aI (a != c) A B ↔ (a = c → B) ∧ (¬a = c → A) := by rw [iB]; simp [and_comm]
theorem aai {A B : Prop} : aI true A B ↔ A := Iff.rfl
end Go.Tv
end
section
namespace Go.Tv
open Go Go.Di Go.Proofs
set_option maxRecDepth 100000
theorem kF {l:List Int} {i:Nat} (h:i<l.length):l.getD i 0=l[i]:=by simp[List.getD_eq_getElem?_getD,h]
theorem take_one {l:List Int} {i:Nat} (h:i<l.length):l.take (i+1)=l.take i++[l.getD i 0]:=by
 rw[kF h,List.take_append_getElem]
theorem drop_one {l:List Int} {i:Nat} (h:i<l.length):(l.drop (i+1)).reverse++[l.getD i 0]=(l.drop i).reverse:=by
 rw[kF h,List.drop_eq_getElem_cons h,List.reverse_cons]
theorem lF {l:List Int} {i:Nat} (h:i<l.length):l.getD i 0∈l:=by
 rw[kF h]; exact List.getElem_mem _
def oW (l:List Int) (x:Int):Int:=if x∈l then (l.idxOf x:Int) else -1
theorem Lk {l:List Int} {x:Int} {i:Nat} (h:i<l.length) (h1:x ∉ l.take i) (h2:l.getD i 0=x):oW l x=i:=by
 have hm:x∈l:=by rw[← h2]; exact lF h
 have e:l=l.take i++x::l.drop (i+1):=by
  rw[← h2,kF h,← List.drop_eq_getElem_cons h,List.take_append_drop]
 rw[oW,if_pos hm]
 congr 1
 conv=>lhs; rw[e]
 rw[List.idxOf_append,if_neg h1,List.idxOf_cons_self,List.length_take]
 omega
abbrev tg (rest:List Int) (last:Int):List TV:=[.sl bW rest .no,.val (.int .u64 last)]
theorem vr (n:Int):IntKind.u64.wrap n=n % 18446744073709551616:=by simp[IntKind.wrap,IntKind.bits,IntKind.signed]
theorem u64_in (n:Int):0≤IntKind.u64.wrap n∧IntKind.u64.wrap n<18446744073709551616:=by rw[vr]; omega
theorem NX (a:Int):a.fdiv 4294967296=a / 4294967296:=Int.fdiv_eq_ediv_of_nonneg _ (by omega)
theorem UA {x n:Int} (h:IntKind.u64.wrap n=x):0≤x.fdiv 4294967296∧x.fdiv 4294967296<4294967296:=by
 have:=u64_in n
 rw[NX,← h]; omega
theorem TW {k m:Int} (hm:m≤1000) (h0:0<m) (hk:0≤k) (pZ:k<4294967296):0≤IntKind.i64.wrap ((IntKind.u64.wrap (k*IntKind.u64.wrap (m+1))).fdiv 4294967296)∧(IntKind.i64.wrap ((IntKind.u64.wrap (k*IntKind.u64.wrap (m+1))).fdiv 4294967296)≤m∨IntKind.i64.wrap ((IntKind.u64.wrap (k*IntKind.u64.wrap (m+1))).fdiv 4294967296)=0):=by
 have h1:k*(m+1)≤4294967295*(m+1):=Int.mul_le_mul_of_nonneg_right (by omega) (by omega)
 have h2:0≤k*(m+1):=Int.mul_nonneg hk (by omega)
 rw[vr (m+1),Int.emod_eq_of_lt (a:=m+1) (by omega) (by omega),NX,vr]
 generalize k*(m+1)=p at *
 rw[Int.emod_eq_of_lt (by omega) (by omega),yz (by omega) (by omega)]
 omega
theorem Fq {α:Type} {P:α→Prop} {l:List α} {a:α} (h:∀ x∈l,P x) (ha:P a):∀ x∈l++[a],P x:=by
 intro x hx
 rcases List.mem_append.1 hx with hx | hx
 ·exact h x hx
 ·rw[List.mem_singleton.1 hx]; exact ha
theorem PM {l:List Int} {a:Int} (h:l.Pairwise (· < ·)) (ha:∀ x∈l,x<a):(l++[a]).Pairwise (· < ·):=by
 rw[List.pairwise_append]
 exact⟨h,List.pairwise_singleton _ _,fun x hx y hy=>by rw[List.mem_singleton.1 hy]; exact ha x hx⟩
theorem AM {f:Int→Int} {l:List Int} {i:Nat} (h:i<l.length):(l.take i).map f++[f (l.getD i 0)]=(l.take (i+1)).map f:=by
 rw[take_one h,List.map_append]; rfl
abbrev JJ (u l:List Int) (w:Int) (ls:List Int):TV := .agg [.sl bW u .no,.sl bW l .no,bt w,.sl bW ls .no]
abbrev Num (u l:List Int) (w:Int):Prop:=3≤u.length∧u.length≤8∧l.length=u.length∧0≤w∧w≤2
structure Ok (u l:List Int) (w:Int) (ls:List Int):Prop where
 n3:3≤u.length
 n8:u.length≤8
 len:l.length=u.length
 hu:∀ x∈u,0≤x∧x≤9
 hl:∀ x∈l,0≤x∧x≤9
 w0:0≤w
 w2:w≤2
 ne:ls≠[]
 UW:∀ x∈ls,0≤x∧x≤3
 Yt:ls.Pairwise (· < ·)
def uW (a b:Int):Int:=IntKind.i64.wrap ((BitVec.ofInt 64 a ^^^ BitVec.ofInt 64 b).toNat:Int)
def dY (y:Int) (ls:List Int) (i:Nat):List Int:=((List.range i).map Int.ofNat).filter fun x=>decide (uW x y∈ls)
theorem Li {y:Int} {ls:List Int} {i:Nat} (h:uW i y∈ls):dY y ls i++[(i:Int)]=dY y ls (i+1):=by
 simp[dY,List.range_succ,List.filter_append,h]
theorem Ph {y:Int} {ls:List Int} {i:Nat} (h:¬ uW i y∈ls):dY y ls i=dY y ls (i+1):=by
 simp[dY,List.range_succ,List.filter_append,h]
theorem Lj (y:Int) (ls:List Int) (i:Nat):(dY y ls i).length≤i:=by
 unfold dY
 refine Nat.le_trans (List.length_filter_le _ _) ?_
 simp
theorem BD (y:Int) (ls:List Int) (i:Nat):(dY y ls i).Pairwise (· < ·):=by
 unfold dY
 refine List.Pairwise.filter _ ?_
 rw[List.pairwise_map]
 exact(List.pairwise_lt_range (n:=i)).imp fun h=>Int.ofNat_lt.2 h
def kK (cM x:Int):Bool:=decide (0≤x∧x≤cM)
theorem JF {cM:Int} {l:List Int} {i:Nat} (h:i<l.length) (h1:(l.take i).all (kK cM)=true) (h2:kK cM (l.getD i 0)=true):(l.take (i+1)).all (kK cM)=true:=by
 rw[take_one h,List.all_append,h1,List.all_cons,h2]; rfl
theorem Jg {cM:Int} {l:List Int} {i:Nat} (h:i<l.length) (h2:kK cM (l.getD i 0)=false):l.all (kK cM)=false:=by
 refine Bool.eq_false_iff.2 fun h1 => ?_
 rw[List.all_eq_true.1 h1 _ (lF h)] at h2
 cases h2
def gX (ls:List Int) (i:Nat):Int:=if i<ls.length then (if ls.getD i 0<0∨3<ls.getD i 0 then 8 else if 0<i∧ls.getD i 0≤ls.getD (i-1) 0 then 5 else gX ls (i+1)) else 0
 termination_by ls.length-i
def gf (u l:List Int) (w:Int) (ls:List Int):Int :=
 if u.length<3 then 7 else if 8<u.length then 6 else if l.length<u.length then 7 else if u.length<l.length then 6
 else if u.all (kK 9)=false∨l.all (kK 9)=false∨w<0∨2<w then 1 else if ls.length=0 then 7 else gX ls 0
theorem Iq {ls:List Int} {i:Nat} (h:i<ls.length) (h1:ls.getD i 0<0∨3<ls.getD i 0):gX ls i=8:=by rw[gX,if_pos h,if_pos h1]
theorem MW {ls:List Int} {i:Nat} (h:i<ls.length) (h1:¬ (ls.getD i 0<0∨3<ls.getD i 0)) (h2:0<i∧ls.getD i 0≤ls.getD (i-1) 0):gX ls i=5:=by rw[gX,if_pos h,if_neg h1,if_pos h2]
theorem pF {ls:List Int} {i:Nat} (h:i<ls.length) (h1:¬ (ls.getD i 0<0∨3<ls.getD i 0)) (h2:¬ (0<i∧ls.getD i 0≤ls.getD (i-1) 0)):gX ls i=gX ls (i+1):=by
 conv=>lhs; rw[gX]
 rw[if_pos h,if_neg h1,if_neg h2]
theorem MX {ls:List Int} {i:Nat} (h:¬ i<ls.length):gX ls i=0:=by rw[gX,if_neg h]
theorem Jx {u l:List Int} {w:Int} {ls:List Int} (h1:¬ u.length<3) (h2:¬ 8<u.length) (h3:¬ l.length<u.length) (h4:¬ u.length<l.length) (h5:(!u.all (kK 9))=false) (h6:(!l.all (kK 9))=false) (h7:¬ w<0) (h8:¬ 2<w) (h9:ls.length≠0):gf u l w ls=gX ls 0:=by
 simp only[Bool.not_eq_eq_eq_not,Bool.not_false] at h5 h6
 rw[gf,if_neg h1,if_neg h2,if_neg h3,if_neg h4,if_neg (by rw[h5,h6]; simp[h7,h8]),if_neg h9]
abbrev PD:Type:=aJ.den
abbrev pd (u l:List Int) (w:Int) (ls:List Int):PD:=(u,l,w,ls,())
def DZ (p:PD):Int:=gf p.1 p.2.1 p.2.2.1 p.2.2.2.1
def iA:List PD→Int
 | []=>0
 | p::l=>if DZ p≠0 then DZ p else iA l
theorem mj {l m:List PD} (h:iA l=0):iA (l++m)=iA m:=by
 induction l with
 | nil=>rfl
 | cons p l ih =>
  simp only[iA] at h ⊢
  split at h
  ·rename_i h1; exact(h1 h).elim
  ·rename_i h1; simp only[List.cons_append,iA,if_neg h1]; exact ih h
theorem SZ {l:List PD} {i:Nat} {d:PD} (h:i<l.length) (h1:iA (l.take i)=0) (h2:DZ (l.getD i d)≠0):iA l=DZ (l.getD i d):=by
 have e:l.getD i d=l[i]:=by simp[List.getD_eq_getElem?_getD,h]
 rw[e] at h2 ⊢
 conv=>lhs; rw[← List.take_append_drop i l,List.drop_eq_getElem_cons h]
 rw[mj h1,iA,if_pos h2]
theorem PF {l:List PD} {i:Nat} {d:PD} (h:i<l.length) (h1:iA (l.take i)=0) (h2:DZ (l.getD i d)=0):iA (l.take (i+1))=0:=by
 have e:l.getD i d=l[i]:=by simp[List.getD_eq_getElem?_getD,h]
 rw[e] at h2
 rw[← List.take_append_getElem h,mj h1,iA,if_neg (by simp[h2])]; rfl
def dH (p:PD):Prop:=p.1.length≤1000∧p.2.1.length≤1000∧p.2.2.2.1.length≤1000
theorem jd {P:PD→Prop} {l:List PD} {i:Nat} {d:PD} (h:i<l.length) (hl:∀ p∈l,P p):P (l.getD i d):=by
 have e:l.getD i d=l[i]:=by simp[List.getD_eq_getElem?_getD,h]
 rw[e]; exact hl _ (List.getElem_mem _)
abbrev Zj (u l:List Int):TV := .agg [.sl bW u .no,.sl bW l .no]
def sV (l:List Int):Prop:=∀ x∈l,0≤x∧x≤9
theorem vh {l:List Int} {i:Nat} (h:sV l) (hi:i<l.length):0≤l.getD i 0∧l.getD i 0≤9:=h _ (lF hi)
def gl (la ub:List Int) (s:Int):Nat→List Int
 | 0=>[]
 | i+1=>if 0≤(i:Int)+s∧(i:Int)+s<la.length then gl la ub s i++[ub.getD i 0+la.getD ((i:Int)+s).toNat 0] else gl la ub s i
def Tg (st:Int×Int×Int) (x:Int):Int×Int×Int:=(if x<(if st.2.2=0 then x else st.1) then x else (if st.2.2=0 then x else st.1),if x>(if st.2.2=0 then x else st.2.1) then x else (if st.2.2=0 then x else st.2.1),st.2.2+1)
def s4 (l:List Int):Int×Int×Int:=l.foldl Tg (0,0,0)
theorem Oq {l:List Int} {lo hi m x:Int} (h:s4 l=(lo,hi,m)) (h0:m=0):s4 (l++[x])=(if x<x then x else x,if x>x then x else x,m+1):=by
 subst h0
 rw[s4,List.foldl_append,← s4,h]; rfl
theorem Kp {l:List Int} {lo hi m x:Int} (h:s4 l=(lo,hi,m)) (h0:m≠0):s4 (l++[x])=(if x<lo then x else lo,if x>hi then x else hi,m+1):=by
 rw[s4,List.foldl_append,← s4,h]
 simp only[List.foldl_cons,List.foldl_nil,Tg,if_neg h0]
theorem vQ {la ub:List Int} {s:Int} (h:s ≤ -(ub.length:Int)∨(la.length:Int)≤s):gl la ub s ub.length=[]:=by
 have key:∀ i,i≤ub.length→gl la ub s i=[]:=by
  intro i
  induction i with
  | zero=>intro _; rfl
  | succ i ih=>intro hi; rw[gl,if_neg (by omega)]; exact ih (by omega)
 exact key _ (Nat.le_refl _)
abbrev stA (la ub:List Int) (s:Int):Int×Int×Int:=s4 (gl la ub s ub.length)
def iW (la ub:List Int) (bH s:Int):Bool:=decide (3≤(s4 (gl la ub s ub.length)).2.2∧(s4 (gl la ub s ub.length)).2.1-(s4 (gl la ub s ub.length)).1≤bH)
def xB (la ub:List Int) (bH:Int) (k:Nat):List Int:=((List.range k).map fun(j:Nat)=>(j:Int)-(ub.length:Int)).filter (iW la ub bH)
theorem RO {la ub:List Int} {bH:Int} {k:Nat} (h:iW la ub bH ((k:Int)-(ub.length:Int))=true):xB la ub bH k++[(k:Int)-(ub.length:Int)]=xB la ub bH (k+1):=by
 simp[xB,List.range_succ,List.filter_append,h]
theorem NA {la ub:List Int} {bH:Int} {k:Nat} (h:iW la ub bH ((k:Int)-(ub.length:Int))=false):xB la ub bH k=xB la ub bH (k+1):=by
 simp[xB,List.range_succ,List.filter_append,h]
theorem RP (la ub:List Int) (bH:Int) (k:Nat):(xB la ub bH k).length≤k:=by
 unfold xB
 refine Nat.le_trans (List.length_filter_le _ _) ?_
 simp
theorem WY {l:List Int} (h:∀ x∈l,0≤x∧x≤18):0≤(s4 l).1∧(s4 l).1≤18∧0≤(s4 l).2.1∧(s4 l).2.1≤18∧0≤(s4 l).2.2:=by
 have key:∀ (l:List Int) (st:Int×Int×Int),(∀ x∈l,0≤x∧x≤18)→(0≤st.1∧st.1≤18∧0≤st.2.1∧st.2.1≤18∧0≤st.2.2)→0≤(l.foldl Tg st).1∧(l.foldl Tg st).1≤18∧0≤(l.foldl Tg st).2.1∧(l.foldl Tg st).2.1≤18∧0≤(l.foldl Tg st).2.2:=by
  intro l
  induction l with
  | nil=>intro st _ h; exact h
  | cons x l ih =>
   intro st hx h
   have h1:=hx x (by simp)
   refine ih _ (fun y hy=>hx y (by simp[hy])) ?_
   obtain⟨a,b,c⟩:=st
   simp only[Tg] at h ⊢
   refine⟨?_,?_,?_,?_,?_⟩<;>(repeat' split)<;>omega
 exact key l _ h (by simp)
theorem C6 {la ub:List Int} {s:Int} (h1:sV la) (h2:sV ub):∀ i,i≤ub.length→∀ x∈gl la ub s i,0≤x∧x≤18
 | 0,_,x,hx=>by cases hx
 | i+1,hi,x,hx=>by
  rw[gl] at hx
  split at hx
  ·rename_i hc
   rcases List.mem_append.1 hx with hx | hx
   ·exact C6 h1 h2 i (by omega) x hx
   ·rw[List.mem_singleton] at hx
    have k1:=vh h2 (i:=i) (by omega)
    have k2:=vh h1 (i:=((i:Int)+s).toNat) (by omega)
    omega
  ·exact C6 h1 h2 i (by omega) x hx
theorem WZ {la ub:List Int} (s:Int) (h1:sV la) (h2:sV ub):0≤(stA la ub s).1∧(stA la ub s).1≤18∧0≤(stA la ub s).2.1∧(stA la ub s).2.1≤18∧0≤(stA la ub s).2.2:=WY (C6 h1 h2 _ (Nat.le_refl _))
theorem xY {m:Int} {l:List Int}:l.all (kK m)=true↔∀ x∈l,0≤x∧x≤m:=by simp[kK]
theorem BC {ls:List Int}:∀ (n i:Nat),ls.length-i=n→(gX ls i=0↔∀ j,i≤j→j<ls.length→(0≤ls.getD j 0∧ls.getD j 0≤3)∧(0<j→ls.getD (j-1) 0<ls.getD j 0)):=by
 intro n
 induction n with
 | zero=>intro i h; rw[MX (by omega)]; exact⟨fun _ j h1 h2=>by omega,fun _=>rfl⟩
 | succ n ih =>
  intro i h
  by_cases h1:ls.getD i 0<0∨3<ls.getD i 0
  ·rw[Iq (by omega) h1]
   exact⟨fun e=>by omega,fun e=>by have:=(e i (Nat.le_refl _) (by omega)).1; omega⟩
  ·by_cases h2:0<i∧ls.getD i 0≤ls.getD (i-1) 0
   ·rw[MW (by omega) h1 h2]
    exact⟨fun e=>by omega,fun e=>by have:=(e i (Nat.le_refl _) (by omega)).2 h2.1; omega⟩
   ·rw[pF (by omega) h1 h2,ih (i+1) (by omega)]
    refine⟨fun e j hj uS => ?_,fun e j hj uS=>e j (by omega) uS⟩
    by_cases H8:j=i
    ·subst H8; exact⟨by omega,fun h3=>by omega⟩
    ·exact e j (by omega) uS
theorem XU {ls:List Int} (h:∀ j,0<j→j<ls.length→ls.getD (j-1) 0<ls.getD j 0):ls.Pairwise (· < ·):=by
 rw[List.pairwise_iff_getElem]
 have key:∀ j i,i<j→(hj:j<ls.length)→ls.getD i 0<ls.getD j 0:=by
  intro j
  induction j with
  | zero=>intro i hi; omega
  | succ j ih =>
   intro i hi hj
   have h1:=h (j+1) (by omega) hj
   simp only[Nat.add_sub_cancel] at h1
   by_cases e:i=j
   ·subst e; exact h1
   ·have:=ih i (by omega) (by omega); omega
 intro i j hi hj H8
 have:=key j i H8 hj
 rwa [kF hi,kF hj] at this
theorem Xt {ls:List Int} (h:ls.Pairwise (· < ·)) {j:Nat} (h0:0<j) (hj:j<ls.length):ls.getD (j-1) 0<ls.getD j 0:=by
 rw[List.pairwise_iff_getElem] at h
 rw[kF hj,kF (by omega)]
 exact h _ _ _ _ (by omega)
theorem CA {u l:List Int} {w:Int} {ls:List Int}:gf u l w ls=0↔Ok u l w ls:=by
 unfold gf
 constructor
 ·intro h
  split at h; omega
  split at h; omega
  split at h; omega
  split at h; omega
  split at h; omega
  split at h; omega
  rename_i h1 h2 h3 h4 h5 h6
  simp only[not_or,Bool.not_eq_false] at h5
  have hz:=(BC _ 0 rfl).1 h
  refine⟨by omega,by omega,by omega,xY.1 h5.1,xY.1 h5.2.1,by omega,by omega,fun e=>h6 (by rw[e]; rfl),fun x hx => ?_,XU fun j hj uS=>(hz j (Nat.zero_le _) uS).2 hj⟩
  obtain⟨j,hj,rfl⟩:=List.getElem_of_mem hx
  have:=(hz j (Nat.zero_le _) hj).1
  rwa [kF hj] at this
 ·intro h
  have h1:=h.n3
  have h2:=h.n8
  have h3:=h.len
  have h4:=h.w0
  have h5:=h.w2
  have h6:ls.length≠0:=fun e=>h.ne (List.eq_nil_of_length_eq_zero e)
  rw[if_neg (by omega),if_neg (by omega),if_neg (by omega),if_neg (by omega),if_neg (by rw[xY.2 h.hu,xY.2 h.hl]; simp; omega),if_neg h6]
  exact(BC _ 0 rfl).2 fun j _ hj=>⟨h.UW _ (lF hj),fun h0=>Xt h.Yt h0 hj⟩
def Sh (u l ls:List Int):Prop:=u.length≤1000∧l.length≤1000∧ls.length≤1000
theorem Ok.num {u l:List Int} {w:Int} {ls:List Int} (h:Ok u l w ls):(3≤u.length∧u.length≤8∧l.length=u.length∧0≤w∧w≤2)∧sV u∧sV l:=⟨⟨h.n3,h.n8,h.len,h.w0,h.w2⟩,h.hu,h.hl⟩
def adi (la ub:List Int) (wa wb s:Int):N4.den:=((s4 (gl la ub s ub.length)).2.1,(s4 (gl la ub s ub.length)).1+wa+wb,())
theorem A1 {u l:List Int} {w:Int} {ls:List Int} (h:Ok u l w ls):Sh u l ls:=by
 refine⟨by have:=h.n8; omega,by have:=h.n8; have:=h.len; omega,?_⟩
 have key:∀ (ls:List Int) (m:Int),m≤4→(∀ x∈ls,m≤x∧x≤3)→ls.Pairwise (· < ·)→(ls.length:Int)≤4-m:=by
  intro ls
  induction ls with
  | nil=>intro m hm _ _; simp; omega
  | cons x ls ih =>
   intro m hm h1 h2
   rw[List.pairwise_cons] at h2
   have h3:=h1 x (by simp)
   have:=ih (x+1) (by omega) (fun y hy=>⟨by have:=h2.1 y hy; omega,(h1 y (by simp[hy])).2⟩) h2.2
   simp only[List.length_cons]
   omega
 have:=key ls 0 (by omega) h.UW h.Yt
 omega
def acW (la ub:List Int) (s:Int) (i:Nat):Option Int:=if 0≤(i:Int)+s∧(i:Int)+s<la.length then some (ub.getD i 0+la.getD ((i:Int)+s).toNat 0) else none
def bT (n:Int) (u l:List Int):List Int:=if n=1 then l.reverse else if n=2 then u.reverse else if n=3 then l else u
def bU (n:Int) (u l:List Int):List Int:=if n=1 then u.reverse else if n=2 then l.reverse else if n=3 then u else l
theorem O4 {l a l1:List Int} {w:Int} {ls:List Int} (h:Ok a l1 w ls) (hn:l1.length=l.length) (hl:sV l):Ok (l.map (9-·)) l1 w ls where
 n3:=by have:=h.n3; have:=h.len; simp; omega
 n8:=by have:=h.n8; have:=h.len; simp; omega
 len:=by simp; omega
 hu:=fun x hx=>by
  simp only[List.mem_map] at hx
  obtain⟨y,hy,rfl⟩:=hx
  have:=hl y hy
  omega
 hl:=h.hl
 w0:=h.w0
 w2:=h.w2
 ne:=h.ne
 UW:=h.UW
 Yt:=h.Yt
def adf (la ub:List Int) (w s:Int):Int×Int×Int:=if (stA la ub s).2.2<3 then (0,0,7) else if (stA la ub s).2.1-(stA la ub s).1>w then (0,0,11) else ((stA la ub s).2.1,(stA la ub s).1+w,0)
end Go.Tv
end
section
namespace Go.Tv
open Go Go.Di Go.Proofs
set_option maxRecDepth 100000
def D53:List TV→Dn
  | [.sl (.int .i64) l .no,.val (.int .i64 x)]=>some ([l.length≤1000],.res (mz (decide (x∈l))) [] [],[(3,.ex Nat fun i => .st { sl:=[(5,bt i)],dn:=[i≤l.length,x ∉ l.take i],m:=l.length-i })])
  | _=>none
theorem v53:VI T0 Tryz.f97 [some .bool] D53:=by
  intro a p s j h hp
  unfold D53 at h
  split at h<;>cases h
  rename_i l x
  have h1:=hp.1
  refine sY (A:=(∃ (a:Nat),(0:Int)=(↑a:Int)∧a≤l.length∧¬x∈List.take a l∧l.length-a<(1000000:Nat))∧∀ (a:Nat),a≤l.length→¬x∈List.take a l→aI (decide ((↑a:Int)<(↑l.length:Int))) (((0:Int)≤(↑a:Int)∧(↑a:Int)<(↑l.length:Int))∧aI (l.getD a (0:Int)==x) (true=decide (x∈l)∧True) (dK ((↑a:Int)+(1:Int))∧∃ (a_3:Nat),l=l∧x=x∧(↑a:Int)+(1:Int)=(↑a_3:Int)∧a_3≤l.length∧¬x∈List.take a_3 l∧l.length-a_3<l.length-a)) (false=decide (x∈l)∧True)) (by kernel_rfl) ?_
  simp only[bJ,dm,cE,cS,eR,dK,and_true,true_and,eq_self]
  refine⟨⟨0,by omega,by omega,by simp,by omega⟩,fun i h2 h3=>⟨fun h4=>⟨by omega,fun h5 => ?_,fun h5=>⟨by omega,i+1,by omega,by omega,?_,by omega⟩⟩,fun h4 => ?_⟩⟩
  · rw[decide_eq_true]; rw[← h5]; exact lF (by omega)
  · rw[take_one (by omega)]; simp only[List.mem_append,List.mem_singleton,not_or]; exact⟨h3,fun e=>h5 e.symm⟩
  · rw[show i=l.length by omega,List.take_length] at h3; rw[decide_eq_false h3]
def D52:List TV→Dn
  | [.sl (.int .i64) l .no]=>some ([l.length≤1000],.res (.sl bW l.reverse .no) [] [],[(4,.ex Nat fun i => .st { sl:=[(3,.sl bW ((l.drop i).reverse) (.oC 0)),(4,bt ((i:Nat)-1:Int))],own:=[(3,1)],dn:=[i≤l.length],m:=i })])
  | _=>none
theorem v52:VI T0 Tryz.f119 [some bZ] D52:=by
  intro a p s j h hp
  unfold D52 at h
  split at h<;>cases h
  rename_i l
  have h1:=hp.1
  refine sY (A:=dK ((↑l.length:Int)-(1:Int))∧(∃ (a:Nat),[]=(List.drop a l).reverse∧(↑l.length:Int)-(1:Int)=(↑a:Int)-(1:Int)∧a≤l.length∧a<(1000000:Nat))∧∀ (a:Nat),a≤l.length→aI (decide ((↑a:Int)-(1:Int)≥(0:Int))) (((0:Int)≤(↑a:Int)-(1:Int)∧(↑a:Int)-(1:Int)<(↑l.length:Int))∧(List.drop a l).reverse.length+(1:Nat)≤(1000000000:Nat)∧dK ((↑a:Int)-(1:Int)-(1:Int))∧∃ (a_2:Nat),l=l∧ox bW.den∧(List.drop a l).reverse++[l.getD ((↑a:Int)-(1:Int)).toNat (0:Int)]=(List.drop a_2 l).reverse∧(↑a:Int)-(1:Int)-(1:Int)=(↑a_2:Int)-(1:Int)∧a_2≤l.length∧a_2<a) ((List.drop a l).reverse=l.reverse∧True)) (by kernel_rfl) ?_
  simp only[bJ,dm,cE,cS,eR,dK,and_true,true_and,eq_self]
  refine⟨by omega,⟨l.length,by simp,by omega,by omega,by omega⟩,fun i h2=>⟨fun h3=>⟨by omega,by simp; omega,by omega,i-1,?_,by omega,by omega,by omega⟩,fun h3 => ?_⟩⟩
  · obtain⟨j,rfl⟩:∃ j,i=j+1:=⟨i-1,by omega⟩
    rw[show ((j+1:Nat):Int)-1=(j:Int) by omega,Int.toNat_natCast,drop_one (by omega)]; rfl
  · rw[show i=0 by omega,List.drop_zero]
def D97:List TV→List TV→Dn
  | [.val (.int .i64 x),.ptr 0 0],[.val (.int .i64 cM)]=>some ([],.res (mz (!kK cM x)) [bt cM] [],[])
  | _,_=>none
theorem v97:VC T0 Tryz.f121 [some .bool] [some bW] D97:=by
  intro a cs p s j h hp
  unfold D97 at h
  split at h<;>cases h
  rename_i x cM
  refine sY (A:=aI (decide (x<(0:Int))) (true = !kK cM x∧cM=cM∧True) (decide (x>cM) = !kK cM x∧cM=cM∧True)) (by kernel_rfl) ?_
  simp only[bJ,dm,cE,cS,eR,dK,and_true,true_and,eq_self]
  refine⟨fun h => ?_,fun h => ?_⟩
  · rw[kK,decide_eq_false (by omega)]; rfl
  · rw[kK,← decide_not,decide_eq_decide]; omega
def T1:gh:=((T0.dw 97 fun a=>dS (D53 a)).dw 119 fun a=>dS (D52 a)).qU 121 fun a c=>dS (D97 a c)
def Wv:List TV→List TV→Dn
  | [.sl (.int .i64) l .no,.fn 121 [] [.ptr 0 0]],[.val (.int .i64 cM)]=>some ([l.length≤1000],.ex Int fun k => .res (bt k) [bt cM] [if l.all (kK cM) then k = -1 else 0≤k],[(3,.ex Nat fun i => .st { sl:=[(8,bt i)],dn:=[i≤l.length,(l.take i).all (kK cM)=true],m:=l.length-i })])
  | _,_=>none
theorem v109:VC T1 Tryz.f132 [some bW] [some bW] Wv:=by
  intro a cs p s j h hp
  unfold Wv at h
  split at h<;>cases h
  rename_i l cM
  have h1:=hp.1
  refine sY (A:=(∃ (a:Nat),(0:Int)=(↑a:Int)∧a≤l.length∧(List.take a l).all (kK cM)=true∧l.length-a<(1000000:Nat))∧∀ (a:Nat),a≤l.length→(List.take a l).all (kK cM)=true→aI (decide ((↑a:Int)<(↑l.length:Int))) (((0:Int)≤(↑a:Int)∧(↑a:Int)<(↑l.length:Int))∧aI (!kK cM (l.getD a (0:Int))) (∃ (a_3:Int),(↑a:Int)=a_3∧cM=cM∧(if l.all (kK cM)=true then a_3=(-1:Int) else (0:Int)≤a_3)∧True) (dK ((↑a:Int)+(1:Int))∧∃ (a_3:Nat),l=l∧(↑l.length:Int)=(↑l.length:Int)∧(↑a:Int)+(1:Int)=(↑a_3:Int)∧cM=cM∧a_3≤l.length∧(List.take a_3 l).all (kK cM)=true∧l.length-a_3<l.length-a)) (∃ (a:Int),(-1:Int)=a∧cM=cM∧(if l.all (kK cM)=true then a=(-1:Int) else (0:Int)≤a)∧True)) (by kernel_rfl) ?_
  simp only[bJ,dm,cE,cS,eR,dK,and_true,true_and,eq_self]
  refine⟨⟨0,by omega,by omega,by simp,by omega⟩,fun i h2 h3=>⟨fun h4=>⟨by omega,?_⟩,fun h4 => ?_⟩⟩
  · rw[iB]
    refine⟨fun h5=>⟨by omega,i+1,by omega,by omega,JF (by omega) h3 h5,by omega⟩,fun h5=>⟨_,rfl,?_⟩⟩
    rw[Jg (i:=i) (by omega) h5]; simp
  · rw[show i=l.length by omega,List.take_length] at h3; exact⟨_,rfl,by rw[h3]; simp⟩
def D16:List TV→Dn
  | [.agg [.sl (.int .i64) u .no,.sl (.int .i64) l .no,.val (.int .i64 w),.sl (.int .i64) ls .no],.val (.int .i64 n)]=>some ([u.length≤1000,l.length≤1000,ls.length≤1000,0≤n,n≤3],.res (JJ (bT n u l) (bU n u l) w (dY n ls 4)) [] [],
    [(2,.ex (List Int) fun u1 => .ex (List Int) fun l1 => .st { sl:=[(5,.ptr 13 0)],pl:=[(13,[.sl bW u1 .no,.sl bW l1 .no,bt w,.eu])],dn:=[u1=if n=1∨n=3 then l.reverse else u,l1=if n=1∨n=3 then u.reverse else l] }),
     (4,.st { sl:=[(5,.ptr 13 0)],pl:=[(13,[.sl bW (bT n u l) .no,.sl bW (bU n u l) .no,bt w,.eu])] }),
     (8,.ex Nat fun i => .st { sl:=[(6,bt i)],pl:=[(13,[.sl bW (bT n u l) .no,.sl bW (bU n u l) .no,bt w,.sl bW (dY n ls i) (.oC 14)])],own:=[(3,1)],dn:=[i≤4],m:=4-i })])
  | _=>none
theorem v16:VI T1 Tryz.f81 [some aJ] D16:=by
  intro a p s j h hp
  unfold D16 at h
  split at h<;>cases h
  rename_i u l w ls n
  obtain⟨h1,h2,h3,h4,h5,-⟩:=hp
  refine sY (A:=(0:Nat)+u.length≤(1000000000:Nat)∧(0:Nat)+l.length≤(1000000000:Nat)∧aI (n==(1:Int)) (l.length≤(1000:Nat)∧u.length≤(1000:Nat)∧∃ (a:List Int),∃ (a_1:List Int),n=n∧u=u∧l=l∧w=w∧ls=ls∧(0:Int)=(0:Int)∧l.reverse=a∧u.reverse=a_1∧w=w∧(a=if n=(1:Int)∨n=(3:Int) then l.reverse else u)∧(a_1=if n=(1:Int)∨n=(3:Int) then u.reverse else l)∧True) (aI (n==(3:Int)) (l.length≤(1000:Nat)∧u.length≤(1000:Nat)∧∃ (a:List Int),∃ (a_1:List Int),n=n∧u=u∧l=l∧w=w∧ls=ls∧(0:Int)=(0:Int)∧l.reverse=a∧u.reverse=a_1∧w=w∧(a=if n=(1:Int)∨n=(3:Int) then l.reverse else u)∧(a_1=if n=(1:Int)∨n=(3:Int) then u.reverse else l)∧True) (∃ (a:List Int),∃ (a_1:List Int),n=n∧u=u∧l=l∧w=w∧ls=ls∧(0:Int)=(0:Int)∧u=a∧l=a_1∧w=w∧(a=if n=(1:Int)∨n=(3:Int) then l.reverse else u)∧(a_1=if n=(1:Int)∨n=(3:Int) then u.reverse else l)∧True))∧∀ (a a_1:List Int),(a=if n=(1:Int)∨n=(3:Int) then l.reverse else u)→(a_1=if n=(1:Int)∨n=(3:Int) then u.reverse else l)→aI (n==(2:Int)) (a.length≤(1000:Nat)∧a_1.length≤(1000:Nat)∧n=n∧u=u∧l=l∧w=w∧ls=ls∧(0:Int)=(0:Int)∧a.reverse=bT n u l∧a_1.reverse=bU n u l∧w=w∧True) (aI (n==(3:Int)) (a.length≤(1000:Nat)∧a_1.length≤(1000:Nat)∧n=n∧u=u∧l=l∧w=w∧ls=ls∧(0:Int)=(0:Int)∧a.reverse=bT n u l∧a_1.reverse=bU n u l∧w=w∧True) (n=n∧u=u∧l=l∧w=w∧ls=ls∧(0:Int)=(0:Int)∧a=bT n u l∧a_1=bU n u l∧w=w∧True))∧(∃ (a:Nat),(0:Int)=(↑a:Int)∧bT n u l=bT n u l∧bU n u l=bU n u l∧w=w∧[]=dY n ls a∧a≤(4:Nat)∧(4:Nat)-a<(1000000:Nat))∧∀ (a:Nat),a≤(4:Nat)→aI (decide ((↑a:Int)≤(3:Int))) (ls.length≤(1000:Nat)∧aI (decide (IntKind.i64.wrap (↑(BitVec.ofInt (64:Nat) (↑a:Int) ^^^ BitVec.ofInt (64:Nat) n).toNat:Int)∈ls)) ((dY n ls a).length+(1:Nat)≤(1000000000:Nat)∧dK ((↑a:Int)+(1:Int))∧∃ (a_5:Nat),n=n∧(↑a:Int)+(1:Int)=(↑a_5:Int)∧u=u∧l=l∧w=w∧ls=ls∧(0:Int)=(0:Int)∧bT n u l=bT n u l∧bU n u l=bU n u l∧w=w∧dY n ls a++[(↑a:Int)]=dY n ls a_5∧a_5≤(4:Nat)∧(4:Nat)-a_5<(4:Nat)-a) (dK ((↑a:Int)+(1:Int))∧∃ (a_5:Nat),n=n∧(↑a:Int)+(1:Int)=(↑a_5:Int)∧u=u∧l=l∧w=w∧ls=ls∧(0:Int)=(0:Int)∧bT n u l=bT n u l∧bU n u l=bU n u l∧w=w∧dY n ls a=dY n ls a_5∧a_5≤(4:Nat)∧(4:Nat)-a_5<(4:Nat)-a)) (bT n u l=bT n u l∧bU n u l=bU n u l∧w=w∧dY n ls a=dY n ls (4:Nat)∧True)) (by kernel_rfl) ?_
  simp only[bJ,dm,cE,dK,and_true,true_and,eq_self]
  refine⟨by omega,by omega,⟨fun e=>⟨h2,h1,_,_,rfl,rfl,by simp[e],by simp[e]⟩,fun e=>⟨fun e1=>⟨h2,h1,_,_,rfl,rfl,by simp[e1],by simp[e1]⟩,fun e1=>⟨_,_,rfl,rfl,by simp[e,e1],by simp[e,e1]⟩⟩⟩,?_⟩
  rintro _ _ rfl rfl
  refine⟨⟨fun e=>⟨by split<;>simp_all,by split<;>simp_all,by simp[e,bT],by simp[e,bU]⟩,fun e=>⟨fun e1=>⟨by split<;>simp_all,by split<;>simp_all,by simp[e1,bT],by simp[e1,bU]⟩,fun e1=>⟨by simp[e,e1,bT],by simp[e,e1,bU]⟩⟩⟩,⟨0,rfl,rfl,by omega,by omega⟩,fun i hi=>⟨fun h=>⟨h3,?_⟩,fun h=>by rw[show i=4 by omega]⟩⟩
  have hx:=Lj n ls i
  change (uW i n∈ls→_)∧(¬ uW i n∈ls→_)
  exact⟨fun h=>⟨by omega,by omega,i+1,by omega,Li h,by omega,by omega⟩,fun h=>⟨by omega,i+1,by omega,Ph h,by omega,by omega⟩⟩
section
variable {aV:bk} (tk:oK aV)
include tk
theorem QF:jU aV 1 T1:=JK (gm tk) Tryz.func121 rfl v97 (qI tk (gm tk) (by decide) Tryz.func119 rfl v52 (qI tk (gm tk) (by decide) Tryz.func97 rfl v53 (iC (gm tk))))
end
end Go.Tv
end
