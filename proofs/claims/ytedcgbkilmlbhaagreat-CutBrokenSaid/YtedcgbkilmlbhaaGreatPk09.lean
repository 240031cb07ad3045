import Derived.Test.YtedcgbkilmlbhaaGreatPk08
section
namespace Go.Tv
open Go Go.Di Go.Proofs
abbrev Dn := Option (List Prop × q9 × List (Nat × LA))
def dS (d : Dn) : Sp := d.map fun x => (x.1, x.2.1)
def dJ (d : Dn) : List (Nat × LA) := match d with
 | some x => x.2.2
 | none => []
def VI (T : gN) (f : Func) (jV : List (Option TT)) (D : List TV → Dn) (d : Nat := 0) : Prop := ∀ a p s j, D a = some (p, s, j) → cF p → vcI T d f jV j a s
def VC (T : gN) (f : Func) (jV mq : List (Option TT)) (D : List TV → List TV → Dn) (d : Nat := 0) : Prop := ∀ a cs p s j, D a cs = some (p, s, j) → cF p → Za T d f jV mq j a cs s
def VN (T : gN) (f : Func) (mq : List (Option TT)) (D : List TV → Dn) (d : Nat := 0) : Prop := ∀ a p s j, D a = some (p, s, j) → cF p → vcN T d f mq j a s
def dV (d : Dn) (K : q9 → List (Nat × LA) → Prop) : Prop :=
 match d with
 | some (p, s, j) => cF p → K s j
 | none => True
structure Hd (p : Prop) : Prop where
 h : p
theorem Dl {A B : Prop} (h : A = B) (a : A) : Hd B := ⟨h ▸ a⟩
theorem s8 {T : gN} {f : Func} {jV : List (Option TT)} {D : List TV → Dn} {d : Nat} (h : ∀ a, dV (D a) fun s j => Hd (vcI T d f jV j a s)) : VI T f jV D d := fun a p s j hd hp => by
 have := h a
 rw [hd] at this
 exact (this hp).h
theorem DK {T : gN} {f : Func} {jV mq : List (Option TT)} {D : List TV → List TV → Dn} {d : Nat} (h : ∀ a cs, dV (D a cs) fun s j => Hd (Za T d f jV mq j a cs s)) : VC T f jV mq D d := fun a cs p s j hd hp => by
 have := h a cs
 rw [hd] at this
 exact (this hp).h
theorem d_some {d : Dn} {p : List Prop} {s : q9} (h : dS d = some (p, s)) : d = some (p, s, dJ d) := by
 cases d with
 | none => cases h
 | some x => cases h; rfl
variable {aZ : bn} {k : Nat} {T : gN}
theorem mY {fn : Func} (hb : fn.body.isSome = true) : fn.body = some (vW fn) := by unfold vW; revert hb; cases fn.body <;> simp
theorem wO (tk : oF aZ) (hT : lE aZ k T) {f : FuncId} {fn : Func} {jV : List (Option TT)} {D : List TV → Dn} {d : Nat} (hne : f ≠ 60 ∧ f ≠ 133 ∧ f ≠ 12 ∧ f ≠ 43 ∧ f ≠ 52) (hf : Tp.funcs[f]? = some fn) (hb : fn.body.isSome = true) (h : VI T fn jV D d) {T' : gN} (YS : lE aZ (k + d + 1) T') : lE aZ (k + d + 1) (T'.fR f fun a => dS (D a)) :=
 Md YS fun n a p s hs hp => OT (n := n + (k + d)) hf (mY hb) (fun _ => tk.other _ _ hne.1 hne.2.1 hne.2.2.1 hne.2.2.2.1 hne.2.2.2.2) ((jb (nI (lS hT d n)) (rK hT.1 d (lS hT d n)) _ _ _ _ _ _ (b9 _ (h a p s _ (d_some hs) hp))).mono fun _ _ _ hq => Ib (fun _ _ => Ur) hq)
theorem De (hT : lE aZ k T) {f : FuncId} {fn : Func} {jV mq : List (Option TT)} {D : List TV → List TV → Dn} {d : Nat} (hf : Tp.funcs[f]? = some fn) (hb : fn.body.isSome = true) (h : VC T fn jV mq D d) {T' : gN} (YS : lE aZ (k + d + 1) T') : lE aZ (k + d + 1) (T'.mD f fun a c => dS (D a c)) :=
 Z4 YS fun n a cs p s hs hp => O4 (n := n + (k + d)) hf (mY hb) ((jb (nI (lS hT d n)) (rK hT.1 d (lS hT d n)) _ _ _ _ _ _ (b9 _ (h a cs p s _ (d_some hs) hp))).mono fun _ _ _ hq => Ib (fun _ _ => aaI) hq)
theorem mkN (tk : oF aZ) (hT : lE aZ k T) {f : FuncId} {fn : Func} {mq : List (Option TT)} {D : List TV → Dn} {d : Nat} (hne : f ≠ 60 ∧ f ≠ 133 ∧ f ≠ 12 ∧ f ≠ 43 ∧ f ≠ 52) (hf : Tp.funcs[f]? = some fn) (hb : fn.body.isSome = true) (h : VN T fn mq D d) {T' : gN} (YS : lE aZ (k + d + 1) T') : lE aZ (k + d + 1) (T'.QJ f fun a => dS (D a)) :=
 Z3 YS fun n a p s hs hp => OE (n := n + (k + d)) hf (mY hb) (fun _ => tk.other _ _ hne.1 hne.2.1 hne.2.2.1 hne.2.2.2.1 hne.2.2.2.2) ((jb (nI (lS hT d n)) (rK hT.1 d (lS hT d n)) _ _ _ _ _ _ (b9 _ (h a p s _ (d_some hs) hp))).mono fun _ _ _ hq => Ib (fun _ _ => aaH) hq)
def rD (α : Type) : Prop := ([] : List α) = []
theorem gR {α : Type} : rD α = True := by simp [rD]
theorem sP {A B : Prop} (h : A = B) (a : A) : B := h ▸ a
theorem nv {b : Bool} {A B : Prop} : aM b A B ↔ (b = true → A) ∧ (b = false → B) := by cases b <;> simp [aM]
theorem bU {p : Prop} [Decidable p] {A B : Prop} : aM (decide p) A B ↔ (p → A) ∧ (¬p → B) := by rw [nv]; simp
theorem eM {b : Bool} {A B : Prop} : aM (!b) A B ↔ aM b B A := by cases b <;> rfl
theorem cV {a c : Int} {A B : Prop} : aM (a == c) A B ↔ (a = c → A) ∧ (¬a = c → B) := by rw [nv]; simp
theorem dI {a c : Int} {A B : Prop} : aM (a != c) A B ↔ (a = c → B) ∧ (¬a = c → A) := by rw [nv]; simp [and_comm]
end Go.Tv
end
section
namespace Go.Tv
open Go Go.Di Go.Proofs
set_option maxRecDepth 100000
theorem kB {l:List Int} {i:Nat} (h:i<l.length):l.getD i 0=l[i]:=by simp[List.getD_eq_getElem?_getD,h]
theorem take_one {l:List Int} {i:Nat} (h:i<l.length):l.take (i+1)=l.take i++[l.getD i 0]:=by
 rw[kB h,List.take_append_getElem]
theorem drop_one {l:List Int} {i:Nat} (h:i<l.length):(l.drop (i+1)).reverse++[l.getD i 0]=(l.drop i).reverse:=by
 rw[kB h,List.drop_eq_getElem_cons h,List.reverse_cons]
theorem iU {l:List Int} {i:Nat} (h:i<l.length):l.getD i 0∈l:=by
 rw[kB h]; exact List.getElem_mem _
def oQ (l:List Int) (x:Int):Int:=if x∈l then (l.idxOf x:Int) else -1
theorem KD {l:List Int} {x:Int} {i:Nat} (h:i<l.length) (h1:x ∉ l.take i) (h2:l.getD i 0=x):oQ l x=i:=by
 have hm:x∈l:=by rw[← h2]; exact iU h
 have e:l=l.take i++x::l.drop (i+1):=by
  rw[← h2,kB h,← List.drop_eq_getElem_cons h,List.take_append_drop]
 rw[oQ,if_pos hm]
 congr 1
 conv=>lhs; rw[e]
 rw[List.idxOf_append,if_neg h1,List.idxOf_cons_self,List.length_take]
 omega
abbrev rI (rest:List Int) (last:Int):List TV:=[.sl bX rest .no,.val (.int .u64 last)]
theorem uY (n:Int):IntKind.u64.wrap n=n % 18446744073709551616:=by simp[IntKind.wrap,IntKind.bits,IntKind.signed]
theorem u64_in (n:Int):0≤IntKind.u64.wrap n∧IntKind.u64.wrap n<18446744073709551616:=by rw[uY]; omega
theorem Np (a:Int):a.fdiv 4294967296=a / 4294967296:=Int.fdiv_eq_ediv_of_nonneg _ (by omega)
theorem Ug {x n:Int} (h:IntKind.u64.wrap n=x):0≤x.fdiv 4294967296∧x.fdiv 4294967296<4294967296:=by
 have:=u64_in n
 rw[Np,← h]; omega
theorem Tl {k m:Int} (hm:m≤1000) (h0:0<m) (hk:0≤k) (pR:k<4294967296):0≤IntKind.i64.wrap ((IntKind.u64.wrap (k*IntKind.u64.wrap (m+1))).fdiv 4294967296)∧(IntKind.i64.wrap ((IntKind.u64.wrap (k*IntKind.u64.wrap (m+1))).fdiv 4294967296)≤m∨IntKind.i64.wrap ((IntKind.u64.wrap (k*IntKind.u64.wrap (m+1))).fdiv 4294967296)=0):=by
 have h1:k*(m+1)≤4294967295*(m+1):=Int.mul_le_mul_of_nonneg_right (by omega) (by omega)
 have h2:0≤k*(m+1):=Int.mul_nonneg hk (by omega)
 rw[uY (m+1),Int.emod_eq_of_lt (a:=m+1) (by omega) (by omega),Np,uY]
 generalize k*(m+1)=p at *
 rw[Int.emod_eq_of_lt (by omega) (by omega),yc (by omega) (by omega)]
 omega
theorem E7 {α:Type} {P:α→Prop} {l:List α} {a:α} (h:∀ x∈l,P x) (ha:P a):∀ x∈l++[a],P x:=by
 intro x hx
 rcases List.mem_append.1 hx with hx | hx
 ·exact h x hx
 ·rw[List.mem_singleton.1 hx]; exact ha
theorem Ph {l:List Int} {a:Int} (h:l.Pairwise (· < ·)) (ha:∀ x∈l,x<a):(l++[a]).Pairwise (· < ·):=by
 rw[List.pairwise_append]
 exact⟨h,List.pairwise_singleton _ _,fun x hx y hy=>by rw[List.mem_singleton.1 hy]; exact ha x hx⟩
theorem Ax {f:Int→Int} {l:List Int} {i:Nat} (h:i<l.length):(l.take i).map f++[f (l.getD i 0)]=(l.take (i+1)).map f:=by
 rw[take_one h,List.map_append]; rfl
abbrev Uz (u l:List Int) (w:Int) (ls:List Int):TV := .agg [.sl bX u .no,.sl bX l .no,bp w,.sl bX ls .no]
abbrev Num (u l:List Int) (w:Int):Prop:=3≤u.length∧u.length≤8∧l.length=u.length∧0≤w∧w≤2
structure Ok (u l:List Int) (w:Int) (ls:List Int):Prop where
 n3:3≤u.length
 n8:u.length≤8
 len:l.length=u.length
 hu:∀ x∈u,0≤x∧x≤9
 hl:∀ x∈l,0≤x∧x≤9
 w0:0≤w
 w2:w≤2
 ne:ls≠[]
 Ad:∀ x∈ls,0≤x∧x≤3
 U5:ls.Pairwise (· < ·)
def uJ (a b:Int):Int:=IntKind.i64.wrap ((BitVec.ofInt 64 a ^^^ BitVec.ofInt 64 b).toNat:Int)
def ej (y:Int) (ls:List Int) (i:Nat):List Int:=((List.range i).map Int.ofNat).filter fun x=>decide (uJ x y∈ls)
theorem KA {y:Int} {ls:List Int} {i:Nat} (h:uJ i y∈ls):ej y ls i++[(i:Int)]=ej y ls (i+1):=by
 simp[ej,List.range_succ,List.filter_append,h]
theorem OQ {y:Int} {ls:List Int} {i:Nat} (h:¬ uJ i y∈ls):ej y ls i=ej y ls (i+1):=by
 simp[ej,List.range_succ,List.filter_append,h]
theorem KB (y:Int) (ls:List Int) (i:Nat):(ej y ls i).length≤i:=by
 unfold ej
 refine Nat.le_trans (List.length_filter_le _ _) ?_
 simp
theorem Br (y:Int) (ls:List Int) (i:Nat):(ej y ls i).Pairwise (· < ·):=by
 unfold ej
 refine List.Pairwise.filter _ ?_
 rw[List.pairwise_map]
 exact(List.pairwise_lt_range (n:=i)).imp fun h=>Int.ofNat_lt.2 h
def ox (cM x:Int):Bool:=decide (0≤x∧x≤cM)
theorem SE {cM:Int} {l:List Int} {i:Nat} (h:i<l.length) (h1:(l.take i).all (ox cM)=true) (h2:ox cM (l.getD i 0)=true):(l.take (i+1)).all (ox cM)=true:=by
 rw[take_one h,List.all_append,h1,List.all_cons,h2]; rfl
theorem RL {cM:Int} {l:List Int} {i:Nat} (h:i<l.length) (h2:ox cM (l.getD i 0)=false):l.all (ox cM)=false:=by
 refine Bool.eq_false_iff.2 fun h1 => ?_
 rw[List.all_eq_true.1 h1 _ (iU h)] at h2
 cases h2
def j9 (ls:List Int) (i:Nat):Int:=if i<ls.length then (if ls.getD i 0<0∨3<ls.getD i 0 then 8 else if 0<i∧ls.getD i 0≤ls.getD (i-1) 0 then 5 else j9 ls (i+1)) else 0
 termination_by ls.length-i
def nY (u l:List Int) (w:Int) (ls:List Int):Int :=
 if u.length<3 then 7 else if 8<u.length then 6 else if l.length<u.length then 7 else if u.length<l.length then 6
 else if u.all (ox 9)=false∨l.all (ox 9)=false∨w<0∨2<w then 1 else if ls.length=0 then 7 else j9 ls 0
theorem Mp {ls:List Int} {i:Nat} (h:i<ls.length) (h1:ls.getD i 0<0∨3<ls.getD i 0):j9 ls i=8:=by rw[j9,if_pos h,if_pos h1]
theorem TQ {ls:List Int} {i:Nat} (h:i<ls.length) (h1:¬ (ls.getD i 0<0∨3<ls.getD i 0)) (h2:0<i∧ls.getD i 0≤ls.getD (i-1) 0):j9 ls i=5:=by rw[j9,if_pos h,if_neg h1,if_pos h2]
theorem yN {ls:List Int} {i:Nat} (h:i<ls.length) (h1:¬ (ls.getD i 0<0∨3<ls.getD i 0)) (h2:¬ (0<i∧ls.getD i 0≤ls.getD (i-1) 0)):j9 ls i=j9 ls (i+1):=by
 conv=>lhs; rw[j9]
 rw[if_pos h,if_neg h1,if_neg h2]
theorem TS {ls:List Int} {i:Nat} (h:¬ i<ls.length):j9 ls i=0:=by rw[j9,if_neg h]
theorem Su {u l:List Int} {w:Int} {ls:List Int} (h1:¬ u.length<3) (h2:¬ 8<u.length) (h3:¬ l.length<u.length) (h4:¬ u.length<l.length) (h5:(!u.all (ox 9))=false) (h6:(!l.all (ox 9))=false) (h7:¬ w<0) (h8:¬ 2<w) (h9:ls.length≠0):nY u l w ls=j9 ls 0:=by
 simp only[Bool.not_eq_eq_eq_not,Bool.not_false] at h5 h6
 rw[nY,if_neg h1,if_neg h2,if_neg h3,if_neg h4,if_neg (by rw[h5,h6]; simp[h7,h8]),if_neg h9]
abbrev PD:Type:=aU.den
abbrev pd (u l:List Int) (w:Int) (ls:List Int):PD:=(u,l,w,ls,())
def DG (p:PD):Int:=nY p.1 p.2.1 p.2.2.1 p.2.2.2.1
def fP:List PD→Int
 | []=>0
 | p::l=>if DG p≠0 then DG p else fP l
theorem wN {l m:List PD} (h:fP l=0):fP (l++m)=fP m:=by
 induction l with
 | nil=>rfl
 | cons p l ih =>
  simp only[fP] at h ⊢
  split at h
  ·rename_i h1; exact(h1 h).elim
  ·rename_i h1; simp only[List.cons_append,fP,if_neg h1]; exact ih h
theorem Sv {l:List PD} {i:Nat} {d:PD} (h:i<l.length) (h1:fP (l.take i)=0) (h2:DG (l.getD i d)≠0):fP l=DG (l.getD i d):=by
 have e:l.getD i d=l[i]:=by simp[List.getD_eq_getElem?_getD,h]
 rw[e] at h2 ⊢
 conv=>lhs; rw[← List.take_append_drop i l,List.drop_eq_getElem_cons h]
 rw[wN h1,fP,if_pos h2]
theorem O9 {l:List PD} {i:Nat} {d:PD} (h:i<l.length) (h1:fP (l.take i)=0) (h2:DG (l.getD i d)=0):fP (l.take (i+1))=0:=by
 have e:l.getD i d=l[i]:=by simp[List.getD_eq_getElem?_getD,h]
 rw[e] at h2
 rw[← List.take_append_getElem h,wN h1,fP,if_neg (by simp[h2])]; rfl
def ny (p:PD):Prop:=p.1.length≤1000∧p.2.1.length≤1000∧p.2.2.2.1.length≤1000
theorem OV {P:PD→Prop} {l:List PD} {i:Nat} {d:PD} (h:i<l.length) (hl:∀ p∈l,P p):P (l.getD i d):=by
 have e:l.getD i d=l[i]:=by simp[List.getD_eq_getElem?_getD,h]
 rw[e]; exact hl _ (List.getElem_mem _)
abbrev Y4 (u l:List Int):TV := .agg [.sl bX u .no,.sl bX l .no]
def kG (l:List Int):Prop:=∀ x∈l,0≤x∧x≤9
theorem Cj {l:List Int} {i:Nat} (h:kG l) (hi:i<l.length):0≤l.getD i 0∧l.getD i 0≤9:=h _ (iU hi)
def kg (la ub:List Int) (s:Int):Nat→List Int
 | 0=>[]
 | i+1=>if 0≤(i:Int)+s∧(i:Int)+s<la.length then kg la ub s i++[ub.getD i 0+la.getD ((i:Int)+s).toNat 0] else kg la ub s i
def SL (st:Int×Int×Int) (x:Int):Int×Int×Int:=(if x<(if st.2.2=0 then x else st.1) then x else (if st.2.2=0 then x else st.1),if x>(if st.2.2=0 then x else st.2.1) then x else (if st.2.2=0 then x else st.2.1),st.2.2+1)
def vE (l:List Int):Int×Int×Int:=l.foldl SL (0,0,0)
theorem NT {l:List Int} {lo hi m x:Int} (h:vE l=(lo,hi,m)) (h0:m=0):vE (l++[x])=(if x<x then x else x,if x>x then x else x,m+1):=by
 subst h0
 rw[vE,List.foldl_append,← vE,h]; rfl
theorem JK {l:List Int} {lo hi m x:Int} (h:vE l=(lo,hi,m)) (h0:m≠0):vE (l++[x])=(if x<lo then x else lo,if x>hi then x else hi,m+1):=by
 rw[vE,List.foldl_append,← vE,h]
 simp only[List.foldl_cons,List.foldl_nil,SL,if_neg h0]
theorem BG {la ub:List Int} {s:Int} (h:s ≤ -(ub.length:Int)∨(la.length:Int)≤s):kg la ub s ub.length=[]:=by
 have key:∀ i,i≤ub.length→kg la ub s i=[]:=by
  intro i
  induction i with
  | zero=>intro _; rfl
  | succ i ih=>intro hi; rw[kg,if_neg (by omega)]; exact ih (by omega)
 exact key _ (Nat.le_refl _)
abbrev stA (la ub:List Int) (s:Int):Int×Int×Int:=vE (kg la ub s ub.length)
def Gy (la ub:List Int) (bH s:Int):Bool:=decide (3≤(vE (kg la ub s ub.length)).2.2∧(vE (kg la ub s ub.length)).2.1-(vE (kg la ub s ub.length)).1≤bH)
def AB (la ub:List Int) (bH:Int) (k:Nat):List Int:=((List.range k).map fun(j:Nat)=>(j:Int)-(ub.length:Int)).filter (Gy la ub bH)
theorem Rh {la ub:List Int} {bH:Int} {k:Nat} (h:Gy la ub bH ((k:Int)-(ub.length:Int))=true):AB la ub bH k++[(k:Int)-(ub.length:Int)]=AB la ub bH (k+1):=by
 simp[AB,List.range_succ,List.filter_append,h]
theorem MU {la ub:List Int} {bH:Int} {k:Nat} (h:Gy la ub bH ((k:Int)-(ub.length:Int))=false):AB la ub bH k=AB la ub bH (k+1):=by
 simp[AB,List.range_succ,List.filter_append,h]
theorem Ri (la ub:List Int) (bH:Int) (k:Nat):(AB la ub bH k).length≤k:=by
 unfold AB
 refine Nat.le_trans (List.length_filter_le _ _) ?_
 simp
theorem WE {l:List Int} (h:∀ x∈l,0≤x∧x≤18):0≤(vE l).1∧(vE l).1≤18∧0≤(vE l).2.1∧(vE l).2.1≤18∧0≤(vE l).2.2:=by
 have key:∀ (l:List Int) (st:Int×Int×Int),(∀ x∈l,0≤x∧x≤18)→(0≤st.1∧st.1≤18∧0≤st.2.1∧st.2.1≤18∧0≤st.2.2)→0≤(l.foldl SL st).1∧(l.foldl SL st).1≤18∧0≤(l.foldl SL st).2.1∧(l.foldl SL st).2.1≤18∧0≤(l.foldl SL st).2.2:=by
  intro l
  induction l with
  | nil=>intro st _ h; exact h
  | cons x l ih =>
   intro st hx h
   have h1:=hx x (by simp)
   refine ih _ (fun y hy=>hx y (by simp[hy])) ?_
   obtain⟨a,b,c⟩:=st
   simp only[SL] at h ⊢
   refine⟨?_,?_,?_,?_,?_⟩<;>(repeat' split)<;>omega
 exact key l _ h (by simp)
theorem CP {la ub:List Int} {s:Int} (h1:kG la) (h2:kG ub):∀ i,i≤ub.length→∀ x∈kg la ub s i,0≤x∧x≤18
 | 0,_,x,hx=>by cases hx
 | i+1,hi,x,hx=>by
  rw[kg] at hx
  split at hx
  ·rename_i hc
   rcases List.mem_append.1 hx with hx | hx
   ·exact CP h1 h2 i (by omega) x hx
   ·rw[List.mem_singleton] at hx
    have k1:=Cj h2 (i:=i) (by omega)
    have k2:=Cj h1 (i:=((i:Int)+s).toNat) (by omega)
    omega
  ·exact CP h1 h2 i (by omega) x hx
theorem Gb {la ub:List Int} (s:Int) (h1:kG la) (h2:kG ub):0≤(stA la ub s).1∧(stA la ub s).1≤18∧0≤(stA la ub s).2.1∧(stA la ub s).2.1≤18∧0≤(stA la ub s).2.2:=WE (CP h1 h2 _ (Nat.le_refl _))
theorem xF {m:Int} {l:List Int}:l.all (ox m)=true↔∀ x∈l,0≤x∧x≤m:=by simp[ox]
theorem Bq {ls:List Int}:∀ (n i:Nat),ls.length-i=n→(j9 ls i=0↔∀ j,i≤j→j<ls.length→(0≤ls.getD j 0∧ls.getD j 0≤3)∧(0<j→ls.getD (j-1) 0<ls.getD j 0)):=by
 intro n
 induction n with
 | zero=>intro i h; rw[TS (by omega)]; exact⟨fun _ j h1 h2=>by omega,fun _=>rfl⟩
 | succ n ih =>
  intro i h
  by_cases h1:ls.getD i 0<0∨3<ls.getD i 0
  ·rw[Mp (by omega) h1]
   exact⟨fun e=>by omega,fun e=>by have:=(e i (Nat.le_refl _) (by omega)).1; omega⟩
  ·by_cases h2:0<i∧ls.getD i 0≤ls.getD (i-1) 0
   ·rw[TQ (by omega) h1 h2]
    exact⟨fun e=>by omega,fun e=>by have:=(e i (Nat.le_refl _) (by omega)).2 h2.1; omega⟩
   ·rw[yN (by omega) h1 h2,ih (i+1) (by omega)]
    refine⟨fun e j hj sU => ?_,fun e j hj sU=>e j (by omega) sU⟩
    by_cases HI:j=i
    ·subst HI; exact⟨by omega,fun h3=>by omega⟩
    ·exact e j (by omega) sU
theorem XC {ls:List Int} (h:∀ j,0<j→j<ls.length→ls.getD (j-1) 0<ls.getD j 0):ls.Pairwise (· < ·):=by
 rw[List.pairwise_iff_getElem]
 have key:∀ j i,i<j→(hj:j<ls.length)→ls.getD i 0<ls.getD j 0:=by
  intro j
  induction j with
  | zero=>intro i hi; omega
  | succ j ih =>
   intro i hi hj
   have h1:=h (j+1) (by omega) hj
   simp only[Nat.add_sub_cancel] at h1
   by_cases e:i=j
   ·subst e; exact h1
   ·have:=ih i (by omega) (by omega); omega
 intro i j hi hj HI
 have:=key j i HI hj
 rwa [kB hi,kB hj] at this
theorem W9 {ls:List Int} (h:ls.Pairwise (· < ·)) {j:Nat} (h0:0<j) (hj:j<ls.length):ls.getD (j-1) 0<ls.getD j 0:=by
 rw[List.pairwise_iff_getElem] at h
 rw[kB hj,kB (by omega)]
 exact h _ _ _ _ (by omega)
theorem yo {u l:List Int} {w:Int} {ls:List Int}:nY u l w ls=0↔Ok u l w ls:=by
 unfold nY
 constructor
 ·intro h
  split at h; omega
  split at h; omega
  split at h; omega
  split at h; omega
  split at h; omega
  split at h; omega
  rename_i h1 h2 h3 h4 h5 h6
  simp only[not_or,Bool.not_eq_false] at h5
  have hz:=(Bq _ 0 rfl).1 h
  refine⟨by omega,by omega,by omega,xF.1 h5.1,xF.1 h5.2.1,by omega,by omega,fun e=>h6 (by rw[e]; rfl),fun x hx => ?_,XC fun j hj sU=>(hz j (Nat.zero_le _) sU).2 hj⟩
  obtain⟨j,hj,rfl⟩:=List.getElem_of_mem hx
  have:=(hz j (Nat.zero_le _) hj).1
  rwa [kB hj] at this
 ·intro h
  have h1:=h.n3
  have h2:=h.n8
  have h3:=h.len
  have h4:=h.w0
  have h5:=h.w2
  have h6:ls.length≠0:=fun e=>h.ne (List.eq_nil_of_length_eq_zero e)
  rw[if_neg (by omega),if_neg (by omega),if_neg (by omega),if_neg (by omega),if_neg (by rw[xF.2 h.hu,xF.2 h.hl]; simp; omega),if_neg h6]
  exact(Bq _ 0 rfl).2 fun j _ hj=>⟨h.Ad _ (iU hj),fun h0=>W9 h.U5 h0 hj⟩
def Sh (u l ls:List Int):Prop:=u.length≤1000∧l.length≤1000∧ls.length≤1000
theorem WJ {ua la HA ub lb Hy:List Int} {wa wb:Int} (h1:Sh ua la HA) (h2:Sh ub lb Hy):∀ p∈[pd ua la wa HA,pd ub lb wb Hy],ny p:=by
 intro p hp
 simp only[List.mem_cons,List.not_mem_nil,or_false] at hp
 rcases hp with rfl | rfl
 ·exact h1
 ·exact h2
theorem NH {ua la HA ub lb Hy:List Int} {wa wb:Int} (h1:Ok ua la wa HA) (h2:Ok ub lb wb Hy):fP [pd ua la wa HA,pd ub lb wb Hy]=0:=by
 have e1:DG (pd ua la wa HA)=0:=yo.2 h1
 have e2:DG (pd ub lb wb Hy)=0:=yo.2 h2
 simp[fP,e1,e2]
theorem Ok.num {u l:List Int} {w:Int} {ls:List Int} (h:Ok u l w ls):(3≤u.length∧u.length≤8∧l.length=u.length∧0≤w∧w≤2)∧kG u∧kG l:=⟨⟨h.n3,h.n8,h.len,h.w0,h.w2⟩,h.hu,h.hl⟩
def adG (la ub:List Int) (wa wb s:Int):GA.den:=((vE (kg la ub s ub.length)).2.1,(vE (kg la ub s ub.length)).1+wa+wb,())
theorem xW {u l:List Int} {w:Int} {ls:List Int} (h:Ok u l w ls):Sh u l ls:=by
 refine⟨by have:=h.n8; omega,by have:=h.n8; have:=h.len; omega,?_⟩
 have key:∀ (ls:List Int) (m:Int),m≤4→(∀ x∈ls,m≤x∧x≤3)→ls.Pairwise (· < ·)→(ls.length:Int)≤4-m:=by
  intro ls
  induction ls with
  | nil=>intro m hm _ _; simp; omega
  | cons x ls ih =>
   intro m hm h1 h2
   rw[List.pairwise_cons] at h2
   have h3:=h1 x (by simp)
   have:=ih (x+1) (by omega) (fun y hy=>⟨by have:=h2.1 y hy; omega,(h1 y (by simp[hy])).2⟩) h2.2
   simp only[List.length_cons]
   omega
 have:=key ls 0 (by omega) h.Ad h.U5
 omega
def acu (la ub:List Int) (s:Int) (i:Nat):Option Int:=if 0≤(i:Int)+s∧(i:Int)+s<la.length then some (ub.getD i 0+la.getD ((i:Int)+s).toNat 0) else none
def bO (n:Int) (u l:List Int):List Int:=if n=1 then l.reverse else if n=2 then u.reverse else if n=3 then l else u
def bP (n:Int) (u l:List Int):List Int:=if n=1 then u.reverse else if n=2 then l.reverse else if n=3 then u else l
theorem OC {l a l1:List Int} {w:Int} {ls:List Int} (h:Ok a l1 w ls) (hn:l1.length=l.length) (hl:kG l):Ok (l.map (9-·)) l1 w ls where
 n3:=by have:=h.n3; have:=h.len; simp; omega
 n8:=by have:=h.n8; have:=h.len; simp; omega
 len:=by simp; omega
 hu:=fun x hx=>by
  simp only[List.mem_map] at hx
  obtain⟨y,hy,rfl⟩:=hx
  have:=hl y hy
  omega
 hl:=h.hl
 w0:=h.w0
 w2:=h.w2
 ne:=h.ne
 Ad:=h.Ad
 U5:=h.U5
def adE (la ub:List Int) (w s:Int):Int×Int×Int:=if (stA la ub s).2.2<3 then (0,0,7) else if (stA la ub s).2.1-(stA la ub s).1>w then (0,0,11) else ((stA la ub s).2.1,(stA la ub s).1+w,0)
end Go.Tv
end
section
namespace Go.Tv
open Go Go.Di Go.Proofs
set_option maxRecDepth 100000
def D53:List TV→Dn
  | [.sl (.int .i64) l .no,.val (.int .i64 x)]=>some ([l.length≤1000],.res (nu (decide (x∈l))) [] [],[(3,.ex Nat fun i => .st { sl:=[(5,bp i)],dX:=[i≤l.length,x ∉ l.take i],m:=l.length-i })])
  | _=>none
theorem v53:VI T0 Tryz.f97 [some .bool] D53:=by
  intro a p s j h hp
  unfold D53 at h
  split at h<;>cases h
  rename_i l x
  have h1:=hp.1
  refine sP (A:=(∃ (a:Nat),(0:Int)=(↑a:Int)∧a≤l.length∧¬x∈List.take a l∧l.length-a<(1000000:Nat))∧∀ (a:Nat),a≤l.length→¬x∈List.take a l→aM (decide ((↑a:Int)<(↑l.length:Int))) (((0:Int)≤(↑a:Int)∧(↑a:Int)<(↑l.length:Int))∧aM (l.getD a (0:Int)==x) (true=decide (x∈l)∧True) (dg ((↑a:Int)+(1:Int))∧∃ (a_3:Nat),l=l∧x=x∧(↑a:Int)+(1:Int)=(↑a_3:Int)∧a_3≤l.length∧¬x∈List.take a_3 l∧l.length-a_3<l.length-a)) (false=decide (x∈l)∧True)) (by kernel_rfl) ?_
  simp only[bU,cV,dI,eM,gR,dg,and_true,true_and,eq_self]
  refine⟨⟨0,by omega,by omega,by simp,by omega⟩,fun i h2 h3=>⟨fun h4=>⟨by omega,fun h5 => ?_,fun h5=>⟨by omega,i+1,by omega,by omega,?_,by omega⟩⟩,fun h4 => ?_⟩⟩
  · rw[decide_eq_true]; rw[← h5]; exact iU (by omega)
  · rw[take_one (by omega)]; simp only[List.mem_append,List.mem_singleton,not_or]; exact⟨h3,fun e=>h5 e.symm⟩
  · rw[show i=l.length by omega,List.take_length] at h3; rw[decide_eq_false h3]
def D52:List TV→Dn
  | [.sl (.int .i64) l .no]=>some ([l.length≤1000],.res (.sl bX l.reverse .no) [] [],[(4,.ex Nat fun i => .st { sl:=[(3,.sl bX ((l.drop i).reverse) (.qA 0)),(4,bp ((i:Nat)-1:Int))],own:=[(3,1)],dX:=[i≤l.length],m:=i })])
  | _=>none
theorem v52:VI T0 Tryz.f119 [some cB] D52:=by
  intro a p s j h hp
  unfold D52 at h
  split at h<;>cases h
  rename_i l
  have h1:=hp.1
  refine sP (A:=dg ((↑l.length:Int)-(1:Int))∧(∃ (a:Nat),[]=(List.drop a l).reverse∧(↑l.length:Int)-(1:Int)=(↑a:Int)-(1:Int)∧a≤l.length∧a<(1000000:Nat))∧∀ (a:Nat),a≤l.length→aM (decide ((↑a:Int)-(1:Int)≥(0:Int))) (((0:Int)≤(↑a:Int)-(1:Int)∧(↑a:Int)-(1:Int)<(↑l.length:Int))∧(List.drop a l).reverse.length+(1:Nat)≤(1000000000:Nat)∧dg ((↑a:Int)-(1:Int)-(1:Int))∧∃ (a_2:Nat),l=l∧rD bX.den∧(List.drop a l).reverse++[l.getD ((↑a:Int)-(1:Int)).toNat (0:Int)]=(List.drop a_2 l).reverse∧(↑a:Int)-(1:Int)-(1:Int)=(↑a_2:Int)-(1:Int)∧a_2≤l.length∧a_2<a) ((List.drop a l).reverse=l.reverse∧True)) (by kernel_rfl) ?_
  simp only[bU,cV,dI,eM,gR,dg,and_true,true_and,eq_self]
  refine⟨by omega,⟨l.length,by simp,by omega,by omega,by omega⟩,fun i h2=>⟨fun h3=>⟨by omega,by simp; omega,by omega,i-1,?_,by omega,by omega,by omega⟩,fun h3 => ?_⟩⟩
  · obtain⟨j,rfl⟩:∃ j,i=j+1:=⟨i-1,by omega⟩
    rw[show ((j+1:Nat):Int)-1=(j:Int) by omega,Int.toNat_natCast,drop_one (by omega)]; rfl
  · rw[show i=0 by omega,List.drop_zero]
def D97:List TV→List TV→Dn
  | [.val (.int .i64 x),.ptr 0 0],[.val (.int .i64 cM)]=>some ([],.res (nu (!ox cM x)) [bp cM] [],[])
  | _,_=>none
theorem v97:VC T0 Tryz.f121 [some .bool] [some bX] D97:=by
  intro a cs p s j h hp
  unfold D97 at h
  split at h<;>cases h
  rename_i x cM
  refine sP (A:=aM (decide (x<(0:Int))) (true = !ox cM x∧cM=cM∧True) (decide (x>cM) = !ox cM x∧cM=cM∧True)) (by kernel_rfl) ?_
  simp only[bU,cV,dI,eM,gR,dg,and_true,true_and,eq_self]
  refine⟨fun h => ?_,fun h => ?_⟩
  · rw[ox,decide_eq_false (by omega)]; rfl
  · rw[ox,← decide_not,decide_eq_decide]; omega
def T1:gN:=((T0.fR 97 fun a=>dS (D53 a)).fR 119 fun a=>dS (D52 a)).mD 121 fun a c=>dS (D97 a c)
def We:List TV→List TV→Dn
  | [.sl (.int .i64) l .no,.fn 121 [] [.ptr 0 0]],[.val (.int .i64 cM)]=>some ([l.length≤1000],.ex Int fun k => .res (bp k) [bp cM] [if l.all (ox cM) then k = -1 else 0≤k],[(3,.ex Nat fun i => .st { sl:=[(8,bp i)],dX:=[i≤l.length,(l.take i).all (ox cM)=true],m:=l.length-i })])
  | _,_=>none
theorem v109:VC T1 Tryz.f132 [some bX] [some bX] We:=by
  intro a cs p s j h hp
  unfold We at h
  split at h<;>cases h
  rename_i l cM
  have h1:=hp.1
  refine sP (A:=(∃ (a:Nat),(0:Int)=(↑a:Int)∧a≤l.length∧(List.take a l).all (ox cM)=true∧l.length-a<(1000000:Nat))∧∀ (a:Nat),a≤l.length→(List.take a l).all (ox cM)=true→aM (decide ((↑a:Int)<(↑l.length:Int))) (((0:Int)≤(↑a:Int)∧(↑a:Int)<(↑l.length:Int))∧aM (!ox cM (l.getD a (0:Int))) (∃ (a_3:Int),(↑a:Int)=a_3∧cM=cM∧(if l.all (ox cM)=true then a_3=(-1:Int) else (0:Int)≤a_3)∧True) (dg ((↑a:Int)+(1:Int))∧∃ (a_3:Nat),l=l∧(↑l.length:Int)=(↑l.length:Int)∧(↑a:Int)+(1:Int)=(↑a_3:Int)∧cM=cM∧a_3≤l.length∧(List.take a_3 l).all (ox cM)=true∧l.length-a_3<l.length-a)) (∃ (a:Int),(-1:Int)=a∧cM=cM∧(if l.all (ox cM)=true then a=(-1:Int) else (0:Int)≤a)∧True)) (by kernel_rfl) ?_
  simp only[bU,cV,dI,eM,gR,dg,and_true,true_and,eq_self]
  refine⟨⟨0,by omega,by omega,by simp,by omega⟩,fun i h2 h3=>⟨fun h4=>⟨by omega,?_⟩,fun h4 => ?_⟩⟩
  · rw[nv]
    refine⟨fun h5=>⟨by omega,i+1,by omega,by omega,SE (by omega) h3 h5,by omega⟩,fun h5=>⟨_,rfl,?_⟩⟩
    rw[RL (i:=i) (by omega) h5]; simp
  · rw[show i=l.length by omega,List.take_length] at h3; exact⟨_,rfl,by rw[h3]; simp⟩
def D16:List TV→Dn
  | [.agg [.sl (.int .i64) u .no,.sl (.int .i64) l .no,.val (.int .i64 w),.sl (.int .i64) ls .no],.val (.int .i64 n)]=>some ([u.length≤1000,l.length≤1000,ls.length≤1000,0≤n,n≤3],.res (Uz (bO n u l) (bP n u l) w (ej n ls 4)) [] [],
    [(2,.ex (List Int) fun u1 => .ex (List Int) fun l1 => .st { sl:=[(5,.ptr 13 0)],pl:=[(13,[.sl bX u1 .no,.sl bX l1 .no,bp w,.ei])],dX:=[u1=if n=1∨n=3 then l.reverse else u,l1=if n=1∨n=3 then u.reverse else l] }),
     (4,.st { sl:=[(5,.ptr 13 0)],pl:=[(13,[.sl bX (bO n u l) .no,.sl bX (bP n u l) .no,bp w,.ei])] }),
     (8,.ex Nat fun i => .st { sl:=[(6,bp i)],pl:=[(13,[.sl bX (bO n u l) .no,.sl bX (bP n u l) .no,bp w,.sl bX (ej n ls i) (.qA 14)])],own:=[(3,1)],dX:=[i≤4],m:=4-i })])
  | _=>none
theorem v16:VI T1 Tryz.f81 [some aU] D16:=by
  intro a p s j h hp
  unfold D16 at h
  split at h<;>cases h
  rename_i u l w ls n
  obtain⟨h1,h2,h3,h4,h5,-⟩:=hp
  refine sP (A:=(0:Nat)+u.length≤(1000000000:Nat)∧(0:Nat)+l.length≤(1000000000:Nat)∧aM (n==(1:Int)) (l.length≤(1000:Nat)∧u.length≤(1000:Nat)∧∃ (a:List Int),∃ (a_1:List Int),n=n∧u=u∧l=l∧w=w∧ls=ls∧(0:Int)=(0:Int)∧l.reverse=a∧u.reverse=a_1∧w=w∧(a=if n=(1:Int)∨n=(3:Int) then l.reverse else u)∧(a_1=if n=(1:Int)∨n=(3:Int) then u.reverse else l)∧True) (aM (n==(3:Int)) (l.length≤(1000:Nat)∧u.length≤(1000:Nat)∧∃ (a:List Int),∃ (a_1:List Int),n=n∧u=u∧l=l∧w=w∧ls=ls∧(0:Int)=(0:Int)∧l.reverse=a∧u.reverse=a_1∧w=w∧(a=if n=(1:Int)∨n=(3:Int) then l.reverse else u)∧(a_1=if n=(1:Int)∨n=(3:Int) then u.reverse else l)∧True) (∃ (a:List Int),∃ (a_1:List Int),n=n∧u=u∧l=l∧w=w∧ls=ls∧(0:Int)=(0:Int)∧u=a∧l=a_1∧w=w∧(a=if n=(1:Int)∨n=(3:Int) then l.reverse else u)∧(a_1=if n=(1:Int)∨n=(3:Int) then u.reverse else l)∧True))∧∀ (a a_1:List Int),(a=if n=(1:Int)∨n=(3:Int) then l.reverse else u)→(a_1=if n=(1:Int)∨n=(3:Int) then u.reverse else l)→aM (n==(2:Int)) (a.length≤(1000:Nat)∧a_1.length≤(1000:Nat)∧n=n∧u=u∧l=l∧w=w∧ls=ls∧(0:Int)=(0:Int)∧a.reverse=bO n u l∧a_1.reverse=bP n u l∧w=w∧True) (aM (n==(3:Int)) (a.length≤(1000:Nat)∧a_1.length≤(1000:Nat)∧n=n∧u=u∧l=l∧w=w∧ls=ls∧(0:Int)=(0:Int)∧a.reverse=bO n u l∧a_1.reverse=bP n u l∧w=w∧True) (n=n∧u=u∧l=l∧w=w∧ls=ls∧(0:Int)=(0:Int)∧a=bO n u l∧a_1=bP n u l∧w=w∧True))∧(∃ (a:Nat),(0:Int)=(↑a:Int)∧bO n u l=bO n u l∧bP n u l=bP n u l∧w=w∧[]=ej n ls a∧a≤(4:Nat)∧(4:Nat)-a<(1000000:Nat))∧∀ (a:Nat),a≤(4:Nat)→aM (decide ((↑a:Int)≤(3:Int))) (ls.length≤(1000:Nat)∧aM (decide (IntKind.i64.wrap (↑(BitVec.ofInt (64:Nat) (↑a:Int) ^^^ BitVec.ofInt (64:Nat) n).toNat:Int)∈ls)) ((ej n ls a).length+(1:Nat)≤(1000000000:Nat)∧dg ((↑a:Int)+(1:Int))∧∃ (a_5:Nat),n=n∧(↑a:Int)+(1:Int)=(↑a_5:Int)∧u=u∧l=l∧w=w∧ls=ls∧(0:Int)=(0:Int)∧bO n u l=bO n u l∧bP n u l=bP n u l∧w=w∧ej n ls a++[(↑a:Int)]=ej n ls a_5∧a_5≤(4:Nat)∧(4:Nat)-a_5<(4:Nat)-a) (dg ((↑a:Int)+(1:Int))∧∃ (a_5:Nat),n=n∧(↑a:Int)+(1:Int)=(↑a_5:Int)∧u=u∧l=l∧w=w∧ls=ls∧(0:Int)=(0:Int)∧bO n u l=bO n u l∧bP n u l=bP n u l∧w=w∧ej n ls a=ej n ls a_5∧a_5≤(4:Nat)∧(4:Nat)-a_5<(4:Nat)-a)) (bO n u l=bO n u l∧bP n u l=bP n u l∧w=w∧ej n ls a=ej n ls (4:Nat)∧True)) (by kernel_rfl) ?_
  simp only[bU,cV,dI,dg,and_true,true_and,eq_self]
  refine⟨by omega,by omega,⟨fun e=>⟨h2,h1,_,_,rfl,rfl,by simp[e],by simp[e]⟩,fun e=>⟨fun e1=>⟨h2,h1,_,_,rfl,rfl,by simp[e1],by simp[e1]⟩,fun e1=>⟨_,_,rfl,rfl,by simp[e,e1],by simp[e,e1]⟩⟩⟩,?_⟩
  rintro _ _ rfl rfl
  refine⟨⟨fun e=>⟨by split<;>simp_all,by split<;>simp_all,by simp[e,bO],by simp[e,bP]⟩,fun e=>⟨fun e1=>⟨by split<;>simp_all,by split<;>simp_all,by simp[e1,bO],by simp[e1,bP]⟩,fun e1=>⟨by simp[e,e1,bO],by simp[e,e1,bP]⟩⟩⟩,⟨0,rfl,rfl,by omega,by omega⟩,fun i hi=>⟨fun h=>⟨h3,?_⟩,fun h=>by rw[show i=4 by omega]⟩⟩
  have hx:=KB n ls i
  change (uJ i n∈ls→_)∧(¬ uJ i n∈ls→_)
  exact⟨fun h=>⟨by omega,by omega,i+1,by omega,KA h,by omega,by omega⟩,fun h=>⟨by omega,i+1,by omega,OQ h,by omega,by omega⟩⟩
section
variable {aZ:bn} (tk:oF aZ)
include tk
theorem Vd:lE aZ 1 T1:=De (iM tk) Tryz.func121 rfl v97 (wO tk (iM tk) (by decide) Tryz.func119 rfl v52 (wO tk (iM tk) (by decide) Tryz.func97 rfl v53 (gU (iM tk))))
end
end Go.Tv
end
