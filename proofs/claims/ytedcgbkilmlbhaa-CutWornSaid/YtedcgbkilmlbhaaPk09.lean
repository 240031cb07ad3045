import Derived.Test.YtedcgbkilmlbhaaPk08
section
namespace Go.Tv
open Go Go.Di Go.Proofs
abbrev Dn := Option (List Prop × qO × List (Nat × LA))
def dS (d : Dn) : Sp := d.map fun x => (x.1, x.2.1)
def dJ (d : Dn) : List (Nat × LA) := match d with
 | some x => x.2.2
 | none => []
def VI (T : gN) (f : Func) (kz : List (Option TT)) (D : List TV → Dn) (d : Nat := 0) : Prop := ∀ a p s j, D a = some (p, s, j) → cI p → vcI T d f kz j a s
def VC (T : gN) (f : Func) (kz mV : List (Option TT)) (D : List TV → List TV → Dn) (d : Nat := 0) : Prop := ∀ a cs p s j, D a cs = some (p, s, j) → cI p → aag T d f kz mV j a cs s
def VN (T : gN) (f : Func) (mV : List (Option TT)) (D : List TV → Dn) (d : Nat := 0) : Prop := ∀ a p s j, D a = some (p, s, j) → cI p → vcN T d f mV j a s
def dV (d : Dn) (K : qO → List (Nat × LA) → Prop) : Prop :=
 match d with
 | some (p, s, j) => cI p → K s j
 | none => True
structure Hd (p : Prop) : Prop where
 h : p
theorem G3 {A B : Prop} (h : A = B) (a : A) : Hd B := ⟨h ▸ a⟩
theorem nN {T : gN} {f : Func} {kz : List (Option TT)} {D : List TV → Dn} {d : Nat} (h : ∀ a, dV (D a) fun s j => Hd (vcI T d f kz j a s)) : VI T f kz D d := fun a p s j hd hp => by
 have := h a
 rw [hd] at this
 exact (this hp).h
theorem d_some {d : Dn} {p : List Prop} {s : qO} (h : dS d = some (p, s)) : d = some (p, s, dJ d) := by
 cases d with
 | none => cases h
 | some x => cases h; rfl
variable {aZ : bq} {k : Nat} {T : gN}
theorem uV {fn : Func} (hb : fn.body.isSome = true) : fn.body = some (xD fn) := by unfold xD; revert hb; cases fn.body <;> simp
theorem rV (tk : sC aZ) (hT : lg aZ k T) {f : FuncId} {fn : Func} {kz : List (Option TT)} {D : List TV → Dn} {d : Nat} (hne : f ≠ 33 ∧ f ≠ 83 ∧ f ≠ 13 ∧ f ≠ 67 ∧ f ≠ 0) (hf : Tp.funcs[f]? = some fn) (hb : fn.body.isSome = true) (h : VI T fn kz D d) {T' : gN} (X5 : lg aZ (k + d + 1) T') : lg aZ (k + d + 1) (T'.dQ f fun a => dS (D a)) :=
 Hp X5 fun n a p s hs hp => Oz (n := n + (k + d)) hf (uV hb) (fun _ => tk.other _ _ hne.1 hne.2.1 hne.2.2.1 hne.2.2.2.1 hne.2.2.2.2) ((kE (wQ (nu hT d n)) (BZ hT.1 d (nu hT d n)) _ _ _ _ _ _ (cg _ (h a p s _ (d_some hs) hp))).mono fun _ _ _ hq => Mi (fun _ _ => ZM) hq)
theorem I1 (hT : lg aZ k T) {f : FuncId} {fn : Func} {kz mV : List (Option TT)} {D : List TV → List TV → Dn} {d : Nat} (hf : Tp.funcs[f]? = some fn) (hb : fn.body.isSome = true) (h : VC T fn kz mV D d) {T' : gN} (X5 : lg aZ (k + d + 1) T') : lg aZ (k + d + 1) (T'.qp f fun a c => dS (D a c)) :=
 Y7 X5 fun n a cs p s hs hp => OO (n := n + (k + d)) hf (uV hb) ((kE (wQ (nu hT d n)) (BZ hT.1 d (nu hT d n)) _ _ _ _ _ _ (cg _ (h a cs p s _ (d_some hs) hp))).mono fun _ _ _ hq => Mi (fun _ _ => ZN) hq)
theorem mkN (tk : sC aZ) (hT : lg aZ k T) {f : FuncId} {fn : Func} {mV : List (Option TT)} {D : List TV → Dn} {d : Nat} (hne : f ≠ 33 ∧ f ≠ 83 ∧ f ≠ 13 ∧ f ≠ 67 ∧ f ≠ 0) (hf : Tp.funcs[f]? = some fn) (hb : fn.body.isSome = true) (h : VN T fn mV D d) {T' : gN} (X5 : lg aZ (k + d + 1) T') : lg aZ (k + d + 1) (T'.Qi f fun a => dS (D a)) :=
 Y6 X5 fun n a p s hs hp => Og (n := n + (k + d)) hf (uV hb) (fun _ => tk.other _ _ hne.1 hne.2.1 hne.2.2.1 hne.2.2.2.1 hne.2.2.2.2) ((kE (wQ (nu hT d n)) (BZ hT.1 d (nu hT d n)) _ _ _ _ _ _ (cg _ (h a p s _ (d_some hs) hp))).mono fun _ _ _ hq => Mi (fun _ _ => ZL) hq)
def BC (α : Type) : Prop := ([] : List α) = []
theorem iB {α : Type} : BC α = True := by simp [BC]
theorem sg {A B : Prop} (h : A = B) (a : A) : B := h ▸ a
theorem jH {b : Bool} {A B : Prop} : aL b A B ↔ (b = true → A) ∧ (b = false → B) := by cases b <;> simp [aL]
theorem cZ {p : Prop} [Decidable p] {A B : Prop} : aL (decide p) A B ↔ (p → A) ∧ (¬p → B) := by rw [jH]; simp
theorem eL {b : Bool} {A B : Prop} : aL (!b) A B ↔ aL b B A := by cases b <;> rfl
theorem eu {a c : Int} {A B : Prop} : aL (a == c) A B ↔ (a = c → A) ∧ (¬a = c → B) := by rw [jH]; simp
theorem dK {a c : Int} {A B : Prop} : aL (a != c) A B ↔ (a = c → B) ∧ (¬a = c → A) := by rw [jH]; simp [and_comm]
theorem Y5 {A B : Prop} : aL true A B ↔ A := Iff.rfl
end Go.Tv
end
section
namespace Go.Tv
open Go Go.Di Go.Proofs
set_option maxRecDepth 100000
theorem j3 {l:List Int} {i:Nat} (h:i<l.length):l.getD i 0=l[i]:=by simp[List.getD_eq_getElem?_getD,h]
theorem take_one {l:List Int} {i:Nat} (h:i<l.length):l.take (i+1)=l.take i++[l.getD i 0]:=by
 rw[j3 h,List.take_append_getElem]
theorem drop_one {l:List Int} {i:Nat} (h:i<l.length):(l.drop (i+1)).reverse++[l.getD i 0]=(l.drop i).reverse:=by
 rw[j3 h,List.drop_eq_getElem_cons h,List.reverse_cons]
theorem fT {l:List Int} {i:Nat} (h:i<l.length):l.getD i 0∈l:=by
 rw[j3 h]; exact List.getElem_mem _
def oE (l:List Int) (x:Int):Int:=if x∈l then (l.idxOf x:Int) else -1
theorem Kn {l:List Int} {x:Int} {i:Nat} (h:i<l.length) (h1:x ∉ l.take i) (h2:l.getD i 0=x):oE l x=i:=by
 have hm:x∈l:=by rw[← h2]; exact fT h
 have e:l=l.take i++x::l.drop (i+1):=by
  rw[← h2,j3 h,← List.drop_eq_getElem_cons h,List.take_append_drop]
 rw[oE,if_pos hm]
 congr 1
 conv=>lhs; rw[e]
 rw[List.idxOf_append,if_neg h1,List.idxOf_cons_self,List.length_take]
 omega
abbrev BM (rest:List Int) (last:Int):List TV:=[.sl cv rest .no,.val (.int .u64 last)]
theorem uw (n:Int):IntKind.u64.wrap n=n % 18446744073709551616:=by simp[IntKind.wrap,IntKind.bits,IntKind.signed]
theorem u64_in (n:Int):0≤IntKind.u64.wrap n∧IntKind.u64.wrap n<18446744073709551616:=by rw[uw]; omega
theorem MV (a:Int):a.fdiv 4294967296=a / 4294967296:=Int.fdiv_eq_ediv_of_nonneg _ (by omega)
theorem Tk {x n:Int} (h:IntKind.u64.wrap n=x):0≤x.fdiv 4294967296∧x.fdiv 4294967296<4294967296:=by
 have:=u64_in n
 rw[MV,← h]; omega
theorem SE {k m:Int} (hm:m≤1000) (h0:0<m) (hk:0≤k) (qx:k<4294967296):0≤IntKind.i64.wrap ((IntKind.u64.wrap (k*IntKind.u64.wrap (m+1))).fdiv 4294967296)∧(IntKind.i64.wrap ((IntKind.u64.wrap (k*IntKind.u64.wrap (m+1))).fdiv 4294967296)≤m∨IntKind.i64.wrap ((IntKind.u64.wrap (k*IntKind.u64.wrap (m+1))).fdiv 4294967296)=0):=by
 have h1:k*(m+1)≤4294967295*(m+1):=Int.mul_le_mul_of_nonneg_right (by omega) (by omega)
 have h2:0≤k*(m+1):=Int.mul_nonneg hk (by omega)
 rw[uw (m+1),Int.emod_eq_of_lt (a:=m+1) (by omega) (by omega),MV,uw]
 generalize k*(m+1)=p at *
 rw[Int.emod_eq_of_lt (by omega) (by omega),xI (by omega) (by omega)]
 omega
theorem tB {α:Type} {P:α→Prop} {l:List α} {a:α} (h:∀ x∈l,P x) (ha:P a):∀ x∈l++[a],P x:=by
 intro x hx
 rcases List.mem_append.1 hx with hx | hx
 ·exact h x hx
 ·rw[List.mem_singleton.1 hx]; exact ha
theorem OZ {l:List Int} {a:Int} (h:l.Pairwise (· < ·)) (ha:∀ x∈l,x<a):(l++[a]).Pairwise (· < ·):=by
 rw[List.pairwise_append]
 exact⟨h,List.pairwise_singleton _ _,fun x hx y hy=>by rw[List.mem_singleton.1 hy]; exact ha x hx⟩
theorem Ab {f:Int→Int} {l:List Int} {i:Nat} (h:i<l.length):(l.take i).map f++[f (l.getD i 0)]=(l.take (i+1)).map f:=by
 rw[take_one h,List.map_append]; rfl
abbrev pcV (u l:List Int) (w:Int) (ls:List Int):TV := .agg [.sl cv u .no,.sl cv l .no,bX w,.sl cv ls .no]
abbrev Num (u l:List Int) (w:Int):Prop:=3≤u.length∧u.length≤8∧l.length=u.length∧0≤w∧w≤2
structure Ok (u l:List Int) (w:Int) (ls:List Int):Prop where
 n3:3≤u.length
 n8:u.length≤8
 len:l.length=u.length
 hu:∀ x∈u,0≤x∧x≤9
 hl:∀ x∈l,0≤x∧x≤9
 w0:0≤w
 w2:w≤2
 ne:ls≠[]
 CY:∀ x∈ls,0≤x∧x≤3
 PM:ls.Pairwise (· < ·)
def aW (a b:Int):Int:=IntKind.i64.wrap ((BitVec.ofInt 64 a ^^^ BitVec.ofInt 64 b).toNat:Int)
def dW (y:Int) (ls:List Int) (i:Nat):List Int:=((List.range i).map Int.ofNat).filter fun x=>decide (aW x y∈ls)
theorem Kk {y:Int} {ls:List Int} {i:Nat} (h:aW i y∈ls):dW y ls i++[(i:Int)]=dW y ls (i+1):=by
 simp[dW,List.range_succ,List.filter_append,h]
theorem Ow {y:Int} {ls:List Int} {i:Nat} (h:¬ aW i y∈ls):dW y ls i=dW y ls (i+1):=by
 simp[dW,List.range_succ,List.filter_append,h]
theorem Kl (y:Int) (ls:List Int) (i:Nat):(dW y ls i).length≤i:=by
 unfold dW
 refine Nat.le_trans (List.length_filter_le _ _) ?_
 simp
theorem Km (y:Int) (ls:List Int) (i:Nat):(dW y ls i).Pairwise (· < ·):=by
 unfold dW
 refine List.Pairwise.filter _ ?_
 rw[List.pairwise_map]
 exact(List.pairwise_lt_range (n:=i)).imp fun h=>Int.ofNat_lt.2 h
def oa (cO x:Int):Bool:=decide (0≤x∧x≤cO)
theorem R1 {cO:Int} {l:List Int} {i:Nat} (h:i<l.length) (h1:(l.take i).all (oa cO)=true) (h2:oa cO (l.getD i 0)=true):(l.take (i+1)).all (oa cO)=true:=by
 rw[take_one h,List.all_append,h1,List.all_cons,h2]; rfl
theorem Rc {cO:Int} {l:List Int} {i:Nat} (h:i<l.length) (h2:oa cO (l.getD i 0)=false):l.all (oa cO)=false:=by
 refine Bool.eq_false_iff.2 fun h1 => ?_
 rw[List.all_eq_true.1 h1 _ (fT h)] at h2
 cases h2
def jT (ls:List Int) (i:Nat):Int:=if i<ls.length then (if ls.getD i 0<0∨3<ls.getD i 0 then 8 else if 0<i∧ls.getD i 0≤ls.getD (i-1) 0 then 5 else jT ls (i+1)) else 0
 termination_by ls.length-i
def oe (u l:List Int) (w:Int) (ls:List Int):Int :=
 if u.length<3 then 7 else if 8<u.length then 6 else if l.length<u.length then 7 else if u.length<l.length then 6
 else if u.all (oa 9)=false∨l.all (oa 9)=false∨w<0∨2<w then 1 else if ls.length=0 then 7 else jT ls 0
theorem LY {ls:List Int} {i:Nat} (h:i<ls.length) (h1:ls.getD i 0<0∨3<ls.getD i 0):jT ls i=8:=by rw[jT,if_pos h,if_pos h1]
theorem S3 {ls:List Int} {i:Nat} (h:i<ls.length) (h1:¬ (ls.getD i 0<0∨3<ls.getD i 0)) (h2:0<i∧ls.getD i 0≤ls.getD (i-1) 0):jT ls i=5:=by rw[jT,if_pos h,if_neg h1,if_pos h2]
theorem yh {ls:List Int} {i:Nat} (h:i<ls.length) (h1:¬ (ls.getD i 0<0∨3<ls.getD i 0)) (h2:¬ (0<i∧ls.getD i 0≤ls.getD (i-1) 0)):jT ls i=jT ls (i+1):=by
 conv=>lhs; rw[jT]
 rw[if_pos h,if_neg h1,if_neg h2]
theorem S4 {ls:List Int} {i:Nat} (h:¬ i<ls.length):jT ls i=0:=by rw[jT,if_neg h]
theorem RQ {u l:List Int} {w:Int} {ls:List Int} (h1:¬ u.length<3) (h2:¬ 8<u.length) (h3:¬ l.length<u.length) (h4:¬ u.length<l.length) (h5:(!u.all (oa 9))=false) (h6:(!l.all (oa 9))=false) (h7:¬ w<0) (h8:¬ 2<w) (h9:ls.length≠0):oe u l w ls=jT ls 0:=by
 simp only[Bool.not_eq_eq_eq_not,Bool.not_false] at h5 h6
 rw[oe,if_neg h1,if_neg h2,if_neg h3,if_neg h4,if_neg (by rw[h5,h6]; simp[h7,h8]),if_neg h9]
abbrev PD:Type:=gI.den
abbrev pd (u l:List Int) (w:Int) (ls:List Int):PD:=(u,l,w,ls,())
def FF (p:PD):Int:=oe p.1 p.2.1 p.2.2.1 p.2.2.2.1
def gD:List PD→Int
 | []=>0
 | p::l=>if FF p≠0 then FF p else gD l
theorem vW {l m:List PD} (h:gD l=0):gD (l++m)=gD m:=by
 induction l with
 | nil=>rfl
 | cons p l ih =>
  simp only[gD] at h ⊢
  split at h
  ·rename_i h1; exact(h1 h).elim
  ·rename_i h1; simp only[List.cons_append,gD,if_neg h1]; exact ih h
theorem RR {l:List PD} {i:Nat} {d:PD} (h:i<l.length) (h1:gD (l.take i)=0) (h2:FF (l.getD i d)≠0):gD l=FF (l.getD i d):=by
 have e:l.getD i d=l[i]:=by simp[List.getD_eq_getElem?_getD,h]
 rw[e] at h2 ⊢
 conv=>lhs; rw[← List.take_append_drop i l,List.drop_eq_getElem_cons h]
 rw[vW h1,gD,if_pos h2]
theorem OT {l:List PD} {i:Nat} {d:PD} (h:i<l.length) (h1:gD (l.take i)=0) (h2:FF (l.getD i d)=0):gD (l.take (i+1))=0:=by
 have e:l.getD i d=l[i]:=by simp[List.getD_eq_getElem?_getD,h]
 rw[e] at h2
 rw[← List.take_append_getElem h,vW h1,gD,if_neg (by simp[h2])]; rfl
def jJ (p:PD):Prop:=p.1.length≤1000∧p.2.1.length≤1000∧p.2.2.2.1.length≤1000
theorem OB {P:PD→Prop} {l:List PD} {i:Nat} {d:PD} (h:i<l.length) (hl:∀ p∈l,P p):P (l.getD i d):=by
 have e:l.getD i d=l[i]:=by simp[List.getD_eq_getElem?_getD,h]
 rw[e]; exact hl _ (List.getElem_mem _)
abbrev Yi (u l:List Int):TV := .agg [.sl cv u .no,.sl cv l .no]
def kU (l:List Int):Prop:=∀ x∈l,0≤x∧x≤9
theorem B1 {l:List Int} {i:Nat} (h:kU l) (hi:i<l.length):0≤l.getD i 0∧l.getD i 0≤9:=h _ (fT hi)
def gK (la ub:List Int) (s:Int):Nat→List Int
 | 0=>[]
 | i+1=>if 0≤(i:Int)+s∧(i:Int)+s<la.length then gK la ub s i++[ub.getD i 0+la.getD ((i:Int)+s).toNat 0] else gK la ub s i
def zA (st:Int×Int×Int) (x:Int):Int×Int×Int:=(if x<(if st.2.2=0 then x else st.1) then x else (if st.2.2=0 then x else st.1),if x>(if st.2.2=0 then x else st.2.1) then x else (if st.2.2=0 then x else st.2.1),st.2.2+1)
def mQ (l:List Int):Int×Int×Int:=l.foldl zA (0,0,0)
theorem Nz {l:List Int} {lo hi m x:Int} (h:mQ l=(lo,hi,m)) (h0:m=0):mQ (l++[x])=(if x<x then x else x,if x>x then x else x,m+1):=by
 subst h0
 rw[mQ,List.foldl_append,← mQ,h]; rfl
theorem Jy {l:List Int} {lo hi m x:Int} (h:mQ l=(lo,hi,m)) (h0:m≠0):mQ (l++[x])=(if x<lo then x else lo,if x>hi then x else hi,m+1):=by
 rw[mQ,List.foldl_append,← mQ,h]
 simp only[List.foldl_cons,List.foldl_nil,zA,if_neg h0]
theorem Bj {la ub:List Int} {s:Int} (h:s ≤ -(ub.length:Int)∨(la.length:Int)≤s):gK la ub s ub.length=[]:=by
 have key:∀ i,i≤ub.length→gK la ub s i=[]:=by
  intro i
  induction i with
  | zero=>intro _; rfl
  | succ i ih=>intro hi; rw[gK,if_neg (by omega)]; exact ih (by omega)
 exact key _ (Nat.le_refl _)
abbrev stA (la ub:List Int) (s:Int):Int×Int×Int:=mQ (gK la ub s ub.length)
def oG (la ub:List Int) (bH s:Int):Bool:=decide (3≤(mQ (gK la ub s ub.length)).2.2∧(mQ (gK la ub s ub.length)).2.1-(mQ (gK la ub s ub.length)).1≤bH)
def pe (la ub:List Int) (bH:Int) (k:Nat):List Int:=((List.range k).map fun(j:Nat)=>(j:Int)-(ub.length:Int)).filter (oG la ub bH)
theorem QK {la ub:List Int} {bH:Int} {k:Nat} (h:oG la ub bH ((k:Int)-(ub.length:Int))=true):pe la ub bH k++[(k:Int)-(ub.length:Int)]=pe la ub bH (k+1):=by
 simp[pe,List.range_succ,List.filter_append,h]
theorem MA {la ub:List Int} {bH:Int} {k:Nat} (h:oG la ub bH ((k:Int)-(ub.length:Int))=false):pe la ub bH k=pe la ub bH (k+1):=by
 simp[pe,List.range_succ,List.filter_append,h]
theorem QL (la ub:List Int) (bH:Int) (k:Nat):(pe la ub bH k).length≤k:=by
 unfold pe
 refine Nat.le_trans (List.length_filter_le _ _) ?_
 simp
theorem VJ {l:List Int} (h:∀ x∈l,0≤x∧x≤18):0≤(mQ l).1∧(mQ l).1≤18∧0≤(mQ l).2.1∧(mQ l).2.1≤18∧0≤(mQ l).2.2:=by
 have key:∀ (l:List Int) (st:Int×Int×Int),(∀ x∈l,0≤x∧x≤18)→(0≤st.1∧st.1≤18∧0≤st.2.1∧st.2.1≤18∧0≤st.2.2)→0≤(l.foldl zA st).1∧(l.foldl zA st).1≤18∧0≤(l.foldl zA st).2.1∧(l.foldl zA st).2.1≤18∧0≤(l.foldl zA st).2.2:=by
  intro l
  induction l with
  | nil=>intro st _ h; exact h
  | cons x l ih =>
   intro st hx h
   have h1:=hx x (by simp)
   refine ih _ (fun y hy=>hx y (by simp[hy])) ?_
   obtain⟨a,b,c⟩:=st
   simp only[zA] at h ⊢
   refine⟨?_,?_,?_,?_,?_⟩<;>(repeat' split)<;>omega
 exact key l _ h (by simp)
theorem CB {la ub:List Int} {s:Int} (h1:kU la) (h2:kU ub):∀ i,i≤ub.length→∀ x∈gK la ub s i,0≤x∧x≤18
 | 0,_,x,hx=>by cases hx
 | i+1,hi,x,hx=>by
  rw[gK] at hx
  split at hx
  ·rename_i hc
   rcases List.mem_append.1 hx with hx | hx
   ·exact CB h1 h2 i (by omega) x hx
   ·rw[List.mem_singleton] at hx
    have k1:=B1 h2 (i:=i) (by omega)
    have k2:=B1 h1 (i:=((i:Int)+s).toNat) (by omega)
    omega
  ·exact CB h1 h2 i (by omega) x hx
theorem FK {la ub:List Int} (s:Int) (h1:kU la) (h2:kU ub):0≤(stA la ub s).1∧(stA la ub s).1≤18∧0≤(stA la ub s).2.1∧(stA la ub s).2.1≤18∧0≤(stA la ub s).2.2:=VJ (CB h1 h2 _ (Nat.le_refl _))
theorem wX {m:Int} {l:List Int}:l.all (oa m)=true↔∀ x∈l,0≤x∧x≤m:=by simp[oa]
theorem A4 {ls:List Int}:∀ (n i:Nat),ls.length-i=n→(jT ls i=0↔∀ j,i≤j→j<ls.length→(0≤ls.getD j 0∧ls.getD j 0≤3)∧(0<j→ls.getD (j-1) 0<ls.getD j 0)):=by
 intro n
 induction n with
 | zero=>intro i h; rw[S4 (by omega)]; exact⟨fun _ j h1 h2=>by omega,fun _=>rfl⟩
 | succ n ih =>
  intro i h
  by_cases h1:ls.getD i 0<0∨3<ls.getD i 0
  ·rw[LY (by omega) h1]
   exact⟨fun e=>by omega,fun e=>by have:=(e i (Nat.le_refl _) (by omega)).1; omega⟩
  ·by_cases h2:0<i∧ls.getD i 0≤ls.getD (i-1) 0
   ·rw[S3 (by omega) h1 h2]
    exact⟨fun e=>by omega,fun e=>by have:=(e i (Nat.le_refl _) (by omega)).2 h2.1; omega⟩
   ·rw[yh (by omega) h1 h2,ih (i+1) (by omega)]
    refine⟨fun e j hj wB => ?_,fun e j hj wB=>e j (by omega) wB⟩
    by_cases He:j=i
    ·subst He; exact⟨by omega,fun h3=>by omega⟩
    ·exact e j (by omega) wB
theorem Wy {ls:List Int} (h:∀ j,0<j→j<ls.length→ls.getD (j-1) 0<ls.getD j 0):ls.Pairwise (· < ·):=by
 rw[List.pairwise_iff_getElem]
 have key:∀ j i,i<j→(hj:j<ls.length)→ls.getD i 0<ls.getD j 0:=by
  intro j
  induction j with
  | zero=>intro i hi; omega
  | succ j ih =>
   intro i hi hj
   have h1:=h (j+1) (by omega) hj
   simp only[Nat.add_sub_cancel] at h1
   by_cases e:i=j
   ·subst e; exact h1
   ·have:=ih i (by omega) (by omega); omega
 intro i j hi hj He
 have:=key j i He hj
 rwa [j3 hi,j3 hj] at this
theorem V3 {ls:List Int} (h:ls.Pairwise (· < ·)) {j:Nat} (h0:0<j) (hj:j<ls.length):ls.getD (j-1) 0<ls.getD j 0:=by
 rw[List.pairwise_iff_getElem] at h
 rw[j3 hj,j3 (by omega)]
 exact h _ _ _ _ (by omega)
theorem M5 {u l:List Int} {w:Int} {ls:List Int}:oe u l w ls=0↔Ok u l w ls:=by
 unfold oe
 constructor
 ·intro h
  split at h; omega
  split at h; omega
  split at h; omega
  split at h; omega
  split at h; omega
  split at h; omega
  rename_i h1 h2 h3 h4 h5 h6
  simp only[not_or,Bool.not_eq_false] at h5
  have hz:=(A4 _ 0 rfl).1 h
  refine⟨by omega,by omega,by omega,wX.1 h5.1,wX.1 h5.2.1,by omega,by omega,fun e=>h6 (by rw[e]; rfl),fun x hx => ?_,Wy fun j hj wB=>(hz j (Nat.zero_le _) wB).2 hj⟩
  obtain⟨j,hj,rfl⟩:=List.getElem_of_mem hx
  have:=(hz j (Nat.zero_le _) hj).1
  rwa [j3 hj] at this
 ·intro h
  have h1:=h.n3
  have h2:=h.n8
  have h3:=h.len
  have h4:=h.w0
  have h5:=h.w2
  have h6:ls.length≠0:=fun e=>h.ne (List.eq_nil_of_length_eq_zero e)
  rw[if_neg (by omega),if_neg (by omega),if_neg (by omega),if_neg (by omega),if_neg (by rw[wX.2 h.hu,wX.2 h.hl]; simp; omega),if_neg h6]
  exact(A4 _ 0 rfl).2 fun j _ hj=>⟨h.CY _ (fT hj),fun h0=>V3 h.PM h0 hj⟩
def Sh (u l ls:List Int):Prop:=u.length≤1000∧l.length≤1000∧ls.length≤1000
theorem xJ {ua la R7 ub lb R6:List Int} {wa wb:Int} (h1:Sh ua la R7) (h2:Sh ub lb R6):∀ p∈[pd ua la wa R7,pd ub lb wb R6],jJ p:=by
 intro p hp
 simp only[List.mem_cons,List.not_mem_nil,or_false] at hp
 rcases hp with rfl | rfl
 ·exact h1
 ·exact h2
theorem oH {ua la R7 ub lb R6:List Int} {wa wb:Int} (h1:Ok ua la wa R7) (h2:Ok ub lb wb R6):gD [pd ua la wa R7,pd ub lb wb R6]=0:=by
 have e1:FF (pd ua la wa R7)=0:=M5.2 h1
 have e2:FF (pd ub lb wb R6)=0:=M5.2 h2
 simp[gD,e1,e2]
theorem Ok.num {u l:List Int} {w:Int} {ls:List Int} (h:Ok u l w ls):(3≤u.length∧u.length≤8∧l.length=u.length∧0≤w∧w≤2)∧kU u∧kU l:=⟨⟨h.n3,h.n8,h.len,h.w0,h.w2⟩,h.hu,h.hl⟩
def acv (la ub:List Int) (wa wb s:Int):M7.den:=((mQ (gK la ub s ub.length)).2.1,(mQ (gK la ub s ub.length)).1+wa+wb,())
theorem lq {u l:List Int} {w:Int} {ls:List Int} (h:Ok u l w ls):Sh u l ls:=by
 refine⟨by have:=h.n8; omega,by have:=h.n8; have:=h.len; omega,?_⟩
 have key:∀ (ls:List Int) (m:Int),m≤4→(∀ x∈ls,m≤x∧x≤3)→ls.Pairwise (· < ·)→(ls.length:Int)≤4-m:=by
  intro ls
  induction ls with
  | nil=>intro m hm _ _; simp; omega
  | cons x ls ih =>
   intro m hm h1 h2
   rw[List.pairwise_cons] at h2
   have h3:=h1 x (by simp)
   have:=ih (x+1) (by omega) (fun y hy=>⟨by have:=h2.1 y hy; omega,(h1 y (by simp[hy])).2⟩) h2.2
   simp only[List.length_cons]
   omega
 have:=key ls 0 (by omega) h.CY h.PM
 omega
theorem Ny:∀ {l:List Int},l≠[]→((mQ l).1∈l∧∀ x∈l,(mQ l).1≤x)∧((mQ l).2.1∈l∧∀ x∈l,x≤(mQ l).2.1)∧(mQ l).2.2=l.length:=by
 have key:∀ (l m:List Int) (lo hi:Int),m≠[]→(lo∈m∧∀ x∈m,lo≤x)→(hi∈m∧∀ x∈m,x≤hi) →
   ((l.foldl zA (lo,hi,(m.length:Int))).1∈m++l∧∀ x∈m++l,(l.foldl zA (lo,hi,(m.length:Int))).1≤x)∧((l.foldl zA (lo,hi,(m.length:Int))).2.1∈m++l∧∀ x∈m++l,x≤(l.foldl zA (lo,hi,(m.length:Int))).2.1)∧(l.foldl zA (lo,hi,(m.length:Int))).2.2=(m++l).length:=by
  intro l
  induction l with
  | nil=>intro m lo hi _ h1 h2; simpa using ⟨h1,h2⟩
  | cons x l ih =>
   intro m lo hi hm h1 h2
   have hn:(m.length:Int)≠0:=by have:=List.length_pos_iff.2 hm; omega
   have e:zA (lo,hi,(m.length:Int)) x=(if x<lo then x else lo,if x>hi then x else hi,((m++[x]).length:Int)):=by
    simp[zA,hm]
   rw[List.foldl_cons,e]
   have e2:m++x::l=(m++[x])++l:=by simp
   rw[e2]
   refine ih (m++[x]) _ _ (by simp) ⟨?_,?_⟩ ⟨?_,?_⟩
   ·split
    ·simp
    ·simp[h1.1]
   ·refine tB (fun y hy => ?_) ?_
    ·have:=h1.2 y hy; split<;>omega
    ·split<;>omega
   ·split
    ·simp
    ·simp[h2.1]
   ·refine tB (fun y hy => ?_) ?_
    ·have:=h2.2 y hy; split<;>omega
    ·split<;>omega
 intro l hl
 obtain⟨x,l,rfl⟩:=List.exists_cons_of_ne_nil hl
 have e:mQ (x::l)=l.foldl zA (x,x,(([x]:List Int).length:Int)):=by
  rw[mQ,List.foldl_cons]
  congr 1
  simp[zA]
 rw[e]
 exact key l [x] x x (by simp) (by simp) (by simp)
def abf (la ub:List Int) (s:Int) (i:Nat):Option Int:=if 0≤(i:Int)+s∧(i:Int)+s<la.length then some (ub.getD i 0+la.getD ((i:Int)+s).toNat 0) else none
def aR (n:Int) (u l:List Int):List Int:=if n=1 then l.reverse else if n=2 then u.reverse else if n=3 then l else u
def aT (n:Int) (u l:List Int):List Int:=if n=1 then u.reverse else if n=2 then l.reverse else if n=3 then u else l
theorem Oe {l a l1:List Int} {w:Int} {ls:List Int} (h:Ok a l1 w ls) (hn:l1.length=l.length) (hl:kU l):Ok (l.map (9-·)) l1 w ls where
 n3:=by have:=h.n3; have:=h.len; simp; omega
 n8:=by have:=h.n8; have:=h.len; simp; omega
 len:=by simp; omega
 hu:=fun x hx=>by
  simp only[List.mem_map] at hx
  obtain⟨y,hy,rfl⟩:=hx
  have:=hl y hy
  omega
 hl:=h.hl
 w0:=h.w0
 w2:=h.w2
 ne:=h.ne
 CY:=h.CY
 PM:=h.PM
def acs (la ub:List Int) (w s:Int):Int×Int×Int:=if (stA la ub s).2.2<3 then (0,0,7) else if (stA la ub s).2.1-(stA la ub s).1>w then (0,0,11) else ((stA la ub s).2.1,(stA la ub s).1+w,0)
end Go.Tv
end
section
namespace Go.Tv
open Go Go.Di Go.Proofs
set_option maxRecDepth 100000
def D53:List TV→Dn
  | [.sl (.int .i64) l .no,.val (.int .i64 x)]=>some ([l.length≤1000],.res (mX (decide (x∈l))) [] [],[(3,.ex Nat fun i => .st { sl:=[(5,bX i)],eE:=[i≤l.length,x ∉ l.take i],m:=l.length-i })])
  | _=>none
theorem v53:VI T0 Try.f35 [some .bool] D53:=by
  intro a p s j h hp
  unfold D53 at h
  split at h<;>cases h
  rename_i l x
  have h1:=hp.1
  refine sg (A:=(∃ (a:Nat),(0:Int)=(↑a:Int)∧a≤l.length∧¬x∈List.take a l∧l.length-a<(1000000:Nat))∧∀ (a:Nat),a≤l.length→¬x∈List.take a l→aL (decide ((↑a:Int)<(↑l.length:Int))) (((0:Int)≤(↑a:Int)∧(↑a:Int)<(↑l.length:Int))∧aL (l.getD a (0:Int)==x) (true=decide (x∈l)∧True) (cq ((↑a:Int)+(1:Int))∧∃ (a_3:Nat),l=l∧x=x∧(↑a:Int)+(1:Int)=(↑a_3:Int)∧a_3≤l.length∧¬x∈List.take a_3 l∧l.length-a_3<l.length-a)) (false=decide (x∈l)∧True)) (by kernel_rfl) ?_
  simp only[cZ,eu,dK,eL,iB,cq,and_true,true_and,eq_self]
  refine⟨⟨0,by omega,by omega,by simp,by omega⟩,fun i h2 h3=>⟨fun h4=>⟨by omega,fun h5 => ?_,fun h5=>⟨by omega,i+1,by omega,by omega,?_,by omega⟩⟩,fun h4 => ?_⟩⟩
  · rw[decide_eq_true]; rw[← h5]; exact fT (by omega)
  · rw[take_one (by omega)]; simp only[List.mem_append,List.mem_singleton,not_or]; exact⟨h3,fun e=>h5 e.symm⟩
  · rw[show i=l.length by omega,List.take_length] at h3; rw[decide_eq_false h3]
def D52:List TV→Dn
  | [.sl (.int .i64) l .no]=>some ([l.length≤1000],.res (.sl cv l.reverse .no) [] [],[(4,.ex Nat fun i => .st { sl:=[(3,.sl cv ((l.drop i).reverse) (.nY 0)),(4,bX ((i:Nat)-1:Int))],own:=[(3,1)],eE:=[i≤l.length],m:=i })])
  | _=>none
theorem v52:VI T0 Try.f34 [some aN] D52:=by
  intro a p s j h hp
  unfold D52 at h
  split at h<;>cases h
  rename_i l
  have h1:=hp.1
  refine sg (A:=cq ((↑l.length:Int)-(1:Int))∧(∃ (a:Nat),[]=(List.drop a l).reverse∧(↑l.length:Int)-(1:Int)=(↑a:Int)-(1:Int)∧a≤l.length∧a<(1000000:Nat))∧∀ (a:Nat),a≤l.length→aL (decide ((↑a:Int)-(1:Int)≥(0:Int))) (((0:Int)≤(↑a:Int)-(1:Int)∧(↑a:Int)-(1:Int)<(↑l.length:Int))∧(List.drop a l).reverse.length+(1:Nat)≤(1000000000:Nat)∧cq ((↑a:Int)-(1:Int)-(1:Int))∧∃ (a_2:Nat),l=l∧BC cv.den∧(List.drop a l).reverse++[l.getD ((↑a:Int)-(1:Int)).toNat (0:Int)]=(List.drop a_2 l).reverse∧(↑a:Int)-(1:Int)-(1:Int)=(↑a_2:Int)-(1:Int)∧a_2≤l.length∧a_2<a) ((List.drop a l).reverse=l.reverse∧True)) (by kernel_rfl) ?_
  simp only[cZ,eu,dK,eL,iB,cq,and_true,true_and,eq_self]
  refine⟨by omega,⟨l.length,by simp,by omega,by omega,by omega⟩,fun i h2=>⟨fun h3=>⟨by omega,by simp; omega,by omega,i-1,?_,by omega,by omega,by omega⟩,fun h3 => ?_⟩⟩
  · obtain⟨j,rfl⟩:∃ j,i=j+1:=⟨i-1,by omega⟩
    rw[show ((j+1:Nat):Int)-1=(j:Int) by omega,Int.toNat_natCast,drop_one (by omega)]; rfl
  · rw[show i=0 by omega,List.drop_zero]
def D97:List TV→List TV→Dn
  | [.val (.int .i64 x),.ptr 0 0],[.val (.int .i64 cO)]=>some ([],.res (mX (!oa cO x)) [bX cO] [],[])
  | _,_=>none
theorem v97:VC T0 Try.f103 [some .bool] [some cv] D97:=by
  intro a cs p s j h hp
  unfold D97 at h
  split at h<;>cases h
  rename_i x cO
  refine sg (A:=aL (decide (x<(0:Int))) (true = !oa cO x∧cO=cO∧True) (decide (x>cO) = !oa cO x∧cO=cO∧True)) (by kernel_rfl) ?_
  simp only[cZ,eu,dK,eL,iB,cq,and_true,true_and,eq_self]
  refine⟨fun h => ?_,fun h => ?_⟩
  · rw[oa,decide_eq_false (by omega)]; rfl
  · rw[oa,← decide_not,decide_eq_decide]; omega
def T1:gN:=((T0.dQ 35 fun a=>dS (D53 a)).dQ 34 fun a=>dS (D52 a)).qp 103 fun a c=>dS (D97 a c)
def Vm:List TV→List TV→Dn
  | [.sl (.int .i64) l .no,.fn 103 [] [.ptr 0 0]],[.val (.int .i64 cO)]=>some ([l.length≤1000],.ex Int fun k => .res (bX k) [bX cO] [if l.all (oa cO) then k = -1 else 0≤k],[(3,.ex Nat fun i => .st { sl:=[(8,bX i)],eE:=[i≤l.length,(l.take i).all (oa cO)=true],m:=l.length-i })])
  | _,_=>none
theorem v109:VC T1 Try.f105 [some cv] [some cv] Vm:=by
  intro a cs p s j h hp
  unfold Vm at h
  split at h<;>cases h
  rename_i l cO
  have h1:=hp.1
  refine sg (A:=(∃ (a:Nat),(0:Int)=(↑a:Int)∧a≤l.length∧(List.take a l).all (oa cO)=true∧l.length-a<(1000000:Nat))∧∀ (a:Nat),a≤l.length→(List.take a l).all (oa cO)=true→aL (decide ((↑a:Int)<(↑l.length:Int))) (((0:Int)≤(↑a:Int)∧(↑a:Int)<(↑l.length:Int))∧aL (!oa cO (l.getD a (0:Int))) (∃ (a_3:Int),(↑a:Int)=a_3∧cO=cO∧(if l.all (oa cO)=true then a_3=(-1:Int) else (0:Int)≤a_3)∧True) (cq ((↑a:Int)+(1:Int))∧∃ (a_3:Nat),l=l∧(↑l.length:Int)=(↑l.length:Int)∧(↑a:Int)+(1:Int)=(↑a_3:Int)∧cO=cO∧a_3≤l.length∧(List.take a_3 l).all (oa cO)=true∧l.length-a_3<l.length-a)) (∃ (a:Int),(-1:Int)=a∧cO=cO∧(if l.all (oa cO)=true then a=(-1:Int) else (0:Int)≤a)∧True)) (by kernel_rfl) ?_
  simp only[cZ,eu,dK,eL,iB,cq,and_true,true_and,eq_self]
  refine⟨⟨0,by omega,by omega,by simp,by omega⟩,fun i h2 h3=>⟨fun h4=>⟨by omega,?_⟩,fun h4 => ?_⟩⟩
  · rw[jH]
    refine⟨fun h5=>⟨by omega,i+1,by omega,by omega,R1 (by omega) h3 h5,by omega⟩,fun h5=>⟨_,rfl,?_⟩⟩
    rw[Rc (i:=i) (by omega) h5]; simp
  · rw[show i=l.length by omega,List.take_length] at h3; exact⟨_,rfl,by rw[h3]; simp⟩
def D16:List TV→Dn
  | [.agg [.sl (.int .i64) u .no,.sl (.int .i64) l .no,.val (.int .i64 w),.sl (.int .i64) ls .no],.val (.int .i64 n)]=>some ([u.length≤1000,l.length≤1000,ls.length≤1000,0≤n,n≤3],.res (pcV (aR n u l) (aT n u l) w (dW n ls 4)) [] [],
    [(2,.ex (List Int) fun u1 => .ex (List Int) fun l1 => .st { sl:=[(5,.ptr 13 0)],pl:=[(13,[.sl cv u1 .no,.sl cv l1 .no,bX w,.gl])],eE:=[u1=if n=1∨n=3 then l.reverse else u,l1=if n=1∨n=3 then u.reverse else l] }),
     (4,.st { sl:=[(5,.ptr 13 0)],pl:=[(13,[.sl cv (aR n u l) .no,.sl cv (aT n u l) .no,bX w,.gl])] }),
     (8,.ex Nat fun i => .st { sl:=[(6,bX i)],pl:=[(13,[.sl cv (aR n u l) .no,.sl cv (aT n u l) .no,bX w,.sl cv (dW n ls i) (.nY 14)])],own:=[(3,1)],eE:=[i≤4],m:=4-i })])
  | _=>none
theorem v16:VI T1 Try.f12 [some gI] D16:=by
  intro a p s j h hp
  unfold D16 at h
  split at h<;>cases h
  rename_i u l w ls n
  obtain⟨h1,h2,h3,h4,h5,-⟩:=hp
  refine sg (A:=(0:Nat)+u.length≤(1000000000:Nat)∧(0:Nat)+l.length≤(1000000000:Nat)∧aL (n==(1:Int)) (l.length≤(1000:Nat)∧u.length≤(1000:Nat)∧∃ (a:List Int),∃ (a_1:List Int),n=n∧u=u∧l=l∧w=w∧ls=ls∧(0:Int)=(0:Int)∧l.reverse=a∧u.reverse=a_1∧w=w∧(a=if n=(1:Int)∨n=(3:Int) then l.reverse else u)∧(a_1=if n=(1:Int)∨n=(3:Int) then u.reverse else l)∧True) (aL (n==(3:Int)) (l.length≤(1000:Nat)∧u.length≤(1000:Nat)∧∃ (a:List Int),∃ (a_1:List Int),n=n∧u=u∧l=l∧w=w∧ls=ls∧(0:Int)=(0:Int)∧l.reverse=a∧u.reverse=a_1∧w=w∧(a=if n=(1:Int)∨n=(3:Int) then l.reverse else u)∧(a_1=if n=(1:Int)∨n=(3:Int) then u.reverse else l)∧True) (∃ (a:List Int),∃ (a_1:List Int),n=n∧u=u∧l=l∧w=w∧ls=ls∧(0:Int)=(0:Int)∧u=a∧l=a_1∧w=w∧(a=if n=(1:Int)∨n=(3:Int) then l.reverse else u)∧(a_1=if n=(1:Int)∨n=(3:Int) then u.reverse else l)∧True))∧∀ (a a_1:List Int),(a=if n=(1:Int)∨n=(3:Int) then l.reverse else u)→(a_1=if n=(1:Int)∨n=(3:Int) then u.reverse else l)→aL (n==(2:Int)) (a.length≤(1000:Nat)∧a_1.length≤(1000:Nat)∧n=n∧u=u∧l=l∧w=w∧ls=ls∧(0:Int)=(0:Int)∧a.reverse=aR n u l∧a_1.reverse=aT n u l∧w=w∧True) (aL (n==(3:Int)) (a.length≤(1000:Nat)∧a_1.length≤(1000:Nat)∧n=n∧u=u∧l=l∧w=w∧ls=ls∧(0:Int)=(0:Int)∧a.reverse=aR n u l∧a_1.reverse=aT n u l∧w=w∧True) (n=n∧u=u∧l=l∧w=w∧ls=ls∧(0:Int)=(0:Int)∧a=aR n u l∧a_1=aT n u l∧w=w∧True))∧(∃ (a:Nat),(0:Int)=(↑a:Int)∧aR n u l=aR n u l∧aT n u l=aT n u l∧w=w∧[]=dW n ls a∧a≤(4:Nat)∧(4:Nat)-a<(1000000:Nat))∧∀ (a:Nat),a≤(4:Nat)→aL (decide ((↑a:Int)≤(3:Int))) (ls.length≤(1000:Nat)∧aL (decide (IntKind.i64.wrap (↑(BitVec.ofInt (64:Nat) (↑a:Int) ^^^ BitVec.ofInt (64:Nat) n).toNat:Int)∈ls)) ((dW n ls a).length+(1:Nat)≤(1000000000:Nat)∧cq ((↑a:Int)+(1:Int))∧∃ (a_5:Nat),n=n∧(↑a:Int)+(1:Int)=(↑a_5:Int)∧u=u∧l=l∧w=w∧ls=ls∧(0:Int)=(0:Int)∧aR n u l=aR n u l∧aT n u l=aT n u l∧w=w∧dW n ls a++[(↑a:Int)]=dW n ls a_5∧a_5≤(4:Nat)∧(4:Nat)-a_5<(4:Nat)-a) (cq ((↑a:Int)+(1:Int))∧∃ (a_5:Nat),n=n∧(↑a:Int)+(1:Int)=(↑a_5:Int)∧u=u∧l=l∧w=w∧ls=ls∧(0:Int)=(0:Int)∧aR n u l=aR n u l∧aT n u l=aT n u l∧w=w∧dW n ls a=dW n ls a_5∧a_5≤(4:Nat)∧(4:Nat)-a_5<(4:Nat)-a)) (aR n u l=aR n u l∧aT n u l=aT n u l∧w=w∧dW n ls a=dW n ls (4:Nat)∧True)) (by kernel_rfl) ?_
  simp only[cZ,eu,dK,cq,and_true,true_and,eq_self]
  refine⟨by omega,by omega,⟨fun e=>⟨h2,h1,_,_,rfl,rfl,by simp[e],by simp[e]⟩,fun e=>⟨fun e1=>⟨h2,h1,_,_,rfl,rfl,by simp[e1],by simp[e1]⟩,fun e1=>⟨_,_,rfl,rfl,by simp[e,e1],by simp[e,e1]⟩⟩⟩,?_⟩
  rintro _ _ rfl rfl
  refine⟨⟨fun e=>⟨by split<;>simp_all,by split<;>simp_all,by simp[e,aR],by simp[e,aT]⟩,fun e=>⟨fun e1=>⟨by split<;>simp_all,by split<;>simp_all,by simp[e1,aR],by simp[e1,aT]⟩,fun e1=>⟨by simp[e,e1,aR],by simp[e,e1,aT]⟩⟩⟩,⟨0,rfl,rfl,by omega,by omega⟩,fun i hi=>⟨fun h=>⟨h3,?_⟩,fun h=>by rw[show i=4 by omega]⟩⟩
  have hx:=Kl n ls i
  change (aW i n∈ls→_)∧(¬ aW i n∈ls→_)
  exact⟨fun h=>⟨by omega,by omega,i+1,by omega,Kk h,by omega,by omega⟩,fun h=>⟨by omega,i+1,by omega,Ow h,by omega,by omega⟩⟩
section
variable {aZ:bq} (tk:sC aZ)
include tk
theorem Uv:lg aZ 1 T1:=I1 (iz tk) Try.func103 rfl v97 (rV tk (iz tk) (by decide) Try.func34 rfl v52 (rV tk (iz tk) (by decide) Try.func35 rfl v53 (iW (iz tk))))
end
end Go.Tv
end
