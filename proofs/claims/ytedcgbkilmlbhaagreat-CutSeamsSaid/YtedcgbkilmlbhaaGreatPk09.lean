import Derived.Test.YtedcgbkilmlbhaaGreatPk08
section
namespace Go.Tv
open Go Go.Di Go.Proofs
abbrev Dn:=Option (List Prop×uO×List (Nat×LA))
def dS (d:Dn):Sp:=d.map fun x=>(x.1,x.2.1)
def dJ (d:Dn):List (Nat×LA):=match d with
 | some x=>x.2.2
 | none=>[]
def VI (T:gP) (f:Func) (mX:List (Option TT)) (D:List TV→Dn) (d:Nat:=0):Prop:=∀ a p s j,D a=some (p,s,j)→dM p→vcI T d f mX j a s
def VC (T:gP) (f:Func) (mX pL:List (Option TT)) (D:List TV→List TV→Dn) (d:Nat:=0):Prop:=∀ a cs p s j,D a cs=some (p,s,j)→dM p→abN T d f mX pL j a cs s
def VN (T:gP) (f:Func) (pL:List (Option TT)) (D:List TV→Dn) (d:Nat:=0):Prop:=∀ a p s j,D a=some (p,s,j)→dM p→vcN T d f pL j a s
def dV (d:Dn) (K:uO→List (Nat×LA)→Prop):Prop :=
 match d with
 | some (p,s,j)=>dM p→K s j
 | none=>True
structure Hd (p:Prop):Prop where
 h:p
theorem qx {A B:Prop} (h:A=B) (a:A):Hd B:=⟨h▸a⟩
theorem eX {T:gP} {f:Func} {mX:List (Option TT)} {D:List TV→Dn} {d:Nat} (h:∀ a,dV (D a) fun s j=>Hd (vcI T d f mX j a s)):VI T f mX D d:=fun a p s j hd hp=>by
 have:=h a
 rw[hd] at this
 exact(this hp).h
theorem acN {T:gP} {f:Func} {mX pL:List (Option TT)} {D:List TV→List TV→Dn} {d:Nat} (h:∀ a cs,dV (D a cs) fun s j=>Hd (abN T d f mX pL j a cs s)):VC T f mX pL D d:=fun a cs p s j hd hp=>by
 have:=h a cs
 rw[hd] at this
 exact(this hp).h
theorem d_some {d:Dn} {p:List Prop} {s:uO} (h:dS d=some (p,s)):d=some (p,s,dJ d):=by
 cases d with
 | none=>cases h
 | some x=>cases h; rfl
variable {bG:bV} {k:Nat} {T:gP}
theorem qu {fn:Func} (hb:fn.body.isSome=true):fn.body=some (zA fn):=by unfold zA; revert hb; cases fn.body<;>simp
theorem mkJ (hT:jT bG k T) {f:FuncId} {fn:Func} {mX:List (Option TT)} {D:List TV→Dn} {d:Nat} (hn:∀ a p s,dS (D a)=some (p,s)→dM p→∀ da,dw dK [] a da→bG f da=none) (hf:Tp.funcs[f]? = some fn) (hb:fn.body.isSome=true) (h:VI T fn mX D d) {T':gP} (Zf:jT bG (k+d+1) T'):jT bG (k+d+1) (T'.cI f fun a=>dS (D a)) :=
 Lz Zf fun n a p s hs hp=>Tz (n:=n+(k+d)) hf (qu hb) (hn a p s hs hp) ((lR (qK (oT hT d n)) (vA hT.1 d (oT hT d n)) _ _ _ _ _ _ (dg _ (h a p s _ (d_some hs) hp))).mono fun _ _ _ hq=>LP (fun _ _=>YM) hq)
theorem kz (tk:uK bG) (hT:jT bG k T) {f:FuncId} {fn:Func} {mX:List (Option TT)} {D:List TV→Dn} {d:Nat} (hne:f≠60∧f≠133∧f≠12∧f≠43∧f≠52) (hf:Tp.funcs[f]? = some fn) (hb:fn.body.isSome=true) (h:VI T fn mX D d) {T':gP} (Zf:jT bG (k+d+1) T'):jT bG (k+d+1) (T'.cI f fun a=>dS (D a)) :=
 mkJ hT (fun _ _ _ _ _ _ _=>tk.other _ _ hne.1 hne.2.1 hne.2.2.1 hne.2.2.2.1 hne.2.2.2.2) hf hb h Zf
theorem M9 (hT:jT bG k T) {f:FuncId} {fn:Func} {mX pL:List (Option TT)} {D:List TV→List TV→Dn} {d:Nat} (hf:Tp.funcs[f]? = some fn) (hb:fn.body.isSome=true) (h:VC T fn mX pL D d) {T':gP} (Zf:jT bG (k+d+1) T'):jT bG (k+d+1) (T'.uJ f fun a c=>dS (D a c)) :=
 acP Zf fun n a cs p s hs hp=>TS (n:=n+(k+d)) hf (qu hb) ((lR (qK (oT hT d n)) (vA hT.1 d (oT hT d n)) _ _ _ _ _ _ (dg _ (h a cs p s _ (d_some hs) hp))).mono fun _ _ _ hq=>LP (fun _ _=>adA) hq)
theorem mkN (tk:uK bG) (hT:jT bG k T) {f:FuncId} {fn:Func} {pL:List (Option TT)} {D:List TV→Dn} {d:Nat} (hne:f≠60∧f≠133∧f≠12∧f≠43∧f≠52) (hf:Tp.funcs[f]? = some fn) (hb:fn.body.isSome=true) (h:VN T fn pL D d) {T':gP} (Zf:jT bG (k+d+1) T'):jT bG (k+d+1) (T'.VG f fun a=>dS (D a)) :=
 acO Zf fun n a p s hs hp=>Te (n:=n+(k+d)) hf (qu hb) (fun _=>tk.other _ _ hne.1 hne.2.1 hne.2.2.1 hne.2.2.2.1 hne.2.2.2.2) ((lR (qK (oT hT d n)) (vA hT.1 d (oT hT d n)) _ _ _ _ _ _ (dg _ (h a p s _ (d_some hs) hp))).mono fun _ _ _ hq=>LP (fun _ _=>adz) hq)
def lM (α:Type):Prop:=([]:List α)=[]
theorem fE {α:Type}:lM α=True:=by simp[lM]
theorem wu {A B:Prop} (h:A=B) (a:A):B:=h▸a
theorem gY {b:Bool} {A B:Prop}:aG b A B↔(b=true→A)∧(b=false→B):=by cases b<;>simp[aG]
theorem bL {p:Prop} [Decidable p] {A B:Prop}:aG (decide p) A B↔(p→A)∧(¬p→B):=by rw[gY]; simp
theorem dR {b:Bool} {A B:Prop}:aG (!b) A B↔aG b B A:=by cases b<;>rfl
theorem dF {a c:Int} {A B:Prop}:aG (a==c) A B↔(a=c→A)∧(¬a=c→B):=by rw[gY]; simp
theorem cC {a c:Int} {A B:Prop}:aG (a !=c) A B↔(a=c→B)∧(¬a=c→A):=by rw[gY]; simp[and_comm]
theorem acM {A B:Prop}:aG true A B↔A:=Iff.rfl
end Go.Tv
end
section
namespace Go.Tv
open Go Go.Di Go.Proofs
set_option maxRecDepth 100000
theorem nE {l:List Int} {i:Nat} (h:i<l.length):l.getD i 0=l[i]:=by simp[aN,h]
theorem take_one {l:List Int} {i:Nat} (h:i<l.length):l.take (i+1)=l.take i++[l.getD i 0]:=by
 rw[nE h,List.take_append_getElem]
theorem drop_one {l:List Int} {i:Nat} (h:i<l.length):(l.drop (i+1)).reverse++[l.getD i 0]=(l.drop i).reverse:=by
 rw[nE h,nL h,List.reverse_cons]
theorem lE {l:List Int} {i:Nat} (h:i<l.length):l.getD i 0∈l:=by
 rw[nE h]; exact mB _
def sJ (l:List Int) (x:Int):Int:=if x∈l then (l.idxOf x:Int) else -1
theorem OP {l:List Int} {x:Int} {i:Nat} (h:i<l.length) (h1:x ∉ l.take i) (h2:l.getD i 0=x):sJ l x=i:=by
 have hm:x∈l:=by rw[← h2]; exact lE h
 have e:l=l.take i++x::l.drop (i+1):=by
  rw[← h2,nE h,← nL h,List.take_append_drop]
 rw[sJ,if_pos hm]
 congr 1
 conv=>lhs; rw[e]
 rw[List.idxOf_append,if_neg h1,List.idxOf_cons_self,iD]
 omega
abbrev yd (rest:List Int) (last:Int):List TV:=[.sl bO rest .no,.val (.int .u64 last)]
theorem yx (n:Int):IntKind.u64.wrap n=n % 18446744073709551616:=by simp[IntKind.wrap,IntKind.bits,IntKind.signed]
theorem u64_in (n:Int):0≤IntKind.u64.wrap n∧IntKind.u64.wrap n<18446744073709551616:=by rw[yx]; omega
theorem RH (a:Int):a.fdiv 4294967296=a / 4294967296:=Int.fdiv_eq_ediv_of_nonneg _ (by omega)
theorem YA {x n:Int} (h:IntKind.u64.wrap n=x):0≤x.fdiv 4294967296∧x.fdiv 4294967296<4294967296:=by
 have:=u64_in n
 rw[RH,← h]; omega
theorem X2 {k m:Int} (hm:m≤1000) (h0:0<m) (hk:0≤k) (pK:k<4294967296):0≤IntKind.i64.wrap ((IntKind.u64.wrap (k*IntKind.u64.wrap (m+1))).fdiv 4294967296)∧(IntKind.i64.wrap ((IntKind.u64.wrap (k*IntKind.u64.wrap (m+1))).fdiv 4294967296)≤m∨IntKind.i64.wrap ((IntKind.u64.wrap (k*IntKind.u64.wrap (m+1))).fdiv 4294967296)=0):=by
 have h1:k*(m+1)≤4294967295*(m+1):=Int.mul_le_mul_of_nonneg_right (by omega) (by omega)
 have h2:0≤k*(m+1):=Int.mul_nonneg hk (by omega)
 rw[yx (m+1),Int.emod_eq_of_lt (a:=m+1) (by omega) (by omega),RH,yx]
 generalize k*(m+1)=p at *
 rw[Int.emod_eq_of_lt (by omega) (by omega),BA (by omega) (by omega)]
 omega
theorem II {α:Type} {P:α→Prop} {l:List α} {a:α} (h:∀ x∈l,P x) (ha:P a):∀ x∈l++[a],P x:=by
 intro x hx
 rcases ja.1 hx with hx | hx
 ·exact h x hx
 ·rw[bN.1 hx]; exact ha
theorem Ue {l:List Int} {a:Int} (h:l.Pairwise (· < ·)) (ha:∀ x∈l,x<a):(l++[a]).Pairwise (· < ·):=by
 rw[List.pairwise_append]
 exact⟨h,List.pairwise_singleton _ _,fun x hx y hy=>by rw[bN.1 hy]; exact ha x hx⟩
theorem Dw {f:Int→Int} {l:List Int} {i:Nat} (h:i<l.length):(l.take i).map f++[f (l.getD i 0)]=(l.take (i+1)).map f:=by
 rw[take_one h,gm]; rfl
abbrev Uh (u l:List Int) (w:Int) (ls:List Int):TV := .agg [.sl bO u .no,.sl bO l .no,bk w,.sl bO ls .no]
abbrev Num (u l:List Int) (w:Int):Prop:=3≤u.length∧u.length≤8∧l.length=u.length∧0≤w∧w≤2
structure Ok (u l:List Int) (w:Int) (ls:List Int):Prop where
 n3:3≤u.length
 n8:u.length≤8
 len:l.length=u.length
 hu:∀ x∈u,0≤x∧x≤9
 hl:∀ x∈l,0≤x∧x≤9
 w0:0≤w
 w2:w≤2
 ne:ls≠[]
 O6:∀ x∈ls,0≤x∧x≤3
 U3:ls.Pairwise (· < ·)
def fH (a b:Int):Int:=IntKind.i64.wrap ((BitVec.ofInt 64 a ^^^ BitVec.ofInt 64 b).toNat:Int)
def fT (y:Int) (ls:List Int) (i:Nat):List Int:=((List.range i).map Int.ofNat).filter fun x=>decide (fH x y∈ls)
theorem OL {y:Int} {ls:List Int} {i:Nat} (h:fH i y∈ls):fT y ls i++[(i:Int)]=fT y ls (i+1):=by
 simp[fT,jM,oZ,h]
theorem Tu {y:Int} {ls:List Int} {i:Nat} (h:¬ fH i y∈ls):fT y ls i=fT y ls (i+1):=by
 simp[fT,jM,oZ,h]
theorem OM (y:Int) (ls:List Int) (i:Nat):(fT y ls i).length≤i:=by
 unfold fT
 refine aS (qR _ _) ?_
 simp
theorem OO (y:Int) (ls:List Int) (i:Nat):(fT y ls i).Pairwise (· < ·):=by
 unfold fT
 refine List.Pairwise.filter _ ?_
 rw[List.pairwise_map]
 exact(List.pairwise_lt_range (n:=i)).imp fun h=>Int.ofNat_lt.2 h
def nN (ez x:Int):Bool:=decide (0≤x∧x≤ez)
theorem M4 {ez:Int} {l:List Int} {i:Nat} (h:i<l.length) (h1:(l.take i).all (nN ez)=true) (h2:nN ez (l.getD i 0)=true):(l.take (i+1)).all (nN ez)=true:=by
 rw[take_one h,mA,h1,List.all_cons,h2]; rfl
theorem Mx {ez:Int} {l:List Int} {i:Nat} (h:i<l.length) (h2:nN ez (l.getD i 0)=false):l.all (nN ez)=false:=by
 refine Bool.eq_false_iff.2 fun h1 => ?_
 rw[bt.1 h1 _ (lE h)] at h2
 cases h2
def jZ (ls:List Int) (i:Nat):Int:=if i<ls.length then (if ls.getD i 0<0∨3<ls.getD i 0 then 8 else if 0<i∧ls.getD i 0≤ls.getD (i-1) 0 then 5 else jZ ls (i+1)) else 0
 termination_by ls.length-i
def jG (u l:List Int) (w:Int) (ls:List Int):Int :=
 if u.length<3 then 7 else if 8<u.length then 6 else if l.length<u.length then 7 else if u.length<l.length then 6
 else if u.all (nN 9)=false∨l.all (nN 9)=false∨w<0∨2<w then 1 else if ls.length=0 then 7 else jZ ls 0
theorem LD {ls:List Int} {i:Nat} (h:i<ls.length) (h1:ls.getD i 0<0∨3<ls.getD i 0):jZ ls i=8:=by rw[jZ,if_pos h,if_pos h1]
theorem Qu {ls:List Int} {i:Nat} (h:i<ls.length) (h1:¬ (ls.getD i 0<0∨3<ls.getD i 0)) (h2:0<i∧ls.getD i 0≤ls.getD (i-1) 0):jZ ls i=5:=by rw[jZ,if_pos h,if_neg h1,if_pos h2]
theorem sX {ls:List Int} {i:Nat} (h:i<ls.length) (h1:¬ (ls.getD i 0<0∨3<ls.getD i 0)) (h2:¬ (0<i∧ls.getD i 0≤ls.getD (i-1) 0)):jZ ls i=jZ ls (i+1):=by
 conv=>lhs; rw[jZ]
 rw[if_pos h,if_neg h1,if_neg h2]
theorem Qv {ls:List Int} {i:Nat} (h:¬ i<ls.length):jZ ls i=0:=by rw[jZ,if_neg h]
theorem MS {u l:List Int} {w:Int} {ls:List Int} (h1:¬ u.length<3) (h2:¬ 8<u.length) (h3:¬ l.length<u.length) (h4:¬ u.length<l.length) (h5:(!u.all (nN 9))=false) (h6:(!l.all (nN 9))=false) (h7:¬ w<0) (h8:¬ 2<w) (h9:ls.length≠0):jG u l w ls=jZ ls 0:=by
 simp only[Bool.not_eq_eq_eq_not,Bool.not_false] at h5 h6
 rw[jG,if_neg h1,if_neg h2,if_neg h3,if_neg h4,if_neg (by rw[h5,h6]; simp[h7,h8]),if_neg h9]
abbrev PD:Type:=aO.den
abbrev pd (u l:List Int) (w:Int) (ls:List Int):PD:=(u,l,w,ls,())
def Bi (p:PD):Int:=jG p.1 p.2.1 p.2.2.1 p.2.2.2.1
def jf:List PD→Int
 | []=>0
 | p::l=>if Bi p≠0 then Bi p else jf l
theorem o9 {l m:List PD} (h:jf l=0):jf (l++m)=jf m:=by
 induction l with
 | nil=>rfl
 | cons p l ih =>
  simp only[jf] at h ⊢
  split at h
  ·rename_i h1; exact(h1 h).elim
  ·rename_i h1; simp only[List.cons_append,jf,if_neg h1]; exact ih h
theorem Xp {l:List PD} {i:Nat} {d:PD} (h:i<l.length) (h1:jf (l.take i)=0) (h2:Bi (l.getD i d)≠0):jf l=Bi (l.getD i d):=by
 have e:l.getD i d=l[i]:=by simp[aN,h]
 rw[e] at h2 ⊢
 conv=>lhs; rw[← List.take_append_drop i l,nL h]
 rw[o9 h1,jf,if_pos h2]
theorem TZ {l:List PD} {i:Nat} {d:PD} (h:i<l.length) (h1:jf (l.take i)=0) (h2:Bi (l.getD i d)=0):jf (l.take (i+1))=0:=by
 have e:l.getD i d=l[i]:=by simp[aN,h]
 rw[e] at h2
 rw[← List.take_append_getElem h,o9 h1,jf,if_neg (by simp[h2])]; rfl
def c9 (p:PD):Prop:=p.1.length≤1000∧p.2.1.length≤1000∧p.2.2.2.1.length≤1000
theorem cV {P:PD→Prop} {l:List PD} {i:Nat} {d:PD} (h:i<l.length) (hl:∀ p∈l,P p):P (l.getD i d):=by
 have e:l.getD i d=l[i]:=by simp[aN,h]
 rw[e]; exact hl _ (mB _)
abbrev edV (u l:List Int):TV := .agg [.sl bO u .no,.sl bO l .no]
def uM (l:List Int):Prop:=∀ x∈l,0≤x∧x≤9
theorem yo {l:List Int} {i:Nat} (h:uM l) (hi:i<l.length):0≤l.getD i 0∧l.getD i 0≤9:=h _ (lE hi)
def fP (la ub:List Int) (s:Int):Nat→List Int
 | 0=>[]
 | i+1=>if 0≤(i:Int)+s∧(i:Int)+s<la.length then fP la ub s i++[ub.getD i 0+la.getD ((i:Int)+s).toNat 0] else fP la ub s i
def M8 (st:Int×Int×Int) (x:Int):Int×Int×Int:=(if x<(if st.2.2=0 then x else st.1) then x else (if st.2.2=0 then x else st.1),if x>(if st.2.2=0 then x else st.2.1) then x else (if st.2.2=0 then x else st.2.1),st.2.2+1)
def oD (l:List Int):Int×Int×Int:=l.foldl M8 (0,0,0)
theorem Si {l:List Int} {lo hi m x:Int} (h:oD l=(lo,hi,m)) (h0:m=0):oD (l++[x])=(if x<x then x else x,if x>x then x else x,m+1):=by
 subst h0
 rw[oD,List.foldl_append,← oD,h]; rfl
theorem Ed {l:List Int} {lo hi m x:Int} (h:oD l=(lo,hi,m)) (h0:m≠0):oD (l++[x])=(if x<lo then x else lo,if x>hi then x else hi,m+1):=by
 rw[oD,List.foldl_append,← oD,h]
 simp only[List.foldl_cons,List.foldl_nil,M8,if_neg h0]
theorem yU {la ub:List Int} {s:Int} (h:s ≤ -(ub.length:Int)∨(la.length:Int)≤s):fP la ub s ub.length=[]:=by
 have key:∀ i,i≤ub.length→fP la ub s i=[]:=by
  intro i
  induction i with
  | zero=>intro _; rfl
  | succ i ih=>intro hi; rw[fP,if_neg (by omega)]; exact ih (by omega)
 exact key _ (ak _)
abbrev stA (la ub:List Int) (s:Int):Int×Int×Int:=oD (fP la ub s ub.length)
def ia (la ub:List Int) (cD s:Int):Bool:=decide (3≤(oD (fP la ub s ub.length)).2.2∧(oD (fP la ub s ub.length)).2.1-(oD (fP la ub s ub.length)).1≤cD)
def pJ (la ub:List Int) (cD:Int) (k:Nat):List Int:=((List.range k).map fun(j:Nat)=>(j:Int)-(ub.length:Int)).filter (ia la ub cD)
theorem We {la ub:List Int} {cD:Int} {k:Nat} (h:ia la ub cD ((k:Int)-(ub.length:Int))=true):pJ la ub cD k++[(k:Int)-(ub.length:Int)]=pJ la ub cD (k+1):=by
 simp[pJ,jM,oZ,h]
theorem Rh {la ub:List Int} {cD:Int} {k:Nat} (h:ia la ub cD ((k:Int)-(ub.length:Int))=false):pJ la ub cD k=pJ la ub cD (k+1):=by
 simp[pJ,jM,oZ,h]
theorem Wh (la ub:List Int) (cD:Int) (k:Nat):(pJ la ub cD k).length≤k:=by
 unfold pJ
 refine aS (qR _ _) ?_
 simp
theorem aaL {l:List Int} (h:∀ x∈l,0≤x∧x≤18):0≤(oD l).1∧(oD l).1≤18∧0≤(oD l).2.1∧(oD l).2.1≤18∧0≤(oD l).2.2:=by
 have key:∀ (l:List Int) (st:Int×Int×Int),(∀ x∈l,0≤x∧x≤18)→(0≤st.1∧st.1≤18∧0≤st.2.1∧st.2.1≤18∧0≤st.2.2)→0≤(l.foldl M8 st).1∧(l.foldl M8 st).1≤18∧0≤(l.foldl M8 st).2.1∧(l.foldl M8 st).2.1≤18∧0≤(l.foldl M8 st).2.2:=by
  intro l
  induction l with
  | nil=>intro st _ h; exact h
  | cons x l ih =>
   intro st hx h
   have h1:=hx x (by simp)
   refine ih _ (fun y hy=>hx y (by simp[hy])) ?_
   obtain⟨a,b,c⟩:=st
   simp only[M8] at h ⊢
   refine⟨?_,?_,?_,?_,?_⟩<;>(repeat' split)<;>omega
 exact key l _ h (by simp)
theorem Gb {la ub:List Int} {s:Int} (h1:uM la) (h2:uM ub):∀ i,i≤ub.length→∀ x∈fP la ub s i,0≤x∧x≤18
 | 0,_,x,hx=>by cases hx
 | i+1,hi,x,hx=>by
  rw[fP] at hx
  split at hx
  ·rename_i hc
   rcases ja.1 hx with hx | hx
   ·exact Gb h1 h2 i (by omega) x hx
   ·rw[bN] at hx
    have k1:=yo h2 (i:=i) (by omega)
    have k2:=yo h1 (i:=((i:Int)+s).toNat) (by omega)
    omega
  ·exact Gb h1 h2 i (by omega) x hx
theorem Rf {la ub:List Int} (s:Int) (h1:uM la) (h2:uM ub):0≤(stA la ub s).1∧(stA la ub s).1≤18∧0≤(stA la ub s).2.1∧(stA la ub s).2.1≤18∧0≤(stA la ub s).2.2:=aaL (Gb h1 h2 _ (ak _))
theorem A0 {m:Int} {l:List Int}:l.all (nN m)=true↔∀ x∈l,0≤x∧x≤m:=by simp[nN]
theorem Ew {ls:List Int}:∀ (n i:Nat),ls.length-i=n→(jZ ls i=0↔∀ j,i≤j→j<ls.length→(0≤ls.getD j 0∧ls.getD j 0≤3)∧(0<j→ls.getD (j-1) 0<ls.getD j 0)):=by
 intro n
 induction n with
 | zero=>intro i h; rw[Qv (by omega)]; exact⟨fun _ j h1 h2=>by omega,fun _=>rfl⟩
 | succ n ih =>
  intro i h
  by_cases h1:ls.getD i 0<0∨3<ls.getD i 0
  ·rw[LD (by omega) h1]
   exact⟨fun e=>by omega,fun e=>by have:=(e i (ak _) (by omega)).1; omega⟩
  ·by_cases h2:0<i∧ls.getD i 0≤ls.getD (i-1) 0
   ·rw[Qu (by omega) h1 h2]
    exact⟨fun e=>by omega,fun e=>by have:=(e i (ak _) (by omega)).2 h2.1; omega⟩
   ·rw[sX (by omega) h1 h2,ih (i+1) (by omega)]
    refine⟨fun e j hj wB => ?_,fun e j hj wB=>e j (by omega) wB⟩
    by_cases Li:j=i
    ·subst Li; exact⟨by omega,fun h3=>by omega⟩
    ·exact e j (by omega) wB
theorem abE {ls:List Int} (h:∀ j,0<j→j<ls.length→ls.getD (j-1) 0<ls.getD j 0):ls.Pairwise (· < ·):=by
 rw[List.pairwise_iff_getElem]
 have key:∀ j i,i<j→(hj:j<ls.length)→ls.getD i 0<ls.getD j 0:=by
  intro j
  induction j with
  | zero=>intro i hi; omega
  | succ j ih =>
   intro i hi hj
   have h1:=h (j+1) (by omega) hj
   simp only[Nat.add_sub_cancel] at h1
   by_cases e:i=j
   ·subst e; exact h1
   ·have:=ih i (by omega) (by omega); omega
 intro i j hi hj Li
 have:=key j i Li hj
 rwa [nE hi,nE hj] at this
theorem abb {ls:List Int} (h:ls.Pairwise (· < ·)) {j:Nat} (h0:0<j) (hj:j<ls.length):ls.getD (j-1) 0<ls.getD j 0:=by
 rw[List.pairwise_iff_getElem] at h
 rw[nE hj,nE (by omega)]
 exact h _ _ _ _ (by omega)
theorem Kh {u l:List Int} {w:Int} {ls:List Int}:jG u l w ls=0↔Ok u l w ls:=by
 unfold jG
 constructor
 ·intro h
  split at h; omega
  split at h; omega
  split at h; omega
  split at h; omega
  split at h; omega
  split at h; omega
  rename_i h1 h2 h3 h4 h5 h6
  simp only[not_or,Bool.not_eq_false] at h5
  have hz:=(Ew _ 0 rfl).1 h
  refine⟨by omega,by omega,by omega,A0.1 h5.1,A0.1 h5.2.1,by omega,by omega,fun e=>h6 (by rw[e]; rfl),fun x hx => ?_,abE fun j hj wB=>(hz j (gh _) wB).2 hj⟩
  obtain⟨j,hj,rfl⟩:=List.getElem_of_mem hx
  have:=(hz j (gh _) hj).1
  rwa [nE hj] at this
 ·intro h
  have h1:=h.n3
  have h2:=h.n8
  have h3:=h.len
  have h4:=h.w0
  have h5:=h.w2
  have h6:ls.length≠0:=fun e=>h.ne (eF e)
  rw[if_neg (by omega),if_neg (by omega),if_neg (by omega),if_neg (by omega),if_neg (by rw[A0.2 h.hu,A0.2 h.hl]; simp; omega),if_neg h6]
  exact(Ew _ 0 rfl).2 fun j _ hj=>⟨h.O6 _ (lE hj),fun h0=>abb h.U3 h0 hj⟩
def Sh (u l ls:List Int):Prop:=u.length≤1000∧l.length≤1000∧ls.length≤1000
theorem Ok.num {u l:List Int} {w:Int} {ls:List Int} (h:Ok u l w ls):(3≤u.length∧u.length≤8∧l.length=u.length∧0≤w∧w≤2)∧uM u∧uM l:=⟨⟨h.n3,h.n8,h.len,h.w0,h.w2⟩,h.hu,h.hl⟩
def afS (la ub:List Int) (wa wb s:Int):RQ.den:=((oD (fP la ub s ub.length)).2.1,(oD (fP la ub s ub.length)).1+wa+wb,())
theorem DO {u l:List Int} {w:Int} {ls:List Int} (h:Ok u l w ls):Sh u l ls:=by
 refine⟨by have:=h.n8; omega,by have:=h.n8; have:=h.len; omega,?_⟩
 have key:∀ (ls:List Int) (m:Int),m≤4→(∀ x∈ls,m≤x∧x≤3)→ls.Pairwise (· < ·)→(ls.length:Int)≤4-m:=by
  intro ls
  induction ls with
  | nil=>intro m hm _ _; simp; omega
  | cons x ls ih =>
   intro m hm h1 h2
   rw[List.pairwise_cons] at h2
   have h3:=h1 x (by simp)
   have:=ih (x+1) (by omega) (fun y hy=>⟨by have:=h2.1 y hy; omega,(h1 y (by simp[hy])).2⟩) h2.2
   simp only[List.length_cons]
   omega
 have:=key ls 0 (by omega) h.O6 h.U3
 omega
def afy (la ub:List Int) (s:Int) (i:Nat):Option Int:=if 0≤(i:Int)+s∧(i:Int)+s<la.length then some (ub.getD i 0+la.getD ((i:Int)+s).toNat 0) else none
def bR (n:Int) (u l:List Int):List Int:=if n=1 then l.reverse else if n=2 then u.reverse else if n=3 then l else u
def bS (n:Int) (u l:List Int):List Int:=if n=1 then u.reverse else if n=2 then l.reverse else if n=3 then u else l
theorem Ta {l a l1:List Int} {w:Int} {ls:List Int} (h:Ok a l1 w ls) (hn:l1.length=l.length) (hl:uM l):Ok (l.map (9-·)) l1 w ls where
 n3:=by have:=h.n3; have:=h.len; simp; omega
 n8:=by have:=h.n8; have:=h.len; simp; omega
 len:=by simp; omega
 hu:=fun x hx=>by
  simp only[cR] at hx
  obtain⟨y,hy,rfl⟩:=hx
  have:=hl y hy
  omega
 hl:=h.hl
 w0:=h.w0
 w2:=h.w2
 ne:=h.ne
 O6:=h.O6
 U3:=h.U3
def afP (la ub:List Int) (w s:Int):Int×Int×Int:=if (stA la ub s).2.2<3 then (0,0,7) else if (stA la ub s).2.1-(stA la ub s).1>w then (0,0,11) else ((stA la ub s).2.1,(stA la ub s).1+w,0)
end Go.Tv
end
section
namespace Go.Tv
open Go Go.Di Go.Proofs
set_option maxRecDepth 100000
def D53:List TV→Dn
  | [.sl (.int .i64) l .no,.val (.int .i64 x)]=>some ([l.length≤1000],.res (kC (decide (x∈l))) [] [],[(3,.ex Nat fun i => .st { sl:=[(5,bk i)],dm:=[i≤l.length,x ∉ l.take i],m:=l.length-i })])
  | _=>none
theorem v53:VI T0 Tryz.f97 [some .bool] D53:=by
  intro a p s j h hp
  unfold D53 at h
  split at h<;>cases h
  rename_i l x
  have h1:=hp.1
  refine wu (A:=(∃ (a:Nat),0=(↑a:Int)∧a≤l.length∧¬x∈List.take a l∧l.length-a<1000000)∧∀ (a:Nat),a≤l.length→¬x∈List.take a l→aG (decide ((↑a:Int)<(↑l.length:Int))) ((0≤(↑a:Int)∧(↑a:Int)<(↑l.length:Int))∧aG (l.getD a 0==x) (true=decide (x∈l)∧True) (cE ((↑a:Int)+1)∧∃ (a_3:Nat),l=l∧x=x∧(↑a:Int)+1=(↑a_3:Int)∧a_3≤l.length∧¬x∈List.take a_3 l∧l.length-a_3<l.length-a)) (false=decide (x∈l)∧True)) (by kernel_rfl) ?_
  simp only[bL,dF,cC,dR,fE,cE,and_true,true_and,eq_self]
  refine⟨⟨0,by omega,by omega,by simp,by omega⟩,fun i h2 h3=>⟨fun h4=>⟨by omega,fun h5 => ?_,fun h5=>⟨by omega,i+1,by omega,by omega,?_,by omega⟩⟩,fun h4 => ?_⟩⟩
  · rw[gB]; rw[← h5]; exact lE (by omega)
  · rw[take_one (by omega)]; simp only[ja,bN,not_or]; exact⟨h3,fun e=>h5 e.symm⟩
  · rw[show i=l.length by omega,fo] at h3; rw[gC h3]
def D52:List TV→Dn
  | [.sl (.int .i64) l .no]=>some ([l.length≤1000],.res (.sl bO l.reverse .no) [] [],[(4,.ex Nat fun i => .st { sl:=[(3,.sl bO ((l.drop i).reverse) (.oE 0)),(4,bk ((i:Nat)-1:Int))],own:=[(3,1)],dm:=[i≤l.length],m:=i })])
  | _=>none
theorem v52:VI T0 Tryz.f119 [some bM] D52:=by
  intro a p s j h hp
  unfold D52 at h
  split at h<;>cases h
  rename_i l
  have h1:=hp.1
  refine wu (A:=cE ((↑l.length:Int)-1)∧(∃ (a:Nat),[]=(List.drop a l).reverse∧(↑l.length:Int)-1=(↑a:Int)-1∧a≤l.length∧a<1000000)∧∀ (a:Nat),a≤l.length→aG (decide ((↑a:Int)-1≥0)) ((0≤(↑a:Int)-1∧(↑a:Int)-1<(↑l.length:Int))∧(List.drop a l).reverse.length+1≤1000000000∧cE ((↑a:Int)-1-1)∧∃ (a_2:Nat),l=l∧lM bO.den∧(List.drop a l).reverse++[l.getD ((↑a:Int)-1).toNat (0:Int)]=(List.drop a_2 l).reverse∧(↑a:Int)-1-1=(↑a_2:Int)-1∧a_2≤l.length∧a_2<a) ((List.drop a l).reverse=l.reverse∧True)) (by kernel_rfl) ?_
  simp only[bL,dF,cC,dR,fE,cE,and_true,true_and,eq_self]
  refine⟨by omega,⟨l.length,by simp,by omega,by omega,by omega⟩,fun i h2=>⟨fun h3=>⟨by omega,by simp; omega,by omega,i-1,?_,by omega,by omega,by omega⟩,fun h3 => ?_⟩⟩
  · obtain⟨j,rfl⟩:∃ j,i=j+1:=⟨i-1,by omega⟩
    rw[show ((j+1:Nat):Int)-1=(j:Int) by omega,Int.toNat_natCast,drop_one (by omega)]; rfl
  · rw[show i=0 by omega,mz]
def D97:List TV→List TV→Dn
  | [.val (.int .i64 x),.ptr 0 0],[.val (.int .i64 ez)]=>some ([],.res (kC (!nN ez x)) [bk ez] [],[])
  | _,_=>none
theorem v97:VC T0 Tryz.f121 [some .bool] [some bO] D97:=by
  intro a cs p s j h hp
  unfold D97 at h
  split at h<;>cases h
  rename_i x ez
  refine wu (A:=aG (decide (x<0)) (true = !nN ez x∧ez=ez∧True) (decide (x>ez) = !nN ez x∧ez=ez∧True)) (by kernel_rfl) ?_
  simp only[bL,dF,cC,dR,fE,cE,and_true,true_and,eq_self]
  refine⟨fun h => ?_,fun h => ?_⟩
  · rw[nN,gC (by omega)]; rfl
  · rw[nN,← decide_not,oV]; omega
def T1:gP:=((T0.cI 97 fun a=>dS (D53 a)).cI 119 fun a=>dS (D52 a)).uJ 121 fun a c=>dS (D97 a c)
def aao:List TV→List TV→Dn
  | [.sl (.int .i64) l .no,.fn 121 [] [.ptr 0 0]],[.val (.int .i64 ez)]=>some ([l.length≤1000],.ex Int fun k => .res (bk k) [bk ez] [if l.all (nN ez) then k = -1 else 0≤k],[(3,.ex Nat fun i => .st { sl:=[(8,bk i)],dm:=[i≤l.length,(l.take i).all (nN ez)=true],m:=l.length-i })])
  | _,_=>none
theorem v109:VC T1 Tryz.f132 [some bO] [some bO] aao:=by
  intro a cs p s j h hp
  unfold aao at h
  split at h<;>cases h
  rename_i l ez
  have h1:=hp.1
  refine wu (A:=(∃ (a:Nat),0=(↑a:Int)∧a≤l.length∧(List.take a l).all (nN ez)=true∧l.length-a<1000000)∧∀ (a:Nat),a≤l.length→(List.take a l).all (nN ez)=true→aG (decide ((↑a:Int)<(↑l.length:Int))) ((0≤(↑a:Int)∧(↑a:Int)<(↑l.length:Int))∧aG (!nN ez (l.getD a 0)) (∃ (a_3:Int),(↑a:Int)=a_3∧ez=ez∧(if l.all (nN ez)=true then a_3=(-1:Int) else 0≤a_3)∧True) (cE ((↑a:Int)+1)∧∃ (a_3:Nat),l=l∧(↑l.length:Int)=(↑l.length:Int)∧(↑a:Int)+1=(↑a_3:Int)∧ez=ez∧a_3≤l.length∧(List.take a_3 l).all (nN ez)=true∧l.length-a_3<l.length-a)) (∃ (a:Int),(-1:Int)=a∧ez=ez∧(if l.all (nN ez)=true then a=(-1:Int) else 0≤a)∧True)) (by kernel_rfl) ?_
  simp only[bL,dF,cC,dR,fE,cE,and_true,true_and,eq_self]
  refine⟨⟨0,by omega,by omega,by simp,by omega⟩,fun i h2 h3=>⟨fun h4=>⟨by omega,?_⟩,fun h4 => ?_⟩⟩
  · rw[gY]
    refine⟨fun h5=>⟨by omega,i+1,by omega,by omega,M4 (by omega) h3 h5,by omega⟩,fun h5=>⟨_,rfl,?_⟩⟩
    rw[Mx (i:=i) (by omega) h5]; simp
  · rw[show i=l.length by omega,fo] at h3; exact⟨_,rfl,by rw[h3]; simp⟩
def D16:List TV→Dn
  | [.agg [.sl (.int .i64) u .no,.sl (.int .i64) l .no,.val (.int .i64 w),.sl (.int .i64) ls .no],.val (.int .i64 n)]=>some ([u.length≤1000,l.length≤1000,ls.length≤1000,0≤n,n≤3],.res (Uh (bR n u l) (bS n u l) w (fT n ls 4)) [] [],
    [(2,.ex (List Int) fun u1 => .ex (List Int) fun l1 => .st { sl:=[(5,.ptr 13 0)],pl:=[(13,[.sl bO u1 .no,.sl bO l1 .no,bk w,.gq])],dm:=[u1=if n=1∨n=3 then l.reverse else u,l1=if n=1∨n=3 then u.reverse else l] }),
     (4,.st { sl:=[(5,.ptr 13 0)],pl:=[(13,[.sl bO (bR n u l) .no,.sl bO (bS n u l) .no,bk w,.gq])] }),
     (8,.ex Nat fun i => .st { sl:=[(6,bk i)],pl:=[(13,[.sl bO (bR n u l) .no,.sl bO (bS n u l) .no,bk w,.sl bO (fT n ls i) (.oE 14)])],own:=[(3,1)],dm:=[i≤4],m:=4-i })])
  | _=>none
theorem v16:VI T1 Tryz.f81 [some aO] D16:=by
  intro a p s j h hp
  unfold D16 at h
  split at h<;>cases h
  rename_i u l w ls n
  obtain⟨h1,h2,h3,h4,h5,-⟩:=hp
  refine wu (A:=0+u.length≤1000000000∧0+l.length≤1000000000∧aG (n==1) (l.length≤1000∧u.length≤1000∧∃ (a:List Int),∃ (a_1:List Int),n=n∧u=u∧l=l∧w=w∧ls=ls∧(0:Int)=0∧l.reverse=a∧u.reverse=a_1∧w=w∧(a=if n=1∨n=3 then l.reverse else u)∧(a_1=if n=1∨n=3 then u.reverse else l)∧True) (aG (n==3) (l.length≤1000∧u.length≤1000∧∃ (a:List Int),∃ (a_1:List Int),n=n∧u=u∧l=l∧w=w∧ls=ls∧(0:Int)=0∧l.reverse=a∧u.reverse=a_1∧w=w∧(a=if n=1∨n=3 then l.reverse else u)∧(a_1=if n=1∨n=3 then u.reverse else l)∧True) (∃ (a:List Int),∃ (a_1:List Int),n=n∧u=u∧l=l∧w=w∧ls=ls∧(0:Int)=0∧u=a∧l=a_1∧w=w∧(a=if n=1∨n=3 then l.reverse else u)∧(a_1=if n=1∨n=3 then u.reverse else l)∧True))∧∀ (a a_1:List Int),(a=if n=1∨n=3 then l.reverse else u)→(a_1=if n=1∨n=3 then u.reverse else l)→aG (n==2) (a.length≤1000∧a_1.length≤1000∧n=n∧u=u∧l=l∧w=w∧ls=ls∧(0:Int)=0∧a.reverse=bR n u l∧a_1.reverse=bS n u l∧w=w∧True) (aG (n==3) (a.length≤1000∧a_1.length≤1000∧n=n∧u=u∧l=l∧w=w∧ls=ls∧(0:Int)=0∧a.reverse=bR n u l∧a_1.reverse=bS n u l∧w=w∧True) (n=n∧u=u∧l=l∧w=w∧ls=ls∧(0:Int)=0∧a=bR n u l∧a_1=bS n u l∧w=w∧True))∧(∃ (a:Nat),0=(↑a:Int)∧bR n u l=bR n u l∧bS n u l=bS n u l∧w=w∧[]=fT n ls a∧a≤4∧4-a<1000000)∧∀ (a:Nat),a≤4→aG (decide ((↑a:Int)≤3)) (ls.length≤1000∧aG (decide (IntKind.i64.wrap (↑(BitVec.ofInt 64 (↑a:Int) ^^^ BitVec.ofInt 64 n).toNat:Int)∈ls)) ((fT n ls a).length+1≤1000000000∧cE ((↑a:Int)+1)∧∃ (a_5:Nat),n=n∧(↑a:Int)+1=(↑a_5:Int)∧u=u∧l=l∧w=w∧ls=ls∧(0:Int)=0∧bR n u l=bR n u l∧bS n u l=bS n u l∧w=w∧fT n ls a++[(↑a:Int)]=fT n ls a_5∧a_5≤4∧4-a_5<4-a) (cE ((↑a:Int)+1)∧∃ (a_5:Nat),n=n∧(↑a:Int)+1=(↑a_5:Int)∧u=u∧l=l∧w=w∧ls=ls∧(0:Int)=0∧bR n u l=bR n u l∧bS n u l=bS n u l∧w=w∧fT n ls a=fT n ls a_5∧a_5≤4∧4-a_5<4-a)) (bR n u l=bR n u l∧bS n u l=bS n u l∧w=w∧fT n ls a=fT n ls 4∧True)) (by kernel_rfl) ?_
  simp only[bL,dF,cC,cE,and_true,true_and,eq_self]
  refine⟨by omega,by omega,⟨fun e=>⟨h2,h1,_,_,rfl,rfl,by simp[e],by simp[e]⟩,fun e=>⟨fun e1=>⟨h2,h1,_,_,rfl,rfl,by simp[e1],by simp[e1]⟩,fun e1=>⟨_,_,rfl,rfl,by simp[e,e1],by simp[e,e1]⟩⟩⟩,?_⟩
  rintro _ _ rfl rfl
  refine⟨⟨fun e=>⟨by split<;>simp_all,by split<;>simp_all,by simp[e,bR],by simp[e,bS]⟩,fun e=>⟨fun e1=>⟨by split<;>simp_all,by split<;>simp_all,by simp[e1,bR],by simp[e1,bS]⟩,fun e1=>⟨by simp[e,e1,bR],by simp[e,e1,bS]⟩⟩⟩,⟨0,rfl,rfl,by omega,by omega⟩,fun i hi=>⟨fun h=>⟨h3,?_⟩,fun h=>by rw[show i=4 by omega]⟩⟩
  have hx:=OM n ls i
  change (fH i n∈ls→_)∧(¬ fH i n∈ls→_)
  exact⟨fun h=>⟨by omega,by omega,i+1,by omega,OL h,by omega,by omega⟩,fun h=>⟨by omega,i+1,by omega,Tu h,by omega,by omega⟩⟩
section
variable {bG:bV} (tk:uK bG)
include tk
theorem Vb:jT bG 1 T1:=M9 (eO tk) Tryz.func121 rfl v97 (kz tk (eO tk) (by decide) Tryz.func119 rfl v52 (kz tk (eO tk) (by decide) Tryz.func97 rfl v53 (dX (eO tk))))
end
end Go.Tv
end
section
namespace Go.Tv
open Go Go.Di Go.Proofs
set_option maxRecDepth 100000
set_option maxHeartbeats 1000000
abbrev HB (v:Int→TV) (f:Int→List Prop):uO := .ex Int fun k => .ex (List Int) fun r => .ex Int fun z => .res (v k) (yd r z) (f k)
def D81:List TV→List TV→Dn
 | [.ptr 0 0],[.sl (.int .i64) _ .no,.val (.int .u64 z)]=>some ([],HB (fun k => .val (.int .u64 k)) fun k=>[0≤k,k<4294967296],[(2,.ex Int fun k => .ex (List Int) fun r => .st { sl:=[(3,.val (.int .u64 k))],pl:=[(0,yd r z)] })])
 | _,_=>none
theorem v81:VC T0 Tryz.f58 [some (.int .u64)] [some bM,some (.int .u64)] D81:=by
 intro a cs p s j h hp
 unfold D81 at h
 split at h<;>cases h
 rename_i r z
 refine wu (A:=aG (decide ((↑r.length:Int)>0)) (((0:Int)≤0∧0<(↑r.length:Int))∧((0:Int)≤1∧1≤(↑r.length:Int))∧∃ (a:Int),∃ (a_1:List Int),(0:Int)=0∧IntKind.u64.wrap (r.getD 0 0)=a∧List.drop 1 r=a_1∧z=z∧True) (∃ (a:Int),∃ (a_1:List Int),(0:Int)=0∧0=a∧r=a_1∧z=z∧True)∧∀ (a:Int) (a_1:List Int),∃ (a_2:Int),∃ (a_3:List Int),∃ (a_4:Int),(IntKind.u64.wrap (IntKind.u64.wrap (↑(BitVec.ofInt 64 (IntKind.u64.wrap (↑(BitVec.ofInt 64 (IntKind.u64.wrap (IntKind.u64.wrap (IntKind.u64.wrap (z+a)+6364136223846793005)*15074714826142052245)) ^^^ BitVec.ofInt 64 ((IntKind.u64.wrap (IntKind.u64.wrap (IntKind.u64.wrap (z+a)+6364136223846793005)*15074714826142052245)).fdiv (536870912:Int))).toNat:Int)) ^^^ BitVec.ofInt 64 ((IntKind.u64.wrap (↑(BitVec.ofInt 64 (IntKind.u64.wrap (IntKind.u64.wrap (IntKind.u64.wrap (z+a)+6364136223846793005)*15074714826142052245)) ^^^ BitVec.ofInt 64 ((IntKind.u64.wrap (IntKind.u64.wrap (IntKind.u64.wrap (z+a)+6364136223846793005)*15074714826142052245)).fdiv (536870912:Int))).toNat:Int)).fdiv (8589934592:Int))).toNat:Int)*18397679294719823053)).fdiv 4294967296=a_2∧a_1=a_3∧IntKind.u64.wrap (↑(BitVec.ofInt 64 (IntKind.u64.wrap (IntKind.u64.wrap (IntKind.u64.wrap (z+a)+6364136223846793005)*15074714826142052245)) ^^^ BitVec.ofInt 64 ((IntKind.u64.wrap (IntKind.u64.wrap (IntKind.u64.wrap (z+a)+6364136223846793005)*15074714826142052245)).fdiv (536870912:Int))).toNat:Int)=a_4∧0≤a_2∧a_2<4294967296∧True) (by kernel_rfl) ?_
 simp only[bL,dF,cC,dR,fE,cE,and_true,true_and,eq_self]
 refine⟨⟨fun h=>⟨by omega,by omega,_,_,rfl,rfl⟩,fun h=>⟨_,_,rfl,rfl⟩⟩,fun k r1=>⟨_,_,_,rfl,rfl,rfl,(YA rfl).1,(YA rfl).2⟩⟩
def D11:List TV→Dn
 | [.sl (.int .i64) l .no]=>some ([],.res .unk (yd l 1) [],[])
 | _=>none
theorem v11:VN T0 Tryz.f13 [some bM,some (.int .u64)] D11:=by
 intro a p s j h hp
 unfold D11 at h
 split at h<;>cases h
 rename_i l
 refine wu (A:=l=l∧(1:Int)=1∧True) (by kernel_rfl) ?_
 exact⟨rfl,rfl,trivial⟩
def D60:List TV→Dn
 | [.agg [.sl (.int .i64) ua .no,.sl (.int .i64) la .no],.agg [.sl (.int .i64) ub .no,.sl (.int .i64) lb .no],.val (.int .i64 s)]=>some ([la.length≤1000,ub.length≤1000,uM la,uM ub],.res (.gd [bk (stA la ub s).1,bk (stA la ub s).2.1,bk (stA la ub s).2.2]) [] [],
  [(6,.ex Nat fun i => .ex Int fun lo => .ex Int fun hi => .ex Int fun m => .st { sl:=[(6,bk lo),(7,bk hi),(8,bk m),(29,bk i)],dm:=[i≤ub.length,0≤m,m≤i,oD (fP la ub s i)=(lo,hi,m)],m:=ub.length-i })])
 | _=>none
theorem v60:VI T0 Tryz.f78 [some bO,some bO,some bO] D60:=by
 intro a p s j h hp
 unfold D60 at h
 split at h<;>cases h
 rename_i ua la ub lb s
 obtain⟨h1,h2,h5,h6,-⟩:=hp
 refine wu (A:=cE (-(↑ub.length:Int))∧aG (decide (s ≤ -(↑ub.length:Int))) (0=(stA la ub s).fst∧0=(stA la ub s).snd.fst∧0=(stA la ub s).snd.snd∧True) (aG (decide (s≥(↑la.length:Int))) (0=(stA la ub s).fst∧0=(stA la ub s).snd.fst∧0=(stA la ub s).snd.snd∧True) ((∃ (a:Nat),∃ (a_1:Int),∃ (a_2:Int),∃ (a_3:Int),0=a_1∧0=a_2∧0=a_3∧0=(↑a:Int)∧a≤ub.length∧0≤a_3∧a_3≤(↑a:Int)∧oD (fP la ub s a)=(a_1,a_2,a_3)∧ub.length-a<1000000)∧∀ (a:Nat) (a_1 a_2 a_3:Int),a≤ub.length→0≤a_3→a_3≤(↑a:Int)→oD (fP la ub s a)=(a_1,a_2,a_3)→aG (decide ((↑a:Int)<(↑ub.length:Int))) ((0≤(↑a:Int)∧(↑a:Int)<(↑ub.length:Int))∧cE ((↑a:Int)+s)∧aG (decide ((↑a:Int)+s<0)) (cE ((↑a:Int)+1)∧∃ (a_8:Nat),∃ (a_9:Int),∃ (a_10:Int),∃ (a_11:Int),s=s∧a_1=a_9∧a_2=a_10∧a_3=a_11∧ub=ub∧(↑ub.length:Int)=(↑ub.length:Int)∧(↑a:Int)+1=(↑a_8:Int)∧ua=ua∧la=la∧ub=ub∧lb=lb∧a_8≤ub.length∧0≤a_11∧a_11≤(↑a_8:Int)∧oD (fP la ub s a_8)=(a_9,a_10,a_11)∧ub.length-a_8<ub.length-a) (aG (decide ((↑a:Int)+s≥(↑la.length:Int))) (cE ((↑a:Int)+1)∧∃ (a_8:Nat),∃ (a_9:Int),∃ (a_10:Int),∃ (a_11:Int),s=s∧a_1=a_9∧a_2=a_10∧a_3=a_11∧ub=ub∧(↑ub.length:Int)=(↑ub.length:Int)∧(↑a:Int)+1=(↑a_8:Int)∧ua=ua∧la=la∧ub=ub∧lb=lb∧a_8≤ub.length∧0≤a_11∧a_11≤(↑a_8:Int)∧oD (fP la ub s a_8)=(a_9,a_10,a_11)∧ub.length-a_8<ub.length-a) ((0≤(↑a:Int)+s∧(↑a:Int)+s<(↑la.length:Int))∧cE (ub.getD a 0+la.getD ((↑a:Int)+s).toNat (0:Int))∧aG (a_3==0) (cE (a_3+1)∧cE ((↑a:Int)+1)∧∃ (a_8:Nat),∃ (a_9:Int),∃ (a_10:Int),∃ (a_11:Int),s=s∧(if ub.getD a 0+la.getD ((↑a:Int)+s).toNat 0<ub.getD a 0+la.getD ((↑a:Int)+s).toNat (0:Int) then ub.getD a 0+la.getD ((↑a:Int)+s).toNat (0:Int) else ub.getD a 0+la.getD ((↑a:Int)+s).toNat (0:Int))=a_9∧(if ub.getD a 0+la.getD ((↑a:Int)+s).toNat 0>ub.getD a 0+la.getD ((↑a:Int)+s).toNat (0:Int) then ub.getD a 0+la.getD ((↑a:Int)+s).toNat (0:Int) else ub.getD a 0+la.getD ((↑a:Int)+s).toNat (0:Int))=a_10∧a_3+1=a_11∧ub=ub∧(↑ub.length:Int)=(↑ub.length:Int)∧(↑a:Int)+1=(↑a_8:Int)∧ua=ua∧la=la∧ub=ub∧lb=lb∧a_8≤ub.length∧0≤a_11∧a_11≤(↑a_8:Int)∧oD (fP la ub s a_8)=(a_9,a_10,a_11)∧ub.length-a_8<ub.length-a) (cE (a_3+1)∧cE ((↑a:Int)+1)∧∃ (a_8:Nat),∃ (a_9:Int),∃ (a_10:Int),∃ (a_11:Int),s=s∧(if ub.getD a 0+la.getD ((↑a:Int)+s).toNat 0<a_1 then ub.getD a 0+la.getD ((↑a:Int)+s).toNat (0:Int) else a_1)=a_9∧(if ub.getD a 0+la.getD ((↑a:Int)+s).toNat 0>a_2 then ub.getD a 0+la.getD ((↑a:Int)+s).toNat (0:Int) else a_2)=a_10∧a_3+1=a_11∧ub=ub∧(↑ub.length:Int)=(↑ub.length:Int)∧(↑a:Int)+1=(↑a_8:Int)∧ua=ua∧la=la∧ub=ub∧lb=lb∧a_8≤ub.length∧0≤a_11∧a_11≤(↑a_8:Int)∧oD (fP la ub s a_8)=(a_9,a_10,a_11)∧ub.length-a_8<ub.length-a)))) (a_1=(stA la ub s).fst∧a_2=(stA la ub s).snd.fst∧a_3=(stA la ub s).snd.snd∧True)))) (by kernel_rfl) ?_
 simp only[bL,stA,dF,cC,dR,fE,cE,and_true,true_and,eq_self]
 refine⟨by omega,fun h=>by rw[yU (.inl h)]; exact⟨rfl,rfl,rfl⟩,fun _=>⟨fun h=>by rw[yU (.inr h)]; exact⟨rfl,rfl,rfl⟩,fun h=>⟨⟨0,0,0,0,rfl,rfl,rfl,rfl,by omega,by omega,by omega,rfl,by omega⟩,fun i lo hi m k1 k2 k3 k4=>⟨fun k5=>⟨by omega,by omega,fun k6=>⟨by omega,i+1,lo,hi,m,rfl,rfl,rfl,by omega,by omega,by omega,by omega,by rw[fP,if_neg (by omega)]; exact k4,by omega⟩,fun k6=>⟨fun k7=>⟨by omega,i+1,lo,hi,m,rfl,rfl,rfl,by omega,by omega,by omega,by omega,by rw[fP,if_neg (by omega)]; exact k4,by omega⟩,fun k7 => ?_⟩⟩,fun k5 => ?_⟩⟩⟩⟩
 ·have e1:=yo h6 (i:=i) (by omega)
  have e2:=yo h5 (i:=((i:Int)+s).toNat) (by omega)
  exact⟨by omega,by omega,fun k8=>⟨by omega,by omega,i+1,_,_,_,rfl,rfl,rfl,by omega,by omega,by omega,by omega,by rw[fP,if_pos (by omega)]; exact Si k4 k8,by omega⟩,fun k8=>⟨by omega,by omega,i+1,_,_,_,rfl,rfl,rfl,by omega,by omega,by omega,by omega,by rw[fP,if_pos (by omega)]; exact Ed k4 k8,by omega⟩⟩
 ·rw[show i=ub.length by omega] at k4
  rw[k4]; exact⟨rfl,rfl,rfl⟩
def T1b:gP:=((T1.uJ 58 fun a c=>dS (D81 a c)).VG 13 fun a=>dS (D11 a)).cI 78 fun a=>dS (D60 a)
def D46:List TV→List TV→Dn
 | [.ptr 0 0,.val (.int .i64 m)],[.sl (.int .i64) _ .no,.val (.int .u64 _)]=>some ([m≤1000,-10000≤m],HB bk fun k=>[0≤k,k≤m∨k=0],[])
 | _,_=>none
theorem v46:VC T1b Tryz.f15 [some bO] [some bM,some (.int .u64)] D46:=by
 intro a cs p s j h hp
 unfold D46 at h
 split at h<;>cases h
 rename_i m r z
 obtain⟨h1,h2,-⟩:=hp
 refine wu (A:=aG (decide (m≤0)) (∃ (a:Int),∃ (a_1:List Int),∃ (a_2:Int),0=a∧r=a_1∧z=a_2∧0≤a∧(a≤m∨a=0)∧True) (∀ (a:Int) (a_1:List Int) (a_2:Int),0≤a→a<4294967296→cE (m+1)∧∃ (a_5:Int),∃ (a_6:List Int),∃ (a_7:Int),IntKind.i64.wrap ((IntKind.u64.wrap (a*IntKind.u64.wrap (m+1))).fdiv (4294967296:Int))=a_5∧a_1=a_6∧a_2=a_7∧0≤a_5∧(a_5≤m∨a_5=0)∧True)) (by kernel_rfl) ?_
 simp only[bL,dF,cC,dR,fE,cE,and_true,true_and,eq_self]
 exact⟨fun h=>⟨0,_,_,rfl,rfl,rfl,by omega,by omega⟩,fun h k r1 z1 h3 h4=>⟨by omega,_,_,_,rfl,rfl,rfl,(X2 h1 (by omega) h3 h4).1,(X2 h1 (by omega) h3 h4).2⟩⟩
def D65:List TV→Dn
 | [.agg [.sl (.int .i64) ua .no,.sl (.int .i64) la .no],.agg [.sl (.int .i64) ub .no,.sl (.int .i64) lb .no],.val (.int .i64 w)]=>some ([la.length≤100,ub.length≤100,uM la,uM ub],.res (.sl bO (pJ la ub w (ub.length+la.length+1)) .no) [] [],
  [(4,.ex Nat fun k => .st { sl:=[(7,.sl bO (pJ la ub w k) (.oE 2)),(8,bk ((k:Int)-(ub.length:Int)))],own:=[(3,1)],dm:=[k≤ub.length+la.length+1],m:=ub.length+la.length+1-k })])
 | _=>none
theorem v65:VI T1b Tryz.f103 [some bM] D65:=by
 intro a p s j h hp
 unfold D65 at h
 split at h<;>cases h
 rename_i ua la ub lb w
 obtain⟨h1,h2,h3,h4,-⟩:=hp
 refine wu (A:=cE (-(↑ub.length:Int))∧(∃ (a:Nat),[]=pJ la ub w a ∧ -(↑ub.length:Int)=(↑a:Int)-(↑ub.length:Int)∧a≤ub.length+la.length+1∧ub.length+la.length+1-a<1000000)∧∀ (a:Nat),a≤ub.length+la.length+1→aG (decide ((↑a:Int)-(↑ub.length:Int)≤(↑la.length:Int))) (la.length≤1000∧ub.length≤1000∧uM la∧uM ub∧aG (decide ((stA la ub ((↑a:Int)-(↑ub.length:Int))).snd.snd≥3)) (cE ((stA la ub ((↑a:Int)-(↑ub.length:Int))).snd.fst-(stA la ub ((↑a:Int)-(↑ub.length:Int))).fst)∧aG (decide ((stA la ub ((↑a:Int)-(↑ub.length:Int))).snd.fst-(stA la ub ((↑a:Int)-(↑ub.length:Int))).fst≤w)) ((pJ la ub w a).length+1≤1000000000∧cE ((↑a:Int)-(↑ub.length:Int)+1)∧∃ (a_2:Nat),w=w∧lM bO.den∧pJ la ub w a++[(↑a:Int)-(↑ub.length:Int)]=pJ la ub w a_2∧(↑a:Int)-(↑ub.length:Int)+1=(↑a_2:Int)-(↑ub.length:Int)∧ua=ua∧la=la∧ub=ub∧lb=lb∧a_2≤ub.length+la.length+1∧ub.length+la.length+1-a_2<ub.length+la.length+1-a) (cE ((↑a:Int)-(↑ub.length:Int)+1)∧∃ (a_2:Nat),w=w∧lM bO.den∧pJ la ub w a=pJ la ub w a_2∧(↑a:Int)-(↑ub.length:Int)+1=(↑a_2:Int)-(↑ub.length:Int)∧ua=ua∧la=la∧ub=ub∧lb=lb∧a_2≤ub.length+la.length+1∧ub.length+la.length+1-a_2<ub.length+la.length+1-a)) (cE ((↑a:Int)-(↑ub.length:Int)+1)∧∃ (a_2:Nat),w=w∧lM bO.den∧pJ la ub w a=pJ la ub w a_2∧(↑a:Int)-(↑ub.length:Int)+1=(↑a_2:Int)-(↑ub.length:Int)∧ua=ua∧la=la∧ub=ub∧lb=lb∧a_2≤ub.length+la.length+1∧ub.length+la.length+1-a_2<ub.length+la.length+1-a)) (pJ la ub w a=pJ la ub w (ub.length+la.length+1)∧True)) (by kernel_rfl) ?_
 simp only[bL,stA,dF,cC,dR,fE,cE,and_true,true_and,eq_self]
 refine⟨by omega,⟨0,rfl,by omega,by omega,by omega⟩,fun k hk=>⟨fun h=>⟨by omega,by omega,h3,h4,?_⟩,fun h=>by rw[show k=ub.length+la.length+1 by omega]⟩⟩
 have e:=Rf (ub:=ub) ((k:Int)-ub.length) h3 h4
 simp only[stA] at e
 have hl:=Wh la ub w k
 exact⟨fun h5=>⟨by omega,fun h6=>⟨by omega,by omega,k+1,We (gB ⟨h5,h6⟩),by omega,by omega,by omega⟩,fun h6=>⟨by omega,k+1,Rh (gC fun e=>h6 e.2),by omega,by omega,by omega⟩⟩,fun h5=>⟨by omega,k+1,Rh (gC fun e=>h5 e.1),by omega,by omega,by omega⟩⟩
def T2:gP:=(((T1b.uJ 15 fun a c=>dS (D46 a c)).cI 81 fun a=>dS (D16 a)).uJ 132 fun a c=>dS (aao a c)).cI 103 fun a=>dS (D65 a)
def D19:List TV→List TV→Dn
 | [.ptr 0 0,.val (.int .i64 lo),.val (.int .i64 hi)],[.sl (.int .i64) _ .no,.val (.int .u64 _)]=>some ([-1000≤lo,lo≤1000,-1000≤hi,hi≤1000+lo,hi≤5000],HB bk fun k=>[lo≤k,k≤hi∨k=lo],[])
 | _,_=>none
theorem v19:VC T2 Tryz.f70 [some bO] [some bM,some (.int .u64)] D19:=by
 intro a cs p s j h hp
 unfold D19 at h
 split at h<;>cases h
 rename_i lo hi r z
 obtain⟨h1,h2,h3,h4,h5,-⟩:=hp
 refine wu (A:=cE (hi-lo)∧hi-lo≤1000∧(-10000:Int)≤hi-lo∧∀ (a:Int) (a_1:List Int) (a_2:Int),0≤a→a≤hi-lo∨a=0→cE (lo+a)∧∃ (a_5:Int),∃ (a_6:List Int),∃ (a_7:Int),lo+a=a_5∧a_1=a_6∧a_2=a_7∧lo≤a_5∧(a_5≤hi∨a_5=lo)∧True) (by kernel_rfl) ?_
 simp only[bL,dF,cC,dR,fE,cE,and_true,true_and,eq_self]
 exact⟨by omega,by omega,by omega,fun k r1 z1 h6 h7=>⟨by omega,_,_,_,rfl,rfl,rfl,by omega,by omega⟩⟩
def D27:List TV→List TV→Dn
 | [.ptr 0 0,.val (.int .i64 m)],[.sl (.int .i64) _ .no,.val (.int .u64 _)]=>some ([m≤1000,0≤m],.ex Bool fun b=>HB (fun _=>kC b) fun _=>[],[])
 | _,_=>none
theorem v27:VC T2 Tryz.f67 [some .bool] [some bM,some (.int .u64)] D27:=by
 intro a cs p s j h hp
 unfold D27 at h
 split at h<;>cases h
 rename_i m r z
 obtain⟨h1,h2,-⟩:=hp
 refine wu (A:=cE (m-1)∧m-1≤1000∧(-10000:Int)≤m-1∧∀ (a:Int) (a_1:List Int) (a_2:Int),0≤a→a≤m-1∨a=0→∃ (a_5:Bool),∃ (a_6:Int),∃ (a_7:List Int),∃ (a_8:Int),(a==IntKind.i64.wrap (m.tdiv (2:Int)))=a_5∧a_1=a_7∧a_2=a_8∧True) (by kernel_rfl) ?_
 simp only[bL,dF,cC,dR,fE,cE,and_true,true_and,eq_self]
 exact⟨by omega,by omega,by omega,fun k r1 z1 _ _=>⟨_,0,_,_,rfl,rfl,rfl⟩⟩
def D45:List TV→List TV→Dn
 | [.ptr 0 0,.sl (.int .i64) l .no],[.sl (.int .i64) _ .no,.val (.int .u64 _)]=>some ([0<l.length,l.length≤1000],HB bk fun k=>[k∈l],[])
 | _,_=>none
theorem v45:VC T2 Tryz.f69 [some bO] [some bM,some (.int .u64)] D45:=by
 intro a cs p s j h hp
 unfold D45 at h
 split at h<;>cases h
 rename_i l r z
 obtain⟨h1,h2,-⟩:=hp
 refine wu (A:=cE ((↑l.length:Int)-1)∧(↑l.length:Int)-1≤1000∧(-10000:Int)≤(↑l.length:Int)-1∧∀ (a:Int) (a_1:List Int) (a_2:Int),0≤a→a≤(↑l.length:Int)-1∨a=0→(0≤a∧a<(↑l.length:Int))∧∃ (a_5:Int),∃ (a_6:List Int),∃ (a_7:Int),l.getD a.toNat 0=a_5∧a_1=a_6∧a_2=a_7∧a_5∈l∧True) (by kernel_rfl) ?_
 simp only[bL,dF,cC,dR,fE,cE,and_true,true_and,eq_self]
 exact⟨by omega,by omega,by omega,fun k r1 z1 h3 h4=>⟨by omega,_,_,_,rfl,rfl,rfl,lE (by omega)⟩⟩
def D96:List TV→List TV→Dn
 | [.sl (.int .i64) l .no,.fn 121 [] [.ptr 0 0]],[.val (.int .i64 ez)]=>some ([l.length≤1000],.res (kC (!l.all (nN ez))) [bk ez] [],[])
 | _,_=>none
theorem v96:VC T2 Tryz.f120 [some .bool] [some bO] D96:=by
 intro a cs p s j h hp
 unfold D96 at h
 split at h<;>cases h
 rename_i l ez
 have h1:=hp.1
 refine wu (A:=l.length≤1000∧∀ (a:Int),(if l.all (nN ez)=true then a=(-1:Int) else 0≤a)→decide (a≥0) = !l.all (nN ez)∧ez=ez∧True) (by kernel_rfl) ?_
 simp only[bL,dF,cC,dR,fE,cE,and_true,true_and,eq_self]
 refine⟨h1,fun k hk => ?_⟩
 cases hl:l.all (nN ez)<;>simp[hl] at hk ⊢<;>omega
def T3:gP:=(((T2.uJ 70 fun a c=>dS (D19 a c)).uJ 67 fun a c=>dS (D27 a c)).uJ 69 fun a c=>dS (D45 a c)).uJ 120 fun a c=>dS (D96 a c)
def D44:List TV→List TV→Dn
 | [.ptr 0 0,.val (.int .i64 c)],[.sl (.int .i64) _ .no,.val (.int .u64 _)]=>some ([0≤c,c≤100],.ex (List Int) fun o => .ex (List Int) fun r => .ex Int fun z => .res (.sl bO o .no) (yd r z) [(o.length:Int)=c,uM o],
  [(5,.ex Nat fun i => .ex (List Int) fun o => .ex (List Int) fun r => .ex Int fun z => .st { sl:=[(6,.sl bO o (.oE 1)),(7,bk i)],pl:=[(0,yd r z)],own:=[(3,1)],dm:=[(i:Int)≤c,o.length=i,uM o],m:=c.toNat-i })])
 | _,_=>none
theorem v44:VC T3 Tryz.f87 [some bM] [some bM,some (.int .u64)] D44:=by
 intro a cs p s j h hp
 unfold D44 at h
 split at h<;>cases h
 rename_i c r z
 obtain⟨h1,h2,-⟩:=hp
 refine wu (A:=(7:Int)≤1000∧(-10000:Int)≤7∧∀ (a:Int) (a_1:List Int) (a_2:Int),0≤a→a≤7∨a=0→0<3∧3≤1000∧∀ (a_5:Int) (a_6:List Int) (a_7:Int),a_5∈[(0:Int),(2:Int),a]→(∃ (a:Nat),∃ (a_8:List Int),∃ (a_9:List Int),∃ (a_10:Int),[]=a_8∧0=(↑a:Int)∧a_6=a_9∧a_7=a_10∧(↑a:Int)≤c∧a_8.length=a∧uM a_8∧c.toNat-a<1000000)∧∀ (a:Nat) (a_8 a_9:List Int) (a_10:Int),(↑a:Int)≤c→a_8.length=a→uM a_8→aG (decide ((↑a:Int)<c)) (0<4∧4≤1000∧∀ (a_14:Int) (a_15:List Int) (a_16:Int),a_14∈[(0:Int),(0:Int),(1:Int),(2:Int)]→cE (a_5+a_14)∧a_8.length+1≤1000000000∧cE ((↑a:Int)+1)∧∃ (a_18:Nat),∃ (a_19:List Int),∃ (a_20:List Int),∃ (a_21:Int),c=c∧lM bO.den∧a_5=a_5∧a_8++[a_5+a_14]=a_19∧(↑a:Int)+1=(↑a_18:Int)∧a_15=a_20∧a_16=a_21∧(↑a_18:Int)≤c∧a_19.length=a_18∧uM a_19∧c.toNat-a_18<c.toNat-a) (∃ (a:List Int),∃ (a_14:List Int),∃ (a_15:Int),a_8=a∧a_9=a_14∧a_10=a_15∧(↑a.length:Int)=c∧uM a∧True)) (by kernel_rfl) ?_
 simp only[bL,dF,cC,dR,fE,cE,and_true,true_and,eq_self]
 refine⟨by omega,by omega,fun k1 r1 z1 h3 h4=>⟨by omega,by omega,fun k2 r2 z2 h5 => ?_⟩⟩
 have h6:0≤k2∧k2≤7:=by simp at h5; omega
 refine⟨⟨0,[],r2,z2,rfl,rfl,rfl,rfl,h1,rfl,by simp[uM],by omega⟩,fun i o r3 z3 h6 h7 h8=>⟨fun h9=>⟨by omega,by omega,fun k4 r4 z4 x6 => ?_⟩,fun h9=>⟨_,_,_,rfl,rfl,rfl,by omega,h8⟩⟩⟩
 have GQ:0≤k4∧k4≤2:=by simp at x6; omega
 exact⟨by omega,by omega,by omega,i+1,_,_,_,rfl,by omega,rfl,rfl,by omega,by simp[h7],II h8 (by omega),by omega⟩
def D47:List TV→List TV→Dn
 | [.ptr 0 0],[.sl (.int .i64) _ .no,.val (.int .u64 _)]=>some ([],.ex (List Int) fun o => .ex (List Int) fun r => .ex Int fun z => .res (.sl bO o .no) (yd r z) [o≠[],∀ x∈o,0≤x∧x≤3,o.Pairwise (· < ·)],
  [(4,.ex Nat fun i => .ex (List Int) fun o => .ex (List Int) fun r => .ex Int fun z => .st { sl:=[(3,.sl bO o (.oE 1)),(4,bk i)],pl:=[(0,yd r z)],own:=[(3,1)],dm:=[i≤4,o.length≤i,∀ x∈o,0≤x∧x<i,o.Pairwise (· < ·)],m:=4-i })])
 | _,_=>none
theorem v47:VC T3 Tryz.f88 [some bM] [some bM,some (.int .u64)] D47:=by
 intro a cs p s j h hp
 unfold D47 at h
 split at h<;>cases h
 rename_i r z
 refine wu (A:=(∃ (a:Nat),∃ (a_1:List Int),∃ (a_2:List Int),∃ (a_3:Int),[]=a_1∧0=(↑a:Int)∧r=a_2∧z=a_3∧a≤4∧a_1.length≤a∧(∀ (x:Int),x∈a_1→0≤x∧x<(↑a:Int))∧List.Pairwise (fun(x1 x2:Int)=>x1<x2) a_1∧4-a<1000000)∧∀ (a:Nat) (a_1 a_2:List Int) (a_3:Int),a≤4→a_1.length≤a→(∀ (x:Int),x∈a_1→0≤x∧x<(↑a:Int))→List.Pairwise (fun(x1 x2:Int)=>x1<x2) a_1→aG (decide ((↑a:Int)≤3)) ((2:Int)≤1000∧(0:Int)≤2∧∀ (a_8:Bool) (a_9:Int) (a_10:List Int) (a_11:Int),aG a_8 (a_1.length+1≤1000000000∧cE ((↑a:Int)+1)∧∃ (a_12:Nat),∃ (a_13:List Int),∃ (a_14:List Int),∃ (a_15:Int),lM bO.den∧a_1++[(↑a:Int)]=a_13∧(↑a:Int)+1=(↑a_12:Int)∧a_10=a_14∧a_11=a_15∧a_12≤4∧a_13.length≤a_12∧(∀ (x:Int),x∈a_13→0≤x∧x<(↑a_12:Int))∧List.Pairwise (fun(x1 x2:Int)=>x1<x2) a_13∧4-a_12<4-a) (cE ((↑a:Int)+1)∧∃ (a_12:Nat),∃ (a_13:List Int),∃ (a_14:List Int),∃ (a_15:Int),lM bO.den∧a_1=a_13∧(↑a:Int)+1=(↑a_12:Int)∧a_10=a_14∧a_11=a_15∧a_12≤4∧a_13.length≤a_12∧(∀ (x:Int),x∈a_13→0≤x∧x<(↑a_12:Int))∧List.Pairwise (fun(x1 x2:Int)=>x1<x2) a_13∧4-a_12<4-a)) (aG ((↑a_1.length:Int)==0) ((3:Int)≤1000∧(-10000:Int)≤3∧∀ (a:Int) (a_8:List Int) (a_9:Int),0≤a→a≤3∨a=0→∃ (a_12:List Int),∃ (a_13:List Int),∃ (a_14:Int),[a]=a_12∧a_8=a_13∧a_9=a_14∧a_12≠[]∧(∀ (x:Int),x∈a_12→0≤x∧x≤3)∧List.Pairwise (fun(x1 x2:Int)=>x1<x2) a_12∧True) (∃ (a:List Int),∃ (a_8:List Int),∃ (a_9:Int),a_1=a∧a_2=a_8∧a_3=a_9∧a≠[]∧(∀ (x:Int),x∈a→0≤x∧x≤3)∧List.Pairwise (fun(x1 x2:Int)=>x1<x2) a∧True))) (by kernel_rfl) ?_
 simp only[bL,dF,cC,dR,fE,cE,and_true,true_and,eq_self]
 refine⟨⟨0,[],_,_,rfl,rfl,rfl,rfl,by omega,by simp,by simp,by simp,by omega⟩,fun i o r1 z1 h1 h2 h3 h4=>⟨fun h5=>⟨by omega,by omega,fun b _ r2 z2 => ?_⟩,fun h5=>⟨fun h6=>⟨by omega,by omega,fun k r2 z2 h7 h8=>⟨_,_,_,rfl,rfl,rfl,by simp,by simp; omega,by simp⟩⟩,fun h6=>⟨_,_,_,rfl,rfl,rfl,fun e=>h6 (by rw[e]; rfl),fun x hx=>by have:=h3 x hx; omega,h4⟩⟩⟩⟩
 rw[gY]
 exact⟨fun _=>⟨by omega,by omega,i+1,_,_,_,rfl,by omega,rfl,rfl,by omega,by simp; omega,II (fun x hx=>by have:=h3 x hx; omega) (by omega),Ue h4 (fun x hx=>(h3 x hx).2),by omega⟩,fun _=>⟨by omega,i+1,_,_,_,rfl,by omega,rfl,rfl,by omega,by omega,fun x hx=>by have:=h3 x hx; omega,h4,by omega⟩⟩
def D78:List TV→Dn
 | [.sl (.int .i64) l .no,.val (.int .i64 ez)]=>some ([l.length≤1000],.res (kC (l.all (nN ez))) [] [],[])
 | _=>none
theorem v78:VI T3 Tryz.f90 [some .bool] D78:=by
 intro a p s j h hp
 unfold D78 at h
 split at h<;>cases h
 rename_i l ez
 have h1:=hp.1
 refine wu (A:=l.length≤1000∧(!!l.all (nN ez))=l.all (nN ez)∧True) (by kernel_rfl) ?_
 exact⟨h1,Bool.not_not _,trivial⟩
def T4:gP:=((T3.uJ 87 fun a c=>dS (D44 a c)).uJ 88 fun a c=>dS (D47 a c)).cI 90 fun a=>dS (D78 a)
section
variable {bG:bV} (tk:uK bG)
include tk
theorem Qk:jT bG 1 T1b:=kz tk (eO tk) (by decide) Tryz.func78 rfl v60 (mkN tk (eO tk) (by decide) Tryz.func13 rfl v11 (M9 (eO tk) Tryz.func58 rfl v81 (Vb tk)))
theorem E7:jT bG 2 T2:=kz tk (Qk tk) (by decide) Tryz.func103 rfl v65 (M9 (Vb tk) Tryz.func132 rfl v109 (kz tk (Vb tk) (by decide) Tryz.func81 rfl v16 (M9 (Qk tk) Tryz.func15 rfl v46 (dX (Qk tk)))))
theorem Va:jT bG 3 T3:=M9 (E7 tk) Tryz.func120 rfl v96 (M9 (E7 tk) Tryz.func69 rfl v45 (M9 (E7 tk) Tryz.func67 rfl v27 (M9 (E7 tk) Tryz.func70 rfl v19 (dX (E7 tk)))))
theorem U9:jT bG 4 T4:=kz tk (Va tk) (by decide) Tryz.func90 rfl v78 (M9 (Va tk) Tryz.func88 rfl v47 (M9 (Va tk) Tryz.func87 rfl v44 (dX (Va tk))))
end
end Go.Tv
end
