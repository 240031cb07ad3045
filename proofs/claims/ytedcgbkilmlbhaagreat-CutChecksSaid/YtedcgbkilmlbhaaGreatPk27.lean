import Derived.Test.YtedcgbkilmlbhaaGreatPk26
section
namespace Go.Di
open Go Go.Conc Go.Co
open Go.ConcN (upd upd_same upd_ne)
variable {P:Program} {af:Machine→Trace→Prop} {ty:eY} {x:Cx} {aC:bk} {call:aW} {yf:dR}
theorem Dc {ρ ρ':Operand→Option DV} {o:Oper} {S:ak} {ay:Nat} (h:∀ a∈o.op.operands,ρ a=ρ' a):aB P ty aC call yf ρ o S ay=aB P ty aC call yf ρ' o S ay:=by
 have hs:=uD (P:=P) (ty:=ty) (aC:=aC) (call:=call) (yf:=yf) (S:=S) (ay:=ay) h
 unfold aB
 split
 ·rw[hs]
 ·rw[hs]
 ·rw[hs]
 ·rename_i t a v hop
  rw[hop] at h
  rw[h a (by simp[Op.operands]),hs]
 ·rename_i t a v hop
  rw[hop] at h
  rw[h a (by simp[Op.operands]),hs]
 ·rename_i t a v hop
  rw[hop] at h
  rw[h a (by simp[Op.operands]),hs]
 ·rw[hs]
 ·rfl
 ·rename_i t m k ok hop
  rw[hop] at h
  rw[h m (by simp[Op.operands]),hs]
 ·rename_i t m k v hop
  rw[hop] at h
  rw[h m (by simp[Op.operands]),hs]
 ·rename_i t a hop
  rw[hop] at h
  rw[h a (by simp[Op.operands]),hs]
 ·rename_i args ats hop
  rw[hop] at h
  have:(args[0]?).bind ρ=(args[0]?).bind ρ':=by
   cases ha:args[0]? with
   | none=>rfl
   | some a=>exact h a (by simp[Op.operands,Call.operands,Array.mem_of_getElem? ha])
  rw[this,hs]
 ·rename_i f args ats hop
  rw[hop] at h
  have h1:ρ f=ρ' f:=h f (by simp[Op.operands,Call.operands])
  have h2:=jx (ρ:=ρ) (ρ':=ρ') (l:=args.toList) fun a ha=>h a (by simp[Op.operands,Call.operands] at ha ⊢; exact .inr ha)
  rw[h1,h2]
 ·rw[hs]
def Tc:Op→Prop
 | .call { callee := .value _,.. }=>False
 | _=>True
theorem cB {c1 c2:aW} {ρ:Operand→Option DV} {o:Oper} {S:ak} {ay:Nat} (h:Tc o.op):ah P ty aC c1 yf ρ o S ay=ah P ty aC c2 yf ρ o S ay:=by
 obtain⟨dst,op,type,pos,after,guard⟩:=o
 cases op
 case call c =>
  obtain⟨callee,args,ats⟩:=c
  cases callee with
  | value f=>exact h.elim
  | builtin b=>simp only[ah]
  | invoke r m=>simp only[ah]
 case makeFunc fn a b=>cases fn<;>simp only[ah]
 case makeMap t r=>cases r<;>simp only[ah]
 all_goals first
  | rfl
  | simp only[ah]
theorem SQ {ρ:Operand→Option DV} {o:Oper} {S S':ak} {ay:Nat} {v:DV} {f:cu} (h:aB P ty aC call yf ρ o S ay=some (v,S',f)):∃ qM,AW S qM∧ah P ty aC (ID call) yf ρ o S qM=some (v,S'):=by
 obtain⟨dst,op,type,pos,after,guard⟩:=o
 have mp:∀ {q:Option (DV×ak)} {g:DV×ak→cu},q.map (fun r=>(r.1,r.2,g r))=some (v,S',f)→q=some (v,S'):=by
  intro q g hq
  simp only[Option.map_eq_some_iff,Prod.mk.injEq] at hq
  obtain⟨⟨a,b⟩,h1,h2,h3,-⟩:=hq
  rw[h1,← h2,← h3]
 have plain:∀ {q:ak→Nat→Option (DV×ak)},(∀ n m,q S n=q S m)→q S ay=some (v,S')→∃ qM,AW S qM∧q S qM=some (v,S'):=fun hq h=>⟨S.length,.inl rfl,by rw[hq _ ay]; exact h⟩
 cases op
 case alloc e =>
  simp only[aB] at h
  split at h
  ·rename_i hS; exact⟨ay,.inr hS,(cB (c2:=call) (by trivial)).trans (mp h)⟩
  ·cases h
 case box e a =>
  simp only[aB] at h
  split at h
  ·rename_i hS; exact⟨ay,.inr hS,(cB (c2:=call) (by trivial)).trans (mp h)⟩
  ·cases h
 case makeMap e a =>
  simp only[aB] at h
  split at h
  ·rename_i hS; exact⟨ay,.inr hS,(cB (c2:=call) (by trivial)).trans (mp h)⟩
  ·cases h
 case store t a b =>
  simp only[aB] at h
  split at h
  ·exact⟨S.length,.inl rfl,(cB (c2:=call) (by trivial)).trans (mp h)⟩
  ·exact⟨S.length,.inl rfl,(cB (c2:=call) (by trivial)).trans (mp h)⟩
  ·cases h
 case makeSlice t a b=>simp only[aB] at h; cases h
 case buildSlice t n ps =>
  simp only[aB] at h
  split at h
  ·cases h
  ·rename_i hh
   obtain⟨h1,h2⟩:=BW rfl hh (mp h)
   subst h1
   exact⟨S'.length,.inl rfl,(cB (c2:=call) (by trivial)).trans (h2 _ _)⟩
 case fieldAddr t a i =>
  simp only[aB] at h
  split at h
  all_goals
   obtain⟨h1,h2⟩:=nu (T:=S) (fun _ _ _ _=>rfl) (mp h)
   subst h1
   exact⟨S'.length,.inl rfl,(cB (c2:=call) (by trivial)).trans (h2 _)⟩
 case indexAddr t a i =>
  simp only[aB] at h
  split at h
  all_goals
   obtain⟨h1,h2⟩:=nj (T:=S) (fun _ _ _ _=>rfl) (mp h)
   subst h1
   exact⟨S'.length,.inl rfl,(cB (c2:=call) (by trivial)).trans (h2 _)⟩
 case load t a =>
  simp only[aB] at h
  split at h
  ·exact⟨S.length,.inl rfl,(cB (c2:=call) (by trivial)).trans (mp h)⟩
  ·exact⟨S.length,.inl rfl,(cB (c2:=call) (by trivial)).trans (mp h)⟩
  ·exact⟨S.length,.inl rfl,(cB (c2:=call) (by trivial)).trans (mp h)⟩
 case lookup t m k ok =>
  simp only[aB] at h
  split at h
  ·exact⟨S.length,.inl rfl,(cB (c2:=call) (by trivial)).trans (mp h)⟩
  ·cases h
 case mapUpdate t m k a =>
  simp only[aB] at h
  split at h
  ·exact⟨S.length,.inl rfl,(cB (c2:=call) (by trivial)).trans (mp h)⟩
  ·cases h
 case call c =>
  obtain⟨callee,args,ats⟩:=c
  cases callee with
  | invoke r m=>simp[aB,ah] at h
  | value g =>
   simp only[aB] at h
   refine⟨S.length,.inl rfl,?_⟩
   simp only[ah]
   split at h
   ·rename_i g' fs cs xs hf L8
    split at h
    ·cases h
    rename_i hh
    simp only[tH]
    split at h
    ·rename_i hp
     simp only[Option.map_eq_some_iff,Prod.mk.injEq] at h
     obtain⟨d,h3,rfl,rfl,-⟩:=h
     rw[if_pos hp,h3]
    ·rename_i hp
     rw[if_neg hp]
     unfold ID
     split at h
     ·rename_i ho
      cases h
      rfl
     ·exact mp h
   ·exact mp h
   ·cases h
  | builtin b =>
   by_cases hb:b = .append
   ·subst hb
    simp only[aB] at h
    split at h
    ·cases h
    split at h
    ·cases h
    split at h
    ·rename_i hS _; exact⟨ay,.inr hS,(cB (c2:=call) (by trivial)).trans (mp h)⟩
    ·rename_i hS _; exact⟨ay,.inr hS,(cB (c2:=call) (by trivial)).trans (mp h)⟩
    ·cases h
   ·have B4:aB P ty aC call yf ρ ⟨dst,.call ⟨.builtin b,args,ats⟩,type,pos,after,guard⟩ S ay=(ah P ty aC call yf ρ ⟨dst,.call ⟨.builtin b,args,ats⟩,type,pos,after,guard⟩ S ay).map (fun r=>(r.1,r.2,(⟨some [],false⟩:cu))):=by
     cases b<;>first | rfl | exact absurd rfl hb
    rw[B4] at h
    have hop:qm (.call ⟨.builtin b,args,ats⟩):=by cases b<;>first | trivial | exact absurd rfl hb
    obtain⟨h1,h2⟩:=yW hop (mp h)
    subst h1
    exact⟨S'.length,.inl rfl,(cB (c2:=call) (by trivial)).trans (h2 _ _)⟩
 all_goals
  simp only[aB] at h
  obtain⟨h1,h2⟩:=yW (by trivial) (mp h)
  subst h1
  exact⟨S'.length,.inl rfl,(cB (c2:=call) (by trivial)).trans (h2 _ _)⟩
theorem N1 {ρ:Operand→Option DV} {o:Oper} {S S':ak} {ay:Nat} {v:DV} {f:cu} (h:aB P ty aC call yf ρ o S ay=some (v,S',f)) (hf:f.ids=none):f.wr=true:=by
 have mp:∀ {q:Option (DV×ak)} {l:List Nat} {b:Bool},q.map (fun r=>(r.1,r.2,(⟨some l,b⟩:cu)))=some (v,S',f)→False:=by
  intro q l b hq
  simp only[Option.map_eq_some_iff,Prod.mk.injEq] at hq
  obtain⟨_,-,-,-,rfl⟩:=hq
  cases hf
 have mt:∀ {q:Option (DV×ak)},q.map (fun r=>(r.1,r.2,(⟨none,true⟩:cu)))=some (v,S',f)→f.wr=true:=by
  intro q hq
  simp only[Option.map_eq_some_iff,Prod.mk.injEq] at hq
  obtain⟨_,-,-,-,rfl⟩:=hq
  rfl
 unfold aB at h
 split at h
 case h_13 =>
  split at h
  ·simp only at h
   split at h
   ·cases h
   split at h
   ·simp only[Option.map_eq_some_iff,Prod.mk.injEq] at h
    obtain⟨_,-,-,-,rfl⟩:=h
    cases hf
   ·split at h
    ·cases h; cases hf
    ·exact mt h
  ·exact mt h
  ·cases h
 all_goals (repeat' split at h)
 all_goals first
  | exact(mp h).elim
  | cases h
def touch (F:Nat→cu) (j id:Nat):Bool:=(F j).wr&&match (F j).ids with
 | none=>true
 | some l=>l.contains id
def top (F:Nat→cu) (j:Nat):Bool:=(F j).wr&&(F j).ids.isNone
def jP {α:Type} (W:Nat→Bool) (R:Nat→α) (d:α) (L:Nat→Bool):Nat→α
 | 0=>d
 | n+1=>if L n&&W n then R n else jP W R d L n
theorem fe {α:Type} {W:Nat→Bool} {R:Nat→α} {d:α} {L:Nat→Bool} {i:Nat}:∀ {n:Nat},i≤n→(∀ j,j<n→W j=true→(L j=true↔j<i))→jP W R d L n=jP W R d (fun _=>true) i
 | 0,h,_=>by
  have:i=0:=by omega
  subst this; rfl
 | n+1,h,hj=>by
  by_cases lQ:i=n+1
  ·subst lQ
   unfold jP
   by_cases hd:W n=true
   ·have:=(hj n (by omega) hd).2 (by omega)
    simp only[this,hd,Bool.and_self,if_true]
   ·simp only[Bool.and_eq_true,hd,and_false,if_false,Bool.false_eq_true]
    exact fe (Nat.le_refl _) fun j h1 h2=>⟨fun _=>h1,fun _=>(hj j (Nat.lt_succ_of_lt h1) h2).2 (Nat.lt_succ_of_lt h1)⟩
  ·have hle:i≤n:=by omega
   rw[← fe hle fun j h1 h2=>hj j (by omega) h2]
   conv=>lhs; unfold jP
   by_cases hd:W n=true
   ·have:L n=false:=by
     cases hLn:L n with
     | false=>rfl
     | true=>have:=(hj n (by omega) hd).1 hLn; omega
    rw[this]
    simp
   ·simp[hd]
theorem jS {α:Type} {W:Nat→Bool} {R:Nat→α} {d:α} {L:Nat→Bool} {i:Nat} (hd:W i=false):∀ n,jP W R d (upd L i true) n=jP W R d L n
 | 0=>rfl
 | n+1=>by
  unfold jP
  rw[jS hd n]
  by_cases h:n=i
  ·subst h; simp[hd]
  ·rw[upd_ne _ _ h]
theorem sM {α:Type} {W:Nat→Bool} {R:Nat→α} {d:α} {i:Nat} (hd:W i=true):jP W R d (fun _=>true) (i+1)=R i:=by unfold jP; simp[hd]
structure Nq (P:Program) (ty:eY) (aC:bk) (call:aW) (yf:dR) (ops:Array Oper) (n0:Nat) (E:Nat→List DV) (V:Nat→DV) (M:Nat→ak) (F:Nat→cu):Prop where
 env:II ops V E
 yes:∀ j o,ops[j]? = some o→bD ops (E j) o=true→aB P ty aC call yf (ga (E j)) o (M j) (n0+j)=some (V j,M (j+1),F j)
 no:∀ j o,ops[j]? = some o→bD ops (E j) o=false→V j=aO∧M (j+1)=M j∧F j=⟨some [],false⟩
theorem Bm {ops:Array Oper} {n0:Nat}:∀ {r:List Oper} {i:Nat} {env ax:List DV} {S S':ak} {fs:List cu},oe P ty aC call yf ops n0 r i env S=some (ax,S',fs) →
  ∃ (E:Nat→List DV) (V:Nat→DV) (M:Nat→ak) (F:Nat→cu),E 0=env∧E r.length=ax∧M 0=S∧M r.length=S'∧(fs.length=r.length∧∀ j,j<r.length→fs[j]? = some (F j)) ∧
   ∀ j o,r[j]? = some o→E (j+1)=eP (E j) o.dst (V j)∧(bD ops (E j) o=true→aB P ty aC call yf (ga (E j)) o (M j) (n0+(i+j))=some (V j,M (j+1),F j))∧(bD ops (E j) o=false→V j=aO∧M (j+1)=M j∧F j=⟨some [],false⟩)
 | [],i,env,ax,S,S',fs,h=>by
  simp only[oe,Option.some.injEq,Prod.mk.injEq] at h
  obtain⟨rfl,rfl,rfl⟩:=h
  exact⟨fun _=>env,fun _=>aO,fun _=>S,fun _=>⟨some [],false⟩,rfl,rfl,rfl,rfl,⟨rfl,by simp⟩,by simp⟩
 | o::r,i,env,ax,S,S',fs,h=>by
  unfold oe at h
  have key:∀ v S1 f mN rH ME,oe P ty aC call yf ops n0 r (i+1) (eP env o.dst v) S1=some (mN,rH,ME)→(bD ops env o=true→aB P ty aC call yf (ga env) o S (n0+i)=some (v,S1,f))→(bD ops env o=false→v=aO∧S1=S∧f=⟨some [],false⟩)→some (mN,rH,f::ME)=some (ax,S',fs) →
    ∃ (E:Nat→List DV) (V:Nat→DV) (M:Nat→ak) (F:Nat→cu),E 0=env∧E (o::r).length=ax∧M 0=S∧M (o::r).length=S'∧(fs.length=(o::r).length∧∀ j,j<(o::r).length→fs[j]? = some (F j)) ∧
     ∀ j o',(o::r)[j]? = some o'→E (j+1)=eP (E j) o'.dst (V j)∧(bD ops (E j) o'=true→aB P ty aC call yf (ga (E j)) o' (M j) (n0+(i+j))=some (V j,M (j+1),F j))∧(bD ops (E j) o'=false→V j=aO∧M (j+1)=M j∧F j=⟨some [],false⟩):=by
   intro v S1 f mN rH ME h1 h2 h3 h4
   cases h4
   obtain⟨E,V,M,F,e1,e2,e3,e4,e5,e6⟩:=Bm h1
   refine⟨fun n=>match n with | 0=>env | n+1=>E n,fun n=>match n with | 0=>v | n+1=>V n,fun n=>match n with | 0=>S | n+1=>M n,fun n=>match n with | 0=>f | n+1=>F n,rfl,by simpa using e2,rfl,by simpa using e4,⟨by simp[e5.1],fun j hj => ?_⟩,fun j o' jj => ?_⟩
   ·cases j with
    | zero=>rfl
    | succ j=>simpa using e5.2 j (by simpa using hj)
   ·cases j with
    | zero =>
     simp only[List.getElem?_cons_zero,Option.some.injEq] at jj
     subst jj
     exact⟨e1,fun hw=>by have:=h2 hw; rw[← e3] at this; exact this,fun hw=>by have:=h3 hw; rw[← e3] at this; exact this⟩
    | succ j =>
     have:=e6 j o' (by simpa using jj)
     have e:i+(j+1)=i+1+j:=by omega
     rw[e]
     exact this
  split at h
  ·rename_i hw
   split at h
   ·rename_i v S1 f h1
    split at h
    ·rename_i mN rH ME h2
     exact key v S1 f _ _ _ h2 (fun _=>h1) (fun hf=>by rw[hw] at hf; cases hf) h
    ·cases h
   ·cases h
  ·rename_i hw
   split at h
   ·rename_i mN rH ME h2
    exact key aO S ⟨some [],false⟩ _ _ _ h2 (fun ht=>absurd ht hw) (fun _=>⟨rfl,rfl,rfl⟩) h
   ·cases h
theorem Xd {ops:Array Oper} {n0:Nat} {env ax:List DV} {S S':ak} {fs:List cu} (h:oe P ty aC call yf ops n0 ops.toList 0 env S=some (ax,S',fs)) :
  ∃ (E:Nat→List DV) (V:Nat→DV) (M:Nat→ak) (F:Nat→cu),Nq P ty aC call yf ops n0 E V M F∧E 0=env∧E ops.size=ax∧M 0=S∧M ops.size=S'∧∀ j,j<ops.size→fs[j]? = some (F j):=by
 obtain⟨E,V,M,F,e1,e2,e3,e4,e5,e6⟩:=Bm h
 refine⟨E,V,M,F,⟨fun j o ho=>(e6 j o (by simpa using ho)).1,fun j o ho hw => ?_,fun j o ho hw=>(e6 j o (by simpa using ho)).2.2 hw⟩,e1,by simpa using e2,e3,by simpa using e4,fun j hj=>e5.2 j (by simpa using hj)⟩
 have:=(e6 j o (by simpa using ho)).2.1 hw
 simpa using this
theorem xX {w:Option (Nat×DB)} {S:ak} (h:∀ i b,w=some (i,b)→i<S.length) (id:Nat):(appW w S)[id]? = match w with | some (i,b)=>if id=i then some b else S[id]? | none=>S[id]? := by
 cases w with
 | none=>rfl
 | some p =>
  obtain⟨i,b⟩:=p
  have hlt:=h i b rfl
  simp only[appW]
  rw[List.getElem?_set]
  by_cases h1:id=i
  ·subst h1; simp[hlt]
  ·rw[if_neg (Ne.symm h1),if_neg h1]
theorem JD {w:Option (Nat×DB)} {S:ak}:(appW w S).length=S.length:=by cases w<;>simp[appW]
theorem run_store {ops:Array Oper} {n0:Nat} {E:Nat→List DV} {V:Nat→DV} {M:Nat→ak} {F:Nat→cu} (h:Nq P ty aC call yf ops n0 E V M F) (id:Nat):∀ i,i≤ops.size →
  (M i)[id]? = jP (fun j=>touch F j id) (fun j=>(M (j+1))[id]?) ((M 0)[id]?) (fun _=>true) i∧(M i).length=jP (top F) (fun j=>(M (j+1)).length) (M 0).length (fun _=>true) i
 | 0,_=>⟨rfl,rfl⟩
 | i+1,hi=>by
  have ho:ops[i]? = some ops[i]:=Array.getElem?_eq_getElem (by omega)
  obtain⟨JL,LG⟩:=run_store h id i (by omega)
  unfold jP
  simp only[Bool.true_and]
  rw[← JL,← LG]
  cases hw:bD ops (E i) ops[i] with
  | false =>
   obtain⟨h1,h2,h3⟩:=h.no i _ ho hw
   rw[h2]
   simp
  | true =>
   have hs:=h.yes i _ ho hw
   cases mJ:(F i).ids with
   | none =>
    have:=N1 hs mJ
    simp[touch,top,mJ,this]
   | some l =>
    obtain⟨w,w1,w2,w3⟩:=N2 hs mJ
    constructor
    ·split
     ·rfl
     ·rename_i Ye
      rw[w1,xX fun i b hw=>(w2 i b hw).2.2]
      cases w with
      | none=>rfl
      | some p =>
       obtain⟨i',b⟩:=p
       obtain⟨q1,q2,q3⟩:=w2 i' b rfl
       have hne:id≠i':=by
        rintro rfl
        apply Ye
        simp[touch,q2,mJ,q1]
       simp[hne]
    ·rw[w1,JD]
     simp[top,mJ]
theorem Xw {b:Array Nat} {fs:List cu} (h:oM b fs=true) {i j:Nat} {f g:cu} (hi:fs[i]? = some f) (hj:fs[j]? = some g) (hne:i≠j) (hm:f.meets g=true):(b.getD j 0).testBit i=true∨(b.getD i 0).testBit j=true:=by
 unfold oM at h
 simp only[List.all_eq_true] at h
 have h1:=h (f,i) (by rw[List.mem_zipIdx_iff_getElem?]; exact hi) (g,j) (by rw[List.mem_zipIdx_iff_getElem?]; exact hj)
 have h2:(i==j)=false:=by simpa using hne
 simp only[h2,hm,Bool.not_true,Bool.or_false,Bool.false_or,Bool.or_eq_true] at h1
 exact h1
end Go.Di
end
section
namespace Go.Di
open Go Go.Conc Go.Co
variable {P:Program} {af:Machine→Trace→Prop} {x y:Cx} {i:Nat} {l l0 l':List DV} {T:ak}
def Cx.only (x:Cx) (i:Nat) (l:List DV):Cx:={ x with μ:=fun _=>x.μ i,κ:=fun _=>0,S:=[.cells l] }
theorem zF {x y:Cx} (hF:∀ b o,x.Fz b o→y.Fz b o∧y.w.cell? ⟨b,o,none⟩=x.w.cell? ⟨b,o,none⟩) {l:List DV} {arr:Array Value} (hl:(l.map DV.aH).all DV.bn=true) (h:en x l arr):en y (l.map DV.aH) arr:=by
 refine⟨by simpa using h.1,fun j c hj => ?_⟩
 have hm:=List.all_eq_true.1 hl c (List.mem_of_getElem? hj)
 simp only[List.getElem?_map,Option.map_eq_some_iff] at hj
 obtain⟨c',h2,rfl⟩:=hj
 exact(h.2 j c' h2).aH.sG hF hm
theorem Ky {x y:Cx} (hF:∀ b o,x.Fz b o→y.Fz b o∧y.w.cell? ⟨b,o,none⟩=x.w.cell? ⟨b,o,none⟩) {l:List DV} (hl:(l.map DV.strip).all DV.pure=true) {j:Nat} {c:DV} {v:Value} (hj:(l.map DV.strip)[j]? = some c) (h:∀ c',l[j]? = some c'→RV x c' v):RV y c v:=by
 have hm:=List.all_eq_true.1 hl c (List.mem_of_getElem? hj)
 simp only[List.getElem?_map,Option.map_eq_some_iff] at hj
 obtain⟨c',h2,rfl⟩:=hj
 exact(h c' h2).strip.pure_mono hF hm
theorem lE {l:List DV} {k:Nat} {b:DB} (h:([.cells l]:ak)[k]? = some b):k=0∧b = .cells l:=by
 cases k with
 | zero=>simp at h; exact⟨rfl,h.symm⟩
 | succ k=>simp at h
theorem OK (hR:Rel x) (hi:x.S[i]? = some (.cells l)) (hl:(l.map DV.aH).all DV.bn=true):Rel (x.only i (l.map DV.aH)):=by
 refine⟨fun id l2 h => ?_,fun id e s n h => ?_,fun id b h hb => ?_,fun j k hj hk _ => ?_,hR.uV,fun id h o hF => ?_,fun id e s n h => ?_,fun id e s l z h => ?_⟩
 ·obtain⟨rfl,h2⟩:=lE h
  cases h2
  obtain⟨arr,e,h1,h2,h3⟩:=hR.cells i l hi
  refine⟨arr,e,h1,?_⟩
  exact zF (x:=x) (y:=x.only i (l.map DV.aH)) (fun b o h=>⟨h,rfl⟩) hl ⟨h2,h3⟩
 ·exact nomatch (lE h).2
 ·obtain⟨-,rfl⟩:=lE h
  cases hb
 ·obtain⟨b,hb,-⟩:=hj
  obtain⟨c,hc,-⟩:=hk
  rw[(lE hb).1,(lE hc).1]
 ·exact hR.sep i ⟨l,hi⟩ o hF
 ·exact nomatch (lE h).2
 ·exact nomatch (lE h).2
def Cx.back (x y:Cx) (i:Nat) (l':List DV):Cx:={ w:=y.w,μ:=x.μ,κ:=x.κ,Fz:=y.Fz,S:=x.S.set i (.cells l') }
theorem jQ {S:ak} {i k:Nat} {b c d:DB} (hi:S[i]? = some d) (h:(S.set i c)[k]? = some b):(k=i∧b=c)∨(k≠i∧S[k]? = some b):=by
 rw[List.getElem?_set] at h
 split at h
 ·rename_i he
  subst he
  rw[if_pos (List.getElem?_eq_some_iff.1 hi).1] at h
  cases h
  exact .inl ⟨rfl,rfl⟩
 ·rename_i he
  exact .inr ⟨fun e=>he e.symm,h⟩
theorem qp {S:ak} {i k:Nat} {c:DB} (h:k≠i):(S.set i c)[k]? = S[k]? := by
 rw[List.getElem?_set,if_neg fun e=>h e.symm]
theorem Kv {S:ak} {i:Nat} {c d:DB} (hi:S[i]? = some d):(S.set i c)[i]? = some c:=by
 rw[List.getElem?_set,if_pos rfl,if_pos (List.getElem?_eq_some_iff.1 hi).1]
theorem pg (hR:Rel x) (hi:x.S[i]? = some (.cells l)) (M:bh (x.only i l0) y) {id:Nat} {b:DB} {o:Obj} (hb:x.S[id]? = some b) (hne:b ≠ .none) (hid:id≠i) (ho:x.w.heap[x.μ id]? = some o):y.w.heap[x.μ id]? = x.w.heap[x.μ id]? := by
 refine M.old _ (Array.getElem?_eq_some_iff.1 ho).1 fun k _ he => ?_
 exact hid (hR.inj i id ⟨_,hi,by simp⟩ ⟨b,hb,hne⟩ he).symm
theorem Bz (hR:Rel x) (hi:x.S[i]? = some (.cells l)) (M:bh (x.only i l0) y):bh x (x.back y i l') where
 size:=M.size
 env:=M.env
 fz:=M.fz
 HX:=fun b o h=>(M.HX b o h).imp id fun h=>h.imp id fun⟨k,_,he⟩=>⟨i,⟨_,hi,by simp⟩,he⟩
 old:=fun b hb hn=>M.old b hb fun k _ he=>hn i ⟨_,hi,by simp⟩ he
 len:=by simp[Cx.back]
 cells:=fun id l2 h=>⟨rfl,by
  by_cases he:id=i
  ·subst he; exact⟨l',Kv hi⟩
  ·exact⟨l2,(qp he).trans h⟩⟩
 dg:=fun id b h hb=>by
  have he:id≠i:=by rintro rfl; rw[hi] at h; cases h; cases hb
  obtain⟨o,ho,-⟩:=hR.dg id b h hb
  exact⟨rfl,⟨b,(qp he).trans h,dF hb⟩,fun _=>pg hR hi M h (ez hb) he ho⟩
 cN:=fun t e s n h=>by
  have he:t≠i:=by rintro rfl; rw[hi] at h; cases h
  exact⟨n,(qp he).trans h,Nat.le_refl _,fun _=>⟨rfl,rfl⟩⟩
 live:=fun k ⟨b,hb,hne⟩ => .inl ⟨by
  rcases jQ hi hb with ⟨rfl,-⟩ | ⟨-,h⟩
  ·exact⟨_,hi,by simp⟩
  ·exact⟨b,h,hne⟩,rfl⟩
 ops:=fun t e s l z h=>by
  have he:t≠i:=by rintro rfl; rw[hi] at h; cases h
  exact⟨l,z,(qp he).trans h,Nat.le_refl _,fun e=>⟨rfl,e⟩,fun _=>⟨rfl,rfl⟩⟩
theorem OM (hR:Rel x) (hi:x.S[i]? = some (.cells l)) (Ge:Rel y) (M:bh (x.only i l0) y) (hy:y.S[0]? = some (.cells l')) (gK:(l'.map DV.aH).all DV.bn=true):Rel (x.back y i (l'.map DV.aH)):=by
 have MB:=Bz (l':=l'.map DV.aH) hR hi M
 have hμ:y.μ 0=x.μ i:=(M.cells 0 l0 rfl).1
 have hF:∀ b o,y.Fz b o→x.Fz b o∨x.w.heap.size≤b∨b=x.μ i:=fun b o h=>(M.HX b o h).imp id fun h=>h.imp id fun⟨_,_,he⟩=>he.symm
 refine⟨fun id l2 h => ?_,fun id e s n h => ?_,fun id b h hb => ?_,fun j k hj hk he => ?_,Ge.uV,fun id h o hf => ?_,fun id e s n h o hf => ?_,fun id e s l1 z h => ?_⟩
 ·rcases jQ hi h with ⟨rfl,h2⟩ | ⟨he,h2⟩
  ·cases h2
   obtain⟨arr,e,h1,h2,h3⟩:=Ge.cells 0 l' hy
   exact⟨arr,e,by rw[hμ] at h1; exact h1,zF (x:=y) (y:=x.back y id (l'.map DV.aH)) (fun b o h=>⟨h,rfl⟩) gK ⟨h2,h3⟩⟩
  ·obtain⟨arr,e,h1,h3,h4⟩:=hR.cells id l2 h2
   exact⟨arr,e,(pg hR hi M h2 (by simp) he h1).trans h1,h3,fun j c hc=>(h4 j c hc).mono MB⟩
 ·rcases jQ hi h with ⟨rfl,h2⟩ | ⟨he,h2⟩
  ·cases h2
  ·obtain⟨arr,h1,h3⟩:=hR.cN id e s n h2
   exact⟨arr,(pg hR hi M h2 (by simp) he h1).trans h1,h3⟩
 ·rcases jQ hi h with ⟨rfl,h2⟩ | ⟨he,h2⟩
  ·subst h2; cases hb
  ·obtain⟨o,h1,h3⟩:=hR.dg id b h2 hb
   exact⟨o,(pg hR hi M h2 (ez hb) he h1).trans h1,h3.mono MB⟩
 ·have lv:∀ {k},Live (x.back y i (l'.map DV.aH)).S k→Live x.S k:=fun {k} ⟨b,hb,hne⟩=>by
   rcases jQ hi hb with ⟨rfl,-⟩ | ⟨-,h⟩
   ·exact⟨_,hi,by simp⟩
   ·exact⟨b,h,hne⟩
  exact hR.inj j k (lv hj) (lv hk) he
 ·obtain⟨l2,h⟩:=h
  obtain⟨l3,h3⟩:∃ l3,x.S[id]? = some (.cells l3):=by
   rcases jQ hi h with ⟨rfl,-⟩ | ⟨-,h2⟩
   ·exact⟨l,hi⟩
   ·exact⟨l2,h2⟩
  obtain⟨arr,e,h4,-⟩:=hR.cells id l3 h3
  rcases hF _ _ hf with h5 | h5 | h5
  ·exact hR.sep id ⟨l3,h3⟩ o h5
  ·have:=(Array.getElem?_eq_some_iff.1 h4).1
   change x.w.heap.size≤x.μ id at h5
   omega
  ·refine Ge.sep 0 ⟨l',hy⟩ o ?_
   rw[hμ,← h5]
   exact hf
 ·rcases jQ hi h with ⟨rfl,h2⟩ | ⟨he,h2⟩
  ·cases h2
  ·obtain⟨arr,h4,-⟩:=hR.cN id e s n h2
   rcases hF _ _ hf with h5 | h5 | h5
   ·exact hR.lM id e s n h2 o h5
   ·have:=(Array.getElem?_eq_some_iff.1 h4).1
    change x.w.heap.size≤x.μ id at h5
    omega
   ·exact absurd (hR.inj id i ⟨_,h2,by simp⟩ ⟨_,hi,by simp⟩ h5) he
 ·rcases jQ hi h with ⟨rfl,h2⟩ | ⟨he,h2⟩
  ·cases h2
  ·obtain⟨arr,h4,h3,h6,h7,h8,h9,uU⟩:=hR.ops id e s l1 z h2
   refine⟨arr,(pg hR hi M h2 (by simp) he h4).trans h4,h3,h6,h7,fun j c hc=>⟨(h8 j c hc).1,(h8 j c hc).2.mono MB⟩,fun hz j hj=>(M.fz _ _ (h9 hz j hj)).1,fun hz o hf => ?_⟩
   rcases hF _ _ hf with h5 | h5 | h5
   ·exact uU hz o h5
   ·have:=(Array.getElem?_eq_some_iff.1 h4).1
    change x.w.heap.size≤x.μ id at h5
    omega
   ·exact absurd (hR.inj id i ⟨_,h2,by simp⟩ ⟨_,hi,by simp⟩ h5) he
theorem HL {f:FuncId} {off:Nat} {rest:List DV} {vals:Array Value} {v:DV} (hR:Rel x) (hi:x.S[i]? = some (.cells l)) (hp:(rest.map DV.strip).all DV.pure=true) (ha:en x (.ptr i off::rest) vals)
  (h:en (x.only i l0) (.ptr 0 off::rest.map DV.strip) vals→cU P af (x.only i l0) f vals fun y u=>y.S = .cells l'::T∧Rel y∧bh (x.only i l0) y∧RV y v u) (gK:(l'.map DV.aH).all DV.bn=true) (hv:v.strip.pure=true) :
  cU P af x f vals fun z u=>z.S=x.S.set i (.cells (l'.map DV.aH))∧Rel z∧bh x z∧RV z v.strip u:=by
 have ha':en (x.only i l0) (.ptr 0 off::rest.map DV.strip) vals:=by
  refine⟨by simpa using ha.1,fun j c hc => ?_⟩
  cases j with
  | zero =>
   simp only[List.getElem?_cons_zero,Option.some.injEq] at hc
   subst hc
   have:=ha.2 0 _ rfl
   generalize vals.getD 0 undef=u at this
   cases this with
   | ptr _=>exact RV.ptr (x:=x.only i l0) (id:=0) (l:=l0) rfl
  | succ j =>
   exact Ky (x:=x) (y:=x.only i l0) (fun b o h=>⟨h,rfl⟩) hp (by simpa using hc) fun c' h1=>ha.2 (j+1) c' (by simpa using h1)
 obtain⟨h1,h2⟩:=h ha'
 refine⟨h1,fun fr cs hn=>h2 fr cs fun y u ⟨q1,q2,q3,q4⟩ => ?_⟩
 have hy:y.S[0]? = some (.cells l'):=by rw[q1]; rfl
 exact hn (x.back y i (l'.map DV.aH)) u ⟨rfl,OM hR hi q2 q3 hy gK,Bz hR hi q3,q4.strip.pure_mono (x:=y) (y:=x.back y i (l'.map DV.aH)) (fun b o h=>⟨h,rfl⟩) hv⟩
theorem PJ {call:aW} (hc:gz P af call):gz P af (ID call):=by
 intro f args S v S' h x vals hR hS ha
 subst hS
 unfold ID at h
 split at h
 ·rename_i i v1 l1 ho
  cases h
  unfold wq at ho
  split at ho
  ·rename_i i off rest
   split at ho
   ·rename_i l hi
    split at ho
    ·rename_i Md
     simp only[Bool.and_eq_true] at Md
     split at ho
     ·rename_i v2 l' T gq
      split at ho
      ·rename_i hq
       simp only[Bool.and_eq_true] at hq
       cases ho
       exact HL (l0:=l.map DV.aH) hR hi Md.1 ha (fun Ii=>hc _ _ _ _ _ gq (x.only _ _) vals (OK hR hi Md.2) rfl Ii) hq.2 hq.1
      ·cases ho
     ·cases ho
    ·cases ho
   ·cases ho
  ·cases ho
 ·exact hc _ _ _ _ _ h x vals hR rfl ha
end Go.Di
end
section
namespace Go.Di
open Go Go.Conc Go.Co
open Go.ConcN (upd upd_same upd_ne)
variable {P:Program} {af:Machine→Trace→Prop} {ty:eY} {x:Cx} {aC:bk} {call:aW} {yf:dR}
structure IG (ops:Array Oper) (M:Nat→ak) (F:Nat→cu) (L:Nat→Bool) (S:ak):Prop where
 get:∀ id,S[id]? = jP (fun j=>touch F j id) (fun j=>(M (j+1))[id]?) ((M 0)[id]?) L ops.size
 len:S.length=jP (top F) (fun j=>(M (j+1)).length) (M 0).length L ops.size
theorem Pw {ops:Array Oper} {n0:Nat} {E:Nat→List DV} {V:Nat→DV} {M:Nat→ak} {F:Nat→cu} (h:Nq P ty aC call yf ops n0 E V M F) (mI:Er ops) (VX:∀ i j,i<ops.size→j<ops.size→i≠j→(F i).meets (F j)=true→((Region.before ops).getD j 0).testBit i=true∨((Region.before ops).getD i 0).testBit j=true)
  {L:Nat→Bool} (hL:Closed ops L) {i:Nat} {o:Oper} (ho:ops[i]? = some o) (hi:L i=false) (tc:∀ e∈o.after,Region.binds .any e=true→L e.on=true) {T:ak} (hT:IG ops M F L T) (hw:bD ops (E i) o=true) :
  ∃ T',aB P ty aC call yf (ga (E i)) o T (n0+i)=some (V i,T',F i)∧IG ops M F (upd L i true) T':=by
 have Yi:i<ops.size:=(Array.getElem?_eq_some_iff.1 ho).1
 have hs:=h.yes i o ho hw
 have VJ:∀ j,j<ops.size→j≠i→(F i).meets (F j)=true→(L j=true↔j<i):=fun j hj hne hm=>Je mI hL ho hi tc (Ne.symm hne) (VX i j Yi hj (Ne.symm hne) hm)
 have up1:∀ j,j<ops.size→(j≠i→(F i).meets (F j)=true)→(upd L i true j=true↔j<i+1):=by
  intro j hj hm
  by_cases eH:j=i
  ·subst eH; simp[upd_same]
  ·rw[upd_ne _ _ eH,VJ j hj eH (hm eH)]; omega
 have at1:∀ id,(∀ j,j<ops.size→j≠i→touch F j id=true→(F i).meets (F j)=true)→T[id]? = (M i)[id]? := by
  intro id hm
  rw[hT.get id,(run_store h id i (by omega)).1]
  refine fe (by omega) fun j hj ht => ?_
  by_cases eH:j=i
  ·subst eH; simp[hi]
  ·exact VJ j hj eH (hm j hj eH ht)
 have abK:(∀ j,j<ops.size→j≠i→top F j=true→(F i).meets (F j)=true)→T.length=(M i).length:=by
  intro hm
  rw[hT.len,(run_store h 0 i (by omega)).2]
  refine fe (by omega) fun j hj ht => ?_
  by_cases eH:j=i
  ·subst eH; simp[hi]
  ·exact VJ j hj eH (hm j hj eH ht)
 have tch:∀ j id,touch F j id=true→(F j).wr=true∧((F j).ids=none∨∃ l,(F j).ids=some l∧id∈l):=by
  intro j id ht
  unfold touch at ht
  simp only[Bool.and_eq_true] at ht
  refine⟨ht.1,?_⟩
  cases mJ:(F j).ids with
  | none=>exact .inl rfl
  | some l=>rw[mJ] at ht; exact .inr ⟨l,rfl,by simpa using ht.2⟩
 have tp:∀ j,top F j=true→(F j).wr=true∧(F j).ids=none:=by
  intro j ht
  unfold top at ht
  simpa using ht
 cases mJ:(F i).ids with
 | none =>
  have X6:=N1 hs mJ
  have dG:∀ j id,touch F j id=true→(F i).meets (F j)=true:=by
   intro j id ht
   obtain⟨h1,h2⟩:=tch j id ht
   unfold cu.meets
   rw[X6,mJ]
   rcases h2 with h2 | ⟨l,h2,h3⟩
   ·simp[h2]
   ·simp[h2]
    exact List.ne_nil_of_mem h3
  have hTM:T=M i:=List.ext_getElem? fun id=>at1 id fun j _ _ ht=>dG j id ht
  subst hTM
  refine⟨M (i+1),hs,⟨fun id => ?_,?_⟩⟩
  ·have ht:touch F i id=true:=by simp[touch,X6,mJ]
   rw[fe (i:=i+1) (by omega) fun j hj U4=>up1 j hj fun _=>dG j id U4,sM (W:=fun j=>touch F j id) ht]
  ·have ht:top F i=true:=by simp[top,X6,mJ]
   rw[fe (i:=i+1) (by omega) fun j hj U4=>up1 j hj fun _=>by
    obtain⟨h1,h2⟩:=tp j U4
    simp[cu.meets,X6,mJ,h2],sM (W:=top F) ht]
 | some l =>
  obtain⟨w,w1,w2,w3⟩:=N2 hs mJ
  have P0:∀ j id,id∈l→touch F j id=true→(F i).meets (F j)=true:=by
   intro j id hid ht
   obtain⟨h1,h2⟩:=tch j id ht
   unfold cu.meets
   rw[h1,mJ]
   rcases h2 with h2 | ⟨l',h2,h3⟩
   ·simp[h2]
    exact List.ne_nil_of_mem hid
   ·simp[h2]
    exact⟨id,hid,h3⟩
  have hlen:l≠[]→T.length=(M i).length:=fun hne=>abK fun j hj eH ht=>by
   obtain⟨h1,h2⟩:=tp j ht
   simp[cu.meets,h1,mJ,h2,hne]
  have hrun:=w3 T hlen fun id hid=>at1 id fun j _ _ ht=>P0 j id hid ht
  have ZT:∀ k b,w=some (k,b)→k<T.length:=fun k b hw=>by
   obtain⟨q1,q2,q3⟩:=w2 k b hw
   rw[hlen (List.ne_nil_of_mem q1)]
   exact q3
  refine⟨appW w T,hrun,⟨fun id => ?_,?_⟩⟩
  ·cases ht:touch F i id with
   | true =>
    obtain⟨h1,h2⟩:=tch i id ht
    have hid:id∈l:=by
     rcases h2 with h2 | ⟨l',h2,h3⟩
     ·rw[mJ] at h2; cases h2
     ·rw[mJ] at h2; cases h2; exact h3
    rw[fe (i:=i+1) (by omega) fun j hj U4=>up1 j hj fun _=>P0 j id hid U4,sM (W:=fun j=>touch F j id) ht,w1]
    rw[xX ZT,xX fun k b hw=>(w2 k b hw).2.2]
    have:=at1 id fun j _ _ U4=>P0 j id hid U4
    cases w with
    | none=>exact this
    | some p=>simp only[this]
   | false =>
    rw[jS (W:=fun j=>touch F j id) ht,← hT.get id,xX ZT]
    cases w with
    | none=>rfl
    | some p =>
     obtain⟨k,b⟩:=p
     obtain⟨q1,q2,q3⟩:=w2 k b rfl
     have hne:id≠k:=by
      rintro rfl
      simp[touch,q2,mJ,q1] at ht
     simp[hne]
  ·have ht:top F i=false:=by simp[top,mJ]
   rw[jS (W:=top F) ht,JD]
   exact hT.len
def Cx.pad (x:Cx) (n:Nat):Cx:={ x with S:=x.S++List.replicate n .none }
theorem kD {S:ak} {n id:Nat} {b:DB} (h:(S++List.replicate n DB.none)[id]? = some b) (hb:b ≠ .none):S[id]? = some b:=by
 rw[List.getElem?_append] at h
 split at h
 ·exact h
 ·rw[List.getElem?_replicate] at h
  split at h
  ·cases h; exact absurd rfl hb
  ·cases h
theorem uj {S:ak} {n id:Nat} {b:DB} (h:S[id]? = some b):(S++List.replicate n DB.none)[id]? = some b:=by
 rw[List.getElem?_append_left (List.getElem?_eq_some_iff.1 h).1]; exact h
theorem uk (x:Cx) (n:Nat):bh x (x.pad n) :=
 ⟨Nat.le_refl _,⟨rfl,rfl⟩,fun _ _ h=>⟨h,rfl⟩,fun _ _ h => .inl h,fun _ _ _=>rfl,by simp[Cx.pad],fun _ l h=>⟨rfl,l,uj h⟩,fun _ b h hb=>⟨rfl,⟨b,uj h,dF hb⟩,fun _=>rfl⟩,fun _ _ _ n h=>⟨n,uj h,Nat.le_refl _,fun _=>⟨rfl,rfl⟩⟩,fun _ ⟨b,h,hb⟩ => .inl ⟨⟨b,kD h hb,hb⟩,rfl⟩,fun _ _ _ l z h=>⟨l,z,uj h,Nat.le_refl _,fun e=>⟨rfl,e⟩,fun _=>⟨rfl,rfl⟩⟩⟩
theorem R4 (hR:Rel x) (n:Nat):Rel (x.pad n) where
 cells:=fun id l hl=>by
  obtain⟨arr,e,h1,h2,h3⟩:=hR.cells id l (kD hl (by simp))
  exact⟨arr,e,h1,h2,fun j c hc=>(h3 j c hc).mono (uk x n)⟩
 cN:=fun id e s m hl=>hR.cN id e s m (kD hl (by simp))
 dg:=fun id b hl hb=>by
  obtain⟨o,h1,h2⟩:=hR.dg id b (kD hl (ez hb)) hb
  exact⟨o,h1,h2.mono (uk x n)⟩
 inj:=fun i j ⟨b,h,hb⟩ ⟨c,k,kb⟩ he=>hR.inj i j ⟨b,kD h hb,hb⟩ ⟨c,kD k kb,kb⟩ he
 uV:=hR.uV
 sep:=fun id ⟨l,hl⟩=>hR.sep id ⟨l,kD hl (by simp)⟩
 lM:=fun id e s m hl=>hR.lM id e s m (kD hl (by simp))
 ops:=fun id e s l z hl=>by
  obtain⟨arr,h1,h2,h3,h4,h5,h6⟩:=hR.ops id e s l z (kD hl (by simp))
  exact⟨arr,h1,h2,h3,h4,fun j c hc=>⟨(h5 j c hc).1,(h5 j c hc).2.mono (uk x n)⟩,h6⟩
theorem Ho (hP:Plain P) (dx:gY P ty) (hc:gz P af call) (hi:tN P af aC) (F6:tJ P af yf) {ops:Array Oper} {b:Frame} {k:List Item} {cs:List Frame} (hk:b.kind ≠ .early) (B4:iX ops (Region.before ops)=true)
  {env ax:List DV} {S':ak} {fs:List cu} {n0:Nat} {a:Act} (h:oe P ty aC call yf ops n0 ops.toList 0 env x.S=some (ax,S',fs)) (hmt:oM (Region.before ops) fs=true) (hR:Rel x) (he:en x env a.tmps)
  (hn:∀ y a',y.S=S'→Rel y→bh x y→en y ax a'.tmps→a'.defers=a.defers→ff P af () (G (b.atR a' k) cs) y.w) (t:Nat):ff P af () (G (b.atR a (.inRegion ops (Region.linearise .any ops t)::k)) cs) x.w:=by
 have mI:=EU B4
 obtain⟨E,V,M,F,hrun,e1,e2,e3,e4,e5⟩:=Xd h
 have VX:∀ i j,i<ops.size→j<ops.size→i≠j→(F i).meets (F j)=true→((Region.before ops).getD j 0).testBit i=true∨((Region.before ops).getD i 0).testBit j=true:=fun i j hi hj hne hm=>Xw hmt (e5 i hi) (e5 j hj) hne hm
 have ee:∀ {α:Type} (W:Nat→Bool) (R:Nat→α) (d:α) n,jP W R d (fun _=>false) n=d:=by
  intro α W R d n
  induction n with
  | zero=>rfl
  | succ n ih=>unfold jP; simp[ih]
 refine rD mI (σ:=Act×Cx) (fun todo s=>Rel s.2→bh x s.2→s.1.defers=a.defers→ff P af () (G (b.atR s.1 (.inRegion ops todo::k)) cs) s.2.w)
  (fun L s=>IG ops M F L s.2.S∧∃ jM,en s.2 jM s.1.tmps∧Bc ops V L ops.size (E 0) jM) ?_ ?_ t (a,x) ⟨⟨fun id=>by rw[ee,e3],by rw[ee,e3]⟩,env,he,fun t => ?_⟩ hR (bh.refl x) rfl
 ·rintro L ⟨a1,y⟩ i o ⟨F2,jM,uO,Qx⟩ qJ ho hLi tc rest yq Ge Mj Gb
  simp only at uO Ge Mj Gb F2 ⊢
  obtain⟨q1,q2⟩:=wQ mI B4 hrun.env qJ Qx ho hLi tc
  have hw:=uw q1
  have PU:=vt uO ops o
  have Zc:=BR (V:=V) ho Qx q2
  by_cases UY:bD ops (E i) o=true
  ·obtain⟨T',hT1,Y9⟩:=Pw hrun mI VX qJ ho hLi tc F2 UY
   rw[← Dc (BP q1)] at hT1
   obtain⟨qM,QV,hstep⟩:=SQ hT1
   refine D8 hP dx (PJ hc) hi F6 hk ho (by rw[PU,hw]; exact UY) Ge QV uO hstep fun z u zS zR zM zV => ?_
   have kS:=nF (uO.mono zM) (dst:=o.dst) zV
   exact yq (a1.put o.dst u,z) ⟨by rw[zS]; exact Y9,_,kS.1,Zc⟩ zR (Mj.trans zM) (kS.2.trans Gb)
  ·have UZ:bD ops (E i) o=false:=by simpa using UY
   obtain⟨hv,hM,hF⟩:=hrun.no i o ho UZ
   have kS:=nF uO (dst:=o.dst) (d:=V i) (v:=undef) (by rw[hv]; exact .val rfl)
   have acw:IG ops M F (upd L i true) y.S:=by
    refine⟨fun id => ?_,?_⟩
    ·rw[jS (W:=fun j=>touch F j id) (by simp[touch,hF])]; exact F2.get id
    ·rw[jS (W:=top F) (by simp[top,hF])]; exact F2.len
   exact cF hP (fun w=>⟨_,pK ho (by rw[PU,hw]; exact UZ)⟩) (yq (a1.put o.dst undef,y) ⟨acw,_,kS.1,Zc⟩ Ge Mj (kS.2.trans Gb))
 ·rintro L ⟨a1,y⟩ ⟨F2,jM,uO,Qx⟩ dG Ge Mj Gb
  have acf:jM=ax:=by
   refine List.ext_getElem? fun t => ?_
   rw[Qx t,← e2,xK hrun.env ops.size (Nat.le_refl _) t]
   congr 1
   funext d
   rw[iN (i:=ops.size) (Nat.le_refl _) fun j hj _=>by simp[dG j hj,hj]]
  have abR:y.S=S':=by
   refine List.ext_getElem? fun id => ?_
   have:=F2.get id
   simp only at this
   rw[this,← e4,(run_store hrun id ops.size (Nat.le_refl _)).1]
   exact fe (Nat.le_refl _) fun j hj _=>by simp[dG j hj,hj]
  subst acf
  exact cF hP (fun w=>⟨_,jJ⟩) (hn y a1 abR Ge Mj uO Gb)
 ·rw[e1]
  have:∀ n,jO ops V (fun _=>false) t n=none:=by
   intro n
   induction n with
   | zero=>rfl
   | succ n ih=>unfold jO; simp[ih]
  rw[this]
  simp
theorem GF (hP:Plain P) (hm:P.follows .mixedOrders=true) (dx:gY P ty) (hc:gz P af call) (hi:tN P af aC) (F6:tJ P af yf) (id:Nat) (ops:Array Oper) (draw:Bool):oQ P af ty aC call yf id ops draw:=by
 cases draw with
 | false=>exact KP hP dx hc hi F6 id ops
 | true =>
  intro env ax S' x a b k cs h hk hR he hn
  simp only[lX,if_true] at h
  split at h
  ·cases h
  ·rename_i hd
   have B4:iX ops (Region.before ops)=true:=by simpa using hd
   refine fZ hP fun n => ?_
   refine⟨_,_,_,_,Hq hm,?_⟩
   split at h
   ·rename_i jM h1
    cases h
    split at h1
    ·cases h1
    exact Hp (x:=x.dr _) hP dx hc hi F6 hk B4 h1 (hR.dr _) (he.mono (dD x _)) (fun y a' q1 q2 q3 q4 q5=>hn y a' q1 q2 ((dD x _).trans q3) q4 q5) _
   ·split at h
    ·rename_i jM S1 fs h1
     split at h
     ·rename_i hmt
      cases h
      have M1:=(dD x ((x.w.at n).drawn+1)).trans (uk _ ops.size)
      exact Ho (x:=(x.dr ((x.w.at n).drawn+1)).pad ops.size) hP dx hc hi F6 hk B4 h1 hmt (R4 (hR.dr _) _) (he.mono M1) (fun y a' q1 q2 q3 q4 q5=>hn y a' q1 q2 (M1.trans q3) q4 q5) _
     ·cases h
    ·cases h
def ot (P:Program) (af:Machine→Trace→Prop) (aV:bk):Prop :=
 ∀ f args v,aV f args=some v→args.all DV.pure=true→v.pure=true→∀ x vals,Rel x→en x args vals→cU P af x f vals fun y u=>y.S=x.S∧Rel y∧bh x y∧RV y v u
theorem Cy {aV:bk} (ht:ot P af aV) (hc:gz P af call):tN P af (iS aV call):=by
 intro f args v h hp
 unfold iS at h
 split at h
 ·rename_i v' h1
  split at h
  ·rename_i hv
   cases h
   exact⟨hv,ht f args v h1 hp hv⟩
  ·cases h
 ·split at h
  ·rename_i v' S' h1
   split at h
   ·rename_i hv
    cases h
    refine⟨hv,fun x vals hR ha => ?_⟩
    have ha':en x.bare args vals:=⟨ha.1,fun j c hj=>(ha.2 j c hj).pure_mono (x:=x) (y:=x.bare) (fun b o h=>⟨h,rfl⟩) (List.all_eq_true.1 hp c (List.mem_of_getElem? hj))⟩
    obtain⟨h2,h3⟩:=hc f args [] v' S' h1 x.bare vals hR.bare rfl ha'
    refine⟨h2,fun fr cs hn=>h3 fr cs fun y0 u ⟨p1,p2,p3,p4⟩ => ?_⟩
    obtain⟨y,r1,r2,q2,r4⟩:=NV p2 v'
    have q3:=p3.trans r4
    have q4:RV y (jl (qS S' v') v') u:=by
     rw[← p1,← r2]
     exact look_ok q2 (p4.mono r4)
    have hb:=hR.behind q3 q2
    rw[← r1]
    exact hn (x.behind y) u ⟨rfl,hb,pM hR q3,q4.strip.pure_mono (x:=y) (y:=x.behind y) (fun b o h=>⟨h,rfl⟩) hv⟩
   ·cases h
  ·cases h
theorem ur (hP:Plain P) (hm:P.follows .mixedOrders=true) (dx:gY P ty) {aV:bk} (ht:ot P af aV) {L:Nat}:∀ n,gz P af (cG P ty aV L n).1∧tJ P af (cG P ty aV L n).2
 | 0=>⟨fun f args S v S' h=>by simp[cG] at h,fun id args S v S' h=>by simp[cG] at h⟩
 | n+1=>by
  obtain⟨Tl,ihy⟩:=ur hP hm dx ht (L:=L) n
  have hi:=Cy ht Tl
  have gd:∀ id ops draw,oQ P af ty (iS aV (cG P ty aV L n).1) (cG P ty aV L n).1 (cG P ty aV L n).2 id ops draw:=fun id ops draw=>GF hP hm dx Tl hi ihy id ops draw
  refine⟨fun f args S v S' h x vals hR hS ha => ?_,KB hP Tl gd⟩
  simp only[cG] at h
  split at h
  ·rename_i fn hf
   exact PL hP dx Tl gd hf h hR hS ha
  ·cases h
end Go.Di
end
