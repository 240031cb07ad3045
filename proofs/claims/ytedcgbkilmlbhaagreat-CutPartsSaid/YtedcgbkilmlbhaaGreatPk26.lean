import Derived.Test.YtedcgbkilmlbhaaGreatPk25
section
namespace Go.Di
open Go Go.Conc Go.Co
open Go.ConcN (upd upd_same upd_ne)
variable {P:Program} {aa:Machine→Trace→Prop} {ty:fI} {x:Cx} {aI:bM} {call:bz} {yf:eE}
theorem Er {ρ ρ':Operand→Option DV} {o:Oper} {S:ak} {ay:Nat} (h:∀ a∈o.op.operands,ρ a=ρ' a):aF P ty aI call yf ρ o S ay=aF P ty aI call yf ρ' o S ay:=by
 have hs:=vO (P:=P) (ty:=ty) (aI:=aI) (call:=call) (yf:=yf) (S:=S) (ay:=ay) h
 unfold aF
 split
 ·rw[hs]
 ·rw[hs]
 ·rw[hs]
 ·rename_i t a v hop
  rw[hop] at h
  rw[h a (by simp[Op.operands]),hs]
 ·rename_i t a v hop
  rw[hop] at h
  rw[h a (by simp[Op.operands]),hs]
 ·rename_i t a v hop
  rw[hop] at h
  rw[h a (by simp[Op.operands]),hs]
 ·rw[hs]
 ·rfl
 ·rename_i t m k ok hop
  rw[hop] at h
  rw[h m (by simp[Op.operands]),hs]
 ·rename_i t m k v hop
  rw[hop] at h
  rw[h m (by simp[Op.operands]),hs]
 ·rename_i t a hop
  rw[hop] at h
  rw[h a (by simp[Op.operands]),hs]
 ·rename_i args ats hop
  rw[hop] at h
  have:(args[0]?).bind ρ=(args[0]?).bind ρ':=by
   cases ha:args[0]? with
   | none=>rfl
   | some a=>exact h a (by simp[Op.operands,Call.operands,Array.mem_of_getElem? ha])
  rw[this,hs]
 ·rename_i f args ats hop
  rw[hop] at h
  have h1:ρ f=ρ' f:=h f (by simp[Op.operands,Call.operands])
  have h2:=ku (ρ:=ρ) (ρ':=ρ') (l:=args.toList) fun a ha=>h a (by simp[Op.operands,Call.operands] at ha ⊢; exact .inr ha)
  rw[h1,h2]
 ·rw[hs]
def Uw:Op→Prop
 | .call { callee := .value _,.. }=>False
 | _=>True
theorem de {c1 c2:bz} {ρ:Operand→Option DV} {o:Oper} {S:ak} {ay:Nat} (h:Uw o.op):af P ty aI c1 yf ρ o S ay=af P ty aI c2 yf ρ o S ay:=by
 obtain⟨dst,op,type,pos,after,guard⟩:=o
 cases op
 case call c =>
  obtain⟨callee,args,ats⟩:=c
  cases callee with
  | value f=>exact h.elim
  | builtin b=>simp only[af]
  | invoke r m=>simp only[af]
 case makeFunc fn a b=>cases fn<;>simp only[af]
 case makeMap t r=>cases r<;>simp only[af]
 all_goals first
  | rfl
  | simp only[af]
theorem Uj {ρ:Operand→Option DV} {o:Oper} {S S':ak} {ay:Nat} {v:DV} {f:cT} (h:aF P ty aI call yf ρ o S ay=some (v,S',f)):∃ ni cl,(cl=Fv call∨cl=uN call (ty.Ny o) ay)∧Bw S ni∧af P ty aI cl yf ρ o S ni=some (v,S'):=by
 suffices hs:(∃ ni,Bw S ni∧af P ty aI (Fv call) yf ρ o S ni=some (v,S'))∨∃ ni,Bw S ni∧af P ty aI (uN call (ty.Ny o) ay) yf ρ o S ni=some (v,S') by
  rcases hs with ⟨n,h1,h2⟩ | ⟨n,h1,h2⟩
  ·exact⟨n,_,.inl rfl,h1,h2⟩
  ·exact⟨n,_,.inr rfl,h1,h2⟩
 obtain⟨dst,op,type,pos,after,guard⟩:=o
 have mp:∀ {q:Option (DV×ak)} {g:DV×ak→cT},q.map (fun r=>(r.1,r.2,g r))=some (v,S',f)→q=some (v,S'):=by
  intro q g hq
  simp only[ah,av] at hq
  obtain⟨⟨a,b⟩,h1,h2,h3,-⟩:=hq
  rw[h1,← h2,← h3]
 have plain:∀ {q:ak→Nat→Option (DV×ak)},(∀ n m,q S n=q S m)→q S ay=some (v,S')→∃ ni,Bw S ni∧q S ni=some (v,S'):=fun hq h=>⟨S.length,.inl rfl,by rw[hq _ ay]; exact h⟩
 cases op
 case alloc e =>
  simp only[aF] at h
  split at h
  ·rename_i hS; exact .inl ⟨ay,.inr hS,(de (c2:=call) (by trivial)).trans (mp h)⟩
  ·cases h
 case box e a =>
  simp only[aF] at h
  split at h
  ·rename_i hS; exact .inl ⟨ay,.inr hS,(de (c2:=call) (by trivial)).trans (mp h)⟩
  ·cases h
 case makeMap e a =>
  simp only[aF] at h
  split at h
  ·rename_i hS; exact .inl ⟨ay,.inr hS,(de (c2:=call) (by trivial)).trans (mp h)⟩
  ·cases h
 case store t a b =>
  simp only[aF] at h
  split at h
  ·exact .inl ⟨S.length,.inl rfl,(de (c2:=call) (by trivial)).trans (mp h)⟩
  ·exact .inl ⟨S.length,.inl rfl,(de (c2:=call) (by trivial)).trans (mp h)⟩
  ·cases h
 case makeSlice t a b=>simp only[aF] at h; cases h
 case buildSlice t n ps =>
  simp only[aF] at h
  split at h
  ·cases h
  ·rename_i hh
   obtain⟨h1,h2⟩:=C9 rfl hh (mp h)
   subst h1
   exact .inl ⟨S'.length,.inl rfl,(de (c2:=call) (by trivial)).trans (h2 _ _)⟩
 case fieldAddr t a i =>
  simp only[aF] at h
  split at h
  all_goals
   obtain⟨h1,h2⟩:=oL (T:=S) (fun _ _ _ _=>rfl) (mp h)
   subst h1
   exact .inl ⟨S'.length,.inl rfl,(de (c2:=call) (by trivial)).trans (h2 _)⟩
 case indexAddr t a i =>
  simp only[aF] at h
  split at h
  all_goals
   obtain⟨h1,h2⟩:=oJ (T:=S) (fun _ _ _ _=>rfl) (mp h)
   subst h1
   exact .inl ⟨S'.length,.inl rfl,(de (c2:=call) (by trivial)).trans (h2 _)⟩
 case load t a =>
  simp only[aF] at h
  split at h
  ·exact .inl ⟨S.length,.inl rfl,(de (c2:=call) (by trivial)).trans (mp h)⟩
  ·exact .inl ⟨S.length,.inl rfl,(de (c2:=call) (by trivial)).trans (mp h)⟩
  ·exact .inl ⟨S.length,.inl rfl,(de (c2:=call) (by trivial)).trans (mp h)⟩
 case lookup t m k ok =>
  simp only[aF] at h
  split at h
  ·exact .inl ⟨S.length,.inl rfl,(de (c2:=call) (by trivial)).trans (mp h)⟩
  ·cases h
 case mapUpdate t m k a =>
  simp only[aF] at h
  split at h
  ·exact .inl ⟨S.length,.inl rfl,(de (c2:=call) (by trivial)).trans (mp h)⟩
  ·cases h
 case call c =>
  obtain⟨callee,args,ats⟩:=c
  cases callee with
  | invoke r m=>simp[aF,af] at h
  | value g =>
   simp only[aF] at h
   by_cases h1:ty.h ⟨dst,.call ⟨.value g,args,ats⟩,type,pos,after,guard⟩=1
   ·refine .inr ⟨S.length,.inl rfl,?_⟩
    simp only[af]
    split at h
    ·rw[if_pos h1] at h
     rw[h1]
     exact mp h
    ·exact mp h
    ·cases h
   refine .inl ⟨S.length,.inl rfl,?_⟩
   simp only[af]
   split at h
   ·rename_i g' fs cs xs hf MN
    split at h
    ·exact absurd ‹_› h1
    rename_i hh
    simp only[uU]
    split at h
    ·rename_i hp
     simp only[ah,av] at h
     obtain⟨d,h3,rfl,rfl,-⟩:=h
     rw[if_pos hp,h3]
    ·rename_i hp
     rw[if_neg hp]
     unfold Fv
     split at h
     ·rename_i ho
      cases h
      rfl
     ·exact mp h
   ·exact mp h
   ·cases h
  | builtin b =>
   by_cases hb:b = .append
   ·subst hb
    simp only[aF] at h
    split at h
    ·cases h
    split at h
    ·cases h
    split at h
    ·rename_i hS _; exact .inl ⟨ay,.inr hS,(de (c2:=call) (by trivial)).trans (mp h)⟩
    ·rename_i hS _; exact .inl ⟨ay,.inr hS,(de (c2:=call) (by trivial)).trans (mp h)⟩
    ·cases h
   ·have Dh:aF P ty aI call yf ρ ⟨dst,.call ⟨.builtin b,args,ats⟩,type,pos,after,guard⟩ S ay=(af P ty aI call yf ρ ⟨dst,.call ⟨.builtin b,args,ats⟩,type,pos,after,guard⟩ S ay).map (fun r=>(r.1,r.2,(⟨some [],false⟩:cT))):=by
     cases b<;>first | rfl | exact absurd rfl hb
    rw[Dh] at h
    have hop:rV (.call ⟨.builtin b,args,ats⟩):=by cases b<;>first | trivial | exact absurd rfl hb
    obtain⟨h1,h2⟩:=Au hop (mp h)
    subst h1
    exact .inl ⟨S'.length,.inl rfl,(de (c2:=call) (by trivial)).trans (h2 _ _)⟩
 all_goals
  simp only[aF] at h
  obtain⟨h1,h2⟩:=Au (by trivial) (mp h)
  subst h1
  exact .inl ⟨S'.length,.inl rfl,(de (c2:=call) (by trivial)).trans (h2 _ _)⟩
theorem O6 {ρ:Operand→Option DV} {o:Oper} {S S':ak} {ay:Nat} {v:DV} {f:cT} (h:aF P ty aI call yf ρ o S ay=some (v,S',f)) (hf:f.ids=none):f.wr=true:=by
 have mp:∀ {q:Option (DV×ak)} {l:List Nat} {b:Bool},q.map (fun r=>(r.1,r.2,(⟨some l,b⟩:cT)))=some (v,S',f)→False:=by
  intro q l b hq
  simp only[ah,av] at hq
  obtain⟨_,-,-,-,rfl⟩:=hq
  cases hf
 have mt:∀ {q:Option (DV×ak)},q.map (fun r=>(r.1,r.2,(⟨none,true⟩:cT)))=some (v,S',f)→f.wr=true:=by
  intro q hq
  simp only[ah,av] at hq
  obtain⟨_,-,-,-,rfl⟩:=hq
  rfl
 unfold aF at h
 split at h
 case h_13 =>
  split at h
  ·simp only at h
   split at h
   ·exact(mp h).elim
   split at h
   ·simp only[ah,av] at h
    obtain⟨_,-,-,-,rfl⟩:=h
    cases hf
   ·split at h
    ·cases h; cases hf
    ·exact mt h
  ·exact mt h
  ·cases h
 all_goals (repeat' split at h)
 all_goals first
  | exact(mp h).elim
  | cases h
def touch (F:Nat→cT) (j id:Nat):Bool:=(F j).wr&&match (F j).ids with
 | none=>true
 | some l=>l.contains id
def top (F:Nat→cT) (j:Nat):Bool:=(F j).wr&&(F j).ids.isNone
def kT {α:Type} (W:Nat→Bool) (R:Nat→α) (d:α) (L:Nat→Bool):Nat→α
 | 0=>d
 | n+1=>if L n&&W n then R n else kT W R d L n
theorem gm {α:Type} {W:Nat→Bool} {R:Nat→α} {d:α} {L:Nat→Bool} {i:Nat}:∀ {n:Nat},i≤n→(∀ j,j<n→W j=true→(L j=true↔j<i))→kT W R d L n=kT W R d (fun _=>true) i
 | 0,h,_=>by
  have:i=0:=by omega
  subst this; rfl
 | n+1,h,hj=>by
  by_cases nk:i=n+1
  ·subst nk
   unfold kT
   by_cases hd:W n=true
   ·have:=(hj n (by omega) hd).2 (by omega)
    simp only[this,hd,fP,if_true]
   ·simp only[aB,hd,and_false,if_false,aD]
    exact gm (ai _) fun j h1 h2=>⟨fun _=>h1,fun _=>(hj j (nF h1) h2).2 (nF h1)⟩
  ·have hle:i≤n:=by omega
   rw[← gm hle fun j h1 h2=>hj j (by omega) h2]
   conv=>lhs; unfold kT
   by_cases hd:W n=true
   ·have:L n=false:=by
     cases hLn:L n with
     | false=>rfl
     | true=>have:=(hj n (by omega) hd).1 hLn; omega
    rw[this]
    simp
   ·simp[hd]
theorem kX {α:Type} {W:Nat→Bool} {R:Nat→α} {d:α} {L:Nat→Bool} {i:Nat} (hd:W i=false):∀ n,kT W R d (upd L i true) n=kT W R d L n
 | 0=>rfl
 | n+1=>by
  unfold kT
  rw[kX hd n]
  by_cases h:n=i
  ·subst h; simp[hd]
  ·rw[upd_ne _ _ h]
theorem uk {α:Type} {W:Nat→Bool} {R:Nat→α} {d:α} {i:Nat} (hd:W i=true):kT W R d (fun _=>true) (i+1)=R i:=by unfold kT; simp[hd]
structure OA (P:Program) (ty:fI) (aI:bM) (call:bz) (yf:eE) (ops:Array Oper) (n0:Nat) (E:Nat→List DV) (V:Nat→DV) (M:Nat→ak) (F:Nat→cT):Prop where
 env:JH ops V E
 yes:∀ j o,ops[j]? = some o→bQ ops (E j) o=true→aF P ty aI call yf (gX (E j)) o (M j) (n0+j)=some (V j,M (j+1),F j)
 no:∀ j o,ops[j]? = some o→bQ ops (E j) o=false→V j=aX∧M (j+1)=M j∧F j=⟨some [],false⟩
theorem Cz {ops:Array Oper} {n0:Nat}:∀ {r:List Oper} {i:Nat} {env aC:List DV} {S S':ak} {fs:List cT},qd P ty aI call yf ops n0 r i env S=some (aC,S',fs) →
  ∃ (E:Nat→List DV) (V:Nat→DV) (M:Nat→ak) (F:Nat→cT),E 0=env∧E r.length=aC∧M 0=S∧M r.length=S'∧(fs.length=r.length∧∀ j,j<r.length→fs[j]? = some (F j)) ∧
   ∀ j o,r[j]? = some o→E (j+1)=iM (E j) o.dst (V j)∧(bQ ops (E j) o=true→aF P ty aI call yf (gX (E j)) o (M j) (n0+(i+j))=some (V j,M (j+1),F j))∧(bQ ops (E j) o=false→V j=aX∧M (j+1)=M j∧F j=⟨some [],false⟩)
 | [],i,env,aC,S,S',fs,h=>by
  simp only[qd,az,av] at h
  obtain⟨rfl,rfl,rfl⟩:=h
  exact⟨fun _=>env,fun _=>aX,fun _=>S,fun _=>⟨some [],false⟩,rfl,rfl,rfl,rfl,⟨rfl,by simp⟩,by simp⟩
 | o::r,i,env,aC,S,S',fs,h=>by
  unfold qd at h
  have key:∀ v S1 f ou tj NQ,qd P ty aI call yf ops n0 r (i+1) (iM env o.dst v) S1=some (ou,tj,NQ)→(bQ ops env o=true→aF P ty aI call yf (gX env) o S (n0+i)=some (v,S1,f))→(bQ ops env o=false→v=aX∧S1=S∧f=⟨some [],false⟩)→some (ou,tj,f::NQ)=some (aC,S',fs) →
    ∃ (E:Nat→List DV) (V:Nat→DV) (M:Nat→ak) (F:Nat→cT),E 0=env∧E (o::r).length=aC∧M 0=S∧M (o::r).length=S'∧(fs.length=(o::r).length∧∀ j,j<(o::r).length→fs[j]? = some (F j)) ∧
     ∀ j o',(o::r)[j]? = some o'→E (j+1)=iM (E j) o'.dst (V j)∧(bQ ops (E j) o'=true→aF P ty aI call yf (gX (E j)) o' (M j) (n0+(i+j))=some (V j,M (j+1),F j))∧(bQ ops (E j) o'=false→V j=aX∧M (j+1)=M j∧F j=⟨some [],false⟩):=by
   intro v S1 f ou tj NQ h1 h2 h3 h4
   cases h4
   obtain⟨E,V,M,F,e1,e2,e3,e4,e5,e6⟩:=Cz h1
   refine⟨fun n=>match n with | 0=>env | n+1=>E n,fun n=>match n with | 0=>v | n+1=>V n,fun n=>match n with | 0=>S | n+1=>M n,fun n=>match n with | 0=>f | n+1=>F n,rfl,by simpa using e2,rfl,by simpa using e4,⟨by simp[e5.1],fun j hj => ?_⟩,fun j o' j6 => ?_⟩
   ·cases j with
    | zero=>rfl
    | succ j=>simpa using e5.2 j (by simpa using hj)
   ·cases j with
    | zero =>
     simp only[List.getElem?_cons_zero,az] at j6
     subst j6
     exact⟨e1,fun hw=>by have:=h2 hw; rw[← e3] at this; exact this,fun hw=>by have:=h3 hw; rw[← e3] at this; exact this⟩
    | succ j =>
     have:=e6 j o' (by simpa using j6)
     have e:i+(j+1)=i+1+j:=by omega
     rw[e]
     exact this
  split at h
  ·rename_i hw
   split at h
   ·rename_i v S1 f h1
    split at h
    ·rename_i ou tj NQ h2
     exact key v S1 f _ _ _ h2 (fun _=>h1) (fun hf=>by rw[hw] at hf; cases hf) h
    ·cases h
   ·cases h
  ·rename_i hw
   split at h
   ·rename_i ou tj NQ h2
    exact key aX S ⟨some [],false⟩ _ _ _ h2 (fun ht=>absurd ht hw) (fun _=>⟨rfl,rfl,rfl⟩) h
   ·cases h
theorem XX {ops:Array Oper} {n0:Nat} {env aC:List DV} {S S':ak} {fs:List cT} (h:qd P ty aI call yf ops n0 ops.toList 0 env S=some (aC,S',fs)) :
  ∃ (E:Nat→List DV) (V:Nat→DV) (M:Nat→ak) (F:Nat→cT),OA P ty aI call yf ops n0 E V M F∧E 0=env∧E ops.size=aC∧M 0=S∧M ops.size=S'∧∀ j,j<ops.size→fs[j]? = some (F j):=by
 obtain⟨E,V,M,F,e1,e2,e3,e4,e5,e6⟩:=Cz h
 refine⟨E,V,M,F,⟨fun j o ho=>(e6 j o (by simpa using ho)).1,fun j o ho hw => ?_,fun j o ho hw=>(e6 j o (by simpa using ho)).2.2 hw⟩,e1,by simpa using e2,e3,by simpa using e4,fun j hj=>e5.2 j (by simpa using hj)⟩
 have:=(e6 j o (by simpa using ho)).2.1 hw
 simpa using this
theorem zw {w:Option (Nat×DB)} {S:ak} (h:∀ i b,w=some (i,b)→i<S.length) (id:Nat):(appW w S)[id]? = match w with | some (i,b)=>if id=i then some b else S[id]? | none=>S[id]? := by
 cases w with
 | none=>rfl
 | some p =>
  obtain⟨i,b⟩:=p
  have hlt:=h i b rfl
  simp only[appW]
  rw[aK]
  by_cases h1:id=i
  ·subst h1; simp[hlt]
  ·rw[if_neg (Ne.symm h1),if_neg h1]
theorem KT {w:Option (Nat×DB)} {S:ak}:(appW w S).length=S.length:=by cases w<;>simp[appW]
theorem run_store {ops:Array Oper} {n0:Nat} {E:Nat→List DV} {V:Nat→DV} {M:Nat→ak} {F:Nat→cT} (h:OA P ty aI call yf ops n0 E V M F) (id:Nat):∀ i,i≤ops.size →
  (M i)[id]? = kT (fun j=>touch F j id) (fun j=>(M (j+1))[id]?) ((M 0)[id]?) (fun _=>true) i∧(M i).length=kT (top F) (fun j=>(M (j+1)).length) (M 0).length (fun _=>true) i
 | 0,_=>⟨rfl,rfl⟩
 | i+1,hi=>by
  have ho:ops[i]? = some ops[i]:=bL (by omega)
  obtain⟨K0,MJ⟩:=run_store h id i (by omega)
  unfold kT
  simp only[Bool.true_and]
  rw[← K0,← MJ]
  cases hw:bQ ops (E i) ops[i] with
  | false =>
   obtain⟨h1,h2,h3⟩:=h.no i _ ho hw
   rw[h2]
   simp
  | true =>
   have hs:=h.yes i _ ho hw
   cases om:(F i).ids with
   | none =>
    have:=O6 hs om
    simp[touch,top,om,this]
   | some l =>
    obtain⟨w,w1,w2,w3⟩:=O7 hs om
    constructor
    ·split
     ·rfl
     ·rename_i hnt
      rw[w1,zw fun i b hw=>(w2 i b hw).2.2]
      cases w with
      | none=>rfl
      | some p =>
       obtain⟨i',b⟩:=p
       obtain⟨q1,q2,q3⟩:=w2 i' b rfl
       have hne:id≠i':=by
        rintro rfl
        apply hnt
        simp[touch,q2,om,q1]
       simp[hne]
    ·rw[w1,KT]
     simp[top,om]
theorem Yd {b:Array Nat} {fs:List cT} (h:qG b fs=true) {i j:Nat} {f g:cT} (hi:fs[i]? = some f) (hj:fs[j]? = some g) (hne:i≠j) (hm:f.meets g=true):(b.getD j 0).testBit i=true∨(b.getD i 0).testBit j=true:=by
 unfold qG at h
 simp only[aW] at h
 have h1:=h (f,i) (by rw[rU]; exact hi) (g,j) (by rw[rU]; exact hj)
 have h2:(i==j)=false:=by simpa using hne
 simp only[h2,hm,eO,Bool.or_false,Bool.false_or,eP] at h1
 exact h1
end Go.Di
end
section
namespace Go.Di
open Go Go.Conc Go.Co
variable {P:Program} {aa:Machine→Trace→Prop} {x y:Cx} {i:Nat} {l l0 l':List DV} {T:ak}
def Cx.only (x:Cx) (i:Nat) (l:List DV):Cx:={ x with μ:=fun _=>x.μ i,κ:=fun _=>0,S:=[.cells l] }
theorem A0 {x y:Cx} (hF:∀ b o,x.Fz b o→y.Fz b o∧y.w.cell? ⟨b,o,none⟩=x.w.cell? ⟨b,o,none⟩) {l:List DV} {arr:Array Value} (hl:(l.map DV.aL).all DV.bF=true) (h:fR x l arr):fR y (l.map DV.aL) arr:=by
 refine⟨by simpa using h.1,fun j c hj => ?_⟩
 have hm:=aW.1 hl c (cW hj)
 simp only[en,ah] at hj
 obtain⟨c',h2,rfl⟩:=hj
 exact(h.2 j c' h2).aL.uc hF hm
theorem Cw {x y:Cx} (hF:∀ b o,x.Fz b o→y.Fz b o∧y.w.cell? ⟨b,o,none⟩=x.w.cell? ⟨b,o,none⟩) {l:List DV} (hl:(l.map DV.strip).all DV.pure=true) {j:Nat} {c:DV} {v:Value} (hj:(l.map DV.strip)[j]? = some c) (h:∀ c',l[j]? = some c'→RV x c' v):RV y c v:=by
 have hm:=aW.1 hl c (cW hj)
 simp only[en,ah] at hj
 obtain⟨c',h2,rfl⟩:=hj
 exact(h c' h2).strip.pure_mono hF hm
theorem mV {l:List DV} {k:Nat} {b:DB} (h:([.cells l]:ak)[k]? = some b):k=0∧b = .cells l:=by
 cases k with
 | zero=>simp at h; exact⟨rfl,h.symm⟩
 | succ k=>simp at h
theorem PS (hR:Rel x) (hi:x.S[i]? = some (.cells l)) (hl:(l.map DV.aL).all DV.bF=true):Rel (x.only i (l.map DV.aL)):=by
 refine⟨fun id l2 h => ?_,fun id e s n h => ?_,fun id b h hb => ?_,fun j k hj hk _ => ?_,hR.xH,fun id h o hF => ?_,fun id e s n h => ?_,fun id e s l z h => ?_⟩
 ·obtain⟨rfl,h2⟩:=mV h
  cases h2
  obtain⟨arr,e,h1,h2,h3⟩:=hR.cells i l hi
  refine⟨arr,e,h1,?_⟩
  exact A0 (x:=x) (y:=x.only i (l.map DV.aL)) (fun b o h=>⟨h,rfl⟩) hl ⟨h2,h3⟩
 ·exact nomatch (mV h).2
 ·obtain⟨-,rfl⟩:=mV h
  cases hb
 ·obtain⟨b,hb,-⟩:=hj
  obtain⟨c,hc,-⟩:=hk
  rw[(mV hb).1,(mV hc).1]
 ·exact hR.sep i ⟨l,hi⟩ o hF
 ·exact nomatch (mV h).2
 ·exact nomatch (mV h).2
def Cx.back (x y:Cx) (i:Nat) (l':List DV):Cx:={ w:=y.w,μ:=x.μ,κ:=x.κ,Fz:=y.Fz,S:=x.S.set i (.cells l') }
theorem eC {S:ak} {i k:Nat} {b c d:DB} (hi:S[i]? = some d) (h:(S.set i c)[k]? = some b):(k=i∧b=c)∨(k≠i∧S[k]? = some b):=by
 rw[aK] at h
 split at h
 ·rename_i he
  subst he
  rw[if_pos (aJ.1 hi).1] at h
  cases h
  exact .inl ⟨rfl,rfl⟩
 ·rename_i he
  exact .inr ⟨fun e=>he e.symm,h⟩
theorem jv {S:ak} {i k:Nat} {c:DB} (h:k≠i):(S.set i c)[k]? = S[k]? := by
 rw[aK,if_neg fun e=>h e.symm]
theorem Cu {S:ak} {i:Nat} {c d:DB} (hi:S[i]? = some d):(S.set i c)[i]? = some c:=by
 rw[aK,if_pos rfl,if_pos (aJ.1 hi).1]
theorem qV (hR:Rel x) (hi:x.S[i]? = some (.cells l)) (M:bE (x.only i l0) y) {id:Nat} {b:DB} {o:Obj} (hb:x.S[id]? = some b) (hne:b ≠ .none) (hid:id≠i) (ho:x.w.heap[x.μ id]? = some o):y.w.heap[x.μ id]? = x.w.heap[x.μ id]? := by
 refine M.old _ (aG.1 ho).1 fun k _ he => ?_
 exact hid (hR.inj i id ⟨_,hi,by simp⟩ ⟨b,hb,hne⟩ he).symm
theorem CI (hR:Rel x) (hi:x.S[i]? = some (.cells l)) (M:bE (x.only i l0) y):bE x (x.back y i l') where
 size:=M.size
 env:=M.env
 fz:=M.fz
 Ho:=fun b o h=>(M.Ho b o h).imp id fun h=>h.imp id fun⟨k,_,he⟩=>⟨i,⟨_,hi,by simp⟩,he⟩
 old:=fun b hb hn=>M.old b hb fun k _ he=>hn i ⟨_,hi,by simp⟩ he
 len:=by simp[Cx.back]
 cells:=fun id l2 h=>⟨rfl,by
  by_cases he:id=i
  ·subst he; exact⟨l',Cu hi⟩
  ·exact⟨l2,(jv he).trans h⟩⟩
 dD:=fun id b h hb=>by
  have he:id≠i:=by rintro rfl; rw[hi] at h; cases h; cases hb
  obtain⟨o,ho,-⟩:=hR.dD id b h hb
  exact⟨rfl,⟨b,(jv he).trans h,eu hb⟩,fun _=>qV hR hi M h (fq hb) he ho⟩
 dz:=fun t e s n h=>by
  have he:t≠i:=by rintro rfl; rw[hi] at h; cases h
  exact⟨n,(jv he).trans h,ai _,fun _=>⟨rfl,rfl⟩⟩
 live:=fun k ⟨b,hb,hne⟩ => .inl ⟨by
  rcases eC hi hb with ⟨rfl,-⟩ | ⟨-,h⟩
  ·exact⟨_,hi,by simp⟩
  ·exact⟨b,h,hne⟩,rfl⟩
 ops:=fun t e s l z h=>by
  have he:t≠i:=by rintro rfl; rw[hi] at h; cases h
  exact⟨l,z,(jv he).trans h,ai _,fun e=>⟨rfl,e⟩,fun _=>⟨rfl,rfl⟩⟩
theorem PU (hR:Rel x) (hi:x.S[i]? = some (.cells l)) (EI:Rel y) (M:bE (x.only i l0) y) (hy:y.S[0]? = some (.cells l')) (iV:(l'.map DV.aL).all DV.bF=true):Rel (x.back y i (l'.map DV.aL)):=by
 have MB:=CI (l':=l'.map DV.aL) hR hi M
 have hμ:y.μ 0=x.μ i:=(M.cells 0 l0 rfl).1
 have hF:∀ b o,y.Fz b o→x.Fz b o∨x.w.heap.size≤b∨b=x.μ i:=fun b o h=>(M.Ho b o h).imp id fun h=>h.imp id fun⟨_,_,he⟩=>he.symm
 refine⟨fun id l2 h => ?_,fun id e s n h => ?_,fun id b h hb => ?_,fun j k hj hk he => ?_,EI.xH,fun id h o hf => ?_,fun id e s n h o hf => ?_,fun id e s l1 z h => ?_⟩
 ·rcases eC hi h with ⟨rfl,h2⟩ | ⟨he,h2⟩
  ·cases h2
   obtain⟨arr,e,h1,h2,h3⟩:=EI.cells 0 l' hy
   exact⟨arr,e,by rw[hμ] at h1; exact h1,A0 (x:=y) (y:=x.back y id (l'.map DV.aL)) (fun b o h=>⟨h,rfl⟩) iV ⟨h2,h3⟩⟩
  ·obtain⟨arr,e,h1,h3,h4⟩:=hR.cells id l2 h2
   exact⟨arr,e,(qV hR hi M h2 (by simp) he h1).trans h1,h3,fun j c hc=>(h4 j c hc).mono MB⟩
 ·rcases eC hi h with ⟨rfl,h2⟩ | ⟨he,h2⟩
  ·cases h2
  ·obtain⟨arr,h1,h3⟩:=hR.dz id e s n h2
   exact⟨arr,(qV hR hi M h2 (by simp) he h1).trans h1,h3⟩
 ·rcases eC hi h with ⟨rfl,h2⟩ | ⟨he,h2⟩
  ·subst h2; cases hb
  ·obtain⟨o,h1,h3⟩:=hR.dD id b h2 hb
   exact⟨o,(qV hR hi M h2 (fq hb) he h1).trans h1,h3.mono MB⟩
 ·have lv:∀ {k},Live (x.back y i (l'.map DV.aL)).S k→Live x.S k:=fun {k} ⟨b,hb,hne⟩=>by
   rcases eC hi hb with ⟨rfl,-⟩ | ⟨-,h⟩
   ·exact⟨_,hi,by simp⟩
   ·exact⟨b,h,hne⟩
  exact hR.inj j k (lv hj) (lv hk) he
 ·obtain⟨l2,h⟩:=h
  obtain⟨l3,h3⟩:∃ l3,x.S[id]? = some (.cells l3):=by
   rcases eC hi h with ⟨rfl,-⟩ | ⟨-,h2⟩
   ·exact⟨l,hi⟩
   ·exact⟨l2,h2⟩
  obtain⟨arr,e,h4,-⟩:=hR.cells id l3 h3
  rcases hF _ _ hf with h5 | h5 | h5
  ·exact hR.sep id ⟨l3,h3⟩ o h5
  ·have:=(aG.1 h4).1
   change x.w.heap.size≤x.μ id at h5
   omega
  ·refine EI.sep 0 ⟨l',hy⟩ o ?_
   rw[hμ,← h5]
   exact hf
 ·rcases eC hi h with ⟨rfl,h2⟩ | ⟨he,h2⟩
  ·cases h2
  ·obtain⟨arr,h4,-⟩:=hR.dz id e s n h2
   rcases hF _ _ hf with h5 | h5 | h5
   ·exact hR.ng id e s n h2 o h5
   ·have:=(aG.1 h4).1
    change x.w.heap.size≤x.μ id at h5
    omega
   ·exact absurd (hR.inj id i ⟨_,h2,by simp⟩ ⟨_,hi,by simp⟩ h5) he
 ·rcases eC hi h with ⟨rfl,h2⟩ | ⟨he,h2⟩
  ·cases h2
  ·obtain⟨arr,h4,h3,h6,h7,h8,h9,uD⟩:=hR.ops id e s l1 z h2
   refine⟨arr,(qV hR hi M h2 (by simp) he h4).trans h4,h3,h6,h7,fun j c hc=>⟨(h8 j c hc).1,(h8 j c hc).2.mono MB⟩,fun hz j hj=>(M.fz _ _ (h9 hz j hj)).1,fun hz o hf => ?_⟩
   rcases hF _ _ hf with h5 | h5 | h5
   ·exact uD hz o h5
   ·have:=(aG.1 h4).1
    change x.w.heap.size≤x.μ id at h5
    omega
   ·exact absurd (hR.inj id i ⟨_,h2,by simp⟩ ⟨_,hi,by simp⟩ h5) he
theorem I2 {f:FuncId} {off:Nat} {rest:List DV} {vals:Array Value} {v:DV} (hR:Rel x) (hi:x.S[i]? = some (.cells l)) (hp:(rest.map DV.strip).all DV.pure=true) (ha:fR x (.ptr i off::rest) vals)
  (h:fR (x.only i l0) (.ptr 0 off::rest.map DV.strip) vals→er P aa (x.only i l0) f vals fun y u=>y.S = .cells l'::T∧Rel y∧bE (x.only i l0) y∧RV y v u) (iV:(l'.map DV.aL).all DV.bF=true) (hv:v.strip.pure=true) :
  er P aa x f vals fun z u=>z.S=x.S.set i (.cells (l'.map DV.aL))∧Rel z∧bE x z∧RV z v.strip u:=by
 have ha':fR (x.only i l0) (.ptr 0 off::rest.map DV.strip) vals:=by
  refine⟨by simpa using ha.1,fun j c hc => ?_⟩
  cases j with
  | zero =>
   simp only[List.getElem?_cons_zero,az] at hc
   subst hc
   have:=ha.2 0 _ rfl
   generalize vals.getD 0 undef=u at this
   cases this with
   | ptr _=>exact RV.ptr (x:=x.only i l0) (id:=0) (l:=l0) rfl
  | succ j =>
   exact Cw (x:=x) (y:=x.only i l0) (fun b o h=>⟨h,rfl⟩) hp (by simpa using hc) fun c' h1=>ha.2 (j+1) c' (by simpa using h1)
 obtain⟨h1,h2⟩:=h ha'
 refine⟨h1,fun fr cs hn=>h2 fr cs fun y u ⟨q1,q2,q3,q4⟩ => ?_⟩
 have hy:y.S[0]? = some (.cells l'):=by rw[q1]; rfl
 exact hn (x.back y i (l'.map DV.aL)) u ⟨rfl,PU hR hi q2 q3 hy iV,CI hR hi q3,q4.strip.pure_mono (x:=y) (y:=x.back y i (l'.map DV.aL)) (fun b o h=>⟨h,rfl⟩) hv⟩
theorem QM {call:bz} (hc:gL P aa call):gL P aa (Fv call):=by
 intro f args S v S' h x vals hR hS ha
 subst hS
 unfold Fv at h
 split at h
 ·rename_i i v1 l1 ho
  cases h
  unfold xP at ho
  split at ho
  ·rename_i i off rest
   split at ho
   ·rename_i l hi
    split at ho
    ·rename_i Nj
     simp only[aB] at Nj
     split at ho
     ·rename_i v2 l' T kU
      split at ho
      ·rename_i hq
       simp only[aB] at hq
       cases ho
       exact I2 (l0:=l.map DV.aL) hR hi Nj.1 ha (fun Jm=>hc _ _ _ _ _ kU (x.only _ _) vals (PS hR hi Nj.2) rfl Jm) hq.2 hq.1
      ·cases ho
     ·cases ho
    ·cases ho
   ·cases ho
  ·cases ho
 ·exact hc _ _ _ _ _ h x vals hR rfl ha
def Cx.opn (x y:Cx) (ay t:Nat) (e:TypeId) (rows:List DV):Cx:={ w:=y.w,μ:=fun i=>if i=ay then y.μ t else x.μ i,κ:=fun i=>if i=ay then y.κ t else x.κ i,Fz:=fun b o=>y.Fz b o∧b≠y.μ t,S:=x.S.set ay (.op e 1 rows false) }
section
variable {ay t n:Nat} {e:TypeId} {rows:List DV}
theorem Ec (M:bE x.bare y) (ht:y.S[t]? = some (.tail e 1 n)):x.w.heap.size≤y.μ t:=by
 rcases M.live t ⟨_,ht,by simp⟩ with ⟨⟨b,hb,-⟩,-⟩ | h
 ·simp[Cx.bare] at hb
 ·exact h
theorem rO (M:bE x.bare y) {b:Nat} (hb:b<x.w.heap.size):y.w.heap[b]? = x.w.heap[b]? := M.old b hb fun i ⟨c,hc,_⟩=>by simp[Cx.bare] at hc
theorem Kb (M:bE x.bare y) {b o:Nat} (h:y.Fz b o):x.Fz b o∨x.w.heap.size≤b:=by
 rcases M.Ho b o h with h | h | ⟨i,⟨c,hc,-⟩,-⟩
 ·exact .inl h
 ·exact .inr h
 ·simp[Cx.bare] at hc
theorem F7 (hR:Rel x) (M:bE x.bare y) (hn:x.S[ay]? = some .none) (ht:y.S[t]? = some (.tail e 1 n)):bE x (x.opn y ay t e rows) where
 size:=M.size
 env:=M.env
 fz:=fun b o h=>by
  obtain⟨v,hv⟩:=hR.xH b o h
  have h1:=World.block_lt_of_cell? x.w ⟨b,o,none⟩ hv
  have h2:=Ec M ht
  exact⟨⟨(M.fz b o h).1,fun he=>by change b<_ at h1; omega⟩,(M.fz b o h).2⟩
 Ho:=fun b o h=>(Kb M h.1).imp id .inl
 old:=fun b hb _=>rO M hb
 len:=by simp[Cx.opn]
 cells:=fun id l h=>by
  have he:id≠ay:=by rintro rfl; rw[hn] at h; cases h
  exact⟨if_neg he,l,(jv he).trans h⟩
 dD:=fun id b h hb=>by
  have he:id≠ay:=by rintro rfl; rw[hn] at h; cases h; cases hb
  obtain⟨o,ho,-⟩:=hR.dD id b h hb
  exact⟨if_neg he,⟨b,(jv he).trans h,eu hb⟩,fun _=>rO M (aG.1 ho).1⟩
 dz:=fun k e s n h=>by
  have he:k≠ay:=by rintro rfl; rw[hn] at h; cases h
  exact⟨n,(jv he).trans h,ai _,fun _=>⟨if_neg he,if_neg he⟩⟩
 live:=fun k ⟨b,hb,hne⟩=>by
  rcases eC hn hb with ⟨rfl,-⟩ | ⟨he,h⟩
  ·exact .inr (by show _≤(if k=k then _ else _); rw[if_pos rfl]; exact Ec M ht)
  ·exact .inl ⟨⟨b,h,hne⟩,if_neg he⟩
 ops:=fun k e s l z h=>by
  have he:k≠ay:=by rintro rfl; rw[hn] at h; cases h
  exact⟨l,z,(jv he).trans h,ai _,fun e=>⟨rfl,e⟩,fun _=>⟨if_neg he,if_neg he⟩⟩
theorem Tg (hR:Rel x) (M:bE x.bare y) (EI:Rel y) (hn:x.S[ay]? = some .none) (ht:y.S[t]? = some (.tail e 1 n)) (hl:rows.length=n)
  (hc:∀ arr,y.w.heap[y.μ t]? = some (.cells arr e (0,0))→∀ j c,rows[j]? = some c→c.bF=true∧∀ z:Cx,RV z c (arr.getD j undef)):Rel (x.opn y ay t e rows):=by
 have MB:=F7 (rows:=rows) hR M hn ht
 have uG:=Ec M ht
 have mu:∀ {id},id≠ay→(x.opn y ay t e rows).μ id=x.μ id:=fun he=>if_neg he
 have ka:∀ {id},id≠ay→(x.opn y ay t e rows).κ id=x.κ id:=fun he=>if_neg he
 have mun:(x.opn y ay t e rows).μ ay=y.μ t:=if_pos rfl
 have kan:(x.opn y ay t e rows).κ ay=y.κ t:=if_pos rfl
 have hF:∀ {b o},(x.opn y ay t e rows).Fz b o→b<x.w.heap.size→x.Fz b o:=fun h hb=>(Kb M h.1).elim id fun h=>by omega
 have lv:∀ {k},Live (x.opn y ay t e rows).S k→k=ay∨(k≠ay∧Live x.S k):=fun {k} ⟨b,hb,hne⟩=>by
  rcases eC hn hb with ⟨rfl,-⟩ | ⟨he,h⟩
  ·exact .inl rfl
  ·exact .inr ⟨he,b,h,hne⟩
 have lt:∀ {k},Live x.S k→x.μ k<x.w.heap.size:=fun {k} ⟨b,hb,hne⟩=>by
  cases b with
  | none=>exact absurd rfl hne
  | cells l=>obtain⟨arr,e,h1,-⟩:=hR.cells k l hb; exact(aG.1 h1).1
  | tail e s n=>obtain⟨arr,h1,-⟩:=hR.dz k e s n hb; exact(aG.1 h1).1
  | map es=>obtain⟨o,h1,-⟩:=hR.dD k _ hb rfl; exact(aG.1 h1).1
  | defer=>obtain⟨o,h1,-⟩:=hR.dD k _ hb rfl; exact(aG.1 h1).1
  | loop r=>obtain⟨o,h1,-⟩:=hR.dD k _ hb rfl; exact(aG.1 h1).1
  | op e s l z=>obtain⟨arr,h1,-⟩:=hR.ops k e s l z hb; exact(aG.1 h1).1
 refine⟨fun id l h => ?_,fun id e s m h => ?_,fun id b h hb => ?_,fun j k hj hk he => ?_,fun b o h=>EI.xH b o h.1,fun id h o hf => ?_,fun id e s m h o hf => ?_,fun id e1 s l1 z h => ?_⟩
 ·rcases eC hn h with ⟨rfl,h2⟩ | ⟨he,h2⟩
  ·cases h2
  ·obtain⟨arr,e1,h3,h4,h5⟩:=hR.cells id l h2
   exact⟨arr,e1,by rw[mu he]; exact(rO M (aG.1 h3).1).trans h3,h4,fun j c hj=>(h5 j c hj).mono MB⟩
 ·rcases eC hn h with ⟨rfl,h2⟩ | ⟨he,h2⟩
  ·cases h2
  ·obtain⟨arr,h3,h4⟩:=hR.dz id e s m h2
   exact⟨arr,by rw[mu he]; exact(rO M (aG.1 h3).1).trans h3,by rw[ka he]; exact h4⟩
 ·rcases eC hn h with ⟨rfl,h2⟩ | ⟨he,h2⟩
  ·subst h2; cases hb
  ·obtain⟨o,h3,h4⟩:=hR.dD id b h2 hb
   exact⟨o,by rw[mu he]; exact(rO M (aG.1 h3).1).trans h3,h4.mono MB⟩
 ·rcases lv hj with rfl | ⟨hj1,Rs⟩<;>rcases lv hk with rfl | ⟨qA,Hh⟩
  ·rfl
  ·rw[mun,mu qA] at he
   have:=lt Hh
   omega
  ·rw[mun,mu hj1] at he
   have:=lt Rs
   omega
  ·rw[mu hj1,mu qA] at he
   exact hR.inj j k Rs Hh he
 ·obtain⟨l,h⟩:=h
  rcases eC hn h with ⟨rfl,h2⟩ | ⟨he,h2⟩
  ·cases h2
  ·rw[mu he] at hf
   exact hR.sep id ⟨l,h2⟩ o (hF hf (lt ⟨_,h2,by simp⟩))
 ·rcases eC hn h with ⟨rfl,h2⟩ | ⟨he,h2⟩
  ·cases h2
  ·rw[mu he] at hf
   exact hR.ng id e s m h2 o (hF hf (lt ⟨_,h2,by simp⟩))
 ·rcases eC hn h with ⟨rfl,h2⟩ | ⟨he,h2⟩
  ·cases h2
   obtain⟨arr,h3,h4,h5,h6⟩:=EI.dz t e 1 n ht
   exact⟨arr,by rw[mun]; exact h3,by rw[kan]; exact h4,by omega,by rw[kan]; exact h6,fun j c hj=>⟨(hc arr h3 j c hj).1,(hc arr h3 j c hj).2 _⟩,fun hz=>(by cases hz),fun _ o hf=>hf.2 mun⟩
  ·obtain⟨arr,h3,h4,h5,h6,h7,h8,h9⟩:=hR.ops id e1 s l1 z h2
   have hlt:x.μ id<x.w.heap.size:=lt ⟨_,h2,by simp⟩
   refine⟨arr,by rw[mu he]; exact(rO M (aG.1 h3).1).trans h3,by rw[ka he]; exact h4,h5,by rw[ka he]; exact h6,fun j c hj=>⟨(h7 j c hj).1,(h7 j c hj).2.mono MB⟩,fun hz j hj=>by rw[mu he]; exact(MB.fz _ _ (h8 hz j hj)).1,fun hz o hf => ?_⟩
   rw[mu he] at hf
   exact h9 hz o (hF hf hlt)
end
theorem HL {d:DV} (h:d.vl=true):∃ v,d = .val v∧DV.bF (.val v)=true:=by
 cases d<;>first | exact⟨_,rfl,h⟩ | cases h
theorem KE {rows:List DV} (h:rows.all DV.vl=true):flat rows=rows:=by
 induction rows with
 | nil=>rfl
 | cons d rows ih =>
  simp only[List.all_cons,aB] at h
  obtain⟨v,rfl,-⟩:=HL h.1
  have:=ih h.2
  simp only[flat,gv,DV.cells] at this ⊢
  rw[this]; rfl
theorem D2 {z:Cx} {v u:Value} (h:RV x (.val v) u):RV z (.val v) u:=by
 cases h with
 | val h=>exact .val h
theorem S7 {ay t n:Nat} {e:TypeId} {rows:List DV} {d:DV} {u:Value} (hR:Rel y) (ht:y.S[t]? = some (.tail e 1 n)) (hd:Lb y.S t d=true) (h:RV y d u):RV (x.opn y ay t e rows) d.aL u:=by
 unfold Lb at hd
 split at hd
 ·exact D2 h
 ·rename_i rs tok f
  cases h with
  | @sl _ _ _ A cap s vs hv hr h1 h2 h3 hsp h4 =>
   simp only[eP] at hd
   have hno:∀ k,(none:Option Nat)=some k→∃ e s n,(x.opn y ay t e rows).S[k]? = some (.tail e s n)∧rs.length*s≤n∧(∀ r∈rs,r.cells.length=s)∧(rs.length*s=n→A=some ⟨(x.opn y ay t e rows).μ k,0,none⟩∧cap=(x.opn y ay t e rows).κ k):=fun k hk=>nomatch hk
   rcases hd with he | hd
   ·have he:rs=[]:=by simpa using he
    subst he
    exact .sl (s:=s) (vs:=vs) ⟨by simp,fun j c hc=>by simp[flat] at hc⟩ (fun j c hc=>by simp[flat] at hc) h1 ⟨by simp,h2.2⟩ h3 hsp (fun k hk=>nomatch hk)
   ·split at hd
    ·rename_i k
     simp only[aB,bne_iff_ne,ne_eq] at hd
     obtain⟨⟨Rn,hne⟩,hk⟩:=hd
     split at hk
     ·rename_i e' s' n' hS
      obtain⟨e2,s2,n2,k1,k2,k3,k4⟩:=h4 k rfl
      rw[hS] at k1
      cases k1
      have hA:=(k4 (by have:=hk; simp only[cV] at this; exact this.symm)).1
      have rH:=KE Rn
      refine .sl (s:=s) (vs:=vs) ⟨hv.1,fun j c hc => ?_⟩ (fun j c hc => ?_) h1 ⟨by simp,h2.2⟩ h3 hsp (fun k hk=>nomatch hk)
      ·obtain⟨p1,b,o,p2,p3,p4⟩:=hv.2 j c hc
       refine⟨p1,b,o,p2,⟨p3,fun hb => ?_⟩,p4⟩
       rw[hA] at p2
       cases p2
       exact hne (hR.inj k t ⟨_,hS,by simp⟩ ⟨_,ht,by simp⟩ hb)
      ·rw[rH] at hc
       obtain⟨v,rfl,-⟩:=HL (aW.1 Rn c (cW hc))
       exact D2 (hr j _ (by rw[rH]; exact hc))
     ·cases hk
    ·cases hd
 ·cases hd
theorem Qb {call:bz} {f ay:Nat} (hc:gL P aa call):gL P aa (uN call f ay):=by
 intro g args S v S' h x vals hR hS ha
 subst hS
 unfold uN at h
 split at h
 ·rename_i l e rows hn ho
  cases h
  unfold N7 at ho
  split at ho
  ·rename_i hp
   unfold RO at ho
   split at ho
   ·rename_i l0 S1 kU
    split at ho
    ·rename_i rs t ff hf
     split at ho
     ·rename_i e1 n ht
      split at ho
      ·rename_i hq
       cases ho
       simp only[aB,cV,aW,List.mem_range,eP] at hq
       obtain⟨⟨hlen,Rn⟩,WY⟩:=hq
       have ha':fR x.bare (args.map DV.strip) vals:=⟨by simpa using ha.1,fun j c hj=>Cw (x:=x) (y:=x.bare) (fun b o h=>⟨h,rfl⟩) hp hj fun c' h1=>ha.2 j c' h1⟩
       obtain⟨h1,h2⟩:=hc _ _ _ _ _ kU x.bare vals hR.bare rfl ha'
       refine⟨h1,fun fr cs hx=>h2 fr cs fun y u ⟨q1,q2,q3,q4⟩ => ?_⟩
       rw[← q1] at ht
       have acz:rows.all DV.vl=true:=aW.2 Rn
       have rH:=KE acz
       cases q4 with
       | @agg _ vs hsz hvs =>
        have Y2:=hvs f _ hf
        generalize hu:vs.getD f undef=uf at Y2
        cases Y2 with
        | @sl _ _ _ A cap s MG hv hr k1 k2 k3 ksp k4 =>
         obtain⟨e2,s2,n2,t1,t2,t3,t4⟩:=k4 t rfl
         rw[ht] at t1
         cases t1
         obtain⟨hA,E4⟩:=t4 (by omega)
         refine hx (x.opn y ay t e rows) _ ⟨rfl,Tg hR q3 q2 hn ht hlen.symm (fun arr yN j c hj => ?_),F7 hR q3 hn ht,.agg (by simpa using hsz) fun j c hj => ?_⟩
         ·obtain⟨w,rfl,hw⟩:=HL (Rn c (cW hj))
          refine⟨hw,fun z => ?_⟩
          rw[← rH] at hj
          obtain⟨-,b,o,p2,-,p4⟩:=hv.2 j _ hj
          rw[hA] at p2
          cases p2
          have xE:=hr j _ hj
          have p4:arr[j]? = some (MG j):=by simpa [World.cell?,yN] using p4
          have:arr.getD j undef=MG j:=by
           rw[aT,p4]; rfl
          rw[this]
          exact D2 xE
         ·rw[aK] at hj
          split at hj
          ·rename_i he
           subst he
           split at hj
           ·cases hj
            rw[hu]
            exact .gV (x:=x.opn y ay t e rows) (e:=e) (s:=1) (l:=rows) (z:=false) (Cu hn) (by omega) fun _=>⟨by rw[hA]; show _=some (Addr.mk (if ay=ay then _ else _) _ _); rw[if_pos rfl],by rw[E4]; show _=(if ay=ay then _ else _); rw[if_pos rfl]⟩
           ·cases hj
          ·rename_i he
           simp only[en,ah] at hj
           obtain⟨c',hj,rfl⟩:=hj
           have hlt:=(aJ.1 hj).1
           have:=(WY j hlt).resolve_left (fun h=>he h.symm)
           rw[aO,hj,Option.getD_some] at this
           rw[← q1] at this
           exact S7 q2 ht this (hvs j c' hj)
      ·cases ho
     ·cases ho
    ·cases ho
   ·cases ho
  ·cases ho
 ·cases h
end Go.Di
end
section
namespace Go.Di
open Go Go.Conc Go.Co
open Go.ConcN (upd upd_same upd_ne)
variable {P:Program} {aa:Machine→Trace→Prop} {ty:fI} {x:Cx} {aI:bM} {call:bz} {yf:eE}
structure JG (ops:Array Oper) (M:Nat→ak) (F:Nat→cT) (L:Nat→Bool) (S:ak):Prop where
 get:∀ id,S[id]? = kT (fun j=>touch F j id) (fun j=>(M (j+1))[id]?) ((M 0)[id]?) L ops.size
 len:S.length=kT (top F) (fun j=>(M (j+1)).length) (M 0).length L ops.size
theorem QC {ops:Array Oper} {n0:Nat} {E:Nat→List DV} {V:Nat→DV} {M:Nat→ak} {F:Nat→cT} (h:OA P ty aI call yf ops n0 E V M F) (og:FA ops) (W0:∀ i j,i<ops.size→j<ops.size→i≠j→(F i).meets (F j)=true→((Region.before ops).getD j 0).testBit i=true∨((Region.before ops).getD i 0).testBit j=true)
  {L:Nat→Bool} (hL:Closed ops L) {i:Nat} {o:Oper} (ho:ops[i]? = some o) (hi:L i=false) (uF:∀ e∈o.after,Region.binds .any e=true→L e.on=true) {T:ak} (hT:JG ops M F L T) (hw:bQ ops (E i) o=true) :
  ∃ T',aF P ty aI call yf (gX (E i)) o T (n0+i)=some (V i,T',F i)∧JG ops M F (upd L i true) T':=by
 have YY:i<ops.size:=(aG.1 ho).1
 have hs:=h.yes i o ho hw
 have WH:∀ j,j<ops.size→j≠i→(F i).meets (F j)=true→(L j=true↔j<i):=fun j hj hne hm=>Ka og hL ho hi uF (Ne.symm hne) (W0 i j YY hj (Ne.symm hne) hm)
 have up1:∀ j,j<ops.size→(j≠i→(F i).meets (F j)=true)→(upd L i true j=true↔j<i+1):=by
  intro j hj hm
  by_cases fH:j=i
  ·subst fH; simp[upd_same]
  ·rw[upd_ne _ _ fH,WH j hj fH (hm fH)]; omega
 have at1:∀ id,(∀ j,j<ops.size→j≠i→touch F j id=true→(F i).meets (F j)=true)→T[id]? = (M i)[id]? := by
  intro id hm
  rw[hT.get id,(run_store h id i (by omega)).1]
  refine gm (by omega) fun j hj ht => ?_
  by_cases fH:j=i
  ·subst fH; simp[hi]
  ·exact WH j hj fH (hm j hj fH ht)
 have acw:(∀ j,j<ops.size→j≠i→top F j=true→(F i).meets (F j)=true)→T.length=(M i).length:=by
  intro hm
  rw[hT.len,(run_store h 0 i (by omega)).2]
  refine gm (by omega) fun j hj ht => ?_
  by_cases fH:j=i
  ·subst fH; simp[hi]
  ·exact WH j hj fH (hm j hj fH ht)
 have tch:∀ j id,touch F j id=true→(F j).wr=true∧((F j).ids=none∨∃ l,(F j).ids=some l∧id∈l):=by
  intro j id ht
  unfold touch at ht
  simp only[aB] at ht
  refine⟨ht.1,?_⟩
  cases om:(F j).ids with
  | none=>exact .inl rfl
  | some l=>rw[om] at ht; exact .inr ⟨l,rfl,by simpa using ht.2⟩
 have tp:∀ j,top F j=true→(F j).wr=true∧(F j).ids=none:=by
  intro j ht
  unfold top at ht
  simpa using ht
 cases om:(F i).ids with
 | none =>
  have YO:=O6 hs om
  have ew:∀ j id,touch F j id=true→(F i).meets (F j)=true:=by
   intro j id ht
   obtain⟨h1,h2⟩:=tch j id ht
   unfold cT.meets
   rw[YO,om]
   rcases h2 with h2 | ⟨l,h2,h3⟩
   ·simp[h2]
   ·simp[h2]
    exact List.ne_nil_of_mem h3
  have hTM:T=M i:=lZ fun id=>at1 id fun j _ _ ht=>ew j id ht
  subst hTM
  refine⟨M (i+1),hs,⟨fun id => ?_,?_⟩⟩
  ·have ht:touch F i id=true:=by simp[touch,YO,om]
   rw[gm (i:=i+1) (by omega) fun j hj V4=>up1 j hj fun _=>ew j id V4,uk (W:=fun j=>touch F j id) ht]
  ·have ht:top F i=true:=by simp[top,YO,om]
   rw[gm (i:=i+1) (by omega) fun j hj V4=>up1 j hj fun _=>by
    obtain⟨h1,h2⟩:=tp j V4
    simp[cT.meets,YO,om,h2],uk (W:=top F) ht]
 | some l =>
  obtain⟨w,w1,w2,w3⟩:=O7 hs om
  have QZ:∀ j id,id∈l→touch F j id=true→(F i).meets (F j)=true:=by
   intro j id hid ht
   obtain⟨h1,h2⟩:=tch j id ht
   unfold cT.meets
   rw[h1,om]
   rcases h2 with h2 | ⟨l',h2,h3⟩
   ·simp[h2]
    exact List.ne_nil_of_mem hid
   ·simp[h2]
    exact⟨id,hid,h3⟩
  have hlen:l≠[]→T.length=(M i).length:=fun hne=>acw fun j hj fH ht=>by
   obtain⟨h1,h2⟩:=tp j ht
   simp[cT.meets,h1,om,h2,hne]
  have hrun:=w3 T hlen fun id hid=>at1 id fun j _ _ ht=>QZ j id hid ht
  have aay:∀ k b,w=some (k,b)→k<T.length:=fun k b hw=>by
   obtain⟨q1,q2,q3⟩:=w2 k b hw
   rw[hlen (List.ne_nil_of_mem q1)]
   exact q3
  refine⟨appW w T,hrun,⟨fun id => ?_,?_⟩⟩
  ·cases ht:touch F i id with
   | true =>
    obtain⟨h1,h2⟩:=tch i id ht
    have hid:id∈l:=by
     rcases h2 with h2 | ⟨l',h2,h3⟩
     ·rw[om] at h2; cases h2
     ·rw[om] at h2; cases h2; exact h3
    rw[gm (i:=i+1) (by omega) fun j hj V4=>up1 j hj fun _=>QZ j id hid V4,uk (W:=fun j=>touch F j id) ht,w1]
    rw[zw aay,zw fun k b hw=>(w2 k b hw).2.2]
    have:=at1 id fun j _ _ V4=>QZ j id hid V4
    cases w with
    | none=>exact this
    | some p=>simp only[this]
   | false =>
    rw[kX (W:=fun j=>touch F j id) ht,← hT.get id,zw aay]
    cases w with
    | none=>rfl
    | some p =>
     obtain⟨k,b⟩:=p
     obtain⟨q1,q2,q3⟩:=w2 k b rfl
     have hne:id≠k:=by
      rintro rfl
      simp[touch,q2,om,q1] at ht
     simp[hne]
  ·have ht:top F i=false:=by simp[top,om]
   rw[kX (W:=top F) ht,KT]
   exact hT.len
def Cx.pad (x:Cx) (n:Nat):Cx:={ x with S:=x.S++List.replicate n .none }
theorem lQ {S:ak} {n id:Nat} {b:DB} (h:(S++List.replicate n DB.none)[id]? = some b) (hb:b ≠ .none):S[id]? = some b:=by
 rw[pM] at h
 split at h
 ·exact h
 ·rw[nH] at h
  split at h
  ·cases h; exact absurd rfl hb
  ·cases h
theorem vC {S:ak} {n id:Nat} {b:DB} (h:S[id]? = some b):(S++List.replicate n DB.none)[id]? = some b:=by
 rw[ep (aJ.1 h).1]; exact h
theorem vD (x:Cx) (n:Nat):bE x (x.pad n) :=
 ⟨ai _,⟨rfl,rfl⟩,fun _ _ h=>⟨h,rfl⟩,fun _ _ h => .inl h,fun _ _ _=>rfl,by simp[Cx.pad],fun _ l h=>⟨rfl,l,vC h⟩,fun _ b h hb=>⟨rfl,⟨b,vC h,eu hb⟩,fun _=>rfl⟩,fun _ _ _ n h=>⟨n,vC h,ai _,fun _=>⟨rfl,rfl⟩⟩,fun _ ⟨b,h,hb⟩ => .inl ⟨⟨b,lQ h hb,hb⟩,rfl⟩,fun _ _ _ l z h=>⟨l,z,vC h,ai _,fun e=>⟨rfl,e⟩,fun _=>⟨rfl,rfl⟩⟩⟩
theorem Tf (hR:Rel x) (n:Nat):Rel (x.pad n) where
 cells:=fun id l hl=>by
  obtain⟨arr,e,h1,h2,h3⟩:=hR.cells id l (lQ hl (by simp))
  exact⟨arr,e,h1,h2,fun j c hc=>(h3 j c hc).mono (vD x n)⟩
 dz:=fun id e s m hl=>hR.dz id e s m (lQ hl (by simp))
 dD:=fun id b hl hb=>by
  obtain⟨o,h1,h2⟩:=hR.dD id b (lQ hl (fq hb)) hb
  exact⟨o,h1,h2.mono (vD x n)⟩
 inj:=fun i j ⟨b,h,hb⟩ ⟨c,k,kb⟩ he=>hR.inj i j ⟨b,lQ h hb,hb⟩ ⟨c,lQ k kb,kb⟩ he
 xH:=hR.xH
 sep:=fun id ⟨l,hl⟩=>hR.sep id ⟨l,lQ hl (by simp)⟩
 ng:=fun id e s m hl=>hR.ng id e s m (lQ hl (by simp))
 ops:=fun id e s l z hl=>by
  obtain⟨arr,h1,h2,h3,h4,h5,h6⟩:=hR.ops id e s l z (lQ hl (by simp))
  exact⟨arr,h1,h2,h3,h4,fun j c hc=>⟨(h5 j c hc).1,(h5 j c hc).2.mono (vD x n)⟩,h6⟩
theorem Iz (hP:Plain P) (ee:iO P ty) (hc:gL P aa call) (hi:xZ P aa aI) (Hq:xY P aa yf) {ops:Array Oper} {b:Frame} {k:List Item} {cs:List Frame} (hk:b.kind ≠ .early) (Dh:jK ops (Region.before ops)=true)
  {env aC:List DV} {S':ak} {fs:List cT} {n0:Nat} {a:Act} (h:qd P ty aI call yf ops n0 ops.toList 0 env x.S=some (aC,S',fs)) (hmt:qG (Region.before ops) fs=true) (hR:Rel x) (he:fR x env a.tmps)
  (hn:∀ y a',y.S=S'→Rel y→bE x y→fR y aC a'.tmps→a'.defers=a.defers→gM P aa () (G (b.atR a' k) cs) y.w) (t:Nat):gM P aa () (G (b.atR a (.inRegion ops (Region.linearise .any ops t)::k)) cs) x.w:=by
 have og:=F0 Dh
 obtain⟨E,V,M,F,hrun,e1,e2,e3,e4,e5⟩:=XX h
 have W0:∀ i j,i<ops.size→j<ops.size→i≠j→(F i).meets (F j)=true→((Region.before ops).getD j 0).testBit i=true∨((Region.before ops).getD i 0).testBit j=true:=fun i j hi hj hne hm=>Yd hmt (e5 i hi) (e5 j hj) hne hm
 have eG:∀ {α:Type} (W:Nat→Bool) (R:Nat→α) (d:α) n,kT W R d (fun _=>false) n=d:=by
  intro α W R d n
  induction n with
  | zero=>rfl
  | succ n ih=>unfold kT; simp[ih]
 refine tc og (σ:=Act×Cx) (fun todo s=>Rel s.2→bE x s.2→s.1.defers=a.defers→gM P aa () (G (b.atR s.1 (.inRegion ops todo::k)) cs) s.2.w)
  (fun L s=>JG ops M F L s.2.S∧∃ nR,fR s.2 nR s.1.tmps∧Ck ops V L ops.size (E 0) nR) ?_ ?_ t (a,x) ⟨⟨fun id=>by rw[eG,e3],by rw[eG,e3]⟩,env,he,fun t => ?_⟩ hR (bE.refl x) rfl
 ·rintro L ⟨a1,y⟩ i o ⟨Hj,nR,wh,RA⟩ qC ho hLi uF rest zL EI Nw Hv
  simp only at wh EI Nw Hv Hj ⊢
  obtain⟨q1,q2⟩:=yg og Dh hrun.env qC RA ho hLi uF
  have hw:=vJ q1
  have QW:=wP wh ops o
  have ZU:=C3 (V:=V) ho RA q2
  by_cases V1:bQ ops (E i) o=true
  ·obtain⟨T',hT1,ZR⟩:=QC hrun og W0 qC ho hLi uF Hj V1
   rw[← Er (C1 q1)] at hT1
   obtain⟨ni,cl,qC,RZ,hstep⟩:=Uj hT1
   have hcc:gL P aa cl:=by
    rcases qC with rfl | rfl
    ·exact QM hc
    ·exact Qb hc
   refine Oa hP ee hcc hi Hq hk ho (by rw[QW,hw]; exact V1) EI RZ wh hstep fun z u zS zR zM zV => ?_
   have mE:=wD (wh.mono zM) (dst:=o.dst) zV
   exact zL (a1.put o.dst u,z) ⟨by rw[zS]; exact ZR,_,mE.1,ZU⟩ zR (Nw.trans zM) (mE.2.trans Hv)
  ·have V2:bQ ops (E i) o=false:=by simpa using V1
   obtain⟨hv,hM,hF⟩:=hrun.no i o ho V2
   have mE:=wD wh (dst:=o.dst) (d:=V i) (v:=undef) (by rw[hv]; exact .val rfl)
   have ac6:JG ops M F (upd L i true) y.S:=by
    refine⟨fun id => ?_,?_⟩
    ·rw[kX (W:=fun j=>touch F j id) (by simp[touch,hF])]; exact Hj.get id
    ·rw[kX (W:=top F) (by simp[top,hF])]; exact Hj.len
   exact eH hP (fun w=>⟨_,rm ho (by rw[QW,hw]; exact V2)⟩) (zL (a1.put o.dst undef,y) ⟨ac6,_,mE.1,ZU⟩ EI Nw (mE.2.trans Hv))
 ·rintro L ⟨a1,y⟩ ⟨Hj,nR,wh,RA⟩ ew EI Nw Hv
  have acT:nR=aC:=by
   refine lZ fun t => ?_
   rw[RA t,← e2,zc hrun.env ops.size (ai _) t]
   congr 1
   funext d
   rw[jB (i:=ops.size) (ai _) fun j hj _=>by simp[ew j hj,hj]]
  have acD:y.S=S':=by
   refine lZ fun id => ?_
   have:=Hj.get id
   simp only at this
   rw[this,← e4,(run_store hrun id ops.size (ai _)).1]
   exact gm (ai _) fun j hj _=>by simp[ew j hj,hj]
  subst acT
  exact eH hP (fun w=>⟨_,nX⟩) (hn y a1 acD EI Nw wh Hv)
 ·rw[e1]
  have:∀ n,kS ops V (fun _=>false) t n=none:=by
   intro n
   induction n with
   | zero=>rfl
   | succ n ih=>unfold kS; simp[ih]
  rw[this]
  simp
theorem OO (hP:Plain P) (hm:P.follows .mixedOrders=true) (ee:iO P ty) (hc:gL P aa call) (hi:xZ P aa aI) (Hq:xY P aa yf) (id:Nat) (ops:Array Oper) (draw:Bool):uW P aa ty aI call yf id ops draw:=by
 cases draw with
 | false=>exact LR hP ee hc hi Hq id ops
 | true =>
  intro env aC S' x a b k cs h hk hR he hn
  simp only[nB,if_true] at h
  split at h
  ·cases h
  ·rename_i hd
   have Dh:jK ops (Region.before ops)=true:=by simpa using hd
   refine gP hP fun n => ?_
   refine⟨_,_,_,_,IB hm,?_⟩
   split at h
   ·rename_i nR h1
    cases h
    split at h1
    ·cases h1
    exact IA (x:=x.dr _) hP ee hc hi Hq hk Dh h1 (hR.dr _) (he.mono (ej x _)) (fun y a' q1 q2 q3 q4 q5=>hn y a' q1 q2 ((ej x _).trans q3) q4 q5) _
   ·split at h
    ·rename_i nR S1 fs h1
     split at h
     ·rename_i hmt
      cases h
      have M1:=(ej x ((x.w.at n).drawn+1)).trans (vD _ ops.size)
      exact Iz (x:=(x.dr ((x.w.at n).drawn+1)).pad ops.size) hP ee hc hi Hq hk Dh h1 hmt (Tf (hR.dr _) _) (he.mono M1) (fun y a' q1 q2 q3 q4 q5=>hn y a' q1 q2 (M1.trans q3) q4 q5) _
     ·cases h
    ·cases h
def qK (P:Program) (aa:Machine→Trace→Prop) (bC:bM):Prop :=
 ∀ f args v,bC f args=some v→args.all DV.pure=true→v.pure=true→∀ x vals,Rel x→fR x args vals→er P aa x f vals fun y u=>y.S=x.S∧Rel y∧bE x y∧RV y v u
theorem Ia {bC:bM} (ht:qK P aa bC) (hc:gL P aa call):xZ P aa (jH bC call):=by
 intro f args v h hp
 unfold jH at h
 split at h
 ·rename_i v' h1
  split at h
  ·rename_i hv
   cases h
   exact⟨hv,ht f args v h1 hp hv⟩
  ·cases h
 ·split at h
  ·rename_i v' S' h1
   split at h
   ·rename_i hv
    cases h
    refine⟨hv,fun x vals hR ha => ?_⟩
    have ha':fR x.bare args vals:=⟨ha.1,fun j c hj=>(ha.2 j c hj).pure_mono (x:=x) (y:=x.bare) (fun b o h=>⟨h,rfl⟩) (aW.1 hp c (cW hj))⟩
    obtain⟨h2,h3⟩:=hc f args [] v' S' h1 x.bare vals hR.bare rfl ha'
    refine⟨h2,fun fr cs hn=>h3 fr cs fun y0 u ⟨p1,p2,p3,p4⟩ => ?_⟩
    obtain⟨y,r1,r2,q2,r4⟩:=Ub p2 v'
    have q3:=p3.trans r4
    have q4:RV y (qH (Dx S' v') v') u:=by
     rw[← p1,← r2]
     exact Qq q2 (p4.mono r4)
    have hb:=hR.behind q3 q2
    rw[← r1]
    exact hn (x.behind y) u ⟨rfl,hb,yh hR q3,q4.strip.pure_mono (x:=y) (y:=x.behind y) (fun b o h=>⟨h,rfl⟩) hv⟩
   ·cases h
  ·cases h
theorem AO (hP:Plain P) (hm:P.follows .mixedOrders=true) (ee:iO P ty) {bC:bM} (ht:qK P aa bC) {L:Nat}:∀ n,gL P aa (cR P ty bC L n).1∧xY P aa (cR P ty bC L n).2
 | 0=>⟨fun f args S v S' h=>by simp[cR] at h,fun id args S v S' h=>by simp[cR] at h⟩
 | n+1=>by
  obtain⟨UC,ihy⟩:=AO hP hm ee ht (L:=L) n
  have hi:=Ia ht UC
  have j5:∀ id ops draw,uW P aa ty (jH bC (cR P ty bC L n).1) (cR P ty bC L n).1 (cR P ty bC L n).2 id ops draw:=fun id ops draw=>OO hP hm ee UC hi ihy id ops draw
  refine⟨fun f args S v S' h x vals hR hS ha => ?_,LK hP UC j5⟩
  simp only[cR] at h
  split at h
  ·rename_i fn hf
   exact QO hP ee UC j5 hf h hR hS ha
  ·cases h
end Go.Di
end
