import Derived.Test.YtedcgbkilmlbhaaGreatPk26
section
namespace Go.Di
open Go Go.Conc Go.Co
open Go.ConcN (upd upd_same upd_ne)
variable {P:Program} {af:Machine→Trace→Prop} {ty:ir} {x:Cx} {aM:bV} {call:bP} {yf:fI}
theorem Gi {ρ ρ':Operand→Option DV} {o:Oper} {S:ax} {aH:Nat} (h:∀ a∈o.op.operands,ρ a=ρ' a):aL P ty aM call yf ρ o S aH=aL P ty aM call yf ρ' o S aH:=by
 have hs:=xL (P:=P) (ty:=ty) (aM:=aM) (call:=call) (yf:=yf) (S:=S) (aH:=aH) h
 unfold aL
 split
 ·rw[hs]
 ·rw[hs]
 ·rw[hs]
 ·rename_i t a v hop
  rw[hop] at h
  rw[h a (by simp[Op.operands]),hs]
 ·rename_i t a v hop
  rw[hop] at h
  rw[h a (by simp[Op.operands]),hs]
 ·rename_i t a v hop
  rw[hop] at h
  rw[h a (by simp[Op.operands]),hs]
 ·rw[hs]
 ·rfl
 ·rename_i t m k ok hop
  rw[hop] at h
  rw[h m (by simp[Op.operands]),hs]
 ·rename_i t m k v hop
  rw[hop] at h
  rw[h m (by simp[Op.operands]),hs]
 ·rename_i t a hop
  rw[hop] at h
  rw[h a (by simp[Op.operands]),hs]
 ·rename_i args ats hop
  rw[hop] at h
  have:(args[0]?).bind ρ=(args[0]?).bind ρ':=by
   cases ha:args[0]? with
   | none=>rfl
   | some a=>exact h a (by simp[Op.operands,Call.operands,Array.mem_of_getElem? ha])
  rw[this,hs]
 ·rename_i f args ats hop
  rw[hop] at h
  have h1:ρ f=ρ' f:=h f (by simp[Op.operands,Call.operands])
  have h2:=mb (ρ:=ρ) (ρ':=ρ') (l:=args.toList) fun a ha=>h a (by simp[Op.operands,Call.operands] at ha ⊢; exact .inr ha)
  rw[h1,h2]
 ·rw[hs]
def Xx:Op→Prop
 | .call { callee := .value _,.. }=>False
 | _=>True
theorem dN {c1 c2:bP} {ρ:Operand→Option DV} {o:Oper} {S:ax} {aH:Nat} (h:Xx o.op):ah P ty aM c1 yf ρ o S aH=ah P ty aM c2 yf ρ o S aH:=by
 obtain⟨dst,op,type,pos,after,guard⟩:=o
 cases op
 case call c =>
  obtain⟨callee,args,ats⟩:=c
  cases callee with
  | value f=>exact h.elim
  | builtin b=>simp only[ah]
  | invoke r m=>simp only[ah]
 case makeFunc fn a b=>cases fn<;>simp only[ah]
 case makeMap t r=>cases r<;>simp only[ah]
 all_goals first
  | rfl
  | simp only[ah]
theorem Xi {ρ:Operand→Option DV} {o:Oper} {S S':ax} {aH:Nat} {v:DV} {f:dD} (h:aL P ty aM call yf ρ o S aH=some (v,S',f)):∃ uC,DJ S uC∧ah P ty aM (LQ call) yf ρ o S uC=some (v,S'):=by
 obtain⟨dst,op,type,pos,after,guard⟩:=o
 have mp:∀ {q:Option (DV×ax)} {g:DV×ax→dD},q.map (fun r=>(r.1,r.2,g r))=some (v,S',f)→q=some (v,S'):=by
  intro q g hq
  simp only[ai,ay] at hq
  obtain⟨⟨a,b⟩,h1,h2,h3,-⟩:=hq
  rw[h1,← h2,← h3]
 have plain:∀ {q:ax→Nat→Option (DV×ax)},(∀ n m,q S n=q S m)→q S aH=some (v,S')→∃ uC,DJ S uC∧q S uC=some (v,S'):=fun hq h=>⟨S.length,.inl rfl,by rw[hq _ aH]; exact h⟩
 cases op
 case alloc e =>
  simp only[aL] at h
  split at h
  ·rename_i hS; exact⟨aH,.inr hS,(dN (c2:=call) (by trivial)).trans (mp h)⟩
  ·cases h
 case box e a =>
  simp only[aL] at h
  split at h
  ·rename_i hS; exact⟨aH,.inr hS,(dN (c2:=call) (by trivial)).trans (mp h)⟩
  ·cases h
 case makeMap e a =>
  simp only[aL] at h
  split at h
  ·rename_i hS; exact⟨aH,.inr hS,(dN (c2:=call) (by trivial)).trans (mp h)⟩
  ·cases h
 case store t a b =>
  simp only[aL] at h
  split at h
  ·exact⟨S.length,.inl rfl,(dN (c2:=call) (by trivial)).trans (mp h)⟩
  ·exact⟨S.length,.inl rfl,(dN (c2:=call) (by trivial)).trans (mp h)⟩
  ·cases h
 case makeSlice t a b=>simp only[aL] at h; cases h
 case buildSlice t n ps =>
  simp only[aL] at h
  split at h
  ·cases h
  ·rename_i hh
   obtain⟨h1,h2⟩:=EN rfl hh (mp h)
   subst h1
   exact⟨S'.length,.inl rfl,(dN (c2:=call) (by trivial)).trans (h2 _ _)⟩
 case fieldAddr t a i =>
  simp only[aL] at h
  split at h
  all_goals
   obtain⟨h1,h2⟩:=qq (T:=S) (fun _ _ _ _=>rfl) (mp h)
   subst h1
   exact⟨S'.length,.inl rfl,(dN (c2:=call) (by trivial)).trans (h2 _)⟩
 case indexAddr t a i =>
  simp only[aL] at h
  split at h
  all_goals
   obtain⟨h1,h2⟩:=qo (T:=S) (fun _ _ _ _=>rfl) (mp h)
   subst h1
   exact⟨S'.length,.inl rfl,(dN (c2:=call) (by trivial)).trans (h2 _)⟩
 case load t a =>
  simp only[aL] at h
  split at h
  ·exact⟨S.length,.inl rfl,(dN (c2:=call) (by trivial)).trans (mp h)⟩
  ·exact⟨S.length,.inl rfl,(dN (c2:=call) (by trivial)).trans (mp h)⟩
  ·exact⟨S.length,.inl rfl,(dN (c2:=call) (by trivial)).trans (mp h)⟩
 case lookup t m k ok =>
  simp only[aL] at h
  split at h
  ·exact⟨S.length,.inl rfl,(dN (c2:=call) (by trivial)).trans (mp h)⟩
  ·cases h
 case mapUpdate t m k a =>
  simp only[aL] at h
  split at h
  ·exact⟨S.length,.inl rfl,(dN (c2:=call) (by trivial)).trans (mp h)⟩
  ·cases h
 case call c =>
  obtain⟨callee,args,ats⟩:=c
  cases callee with
  | invoke r m=>simp[aL,ah] at h
  | value g =>
   simp only[aL] at h
   refine⟨S.length,.inl rfl,?_⟩
   simp only[ah]
   split at h
   ·rename_i g' fs cs xs hf Py
    split at h
    ·cases h
    rename_i hh
    simp only[wR]
    split at h
    ·rename_i hp
     simp only[ai,ay] at h
     obtain⟨d,h3,rfl,rfl,-⟩:=h
     rw[if_pos hp,h3]
    ·rename_i hp
     rw[if_neg hp]
     unfold LQ
     split at h
     ·rename_i ho
      cases h
      rfl
     ·exact mp h
   ·exact mp h
   ·cases h
  | builtin b =>
   by_cases hb:b = .append
   ·subst hb
    simp only[aL] at h
    split at h
    ·cases h
    split at h
    ·cases h
    split at h
    ·rename_i hS _; exact⟨aH,.inr hS,(dN (c2:=call) (by trivial)).trans (mp h)⟩
    ·rename_i hS _; exact⟨aH,.inr hS,(dN (c2:=call) (by trivial)).trans (mp h)⟩
    ·cases h
   ·have EX:aL P ty aM call yf ρ ⟨dst,.call ⟨.builtin b,args,ats⟩,type,pos,after,guard⟩ S aH=(ah P ty aM call yf ρ ⟨dst,.call ⟨.builtin b,args,ats⟩,type,pos,after,guard⟩ S aH).map (fun r=>(r.1,r.2,(⟨some [],false⟩:dD))):=by
     cases b<;>first | rfl | exact absurd rfl hb
    rw[EX] at h
    have hop:tQ (.call ⟨.builtin b,args,ats⟩):=by cases b<;>first | trivial | exact absurd rfl hb
    obtain⟨h1,h2⟩:=B3 hop (mp h)
    subst h1
    exact⟨S'.length,.inl rfl,(dN (c2:=call) (by trivial)).trans (h2 _ _)⟩
 all_goals
  simp only[aL] at h
  obtain⟨h1,h2⟩:=B3 (by trivial) (mp h)
  subst h1
  exact⟨S'.length,.inl rfl,(dN (c2:=call) (by trivial)).trans (h2 _ _)⟩
theorem RL {ρ:Operand→Option DV} {o:Oper} {S S':ax} {aH:Nat} {v:DV} {f:dD} (h:aL P ty aM call yf ρ o S aH=some (v,S',f)) (hf:f.ids=none):f.wr=true:=by
 have mp:∀ {q:Option (DV×ax)} {l:List Nat} {b:Bool},q.map (fun r=>(r.1,r.2,(⟨some l,b⟩:dD)))=some (v,S',f)→False:=by
  intro q l b hq
  simp only[ai,ay] at hq
  obtain⟨_,-,-,-,rfl⟩:=hq
  cases hf
 have mt:∀ {q:Option (DV×ax)},q.map (fun r=>(r.1,r.2,(⟨none,true⟩:dD)))=some (v,S',f)→f.wr=true:=by
  intro q hq
  simp only[ai,ay] at hq
  obtain⟨_,-,-,-,rfl⟩:=hq
  rfl
 unfold aL at h
 split at h
 case h_13 =>
  split at h
  ·simp only at h
   split at h
   ·cases h
   split at h
   ·simp only[ai,ay] at h
    obtain⟨_,-,-,-,rfl⟩:=h
    cases hf
   ·split at h
    ·cases h; cases hf
    ·exact mt h
  ·exact mt h
  ·cases h
 all_goals (repeat' split at h)
 all_goals first
  | exact(mp h).elim
  | cases h
def touch (F:Nat→dD) (j id:Nat):Bool:=(F j).wr&&match (F j).ids with
 | none=>true
 | some l=>l.contains id
def top (F:Nat→dD) (j:Nat):Bool:=(F j).wr&&(F j).ids.isNone
def mJ {α:Type} (W:Nat→Bool) (R:Nat→α) (d:α) (L:Nat→Bool):Nat→α
 | 0=>d
 | n+1=>if L n&&W n then R n else mJ W R d L n
theorem iw {α:Type} {W:Nat→Bool} {R:Nat→α} {d:α} {L:Nat→Bool} {i:Nat}:∀ {n:Nat},i≤n→(∀ j,j<n→W j=true→(L j=true↔j<i))→mJ W R d L n=mJ W R d (fun _=>true) i
 | 0,h,_=>by
  have:i=0:=by omega
  subst this; rfl
 | n+1,h,hj=>by
  by_cases oI:i=n+1
  ·subst oI
   unfold mJ
   by_cases hd:W n=true
   ·have:=(hj n (by omega) hd).2 (by omega)
    simp only[this,hd,gA,if_true]
   ·simp only[aI,hd,and_false,if_false,aF]
    exact iw (ak _) fun j h1 h2=>⟨fun _=>h1,fun _=>(hj j (oW h1) h2).2 (oW h1)⟩
  ·have hle:i≤n:=by omega
   rw[← iw hle fun j h1 h2=>hj j (by omega) h2]
   conv=>lhs; unfold mJ
   by_cases hd:W n=true
   ·have:L n=false:=by
     cases hLn:L n with
     | false=>rfl
     | true=>have:=(hj n (by omega) hd).1 hLn; omega
    rw[this]
    simp
   ·simp[hd]
theorem mM {α:Type} {W:Nat→Bool} {R:Nat→α} {d:α} {L:Nat→Bool} {i:Nat} (hd:W i=false):∀ n,mJ W R d (upd L i true) n=mJ W R d L n
 | 0=>rfl
 | n+1=>by
  unfold mJ
  rw[mM hd n]
  by_cases h:n=i
  ·subst h; simp[hd]
  ·rw[upd_ne _ _ h]
theorem vV {α:Type} {W:Nat→Bool} {R:Nat→α} {d:α} {i:Nat} (hd:W i=true):mJ W R d (fun _=>true) (i+1)=R i:=by unfold mJ; simp[hd]
structure QT (P:Program) (ty:ir) (aM:bV) (call:bP) (yf:fI) (ops:Array Oper) (n0:Nat) (E:Nat→List DV) (V:Nat→DV) (M:Nat→ax) (F:Nat→dD):Prop where
 env:LV ops V E
 yes:∀ j o,ops[j]? = some o→cu ops (E j) o=true→aL P ty aM call yf (jb (E j)) o (M j) (n0+j)=some (V j,M (j+1),F j)
 no:∀ j o,ops[j]? = some o→cu ops (E j) o=false→V j=bh∧M (j+1)=M j∧F j=⟨some [],false⟩
theorem Eg {ops:Array Oper} {n0:Nat}:∀ {r:List Oper} {i:Nat} {env aD:List DV} {S S':ax} {fs:List dD},rF P ty aM call yf ops n0 r i env S=some (aD,S',fs) →
  ∃ (E:Nat→List DV) (V:Nat→DV) (M:Nat→ax) (F:Nat→dD),E 0=env∧E r.length=aD∧M 0=S∧M r.length=S'∧(fs.length=r.length∧∀ j,j<r.length→fs[j]? = some (F j)) ∧
   ∀ j o,r[j]? = some o→E (j+1)=gV (E j) o.dst (V j)∧(cu ops (E j) o=true→aL P ty aM call yf (jb (E j)) o (M j) (n0+(i+j))=some (V j,M (j+1),F j))∧(cu ops (E j) o=false→V j=bh∧M (j+1)=M j∧F j=⟨some [],false⟩)
 | [],i,env,aD,S,S',fs,h=>by
  simp only[rF,aB,ay] at h
  obtain⟨rfl,rfl,rfl⟩:=h
  exact⟨fun _=>env,fun _=>bh,fun _=>S,fun _=>⟨some [],false⟩,rfl,rfl,rfl,rfl,⟨rfl,by simp⟩,by simp⟩
 | o::r,i,env,aD,S,S',fs,h=>by
  unfold rF at h
  have key:∀ v S1 f pW vk Qa,rF P ty aM call yf ops n0 r (i+1) (gV env o.dst v) S1=some (pW,vk,Qa)→(cu ops env o=true→aL P ty aM call yf (jb env) o S (n0+i)=some (v,S1,f))→(cu ops env o=false→v=bh∧S1=S∧f=⟨some [],false⟩)→some (pW,vk,f::Qa)=some (aD,S',fs) →
    ∃ (E:Nat→List DV) (V:Nat→DV) (M:Nat→ax) (F:Nat→dD),E 0=env∧E (o::r).length=aD∧M 0=S∧M (o::r).length=S'∧(fs.length=(o::r).length∧∀ j,j<(o::r).length→fs[j]? = some (F j)) ∧
     ∀ j o',(o::r)[j]? = some o'→E (j+1)=gV (E j) o'.dst (V j)∧(cu ops (E j) o'=true→aL P ty aM call yf (jb (E j)) o' (M j) (n0+(i+j))=some (V j,M (j+1),F j))∧(cu ops (E j) o'=false→V j=bh∧M (j+1)=M j∧F j=⟨some [],false⟩):=by
   intro v S1 f pW vk Qa h1 h2 h3 h4
   cases h4
   obtain⟨E,V,M,F,e1,e2,e3,e4,e5,e6⟩:=Eg h1
   refine⟨fun n=>match n with | 0=>env | n+1=>E n,fun n=>match n with | 0=>v | n+1=>V n,fun n=>match n with | 0=>S | n+1=>M n,fun n=>match n with | 0=>f | n+1=>F n,rfl,by simpa using e2,rfl,by simpa using e4,⟨by simp[e5.1],fun j hj => ?_⟩,fun j o' lP => ?_⟩
   ·cases j with
    | zero=>rfl
    | succ j=>simpa using e5.2 j (by simpa using hj)
   ·cases j with
    | zero =>
     simp only[List.getElem?_cons_zero,aB] at lP
     subst lP
     exact⟨e1,fun hw=>by have:=h2 hw; rw[← e3] at this; exact this,fun hw=>by have:=h3 hw; rw[← e3] at this; exact this⟩
    | succ j =>
     have:=e6 j o' (by simpa using lP)
     have e:i+(j+1)=i+1+j:=by omega
     rw[e]
     exact this
  split at h
  ·rename_i hw
   split at h
   ·rename_i v S1 f h1
    split at h
    ·rename_i pW vk Qa h2
     exact key v S1 f _ _ _ h2 (fun _=>h1) (fun hf=>by rw[hw] at hf; cases hf) h
    ·cases h
   ·cases h
  ·rename_i hw
   split at h
   ·rename_i pW vk Qa h2
    exact key bh S ⟨some [],false⟩ _ _ _ h2 (fun ht=>absurd ht hw) (fun _=>⟨rfl,rfl,rfl⟩) h
   ·cases h
theorem aaV {ops:Array Oper} {n0:Nat} {env aD:List DV} {S S':ax} {fs:List dD} (h:rF P ty aM call yf ops n0 ops.toList 0 env S=some (aD,S',fs)) :
  ∃ (E:Nat→List DV) (V:Nat→DV) (M:Nat→ax) (F:Nat→dD),QT P ty aM call yf ops n0 E V M F∧E 0=env∧E ops.size=aD∧M 0=S∧M ops.size=S'∧∀ j,j<ops.size→fs[j]? = some (F j):=by
 obtain⟨E,V,M,F,e1,e2,e3,e4,e5,e6⟩:=Eg h
 refine⟨E,V,M,F,⟨fun j o ho=>(e6 j o (by simpa using ho)).1,fun j o ho hw => ?_,fun j o ho hw=>(e6 j o (by simpa using ho)).2.2 hw⟩,e1,by simpa using e2,e3,by simpa using e4,fun j hj=>e5.2 j (by simpa using hj)⟩
 have:=(e6 j o (by simpa using ho)).2.1 hw
 simpa using this
theorem AZ {w:Option (Nat×DB)} {S:ax} (h:∀ i b,w=some (i,b)→i<S.length) (id:Nat):(appW w S)[id]? = match w with | some (i,b)=>if id=i then some b else S[id]? | none=>S[id]? := by
 cases w with
 | none=>rfl
 | some p =>
  obtain⟨i,b⟩:=p
  have hlt:=h i b rfl
  simp only[appW]
  rw[aQ]
  by_cases h1:id=i
  ·subst h1; simp[hlt]
  ·rw[if_neg (Ne.symm h1),if_neg h1]
theorem M0 {w:Option (Nat×DB)} {S:ax}:(appW w S).length=S.length:=by cases w<;>simp[appW]
theorem run_store {ops:Array Oper} {n0:Nat} {E:Nat→List DV} {V:Nat→DV} {M:Nat→ax} {F:Nat→dD} (h:QT P ty aM call yf ops n0 E V M F) (id:Nat):∀ i,i≤ops.size →
  (M i)[id]? = mJ (fun j=>touch F j id) (fun j=>(M (j+1))[id]?) ((M 0)[id]?) (fun _=>true) i∧(M i).length=mJ (top F) (fun j=>(M (j+1)).length) (M 0).length (fun _=>true) i
 | 0,_=>⟨rfl,rfl⟩
 | i+1,hi=>by
  have ho:ops[i]? = some ops[i]:=bW (by omega)
  obtain⟨Na,O7⟩:=run_store h id i (by omega)
  unfold mJ
  simp only[Bool.true_and]
  rw[← Na,← O7]
  cases hw:cu ops (E i) ops[i] with
  | false =>
   obtain⟨h1,h2,h3⟩:=h.no i _ ho hw
   rw[h2]
   simp
  | true =>
   have hs:=h.yes i _ ho hw
   cases pQ:(F i).ids with
   | none =>
    have:=RL hs pQ
    simp[touch,top,pQ,this]
   | some l =>
    obtain⟨w,w1,w2,w3⟩:=RM hs pQ
    constructor
    ·split
     ·rfl
     ·rename_i hnt
      rw[w1,AZ fun i b hw=>(w2 i b hw).2.2]
      cases w with
      | none=>rfl
      | some p =>
       obtain⟨i',b⟩:=p
       obtain⟨q1,q2,q3⟩:=w2 i' b rfl
       have hne:id≠i':=by
        rintro rfl
        apply hnt
        simp[touch,q2,pQ,q1]
       simp[hne]
    ·rw[w1,M0]
     simp[top,pQ]
theorem abe {b:Array Nat} {fs:List dD} (h:sw b fs=true) {i j:Nat} {f g:dD} (hi:fs[i]? = some f) (hj:fs[j]? = some g) (hne:i≠j) (hm:f.meets g=true):(b.getD j 0).testBit i=true∨(b.getD i 0).testBit j=true:=by
 unfold sw at h
 simp only[bt] at h
 have h1:=h (f,i) (by rw[tP]; exact hi) (g,j) (by rw[tP]; exact hj)
 have h2:(i==j)=false:=by simpa using hne
 simp only[h2,hm,gl,Bool.or_false,Bool.false_or,iZ] at h1
 exact h1
end Go.Di
end
section
namespace Go.Di
open Go Go.Conc Go.Co
variable {P:Program} {af:Machine→Trace→Prop} {x y:Cx} {i:Nat} {l l0 l':List DV} {T:ax}
def Cx.only (x:Cx) (i:Nat) (l:List DV):Cx:={ x with μ:=fun _=>x.μ i,κ:=fun _=>0,S:=[.cells l] }
theorem Cz {x y:Cx} (hF:∀ b o,x.Fz b o→y.Fz b o∧y.w.cell? ⟨b,o,none⟩=x.w.cell? ⟨b,o,none⟩) {l:List DV} {arr:Array Value} (hl:(l.map DV.aV).all DV.ck=true) (h:gn x l arr):gn y (l.map DV.aV) arr:=by
 refine⟨by simpa using h.1,fun j c hj => ?_⟩
 have hm:=bt.1 hl c (dA hj)
 simp only[eE,ai] at hj
 obtain⟨c',h2,rfl⟩:=hj
 exact(h.2 j c' h2).aV.vP hF hm
theorem N1 {x y:Cx} (hF:∀ b o,x.Fz b o→y.Fz b o∧y.w.cell? ⟨b,o,none⟩=x.w.cell? ⟨b,o,none⟩) {l:List DV} (hl:(l.map DV.strip).all DV.pure=true) {j:Nat} {c:DV} {v:Value} (hj:(l.map DV.strip)[j]? = some c) (h:∀ c',l[j]? = some c'→RV x c' v):RV y c v:=by
 have hm:=bt.1 hl c (dA hj)
 simp only[eE,ai] at hj
 obtain⟨c',h2,rfl⟩:=hj
 exact(h c' h2).strip.pure_mono hF hm
theorem ox {l:List DV} {k:Nat} {b:DB} (h:([.cells l]:ax)[k]? = some b):k=0∧b = .cells l:=by
 cases k with
 | zero=>simp at h; exact⟨rfl,h.symm⟩
 | succ k=>simp at h
theorem SG (hR:Rel x) (hi:x.S[i]? = some (.cells l)) (hl:(l.map DV.aV).all DV.ck=true):Rel (x.only i (l.map DV.aV)):=by
 refine⟨fun id l2 h => ?_,fun id e s n h => ?_,fun id b h hb => ?_,fun j k hj hk _ => ?_,hR.x7,fun id h o hF => ?_,fun id e s n h => ?_,fun id e s l z h => ?_⟩
 ·obtain⟨rfl,h2⟩:=ox h
  cases h2
  obtain⟨arr,e,h1,h2,h3⟩:=hR.cells i l hi
  refine⟨arr,e,h1,?_⟩
  exact Cz (x:=x) (y:=x.only i (l.map DV.aV)) (fun b o h=>⟨h,rfl⟩) hl ⟨h2,h3⟩
 ·exact nomatch (ox h).2
 ·obtain⟨-,rfl⟩:=ox h
  cases hb
 ·obtain⟨b,hb,-⟩:=hj
  obtain⟨c,hc,-⟩:=hk
  rw[(ox hb).1,(ox hc).1]
 ·exact hR.sep i ⟨l,hi⟩ o hF
 ·exact nomatch (ox h).2
 ·exact nomatch (ox h).2
def Cx.back (x y:Cx) (i:Nat) (l':List DV):Cx:={ w:=y.w,μ:=x.μ,κ:=x.κ,Fz:=y.Fz,S:=x.S.set i (.cells l') }
theorem mK {S:ax} {i k:Nat} {b c d:DB} (hi:S[i]? = some d) (h:(S.set i c)[k]? = some b):(k=i∧b=c)∨(k≠i∧S[k]? = some b):=by
 rw[aQ] at h
 split at h
 ·rename_i he
  subst he
  rw[if_pos (aJ.1 hi).1] at h
  cases h
  exact .inl ⟨rfl,rfl⟩
 ·rename_i he
  exact .inr ⟨fun e=>he e.symm,h⟩
theorem tV {S:ax} {i k:Nat} {c:DB} (h:k≠i):(S.set i c)[k]? = S[k]? := by
 rw[aQ,if_neg fun e=>h e.symm]
theorem NY {S:ax} {i:Nat} {c d:DB} (hi:S[i]? = some d):(S.set i c)[i]? = some c:=by
 rw[aQ,if_pos rfl,if_pos (aJ.1 hi).1]
theorem sR (hR:Rel x) (hi:x.S[i]? = some (.cells l)) (M:bZ (x.only i l0) y) {id:Nat} {b:DB} {o:Obj} (hb:x.S[id]? = some b) (hne:b ≠ .none) (hid:id≠i) (ho:x.w.heap[x.μ id]? = some o):y.w.heap[x.μ id]? = x.w.heap[x.μ id]? := by
 refine M.old _ (aR.1 ho).1 fun k _ he => ?_
 exact hid (hR.inj i id ⟨_,hi,by simp⟩ ⟨b,hb,hne⟩ he).symm
theorem Et (hR:Rel x) (hi:x.S[i]? = some (.cells l)) (M:bZ (x.only i l0) y):bZ x (x.back y i l') where
 size:=M.size
 env:=M.env
 fz:=M.fz
 Lc:=fun b o h=>(M.Lc b o h).imp id fun h=>h.imp id fun⟨k,_,he⟩=>⟨i,⟨_,hi,by simp⟩,he⟩
 old:=fun b hb hn=>M.old b hb fun k _ he=>hn i ⟨_,hi,by simp⟩ he
 len:=by simp[Cx.back]
 cells:=fun id l2 h=>⟨rfl,by
  by_cases he:id=i
  ·subst he; exact⟨l',NY hi⟩
  ·exact⟨l2,(tV he).trans h⟩⟩
 eR:=fun id b h hb=>by
  have he:id≠i:=by rintro rfl; rw[hi] at h; cases h; cases hb
  obtain⟨o,ho,-⟩:=hR.eR id b h hb
  exact⟨rfl,⟨b,(tV he).trans h,fu hb⟩,fun _=>sR hR hi M h (gG hb) he ho⟩
 eA:=fun t e s n h=>by
  have he:t≠i:=by rintro rfl; rw[hi] at h; cases h
  exact⟨n,(tV he).trans h,ak _,fun _=>⟨rfl,rfl⟩⟩
 live:=fun k ⟨b,hb,hne⟩ => .inl ⟨by
  rcases mK hi hb with ⟨rfl,-⟩ | ⟨-,h⟩
  ·exact⟨_,hi,by simp⟩
  ·exact⟨b,h,hne⟩,rfl⟩
 ops:=fun t e s l z h=>by
  have he:t≠i:=by rintro rfl; rw[hi] at h; cases h
  exact⟨l,z,(tV he).trans h,ak _,fun e=>⟨rfl,e⟩,fun _=>⟨rfl,rfl⟩⟩
theorem SJ (hR:Rel x) (hi:x.S[i]? = some (.cells l)) (Jz:Rel y) (M:bZ (x.only i l0) y) (hy:y.S[0]? = some (.cells l')) (iy:(l'.map DV.aV).all DV.ck=true):Rel (x.back y i (l'.map DV.aV)):=by
 have MB:=Et (l':=l'.map DV.aV) hR hi M
 have hμ:y.μ 0=x.μ i:=(M.cells 0 l0 rfl).1
 have hF:∀ b o,y.Fz b o→x.Fz b o∨x.w.heap.size≤b∨b=x.μ i:=fun b o h=>(M.Lc b o h).imp id fun h=>h.imp id fun⟨_,_,he⟩=>he.symm
 refine⟨fun id l2 h => ?_,fun id e s n h => ?_,fun id b h hb => ?_,fun j k hj hk he => ?_,Jz.x7,fun id h o hf => ?_,fun id e s n h o hf => ?_,fun id e s l1 z h => ?_⟩
 ·rcases mK hi h with ⟨rfl,h2⟩ | ⟨he,h2⟩
  ·cases h2
   obtain⟨arr,e,h1,h2,h3⟩:=Jz.cells 0 l' hy
   exact⟨arr,e,by rw[hμ] at h1; exact h1,Cz (x:=y) (y:=x.back y id (l'.map DV.aV)) (fun b o h=>⟨h,rfl⟩) iy ⟨h2,h3⟩⟩
  ·obtain⟨arr,e,h1,h3,h4⟩:=hR.cells id l2 h2
   exact⟨arr,e,(sR hR hi M h2 (by simp) he h1).trans h1,h3,fun j c hc=>(h4 j c hc).mono MB⟩
 ·rcases mK hi h with ⟨rfl,h2⟩ | ⟨he,h2⟩
  ·cases h2
  ·obtain⟨arr,h1,h3⟩:=hR.eA id e s n h2
   exact⟨arr,(sR hR hi M h2 (by simp) he h1).trans h1,h3⟩
 ·rcases mK hi h with ⟨rfl,h2⟩ | ⟨he,h2⟩
  ·subst h2; cases hb
  ·obtain⟨o,h1,h3⟩:=hR.eR id b h2 hb
   exact⟨o,(sR hR hi M h2 (gG hb) he h1).trans h1,h3.mono MB⟩
 ·have lv:∀ {k},Live (x.back y i (l'.map DV.aV)).S k→Live x.S k:=fun {k} ⟨b,hb,hne⟩=>by
   rcases mK hi hb with ⟨rfl,-⟩ | ⟨-,h⟩
   ·exact⟨_,hi,by simp⟩
   ·exact⟨b,h,hne⟩
  exact hR.inj j k (lv hj) (lv hk) he
 ·obtain⟨l2,h⟩:=h
  obtain⟨l3,h3⟩:∃ l3,x.S[id]? = some (.cells l3):=by
   rcases mK hi h with ⟨rfl,-⟩ | ⟨-,h2⟩
   ·exact⟨l,hi⟩
   ·exact⟨l2,h2⟩
  obtain⟨arr,e,h4,-⟩:=hR.cells id l3 h3
  rcases hF _ _ hf with h5 | h5 | h5
  ·exact hR.sep id ⟨l3,h3⟩ o h5
  ·have:=(aR.1 h4).1
   change x.w.heap.size≤x.μ id at h5
   omega
  ·refine Jz.sep 0 ⟨l',hy⟩ o ?_
   rw[hμ,← h5]
   exact hf
 ·rcases mK hi h with ⟨rfl,h2⟩ | ⟨he,h2⟩
  ·cases h2
  ·obtain⟨arr,h4,-⟩:=hR.eA id e s n h2
   rcases hF _ _ hf with h5 | h5 | h5
   ·exact hR.oF id e s n h2 o h5
   ·have:=(aR.1 h4).1
    change x.w.heap.size≤x.μ id at h5
    omega
   ·exact absurd (hR.inj id i ⟨_,h2,by simp⟩ ⟨_,hi,by simp⟩ h5) he
 ·rcases mK hi h with ⟨rfl,h2⟩ | ⟨he,h2⟩
  ·cases h2
  ·obtain⟨arr,h4,h3,h6,h7,h8,h9,x6⟩:=hR.ops id e s l1 z h2
   refine⟨arr,(sR hR hi M h2 (by simp) he h4).trans h4,h3,h6,h7,fun j c hc=>⟨(h8 j c hc).1,(h8 j c hc).2.mono MB⟩,fun hz j hj=>(M.fz _ _ (h9 hz j hj)).1,fun hz o hf => ?_⟩
   rcases hF _ _ hf with h5 | h5 | h5
   ·exact x6 hz o h5
   ·have:=(aR.1 h4).1
    change x.w.heap.size≤x.μ id at h5
    omega
   ·exact absurd (hR.inj id i ⟨_,h2,by simp⟩ ⟨_,hi,by simp⟩ h5) he
theorem K1 {f:FuncId} {off:Nat} {rest:List DV} {vals:Array Value} {v:DV} (hR:Rel x) (hi:x.S[i]? = some (.cells l)) (hp:(rest.map DV.strip).all DV.pure=true) (ha:gn x (.ptr i off::rest) vals)
  (h:gn (x.only i l0) (.ptr 0 off::rest.map DV.strip) vals→eH P af (x.only i l0) f vals fun y u=>y.S = .cells l'::T∧Rel y∧bZ (x.only i l0) y∧RV y v u) (iy:(l'.map DV.aV).all DV.ck=true) (hv:v.strip.pure=true) :
  eH P af x f vals fun z u=>z.S=x.S.set i (.cells (l'.map DV.aV))∧Rel z∧bZ x z∧RV z v.strip u:=by
 have ha':gn (x.only i l0) (.ptr 0 off::rest.map DV.strip) vals:=by
  refine⟨by simpa using ha.1,fun j c hc => ?_⟩
  cases j with
  | zero =>
   simp only[List.getElem?_cons_zero,aB] at hc
   subst hc
   have:=ha.2 0 _ rfl
   generalize vals.getD 0 undef=u at this
   cases this with
   | ptr _=>exact RV.ptr (x:=x.only i l0) (id:=0) (l:=l0) rfl
  | succ j =>
   exact N1 (x:=x) (y:=x.only i l0) (fun b o h=>⟨h,rfl⟩) hp (by simpa using hc) fun c' h1=>ha.2 (j+1) c' (by simpa using h1)
 obtain⟨h1,h2⟩:=h ha'
 refine⟨h1,fun fr cs hn=>h2 fr cs fun y u ⟨q1,q2,q3,q4⟩ => ?_⟩
 have hy:y.S[0]? = some (.cells l'):=by rw[q1]; rfl
 exact hn (x.back y i (l'.map DV.aV)) u ⟨rfl,SJ hR hi q2 q3 hy iy,Et hR hi q3,q4.strip.pure_mono (x:=y) (y:=x.back y i (l'.map DV.aV)) (fun b o h=>⟨h,rfl⟩) hv⟩
theorem Ub {call:bP} (hc:jr P af call):jr P af (LQ call):=by
 intro f args S v S' h x vals hR hS ha
 subst hS
 unfold LQ at h
 split at h
 ·rename_i i v1 l1 ho
  cases h
  unfold zg at ho
  split at ho
  ·rename_i i off rest
   split at ho
   ·rename_i l hi
    split at ho
    ·rename_i PE
     simp only[aI] at PE
     split at ho
     ·rename_i v2 l' T jk
      split at ho
      ·rename_i hq
       simp only[aI] at hq
       cases ho
       exact K1 (l0:=l.map DV.aV) hR hi PE.1 ha (fun Lr=>hc _ _ _ _ _ jk (x.only _ _) vals (SG hR hi PE.2) rfl Lr) hq.2 hq.1
      ·cases ho
     ·cases ho
    ·cases ho
   ·cases ho
  ·cases ho
 ·exact hc _ _ _ _ _ h x vals hR rfl ha
end Go.Di
end
section
namespace Go.Di
open Go Go.Conc Go.Co
open Go.ConcN (upd upd_same upd_ne)
variable {P:Program} {af:Machine→Trace→Prop} {ty:ir} {x:Cx} {aM:bV} {call:bP} {yf:fI}
structure LU (ops:Array Oper) (M:Nat→ax) (F:Nat→dD) (L:Nat→Bool) (S:ax):Prop where
 get:∀ id,S[id]? = mJ (fun j=>touch F j id) (fun j=>(M (j+1))[id]?) ((M 0)[id]?) L ops.size
 len:S.length=mJ (top F) (fun j=>(M (j+1)).length) (M 0).length L ops.size
theorem TM {ops:Array Oper} {n0:Nat} {E:Nat→List DV} {V:Nat→DV} {M:Nat→ax} {F:Nat→dD} (h:QT P ty aM call yf ops n0 E V M F) (pP:HF ops) (ZQ:∀ i j,i<ops.size→j<ops.size→i≠j→(F i).meets (F j)=true→((Region.before ops).getD j 0).testBit i=true∨((Region.before ops).getD i 0).testBit j=true)
  {L:Nat→Bool} (hL:Closed ops L) {i:Nat} {o:Oper} (ho:ops[i]? = some o) (hi:L i=false) (wF:∀ e∈o.after,Region.binds .any e=true→L e.on=true) {T:ax} (hT:LU ops M F L T) (hw:cu ops (E i) o=true) :
  ∃ T',aL P ty aM call yf (jb (E i)) o T (n0+i)=some (V i,T',F i)∧LU ops M F (upd L i true) T':=by
 have hio:i<ops.size:=(aR.1 ho).1
 have hs:=h.yes i o ho hw
 have ZD:∀ j,j<ops.size→j≠i→(F i).meets (F j)=true→(L j=true↔j<i):=fun j hj hne hm=>Mv pP hL ho hi wF (Ne.symm hne) (ZQ i j hio hj (Ne.symm hne) hm)
 have up1:∀ j,j<ops.size→(j≠i→(F i).meets (F j)=true)→(upd L i true j=true↔j<i+1):=by
  intro j hj hm
  by_cases gO:j=i
  ·subst gO; simp[upd_same]
  ·rw[upd_ne _ _ gO,ZD j hj gO (hm gO)]; omega
 have at1:∀ id,(∀ j,j<ops.size→j≠i→touch F j id=true→(F i).meets (F j)=true)→T[id]? = (M i)[id]? := by
  intro id hm
  rw[hT.get id,(run_store h id i (by omega)).1]
  refine iw (by omega) fun j hj ht => ?_
  by_cases gO:j=i
  ·subst gO; simp[hi]
  ·exact ZD j hj gO (hm j hj gO ht)
 have aes:(∀ j,j<ops.size→j≠i→top F j=true→(F i).meets (F j)=true)→T.length=(M i).length:=by
  intro hm
  rw[hT.len,(run_store h 0 i (by omega)).2]
  refine iw (by omega) fun j hj ht => ?_
  by_cases gO:j=i
  ·subst gO; simp[hi]
  ·exact ZD j hj gO (hm j hj gO ht)
 have tch:∀ j id,touch F j id=true→(F j).wr=true∧((F j).ids=none∨∃ l,(F j).ids=some l∧id∈l):=by
  intro j id ht
  unfold touch at ht
  simp only[aI] at ht
  refine⟨ht.1,?_⟩
  cases pQ:(F j).ids with
  | none=>exact .inl rfl
  | some l=>rw[pQ] at ht; exact .inr ⟨l,rfl,by simpa using ht.2⟩
 have tp:∀ j,top F j=true→(F j).wr=true∧(F j).ids=none:=by
  intro j ht
  unfold top at ht
  simpa using ht
 cases pQ:(F i).ids with
 | none =>
  have hwr:=RL hs pQ
  have fA:∀ j id,touch F j id=true→(F i).meets (F j)=true:=by
   intro j id ht
   obtain⟨h1,h2⟩:=tch j id ht
   unfold dD.meets
   rw[hwr,pQ]
   rcases h2 with h2 | ⟨l,h2,h3⟩
   ·simp[h2]
   ·simp[h2]
    exact List.ne_nil_of_mem h3
  have hTM:T=M i:=kZ fun id=>at1 id fun j _ _ ht=>fA j id ht
  subst hTM
  refine⟨M (i+1),hs,⟨fun id => ?_,?_⟩⟩
  ·have ht:touch F i id=true:=by simp[touch,hwr,pQ]
   rw[iw (i:=i+1) (by omega) fun j hj YZ=>up1 j hj fun _=>fA j id YZ,vV (W:=fun j=>touch F j id) ht]
  ·have ht:top F i=true:=by simp[top,hwr,pQ]
   rw[iw (i:=i+1) (by omega) fun j hj YZ=>up1 j hj fun _=>by
    obtain⟨h1,h2⟩:=tp j YZ
    simp[dD.meets,hwr,pQ,h2],vV (W:=top F) ht]
 | some l =>
  obtain⟨w,w1,w2,w3⟩:=RM hs pQ
  have Us:∀ j id,id∈l→touch F j id=true→(F i).meets (F j)=true:=by
   intro j id hid ht
   obtain⟨h1,h2⟩:=tch j id ht
   unfold dD.meets
   rw[h1,pQ]
   rcases h2 with h2 | ⟨l',h2,h3⟩
   ·simp[h2]
    exact List.ne_nil_of_mem hid
   ·simp[h2]
    exact⟨id,hid,h3⟩
  have hlen:l≠[]→T.length=(M i).length:=fun hne=>aes fun j hj gO ht=>by
   obtain⟨h1,h2⟩:=tp j ht
   simp[dD.meets,h1,pQ,h2,hne]
  have hrun:=w3 T hlen fun id hid=>at1 id fun j _ _ ht=>Us j id hid ht
  have ack:∀ k b,w=some (k,b)→k<T.length:=fun k b hw=>by
   obtain⟨q1,q2,q3⟩:=w2 k b hw
   rw[hlen (List.ne_nil_of_mem q1)]
   exact q3
  refine⟨appW w T,hrun,⟨fun id => ?_,?_⟩⟩
  ·cases ht:touch F i id with
   | true =>
    obtain⟨h1,h2⟩:=tch i id ht
    have hid:id∈l:=by
     rcases h2 with h2 | ⟨l',h2,h3⟩
     ·rw[pQ] at h2; cases h2
     ·rw[pQ] at h2; cases h2; exact h3
    rw[iw (i:=i+1) (by omega) fun j hj YZ=>up1 j hj fun _=>Us j id hid YZ,vV (W:=fun j=>touch F j id) ht,w1]
    rw[AZ ack,AZ fun k b hw=>(w2 k b hw).2.2]
    have:=at1 id fun j _ _ YZ=>Us j id hid YZ
    cases w with
    | none=>exact this
    | some p=>simp only[this]
   | false =>
    rw[mM (W:=fun j=>touch F j id) ht,← hT.get id,AZ ack]
    cases w with
    | none=>rfl
    | some p =>
     obtain⟨k,b⟩:=p
     obtain⟨q1,q2,q3⟩:=w2 k b rfl
     have hne:id≠k:=by
      rintro rfl
      simp[touch,q2,pQ,q1] at ht
     simp[hne]
  ·have ht:top F i=false:=by simp[top,pQ]
   rw[mM (W:=top F) ht,M0]
   exact hT.len
def Cx.pad (x:Cx) (n:Nat):Cx:={ x with S:=x.S++List.replicate n .none }
theorem nC {S:ax} {n id:Nat} {b:DB} (h:(S++List.replicate n DB.none)[id]? = some b) (hb:b ≠ .none):S[id]? = some b:=by
 rw[qP] at h
 split at h
 ·exact h
 ·rw[nK] at h
  split at h
  ·cases h; exact absurd rfl hb
  ·cases h
theorem xz {S:ax} {n id:Nat} {b:DB} (h:S[id]? = some b):(S++List.replicate n DB.none)[id]? = some b:=by
 rw[fq (aJ.1 h).1]; exact h
theorem xA (x:Cx) (n:Nat):bZ x (x.pad n) :=
 ⟨ak _,⟨rfl,rfl⟩,fun _ _ h=>⟨h,rfl⟩,fun _ _ h => .inl h,fun _ _ _=>rfl,by simp[Cx.pad],fun _ l h=>⟨rfl,l,xz h⟩,fun _ b h hb=>⟨rfl,⟨b,xz h,fu hb⟩,fun _=>rfl⟩,fun _ _ _ n h=>⟨n,xz h,ak _,fun _=>⟨rfl,rfl⟩⟩,fun _ ⟨b,h,hb⟩ => .inl ⟨⟨b,nC h hb,hb⟩,rfl⟩,fun _ _ _ l z h=>⟨l,z,xz h,ak _,fun e=>⟨rfl,e⟩,fun _=>⟨rfl,rfl⟩⟩⟩
theorem Ws (hR:Rel x) (n:Nat):Rel (x.pad n) where
 cells:=fun id l hl=>by
  obtain⟨arr,e,h1,h2,h3⟩:=hR.cells id l (nC hl (by simp))
  exact⟨arr,e,h1,h2,fun j c hc=>(h3 j c hc).mono (xA x n)⟩
 eA:=fun id e s m hl=>hR.eA id e s m (nC hl (by simp))
 eR:=fun id b hl hb=>by
  obtain⟨o,h1,h2⟩:=hR.eR id b (nC hl (gG hb)) hb
  exact⟨o,h1,h2.mono (xA x n)⟩
 inj:=fun i j ⟨b,h,hb⟩ ⟨c,k,kb⟩ he=>hR.inj i j ⟨b,nC h hb,hb⟩ ⟨c,nC k kb,kb⟩ he
 x7:=hR.x7
 sep:=fun id ⟨l,hl⟩=>hR.sep id ⟨l,nC hl (by simp)⟩
 oF:=fun id e s m hl=>hR.oF id e s m (nC hl (by simp))
 ops:=fun id e s l z hl=>by
  obtain⟨arr,h1,h2,h3,h4,h5,h6⟩:=hR.ops id e s l z (nC hl (by simp))
  exact⟨arr,h1,h2,h3,h4,fun j c hc=>⟨(h5 j c hc).1,(h5 j c hc).2.mono (xA x n)⟩,h6⟩
theorem KB (hP:Plain P) (eY:j4 P ty) (hc:jr P af call) (hi:wW P af aM) (Js:wT P af yf) {ops:Array Oper} {b:Frame} {k:List Item} {cs:List Frame} (hk:b.kind ≠ .early) (EX:kV ops (Region.before ops)=true)
  {env aD:List DV} {S':ax} {fs:List dD} {n0:Nat} {a:Act} (h:rF P ty aM call yf ops n0 ops.toList 0 env x.S=some (aD,S',fs)) (hmt:sw (Region.before ops) fs=true) (hR:Rel x) (he:gn x env a.tmps)
  (hn:∀ y a',y.S=S'→Rel y→bZ x y→gn y aD a'.tmps→a'.defers=a.defers→iz P af () (G (b.atR a' k) cs) y.w) (t:Nat):iz P af () (G (b.atR a (.inRegion ops (Region.linearise .any ops t)::k)) cs) x.w:=by
 have pP:=Ig EX
 obtain⟨E,V,M,F,hrun,e1,e2,e3,e4,e5⟩:=aaV h
 have ZQ:∀ i j,i<ops.size→j<ops.size→i≠j→(F i).meets (F j)=true→((Region.before ops).getD j 0).testBit i=true∨((Region.before ops).getD i 0).testBit j=true:=fun i j hi hj hne hm=>abe hmt (e5 i hi) (e5 j hj) hne hm
 have fV:∀ {α:Type} (W:Nat→Bool) (R:Nat→α) (d:α) n,mJ W R d (fun _=>false) n=d:=by
  intro α W R d n
  induction n with
  | zero=>rfl
  | succ n ih=>unfold mJ; simp[ih]
 refine u9 pP (σ:=Act×Cx) (fun todo s=>Rel s.2→bZ x s.2→s.1.defers=a.defers→iz P af () (G (b.atR s.1 (.inRegion ops todo::k)) cs) s.2.w)
  (fun L s=>LU ops M F L s.2.S∧∃ mH,gn s.2 mH s.1.tmps∧D6 ops V L ops.size (E 0) mH) ?_ ?_ t (a,x) ⟨⟨fun id=>by rw[fV,e3],by rw[fV,e3]⟩,env,he,fun t => ?_⟩ hR (bZ.refl x) rfl
 ·rintro L ⟨a1,y⟩ i o ⟨Jm,mH,xX,UZ⟩ uw ho hLi wF rest Bs Jz PL Jx
  simp only at xX Jz PL Jx Jm ⊢
  obtain⟨q1,q2⟩:=zT pP EX hrun.env uw UZ ho hLi wF
  have hw:=xG q1
  have Um:=yy xX ops o
  have hE2:=EI (V:=V) ho UZ q2
  by_cases YV:cu ops (E i) o=true
  ·obtain⟨T',hT1,hT2⟩:=TM hrun pP ZQ uw ho hLi wF Jm YV
   rw[← Gi (EG q1)] at hT1
   obtain⟨uC,Vo,hstep⟩:=Xi hT1
   refine Hh hP eY (Ub hc) hi Js hk ho (by rw[Um,hw]; exact YV) Jz Vo xX hstep fun z u zS zR zM zV => ?_
   have nW:=qE (xX.mono zM) (dst:=o.dst) zV
   exact Bs (a1.put o.dst u,z) ⟨by rw[zS]; exact hT2,_,nW.1,hE2⟩ zR (PL.trans zM) (nW.2.trans Jx)
  ·have YW:cu ops (E i) o=false:=by simpa using YV
   obtain⟨hv,hM,hF⟩:=hrun.no i o ho YW
   have nW:=qE xX (dst:=o.dst) (d:=V i) (v:=undef) (by rw[hv]; exact .val rfl)
   have ae7:LU ops M F (upd L i true) y.S:=by
    refine⟨fun id => ?_,?_⟩
    ·rw[mM (W:=fun j=>touch F j id) (by simp[touch,hF])]; exact Jm.get id
    ·rw[mM (W:=top F) (by simp[top,hF])]; exact Jm.len
   exact dY hP (fun w=>⟨_,s6 ho (by rw[Um,hw]; exact YW)⟩) (Bs (a1.put o.dst undef,y) ⟨ae7,_,nW.1,hE2⟩ Jz PL (nW.2.trans Jx))
 ·rintro L ⟨a1,y⟩ ⟨Jm,mH,xX,UZ⟩ fA Jz PL Jx
  have aeT:mH=aD:=by
   refine kZ fun t => ?_
   rw[UZ t,← e2,AG hrun.env ops.size (ak _) t]
   congr 1
   funext d
   rw[kN (i:=ops.size) (ak _) fun j hj _=>by simp[fA j hj,hj]]
  have aez:y.S=S':=by
   refine kZ fun id => ?_
   have:=Jm.get id
   simp only at this
   rw[this,← e4,(run_store hrun id ops.size (ak _)).1]
   exact iw (ak _) fun j hj _=>by simp[fA j hj,hj]
  subst aeT
  exact dY hP (fun w=>⟨_,mD⟩) (hn y a1 aez Jz PL xX Jx)
 ·rw[e1]
  have:∀ n,mI ops V (fun _=>false) t n=none:=by
   intro n
   induction n with
   | zero=>rfl
   | succ n ih=>unfold mI; simp[ih]
  rw[this]
  simp
theorem JZ (hP:Plain P) (hm:P.follows .mixedOrders=true) (eY:j4 P ty) (hc:jr P af call) (hi:wW P af aM) (Js:wT P af yf) (id:Nat) (ops:Array Oper) (draw:Bool):sC P af ty aM call yf id ops draw:=by
 cases draw with
 | false=>exact Oc hP eY hc hi Js id ops
 | true =>
  intro env aD S' x a b k cs h hk hR he hn
  simp only[oQ,if_true] at h
  split at h
  ·cases h
  ·rename_i hd
   have EX:kV ops (Region.before ops)=true:=by simpa using hd
   refine iY hP fun n => ?_
   refine⟨_,_,_,_,KE hm,?_⟩
   split at h
   ·rename_i mH h1
    cases h
    split at h1
    ·cases h1
    exact KD (x:=x.dr _) hP eY hc hi Js hk EX h1 (hR.dr _) (he.mono (fe x _)) (fun y a' q1 q2 q3 q4 q5=>hn y a' q1 q2 ((fe x _).trans q3) q4 q5) _
   ·split at h
    ·rename_i mH S1 fs h1
     split at h
     ·rename_i hmt
      cases h
      have M1:=(fe x ((x.w.at n).drawn+1)).trans (xA _ ops.size)
      exact KB (x:=(x.dr ((x.w.at n).drawn+1)).pad ops.size) hP eY hc hi Js hk EX h1 hmt (Ws (hR.dr _) _) (he.mono M1) (fun y a' q1 q2 q3 q4 q5=>hn y a' q1 q2 (M1.trans q3) q4 q5) _
     ·cases h
    ·cases h
def rI (P:Program) (af:Machine→Trace→Prop) (bG:bV):Prop :=
 ∀ f args v,bG f args=some v→args.all DV.pure=true→v.pure=true→∀ x vals,Rel x→gn x args vals→eH P af x f vals fun y u=>y.S=x.S∧Rel y∧bZ x y∧RV y v u
theorem FB {bG:bV} (ht:rI P af bG) (hc:jr P af call):wW P af (kS bG call):=by
 intro f args v h hp
 unfold kS at h
 split at h
 ·rename_i v' h1
  split at h
  ·rename_i hv
   cases h
   exact⟨hv,ht f args v h1 hp hv⟩
  ·cases h
 ·split at h
  ·rename_i v' S' h1
   split at h
   ·rename_i hv
    cases h
    refine⟨hv,fun x vals hR ha => ?_⟩
    have ha':gn x.bare args vals:=⟨ha.1,fun j c hj=>(ha.2 j c hj).pure_mono (x:=x) (y:=x.bare) (fun b o h=>⟨h,rfl⟩) (bt.1 hp c (dA hj))⟩
    obtain⟨h2,h3⟩:=hc f args [] v' S' h1 x.bare vals hR.bare rfl ha'
    refine⟨h2,fun fr cs hn=>h3 fr cs fun y0 u ⟨p1,p2,p3,p4⟩ => ?_⟩
    obtain⟨y,r1,r2,q2,r4⟩:=RF p2 v'
    have q3:=p3.trans r4
    have q4:RV y (lS (uH S' v') v') u:=by
     rw[← p1,← r2]
     exact look_ok q2 (p4.mono r4)
    have hb:=hR.behind q3 q2
    rw[← r1]
    exact hn (x.behind y) u ⟨rfl,hb,s8 hR q3,q4.strip.pure_mono (x:=y) (y:=x.behind y) (fun b o h=>⟨h,rfl⟩) hv⟩
   ·cases h
  ·cases h
theorem xE (hP:Plain P) (hm:P.follows .mixedOrders=true) (eY:j4 P ty) {bG:bV} (ht:rI P af bG) {L:Nat}:∀ n,jr P af (ee P ty bG L n).1∧wT P af (ee P ty bG L n).2
 | 0=>⟨fun f args S v S' h=>by simp[ee] at h,fun id args S v S' h=>by simp[ee] at h⟩
 | n+1=>by
  obtain⟨XF,ihy⟩:=xE hP hm eY ht (L:=L) n
  have hi:=FB ht XF
  have je:∀ id ops draw,sC P af ty (kS bG (ee P ty bG L n).1) (ee P ty bG L n).1 (ee P ty bG L n).2 id ops draw:=fun id ops draw=>JZ hP hm eY XF hi ihy id ops draw
  refine⟨fun f args S v S' h x vals hR hS ha => ?_,N4 hP XF je⟩
  simp only[ee] at h
  split at h
  ·rename_i fn hf
   exact Ud hP eY XF je hf h hR hS ha
  ·cases h
end Go.Di
end
