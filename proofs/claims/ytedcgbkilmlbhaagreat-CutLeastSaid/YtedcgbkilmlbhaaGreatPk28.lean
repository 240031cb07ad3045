import Derived.Test.YtedcgbkilmlbhaaGreatPk27
section
namespace Go.Di
open Go Go.Conc Go.Co
open Go.ConcN (upd upd_same upd_ne)
variable {P:Program} {aa:Machine→Trace→Prop} {ty:gF} {x:Cx} {aI:bP} {call:bM} {yf:eW}
theorem EC {ρ ρ':Operand→Option DV} {o:Oper} {S:av} {aB:Nat} (h:∀ a∈o.op.operands,ρ a=ρ' a):aH P ty aI call yf ρ o S aB=aH P ty aI call yf ρ' o S aB:=by
 have hs:=vT (P:=P) (ty:=ty) (aI:=aI) (call:=call) (yf:=yf) (S:=S) (aB:=aB) h
 unfold aH
 split
 ·rw[hs]
 ·rw[hs]
 ·rw[hs]
 ·rename_i t a v hop
  rw[hop] at h
  rw[h a (by simp[Op.operands]),hs]
 ·rename_i t a v hop
  rw[hop] at h
  rw[h a (by simp[Op.operands]),hs]
 ·rename_i t a v hop
  rw[hop] at h
  rw[h a (by simp[Op.operands]),hs]
 ·rw[hs]
 ·rfl
 ·rename_i t m k ok hop
  rw[hop] at h
  rw[h m (by simp[Op.operands]),hs]
 ·rename_i t m k v hop
  rw[hop] at h
  rw[h m (by simp[Op.operands]),hs]
 ·rename_i t a hop
  rw[hop] at h
  rw[h a (by simp[Op.operands]),hs]
 ·rename_i args ats hop
  rw[hop] at h
  have:(args[0]?).bind ρ=(args[0]?).bind ρ':=by
   cases ha:args[0]? with
   | none=>rfl
   | some a=>exact h a (by simp[Op.operands,Call.operands,Array.mem_of_getElem? ha])
  rw[this,hs]
 ·rename_i f args ats hop
  rw[hop] at h
  have h1:ρ f=ρ' f:=h f (by simp[Op.operands,Call.operands])
  have h2:=kR (ρ:=ρ) (ρ':=ρ') (l:=args.toList) fun a ha=>h a (by simp[Op.operands,Call.operands] at ha ⊢; exact .inr ha)
  rw[h1,h2]
 ·rw[hs]
def U5:Op→Prop
 | .call { callee := .value _,.. }=>False
 | _=>True
theorem dz {c1 c2:bM} {ρ:Operand→Option DV} {o:Oper} {S:av} {aB:Nat} (h:U5 o.op):af P ty aI c1 yf ρ o S aB=af P ty aI c2 yf ρ o S aB:=by
 obtain⟨dst,op,type,pos,after,guard⟩:=o
 cases op
 case call c =>
  obtain⟨callee,args,ats⟩:=c
  cases callee with
  | value f=>exact h.elim
  | builtin b=>simp only[af]
  | invoke r m=>simp only[af]
 case makeFunc fn a b=>cases fn<;>simp only[af]
 case makeMap t r=>cases r<;>simp only[af]
 all_goals first
  | rfl
  | simp only[af]
theorem UM {ρ:Operand→Option DV} {o:Oper} {S S':av} {aB:Nat} {v:DV} {f:dh} (h:aH P ty aI call yf ρ o S aB=some (v,S',f)):∃ sU,B8 S sU∧af P ty aI (JU call) yf ρ o S sU=some (v,S'):=by
 obtain⟨dst,op,type,pos,after,guard⟩:=o
 have mp:∀ {q:Option (DV×av)} {g:DV×av→dh},q.map (fun r=>(r.1,r.2,g r))=some (v,S',f)→q=some (v,S'):=by
  intro q g hq
  simp only[ah,ax] at hq
  obtain⟨⟨a,b⟩,h1,h2,h3,-⟩:=hq
  rw[h1,← h2,← h3]
 have plain:∀ {q:av→Nat→Option (DV×av)},(∀ n m,q S n=q S m)→q S aB=some (v,S')→∃ sU,B8 S sU∧q S sU=some (v,S'):=fun hq h=>⟨S.length,.inl rfl,by rw[hq _ aB]; exact h⟩
 cases op
 case alloc e =>
  simp only[aH] at h
  split at h
  ·rename_i hS; exact⟨aB,.inr hS,(dz (c2:=call) (by trivial)).trans (mp h)⟩
  ·cases h
 case box e a =>
  simp only[aH] at h
  split at h
  ·rename_i hS; exact⟨aB,.inr hS,(dz (c2:=call) (by trivial)).trans (mp h)⟩
  ·cases h
 case makeMap e a =>
  simp only[aH] at h
  split at h
  ·rename_i hS; exact⟨aB,.inr hS,(dz (c2:=call) (by trivial)).trans (mp h)⟩
  ·cases h
 case store t a b =>
  simp only[aH] at h
  split at h
  ·exact⟨S.length,.inl rfl,(dz (c2:=call) (by trivial)).trans (mp h)⟩
  ·exact⟨S.length,.inl rfl,(dz (c2:=call) (by trivial)).trans (mp h)⟩
  ·cases h
 case makeSlice t a b=>simp only[aH] at h; cases h
 case buildSlice t n ps =>
  simp only[aH] at h
  split at h
  ·cases h
  ·rename_i hh
   obtain⟨h1,h2⟩:=Db rfl hh (mp h)
   subst h1
   exact⟨S'.length,.inl rfl,(dz (c2:=call) (by trivial)).trans (h2 _ _)⟩
 case fieldAddr t a i =>
  simp only[aH] at h
  split at h
  all_goals
   obtain⟨h1,h2⟩:=pE (T:=S) (fun _ _ _ _=>rfl) (mp h)
   subst h1
   exact⟨S'.length,.inl rfl,(dz (c2:=call) (by trivial)).trans (h2 _)⟩
 case indexAddr t a i =>
  simp only[aH] at h
  split at h
  all_goals
   obtain⟨h1,h2⟩:=pq (T:=S) (fun _ _ _ _=>rfl) (mp h)
   subst h1
   exact⟨S'.length,.inl rfl,(dz (c2:=call) (by trivial)).trans (h2 _)⟩
 case load t a =>
  simp only[aH] at h
  split at h
  ·exact⟨S.length,.inl rfl,(dz (c2:=call) (by trivial)).trans (mp h)⟩
  ·exact⟨S.length,.inl rfl,(dz (c2:=call) (by trivial)).trans (mp h)⟩
  ·exact⟨S.length,.inl rfl,(dz (c2:=call) (by trivial)).trans (mp h)⟩
 case lookup t m k ok =>
  simp only[aH] at h
  split at h
  ·exact⟨S.length,.inl rfl,(dz (c2:=call) (by trivial)).trans (mp h)⟩
  ·cases h
 case mapUpdate t m k a =>
  simp only[aH] at h
  split at h
  ·exact⟨S.length,.inl rfl,(dz (c2:=call) (by trivial)).trans (mp h)⟩
  ·cases h
 case call c =>
  obtain⟨callee,args,ats⟩:=c
  cases callee with
  | invoke r m=>simp[aH,af] at h
  | value g =>
   simp only[aH] at h
   refine⟨S.length,.inl rfl,?_⟩
   simp only[af]
   split at h
   ·rename_i g' fs cs xs hf Nw
    split at h
    ·cases h
    rename_i hh
    simp only[u6]
    split at h
    ·rename_i hp
     simp only[ah,ax] at h
     obtain⟨d,h3,rfl,rfl,-⟩:=h
     rw[if_pos hp,h3]
    ·rename_i hp
     rw[if_neg hp]
     unfold JU
     split at h
     ·rename_i ho
      cases h
      rfl
     ·exact mp h
   ·exact mp h
   ·cases h
  | builtin b =>
   by_cases hb:b = .append
   ·subst hb
    simp only[aH] at h
    split at h
    ·cases h
    split at h
    ·cases h
    split at h
    ·rename_i hS _; exact⟨aB,.inr hS,(dz (c2:=call) (by trivial)).trans (mp h)⟩
    ·rename_i hS _; exact⟨aB,.inr hS,(dz (c2:=call) (by trivial)).trans (mp h)⟩
    ·cases h
   ·have Dl:aH P ty aI call yf ρ ⟨dst,.call ⟨.builtin b,args,ats⟩,type,pos,after,guard⟩ S aB=(af P ty aI call yf ρ ⟨dst,.call ⟨.builtin b,args,ats⟩,type,pos,after,guard⟩ S aB).map (fun r=>(r.1,r.2,(⟨some [],false⟩:dh))):=by
     cases b<;>first | rfl | exact absurd rfl hb
    rw[Dl] at h
    have hop:sk (.call ⟨.builtin b,args,ats⟩):=by cases b<;>first | trivial | exact absurd rfl hb
    obtain⟨h1,h2⟩:=Ay hop (mp h)
    subst h1
    exact⟨S'.length,.inl rfl,(dz (c2:=call) (by trivial)).trans (h2 _ _)⟩
 all_goals
  simp only[aH] at h
  obtain⟨h1,h2⟩:=Ay (by trivial) (mp h)
  subst h1
  exact⟨S'.length,.inl rfl,(dz (c2:=call) (by trivial)).trans (h2 _ _)⟩
theorem PB {ρ:Operand→Option DV} {o:Oper} {S S':av} {aB:Nat} {v:DV} {f:dh} (h:aH P ty aI call yf ρ o S aB=some (v,S',f)) (hf:f.ids=none):f.wr=true:=by
 have mp:∀ {q:Option (DV×av)} {l:List Nat} {b:Bool},q.map (fun r=>(r.1,r.2,(⟨some l,b⟩:dh)))=some (v,S',f)→False:=by
  intro q l b hq
  simp only[ah,ax] at hq
  obtain⟨_,-,-,-,rfl⟩:=hq
  cases hf
 have mt:∀ {q:Option (DV×av)},q.map (fun r=>(r.1,r.2,(⟨none,true⟩:dh)))=some (v,S',f)→f.wr=true:=by
  intro q hq
  simp only[ah,ax] at hq
  obtain⟨_,-,-,-,rfl⟩:=hq
  rfl
 unfold aH at h
 split at h
 case h_13 =>
  split at h
  ·simp only at h
   split at h
   ·cases h
   split at h
   ·simp only[ah,ax] at h
    obtain⟨_,-,-,-,rfl⟩:=h
    cases hf
   ·split at h
    ·cases h; cases hf
    ·exact mt h
  ·exact mt h
  ·cases h
 all_goals (repeat' split at h)
 all_goals first
  | exact(mp h).elim
  | cases h
def touch (F:Nat→dh) (j id:Nat):Bool:=(F j).wr&&match (F j).ids with
 | none=>true
 | some l=>l.contains id
def top (F:Nat→dh) (j:Nat):Bool:=(F j).wr&&(F j).ids.isNone
def lG {α:Type} (W:Nat→Bool) (R:Nat→α) (d:α) (L:Nat→Bool):Nat→α
 | 0=>d
 | n+1=>if L n&&W n then R n else lG W R d L n
theorem gH {α:Type} {W:Nat→Bool} {R:Nat→α} {d:α} {L:Nat→Bool} {i:Nat}:∀ {n:Nat},i≤n→(∀ j,j<n→W j=true→(L j=true↔j<i))→lG W R d L n=lG W R d (fun _=>true) i
 | 0,h,_=>by
  have:i=0:=by omega
  subst this; rfl
 | n+1,h,hj=>by
  by_cases nR:i=n+1
  ·subst nR
   unfold lG
   by_cases hd:W n=true
   ·have:=(hj n (by omega) hd).2 (by omega)
    simp only[this,hd,gm,if_true]
   ·simp only[aG,hd,and_false,if_false,aD]
    exact gH (ai _) fun j h1 h2=>⟨fun _=>h1,fun _=>(hj j (oe h1) h2).2 (oe h1)⟩
  ·have hle:i≤n:=by omega
   rw[← gH hle fun j h1 h2=>hj j (by omega) h2]
   conv=>lhs; unfold lG
   by_cases hd:W n=true
   ·have:L n=false:=by
     cases hLn:L n with
     | false=>rfl
     | true=>have:=(hj n (by omega) hd).1 hLn; omega
    rw[this]
    simp
   ·simp[hd]
theorem lK {α:Type} {W:Nat→Bool} {R:Nat→α} {d:α} {L:Nat→Bool} {i:Nat} (hd:W i=false):∀ n,lG W R d (upd L i true) n=lG W R d L n
 | 0=>rfl
 | n+1=>by
  unfold lG
  rw[lK hd n]
  by_cases h:n=i
  ·subst h; simp[hd]
  ·rw[upd_ne _ _ h]
theorem uz {α:Type} {W:Nat→Bool} {R:Nat→α} {d:α} {i:Nat} (hd:W i=true):lG W R d (fun _=>true) (i+1)=R i:=by unfold lG; simp[hd]
structure OT (P:Program) (ty:gF) (aI:bP) (call:bM) (yf:eW) (ops:Array Oper) (n0:Nat) (E:Nat→List DV) (V:Nat→DV) (M:Nat→av) (F:Nat→dh):Prop where
 env:JY ops V E
 yes:∀ j o,ops[j]? = some o→bY ops (E j) o=true→aH P ty aI call yf (iB (E j)) o (M j) (n0+j)=some (V j,M (j+1),F j)
 no:∀ j o,ops[j]? = some o→bY ops (E j) o=false→V j=bz∧M (j+1)=M j∧F j=⟨some [],false⟩
theorem CE {ops:Array Oper} {n0:Nat}:∀ {r:List Oper} {i:Nat} {env aC:List DV} {S S':av} {fs:List dh},qv P ty aI call yf ops n0 r i env S=some (aC,S',fs) →
  ∃ (E:Nat→List DV) (V:Nat→DV) (M:Nat→av) (F:Nat→dh),E 0=env∧E r.length=aC∧M 0=S∧M r.length=S'∧(fs.length=r.length∧∀ j,j<r.length→fs[j]? = some (F j)) ∧
   ∀ j o,r[j]? = some o→E (j+1)=jj (E j) o.dst (V j)∧(bY ops (E j) o=true→aH P ty aI call yf (iB (E j)) o (M j) (n0+(i+j))=some (V j,M (j+1),F j))∧(bY ops (E j) o=false→V j=bz∧M (j+1)=M j∧F j=⟨some [],false⟩)
 | [],i,env,aC,S,S',fs,h=>by
  simp only[qv,az,ax] at h
  obtain⟨rfl,rfl,rfl⟩:=h
  exact⟨fun _=>env,fun _=>bz,fun _=>S,fun _=>⟨some [],false⟩,rfl,rfl,rfl,rfl,⟨rfl,by simp⟩,by simp⟩
 | o::r,i,env,aC,S,S',fs,h=>by
  unfold qv at h
  have key:∀ v S1 f oR tI N5,qv P ty aI call yf ops n0 r (i+1) (jj env o.dst v) S1=some (oR,tI,N5)→(bY ops env o=true→aH P ty aI call yf (iB env) o S (n0+i)=some (v,S1,f))→(bY ops env o=false→v=bz∧S1=S∧f=⟨some [],false⟩)→some (oR,tI,f::N5)=some (aC,S',fs) →
    ∃ (E:Nat→List DV) (V:Nat→DV) (M:Nat→av) (F:Nat→dh),E 0=env∧E (o::r).length=aC∧M 0=S∧M (o::r).length=S'∧(fs.length=(o::r).length∧∀ j,j<(o::r).length→fs[j]? = some (F j)) ∧
     ∀ j o',(o::r)[j]? = some o'→E (j+1)=jj (E j) o'.dst (V j)∧(bY ops (E j) o'=true→aH P ty aI call yf (iB (E j)) o' (M j) (n0+(i+j))=some (V j,M (j+1),F j))∧(bY ops (E j) o'=false→V j=bz∧M (j+1)=M j∧F j=⟨some [],false⟩):=by
   intro v S1 f oR tI N5 h1 h2 h3 h4
   cases h4
   obtain⟨E,V,M,F,e1,e2,e3,e4,e5,e6⟩:=CE h1
   refine⟨fun n=>match n with | 0=>env | n+1=>E n,fun n=>match n with | 0=>v | n+1=>V n,fun n=>match n with | 0=>S | n+1=>M n,fun n=>match n with | 0=>f | n+1=>F n,rfl,by simpa using e2,rfl,by simpa using e4,⟨by simp[e5.1],fun j hj => ?_⟩,fun j o' kI => ?_⟩
   ·cases j with
    | zero=>rfl
    | succ j=>simpa using e5.2 j (by simpa using hj)
   ·cases j with
    | zero =>
     simp only[List.getElem?_cons_zero,az] at kI
     subst kI
     exact⟨e1,fun hw=>by have:=h2 hw; rw[← e3] at this; exact this,fun hw=>by have:=h3 hw; rw[← e3] at this; exact this⟩
    | succ j =>
     have:=e6 j o' (by simpa using kI)
     have e:i+(j+1)=i+1+j:=by omega
     rw[e]
     exact this
  split at h
  ·rename_i hw
   split at h
   ·rename_i v S1 f h1
    split at h
    ·rename_i oR tI N5 h2
     exact key v S1 f _ _ _ h2 (fun _=>h1) (fun hf=>by rw[hw] at hf; cases hf) h
    ·cases h
   ·cases h
  ·rename_i hw
   split at h
   ·rename_i oR tI N5 h2
    exact key bz S ⟨some [],false⟩ _ _ _ h2 (fun ht=>absurd ht hw) (fun _=>⟨rfl,rfl,rfl⟩) h
   ·cases h
theorem Yy {ops:Array Oper} {n0:Nat} {env aC:List DV} {S S':av} {fs:List dh} (h:qv P ty aI call yf ops n0 ops.toList 0 env S=some (aC,S',fs)) :
  ∃ (E:Nat→List DV) (V:Nat→DV) (M:Nat→av) (F:Nat→dh),OT P ty aI call yf ops n0 E V M F∧E 0=env∧E ops.size=aC∧M 0=S∧M ops.size=S'∧∀ j,j<ops.size→fs[j]? = some (F j):=by
 obtain⟨E,V,M,F,e1,e2,e3,e4,e5,e6⟩:=CE h
 refine⟨E,V,M,F,⟨fun j o ho=>(e6 j o (by simpa using ho)).1,fun j o ho hw => ?_,fun j o ho hw=>(e6 j o (by simpa using ho)).2.2 hw⟩,e1,by simpa using e2,e3,by simpa using e4,fun j hj=>e5.2 j (by simpa using hj)⟩
 have:=(e6 j o (by simpa using ho)).2.1 hw
 simpa using this
theorem zn {w:Option (Nat×DB)} {S:av} (h:∀ i b,w=some (i,b)→i<S.length) (id:Nat):(appW w S)[id]? = match w with | some (i,b)=>if id=i then some b else S[id]? | none=>S[id]? := by
 cases w with
 | none=>rfl
 | some p =>
  obtain⟨i,b⟩:=p
  have hlt:=h i b rfl
  simp only[appW]
  rw[aP]
  by_cases h1:id=i
  ·subst h1; simp[hlt]
  ·rw[if_neg (Ne.symm h1),if_neg h1]
theorem K6 {w:Option (Nat×DB)} {S:av}:(appW w S).length=S.length:=by cases w<;>simp[appW]
theorem run_store {ops:Array Oper} {n0:Nat} {E:Nat→List DV} {V:Nat→DV} {M:Nat→av} {F:Nat→dh} (h:OT P ty aI call yf ops n0 E V M F) (id:Nat):∀ i,i≤ops.size →
  (M i)[id]? = lG (fun j=>touch F j id) (fun j=>(M (j+1))[id]?) ((M 0)[id]?) (fun _=>true) i∧(M i).length=lG (top F) (fun j=>(M (j+1)).length) (M 0).length (fun _=>true) i
 | 0,_=>⟨rfl,rfl⟩
 | i+1,hi=>by
  have ho:ops[i]? = some ops[i]:=bQ (by omega)
  obtain⟨Lf,M7⟩:=run_store h id i (by omega)
  unfold lG
  simp only[Bool.true_and]
  rw[← Lf,← M7]
  cases hw:bY ops (E i) ops[i] with
  | false =>
   obtain⟨h1,h2,h3⟩:=h.no i _ ho hw
   rw[h2]
   simp
  | true =>
   have hs:=h.yes i _ ho hw
   cases oO:(F i).ids with
   | none =>
    have:=PB hs oO
    simp[touch,top,oO,this]
   | some l =>
    obtain⟨w,w1,w2,w3⟩:=PC hs oO
    constructor
    ·split
     ·rfl
     ·rename_i hnt
      rw[w1,zn fun i b hw=>(w2 i b hw).2.2]
      cases w with
      | none=>rfl
      | some p =>
       obtain⟨i',b⟩:=p
       obtain⟨q1,q2,q3⟩:=w2 i' b rfl
       have hne:id≠i':=by
        rintro rfl
        apply hnt
        simp[touch,q2,oO,q1]
       simp[hne]
    ·rw[w1,K6]
     simp[top,oO]
theorem YQ {b:Array Nat} {fs:List dh} (h:qL b fs=true) {i j:Nat} {f g:dh} (hi:fs[i]? = some f) (hj:fs[j]? = some g) (hne:i≠j) (hm:f.meets g=true):(b.getD j 0).testBit i=true∨(b.getD i 0).testBit j=true:=by
 unfold qL at h
 simp only[bh] at h
 have h1:=h (f,i) (by rw[sj]; exact hi) (g,j) (by rw[sj]; exact hj)
 have h2:(i==j)=false:=by simpa using hne
 simp only[h2,hm,fD,Bool.or_false,Bool.false_or,iq] at h1
 exact h1
end Go.Di
end
section
namespace Go.Di
open Go Go.Conc Go.Co
variable {P:Program} {aa:Machine→Trace→Prop} {x y:Cx} {i:Nat} {l l0 l':List DV} {T:av}
def Cx.only (x:Cx) (i:Nat) (l:List DV):Cx:={ x with μ:=fun _=>x.μ i,κ:=fun _=>0,S:=[.cells l] }
theorem A3 {x y:Cx} (hF:∀ b o,x.Fz b o→y.Fz b o∧y.w.cell? ⟨b,o,none⟩=x.w.cell? ⟨b,o,none⟩) {l:List DV} {arr:Array Value} (hl:(l.map DV.aQ).all DV.bS=true) (h:gD x l arr):gD y (l.map DV.aQ) arr:=by
 refine⟨by simpa using h.1,fun j c hj => ?_⟩
 have hm:=bh.1 hl c (dL hj)
 simp only[fQ,ah] at hj
 obtain⟨c',h2,rfl⟩:=hj
 exact(h.2 j c' h2).aQ.uo hF hm
theorem L0 {x y:Cx} (hF:∀ b o,x.Fz b o→y.Fz b o∧y.w.cell? ⟨b,o,none⟩=x.w.cell? ⟨b,o,none⟩) {l:List DV} (hl:(l.map DV.strip).all DV.pure=true) {j:Nat} {c:DV} {v:Value} (hj:(l.map DV.strip)[j]? = some c) (h:∀ c',l[j]? = some c'→RV x c' v):RV y c v:=by
 have hm:=bh.1 hl c (dL hj)
 simp only[fQ,ah] at hj
 obtain⟨c',h2,rfl⟩:=hj
 exact(h c' h2).strip.pure_mono hF hm
theorem nK {l:List DV} {k:Nat} {b:DB} (h:([.cells l]:av)[k]? = some b):k=0∧b = .cells l:=by
 cases k with
 | zero=>simp at h; exact⟨rfl,h.symm⟩
 | succ k=>simp at h
theorem Qs (hR:Rel x) (hi:x.S[i]? = some (.cells l)) (hl:(l.map DV.aQ).all DV.bS=true):Rel (x.only i (l.map DV.aQ)):=by
 refine⟨fun id l2 h => ?_,fun id e s n h => ?_,fun id b h hb => ?_,fun j k hj hk _ => ?_,hR.yP,fun id h o hF => ?_,fun id e s n h => ?_,fun id e s l z h => ?_⟩
 ·obtain⟨rfl,h2⟩:=nK h
  cases h2
  obtain⟨arr,e,h1,h2,h3⟩:=hR.cells i l hi
  refine⟨arr,e,h1,?_⟩
  exact A3 (x:=x) (y:=x.only i (l.map DV.aQ)) (fun b o h=>⟨h,rfl⟩) hl ⟨h2,h3⟩
 ·exact nomatch (nK h).2
 ·obtain⟨-,rfl⟩:=nK h
  cases hb
 ·obtain⟨b,hb,-⟩:=hj
  obtain⟨c,hc,-⟩:=hk
  rw[(nK hb).1,(nK hc).1]
 ·exact hR.sep i ⟨l,hi⟩ o hF
 ·exact nomatch (nK h).2
 ·exact nomatch (nK h).2
def Cx.back (x y:Cx) (i:Nat) (l':List DV):Cx:={ w:=y.w,μ:=x.μ,κ:=x.κ,Fz:=y.Fz,S:=x.S.set i (.cells l') }
theorem lI {S:av} {i k:Nat} {b c d:DB} (hi:S[i]? = some d) (h:(S.set i c)[k]? = some b):(k=i∧b=c)∨(k≠i∧S[k]? = some b):=by
 rw[aP] at h
 split at h
 ·rename_i he
  subst he
  rw[if_pos (aJ.1 hi).1] at h
  cases h
  exact .inl ⟨rfl,rfl⟩
 ·rename_i he
  exact .inr ⟨fun e=>he e.symm,h⟩
theorem sx {S:av} {i k:Nat} {c:DB} (h:k≠i):(S.set i c)[k]? = S[k]? := by
 rw[aP,if_neg fun e=>h e.symm]
theorem LX {S:av} {i:Nat} {c d:DB} (hi:S[i]? = some d):(S.set i c)[i]? = some c:=by
 rw[aP,if_pos rfl,if_pos (aJ.1 hi).1]
theorem rz (hR:Rel x) (hi:x.S[i]? = some (.cells l)) (M:cr (x.only i l0) y) {id:Nat} {b:DB} {o:Obj} (hb:x.S[id]? = some b) (hne:b ≠ .none) (hid:id≠i) (ho:x.w.heap[x.μ id]? = some o):y.w.heap[x.μ id]? = x.w.heap[x.μ id]? := by
 refine M.old _ (aN.1 ho).1 fun k _ he => ?_
 exact hid (hR.inj i id ⟨_,hi,by simp⟩ ⟨b,hb,hne⟩ he).symm
theorem CM (hR:Rel x) (hi:x.S[i]? = some (.cells l)) (M:cr (x.only i l0) y):cr x (x.back y i l') where
 size:=M.size
 env:=M.env
 fz:=M.fz
 Ld:=fun b o h=>(M.Ld b o h).imp id fun h=>h.imp id fun⟨k,_,he⟩=>⟨i,⟨_,hi,by simp⟩,he⟩
 old:=fun b hb hn=>M.old b hb fun k _ he=>hn i ⟨_,hi,by simp⟩ he
 len:=by simp[Cx.back]
 cells:=fun id l2 h=>⟨rfl,by
  by_cases he:id=i
  ·subst he; exact⟨l',LX hi⟩
  ·exact⟨l2,(sx he).trans h⟩⟩
 eB:=fun id b h hb=>by
  have he:id≠i:=by rintro rfl; rw[hi] at h; cases h; cases hb
  obtain⟨o,ho,-⟩:=hR.eB id b h hb
  exact⟨rfl,⟨b,(sx he).trans h,eX hb⟩,fun _=>rz hR hi M h (fR hb) he ho⟩
 en:=fun t e s n h=>by
  have he:t≠i:=by rintro rfl; rw[hi] at h; cases h
  exact⟨n,(sx he).trans h,ai _,fun _=>⟨rfl,rfl⟩⟩
 live:=fun k ⟨b,hb,hne⟩ => .inl ⟨by
  rcases lI hi hb with ⟨rfl,-⟩ | ⟨-,h⟩
  ·exact⟨_,hi,by simp⟩
  ·exact⟨b,h,hne⟩,rfl⟩
 ops:=fun t e s l z h=>by
  have he:t≠i:=by rintro rfl; rw[hi] at h; cases h
  exact⟨l,z,(sx he).trans h,ai _,fun e=>⟨rfl,e⟩,fun _=>⟨rfl,rfl⟩⟩
theorem Qu (hR:Rel x) (hi:x.S[i]? = some (.cells l)) (HK:Rel y) (M:cr (x.only i l0) y) (hy:y.S[0]? = some (.cells l')) (js:(l'.map DV.aQ).all DV.bS=true):Rel (x.back y i (l'.map DV.aQ)):=by
 have MB:=CM (l':=l'.map DV.aQ) hR hi M
 have hμ:y.μ 0=x.μ i:=(M.cells 0 l0 rfl).1
 have hF:∀ b o,y.Fz b o→x.Fz b o∨x.w.heap.size≤b∨b=x.μ i:=fun b o h=>(M.Ld b o h).imp id fun h=>h.imp id fun⟨_,_,he⟩=>he.symm
 refine⟨fun id l2 h => ?_,fun id e s n h => ?_,fun id b h hb => ?_,fun j k hj hk he => ?_,HK.yP,fun id h o hf => ?_,fun id e s n h o hf => ?_,fun id e s l1 z h => ?_⟩
 ·rcases lI hi h with ⟨rfl,h2⟩ | ⟨he,h2⟩
  ·cases h2
   obtain⟨arr,e,h1,h2,h3⟩:=HK.cells 0 l' hy
   exact⟨arr,e,by rw[hμ] at h1; exact h1,A3 (x:=y) (y:=x.back y id (l'.map DV.aQ)) (fun b o h=>⟨h,rfl⟩) js ⟨h2,h3⟩⟩
  ·obtain⟨arr,e,h1,h3,h4⟩:=hR.cells id l2 h2
   exact⟨arr,e,(rz hR hi M h2 (by simp) he h1).trans h1,h3,fun j c hc=>(h4 j c hc).mono MB⟩
 ·rcases lI hi h with ⟨rfl,h2⟩ | ⟨he,h2⟩
  ·cases h2
  ·obtain⟨arr,h1,h3⟩:=hR.en id e s n h2
   exact⟨arr,(rz hR hi M h2 (by simp) he h1).trans h1,h3⟩
 ·rcases lI hi h with ⟨rfl,h2⟩ | ⟨he,h2⟩
  ·subst h2; cases hb
  ·obtain⟨o,h1,h3⟩:=hR.eB id b h2 hb
   exact⟨o,(rz hR hi M h2 (fR hb) he h1).trans h1,h3.mono MB⟩
 ·have lv:∀ {k},Live (x.back y i (l'.map DV.aQ)).S k→Live x.S k:=fun {k} ⟨b,hb,hne⟩=>by
   rcases lI hi hb with ⟨rfl,-⟩ | ⟨-,h⟩
   ·exact⟨_,hi,by simp⟩
   ·exact⟨b,h,hne⟩
  exact hR.inj j k (lv hj) (lv hk) he
 ·obtain⟨l2,h⟩:=h
  obtain⟨l3,h3⟩:∃ l3,x.S[id]? = some (.cells l3):=by
   rcases lI hi h with ⟨rfl,-⟩ | ⟨-,h2⟩
   ·exact⟨l,hi⟩
   ·exact⟨l2,h2⟩
  obtain⟨arr,e,h4,-⟩:=hR.cells id l3 h3
  rcases hF _ _ hf with h5 | h5 | h5
  ·exact hR.sep id ⟨l3,h3⟩ o h5
  ·have:=(aN.1 h4).1
   change x.w.heap.size≤x.μ id at h5
   omega
  ·refine HK.sep 0 ⟨l',hy⟩ o ?_
   rw[hμ,← h5]
   exact hf
 ·rcases lI hi h with ⟨rfl,h2⟩ | ⟨he,h2⟩
  ·cases h2
  ·obtain⟨arr,h4,-⟩:=hR.en id e s n h2
   rcases hF _ _ hf with h5 | h5 | h5
   ·exact hR.ox id e s n h2 o h5
   ·have:=(aN.1 h4).1
    change x.w.heap.size≤x.μ id at h5
    omega
   ·exact absurd (hR.inj id i ⟨_,h2,by simp⟩ ⟨_,hi,by simp⟩ h5) he
 ·rcases lI hi h with ⟨rfl,h2⟩ | ⟨he,h2⟩
  ·cases h2
  ·obtain⟨arr,h4,h3,h6,h7,h8,h9,wB⟩:=hR.ops id e s l1 z h2
   refine⟨arr,(rz hR hi M h2 (by simp) he h4).trans h4,h3,h6,h7,fun j c hc=>⟨(h8 j c hc).1,(h8 j c hc).2.mono MB⟩,fun hz j hj=>(M.fz _ _ (h9 hz j hj)).1,fun hz o hf => ?_⟩
   rcases hF _ _ hf with h5 | h5 | h5
   ·exact wB hz o h5
   ·have:=(aN.1 h4).1
    change x.w.heap.size≤x.μ id at h5
    omega
   ·exact absurd (hR.inj id i ⟨_,h2,by simp⟩ ⟨_,hi,by simp⟩ h5) he
theorem Jf {f:FuncId} {off:Nat} {rest:List DV} {vals:Array Value} {v:DV} (hR:Rel x) (hi:x.S[i]? = some (.cells l)) (hp:(rest.map DV.strip).all DV.pure=true) (ha:gD x (.ptr i off::rest) vals)
  (h:gD (x.only i l0) (.ptr 0 off::rest.map DV.strip) vals→eH P aa (x.only i l0) f vals fun y u=>y.S = .cells l'::T∧Rel y∧cr (x.only i l0) y∧RV y v u) (js:(l'.map DV.aQ).all DV.bS=true) (hv:v.strip.pure=true) :
  eH P aa x f vals fun z u=>z.S=x.S.set i (.cells (l'.map DV.aQ))∧Rel z∧cr x z∧RV z v.strip u:=by
 have ha':gD (x.only i l0) (.ptr 0 off::rest.map DV.strip) vals:=by
  refine⟨by simpa using ha.1,fun j c hc => ?_⟩
  cases j with
  | zero =>
   simp only[List.getElem?_cons_zero,az] at hc
   subst hc
   have:=ha.2 0 _ rfl
   generalize vals.getD 0 undef=u at this
   cases this with
   | ptr _=>exact RV.ptr (x:=x.only i l0) (id:=0) (l:=l0) rfl
  | succ j =>
   exact L0 (x:=x) (y:=x.only i l0) (fun b o h=>⟨h,rfl⟩) hp (by simpa using hc) fun c' h1=>ha.2 (j+1) c' (by simpa using h1)
 obtain⟨h1,h2⟩:=h ha'
 refine⟨h1,fun fr cs hn=>h2 fr cs fun y u ⟨q1,q2,q3,q4⟩ => ?_⟩
 have hy:y.S[0]? = some (.cells l'):=by rw[q1]; rfl
 exact hn (x.back y i (l'.map DV.aQ)) u ⟨rfl,Qu hR hi q2 q3 hy js,CM hR hi q3,q4.strip.pure_mono (x:=y) (y:=x.back y i (l'.map DV.aQ)) (fun b o h=>⟨h,rfl⟩) hv⟩
theorem Ry {call:bM} (hc:jL P aa call):jL P aa (JU call):=by
 intro f args S v S' h x vals hR hS ha
 subst hS
 unfold JU at h
 split at h
 ·rename_i i v1 l1 ho
  cases h
  unfold xO at ho
  split at ho
  ·rename_i i off rest
   split at ho
   ·rename_i l hi
    split at ho
    ·rename_i NB
     simp only[aG] at NB
     split at ho
     ·rename_i v2 l' T nB
      split at ho
      ·rename_i hq
       simp only[aG] at hq
       cases ho
       exact Jf (l0:=l.map DV.aQ) hR hi NB.1 ha (fun Jz=>hc _ _ _ _ _ nB (x.only _ _) vals (Qs hR hi NB.2) rfl Jz) hq.2 hq.1
      ·cases ho
     ·cases ho
    ·cases ho
   ·cases ho
  ·cases ho
 ·exact hc _ _ _ _ _ h x vals hR rfl ha
end Go.Di
end
section
namespace Go.Di
open Go Go.Conc Go.Co
open Go.ConcN (upd upd_same upd_ne)
variable {P:Program} {aa:Machine→Trace→Prop} {ty:gF} {x:Cx} {aI:bP} {call:bM} {yf:eW}
structure JX (ops:Array Oper) (M:Nat→av) (F:Nat→dh) (L:Nat→Bool) (S:av):Prop where
 get:∀ id,S[id]? = lG (fun j=>touch F j id) (fun j=>(M (j+1))[id]?) ((M 0)[id]?) L ops.size
 len:S.length=lG (top F) (fun j=>(M (j+1)).length) (M 0).length L ops.size
theorem Rm {ops:Array Oper} {n0:Nat} {E:Nat→List DV} {V:Nat→DV} {M:Nat→av} {F:Nat→dh} (h:OT P ty aI call yf ops n0 E V M F) (oN:FK ops) (Xy:∀ i j,i<ops.size→j<ops.size→i≠j→(F i).meets (F j)=true→((Region.before ops).getD j 0).testBit i=true∨((Region.before ops).getD i 0).testBit j=true)
  {L:Nat→Bool} (hL:Closed ops L) {i:Nat} {o:Oper} (ho:ops[i]? = some o) (hi:L i=false) (uP:∀ e∈o.after,Region.binds .any e=true→L e.on=true) {T:av} (hT:JX ops M F L T) (hw:bY ops (E i) o=true) :
  ∃ T',aH P ty aI call yf (iB (E i)) o T (n0+i)=some (V i,T',F i)∧JX ops M F (upd L i true) T':=by
 have ZG:i<ops.size:=(aN.1 ho).1
 have hs:=h.yes i o ho hw
 have Xl:∀ j,j<ops.size→j≠i→(F i).meets (F j)=true→(L j=true↔j<i):=fun j hj hne hm=>Kt oN hL ho hi uP (Ne.symm hne) (Xy i j ZG hj (Ne.symm hne) hm)
 have up1:∀ j,j<ops.size→(j≠i→(F i).meets (F j)=true)→(upd L i true j=true↔j<i+1):=by
  intro j hj hm
  by_cases gb:j=i
  ·subst gb; simp[upd_same]
  ·rw[upd_ne _ _ gb,Xl j hj gb (hm gb)]; omega
 have at1:∀ id,(∀ j,j<ops.size→j≠i→touch F j id=true→(F i).meets (F j)=true)→T[id]? = (M i)[id]? := by
  intro id hm
  rw[hT.get id,(run_store h id i (by omega)).1]
  refine gH (by omega) fun j hj ht => ?_
  by_cases gb:j=i
  ·subst gb; simp[hi]
  ·exact Xl j hj gb (hm j hj gb ht)
 have acK:(∀ j,j<ops.size→j≠i→top F j=true→(F i).meets (F j)=true)→T.length=(M i).length:=by
  intro hm
  rw[hT.len,(run_store h 0 i (by omega)).2]
  refine gH (by omega) fun j hj ht => ?_
  by_cases gb:j=i
  ·subst gb; simp[hi]
  ·exact Xl j hj gb (hm j hj gb ht)
 have tch:∀ j id,touch F j id=true→(F j).wr=true∧((F j).ids=none∨∃ l,(F j).ids=some l∧id∈l):=by
  intro j id ht
  unfold touch at ht
  simp only[aG] at ht
  refine⟨ht.1,?_⟩
  cases oO:(F j).ids with
  | none=>exact .inl rfl
  | some l=>rw[oO] at ht; exact .inr ⟨l,rfl,by simpa using ht.2⟩
 have tp:∀ j,top F j=true→(F j).wr=true∧(F j).ids=none:=by
  intro j ht
  unfold top at ht
  simpa using ht
 cases oO:(F i).ids with
 | none =>
  have Zw:=PB hs oO
  have eL:∀ j id,touch F j id=true→(F i).meets (F j)=true:=by
   intro j id ht
   obtain⟨h1,h2⟩:=tch j id ht
   unfold dh.meets
   rw[Zw,oO]
   rcases h2 with h2 | ⟨l,h2,h3⟩
   ·simp[h2]
   ·simp[h2]
    exact List.ne_nil_of_mem h3
  have hTM:T=M i:=mK fun id=>at1 id fun j _ _ ht=>eL j id ht
  subst hTM
  refine⟨M (i+1),hs,⟨fun id => ?_,?_⟩⟩
  ·have ht:touch F i id=true:=by simp[touch,Zw,oO]
   rw[gH (i:=i+1) (by omega) fun j hj Wx=>up1 j hj fun _=>eL j id Wx,uz (W:=fun j=>touch F j id) ht]
  ·have ht:top F i=true:=by simp[top,Zw,oO]
   rw[gH (i:=i+1) (by omega) fun j hj Wx=>up1 j hj fun _=>by
    obtain⟨h1,h2⟩:=tp j Wx
    simp[dh.meets,Zw,oO,h2],uz (W:=top F) ht]
 | some l =>
  obtain⟨w,w1,w2,w3⟩:=PC hs oO
  have RO:∀ j id,id∈l→touch F j id=true→(F i).meets (F j)=true:=by
   intro j id hid ht
   obtain⟨h1,h2⟩:=tch j id ht
   unfold dh.meets
   rw[h1,oO]
   rcases h2 with h2 | ⟨l',h2,h3⟩
   ·simp[h2]
    exact List.ne_nil_of_mem hid
   ·simp[h2]
    exact⟨id,hid,h3⟩
  have hlen:l≠[]→T.length=(M i).length:=fun hne=>acK fun j hj gb ht=>by
   obtain⟨h1,h2⟩:=tp j ht
   simp[dh.meets,h1,oO,h2,hne]
  have hrun:=w3 T hlen fun id hid=>at1 id fun j _ _ ht=>RO j id hid ht
  have aaA:∀ k b,w=some (k,b)→k<T.length:=fun k b hw=>by
   obtain⟨q1,q2,q3⟩:=w2 k b hw
   rw[hlen (List.ne_nil_of_mem q1)]
   exact q3
  refine⟨appW w T,hrun,⟨fun id => ?_,?_⟩⟩
  ·cases ht:touch F i id with
   | true =>
    obtain⟨h1,h2⟩:=tch i id ht
    have hid:id∈l:=by
     rcases h2 with h2 | ⟨l',h2,h3⟩
     ·rw[oO] at h2; cases h2
     ·rw[oO] at h2; cases h2; exact h3
    rw[gH (i:=i+1) (by omega) fun j hj Wx=>up1 j hj fun _=>RO j id hid Wx,uz (W:=fun j=>touch F j id) ht,w1]
    rw[zn aaA,zn fun k b hw=>(w2 k b hw).2.2]
    have:=at1 id fun j _ _ Wx=>RO j id hid Wx
    cases w with
    | none=>exact this
    | some p=>simp only[this]
   | false =>
    rw[lK (W:=fun j=>touch F j id) ht,← hT.get id,zn aaA]
    cases w with
    | none=>rfl
    | some p =>
     obtain⟨k,b⟩:=p
     obtain⟨q1,q2,q3⟩:=w2 k b rfl
     have hne:id≠k:=by
      rintro rfl
      simp[touch,q2,oO,q1] at ht
     simp[hne]
  ·have ht:top F i=false:=by simp[top,oO]
   rw[lK (W:=top F) ht,K6]
   exact hT.len
def Cx.pad (x:Cx) (n:Nat):Cx:={ x with S:=x.S++List.replicate n .none }
theorem mA {S:av} {n id:Nat} {b:DB} (h:(S++List.replicate n DB.none)[id]? = some b) (hb:b ≠ .none):S[id]? = some b:=by
 rw[pX] at h
 split at h
 ·exact h
 ·rw[mN] at h
  split at h
  ·cases h; exact absurd rfl hb
  ·cases h
theorem vG {S:av} {n id:Nat} {b:DB} (h:S[id]? = some b):(S++List.replicate n DB.none)[id]? = some b:=by
 rw[eG (aJ.1 h).1]; exact h
theorem vH (x:Cx) (n:Nat):cr x (x.pad n) :=
 ⟨ai _,⟨rfl,rfl⟩,fun _ _ h=>⟨h,rfl⟩,fun _ _ h => .inl h,fun _ _ _=>rfl,by simp[Cx.pad],fun _ l h=>⟨rfl,l,vG h⟩,fun _ b h hb=>⟨rfl,⟨b,vG h,eX hb⟩,fun _=>rfl⟩,fun _ _ _ n h=>⟨n,vG h,ai _,fun _=>⟨rfl,rfl⟩⟩,fun _ ⟨b,h,hb⟩ => .inl ⟨⟨b,mA h hb,hb⟩,rfl⟩,fun _ _ _ l z h=>⟨l,z,vG h,ai _,fun e=>⟨rfl,e⟩,fun _=>⟨rfl,rfl⟩⟩⟩
theorem T9 (hR:Rel x) (n:Nat):Rel (x.pad n) where
 cells:=fun id l hl=>by
  obtain⟨arr,e,h1,h2,h3⟩:=hR.cells id l (mA hl (by simp))
  exact⟨arr,e,h1,h2,fun j c hc=>(h3 j c hc).mono (vH x n)⟩
 en:=fun id e s m hl=>hR.en id e s m (mA hl (by simp))
 eB:=fun id b hl hb=>by
  obtain⟨o,h1,h2⟩:=hR.eB id b (mA hl (fR hb)) hb
  exact⟨o,h1,h2.mono (vH x n)⟩
 inj:=fun i j ⟨b,h,hb⟩ ⟨c,k,kb⟩ he=>hR.inj i j ⟨b,mA h hb,hb⟩ ⟨c,mA k kb,kb⟩ he
 yP:=hR.yP
 sep:=fun id ⟨l,hl⟩=>hR.sep id ⟨l,mA hl (by simp)⟩
 ox:=fun id e s m hl=>hR.ox id e s m (mA hl (by simp))
 ops:=fun id e s l z hl=>by
  obtain⟨arr,h1,h2,h3,h4,h5,h6⟩:=hR.ops id e s l z (mA hl (by simp))
  exact⟨arr,h1,h2,h3,h4,fun j c hc=>⟨(h5 j c hc).1,(h5 j c hc).2.mono (vH x n)⟩,h6⟩
theorem IP (hP:Plain P) (eC:jl P ty) (hc:jL P aa call) (hi:xZ P aa aI) (HD:xY P aa yf) {ops:Array Oper} {b:Frame} {k:List Item} {cs:List Frame} (hk:b.kind ≠ .early) (Dl:j8 ops (Region.before ops)=true)
  {env aC:List DV} {S':av} {fs:List dh} {n0:Nat} {a:Act} (h:qv P ty aI call yf ops n0 ops.toList 0 env x.S=some (aC,S',fs)) (hmt:qL (Region.before ops) fs=true) (hR:Rel x) (he:gD x env a.tmps)
  (hn:∀ y a',y.S=S'→Rel y→cr x y→gD y aC a'.tmps→a'.defers=a.defers→ia P aa () (G (b.atR a' k) cs) y.w) (t:Nat):ia P aa () (G (b.atR a (.inRegion ops (Region.linearise .any ops t)::k)) cs) x.w:=by
 have oN:=Ga Dl
 obtain⟨E,V,M,F,hrun,e1,e2,e3,e4,e5⟩:=Yy h
 have Xy:∀ i j,i<ops.size→j<ops.size→i≠j→(F i).meets (F j)=true→((Region.before ops).getD j 0).testBit i=true∨((Region.before ops).getD i 0).testBit j=true:=fun i j hi hj hne hm=>YQ hmt (e5 i hi) (e5 j hj) hne hm
 have eZ:∀ {α:Type} (W:Nat→Bool) (R:Nat→α) (d:α) n,lG W R d (fun _=>false) n=d:=by
  intro α W R d n
  induction n with
  | zero=>rfl
  | succ n ih=>unfold lG; simp[ih]
 refine tD oN (σ:=Act×Cx) (fun todo s=>Rel s.2→cr x s.2→s.1.defers=a.defers→ia P aa () (G (b.atR s.1 (.inRegion ops todo::k)) cs) s.2.w)
  (fun L s=>JX ops M F L s.2.S∧∃ oA,gD s.2 oA s.1.tmps∧Ct ops V L ops.size (E 0) oA) ?_ ?_ t (a,x) ⟨⟨fun id=>by rw[eZ,e3],by rw[eZ,e3]⟩,env,he,fun t => ?_⟩ hR (cr.refl x) rfl
 ·rintro L ⟨a1,y⟩ i o ⟨Hv,oA,wq,Su⟩ sQ ho hLi uP rest zU HK NK HI
  simp only at wq HK NK HI Hv ⊢
  obtain⟨q1,q2⟩:=yg oN Dl hrun.env sQ Su ho hLi uP
  have hw:=vO q1
  have RI:=wV wq ops o
  have hE2:=C5 (V:=V) ho Su q2
  by_cases Wu:bY ops (E i) o=true
  ·obtain⟨T',hT1,hT2⟩:=Rm hrun oN Xy sQ ho hLi uP Hv Wu
   rw[← EC (C3 q1)] at hT1
   obtain⟨sU,SM,hstep⟩:=UM hT1
   refine Ot hP eC (Ry hc) hi HD hk ho (by rw[RI,hw]; exact Wu) HK SM wq hstep fun z u zS zR zM zV => ?_
   have ni:=wK (wq.mono zM) (dst:=o.dst) zV
   exact zU (a1.put o.dst u,z) ⟨by rw[zS]; exact hT2,_,ni.1,hE2⟩ zR (NK.trans zM) (ni.2.trans HI)
  ·have Wv:bY ops (E i) o=false:=by simpa using Wu
   obtain⟨hv,hM,hF⟩:=hrun.no i o ho Wv
   have ni:=wK wq (dst:=o.dst) (d:=V i) (v:=undef) (by rw[hv]; exact .val rfl)
   have adn:JX ops M F (upd L i true) y.S:=by
    refine⟨fun id => ?_,?_⟩
    ·rw[lK (W:=fun j=>touch F j id) (by simp[touch,hF])]; exact Hv.get id
    ·rw[lK (W:=top F) (by simp[top,hF])]; exact Hv.len
   exact fe hP (fun w=>⟨_,rH ho (by rw[RI,hw]; exact Wv)⟩) (zU (a1.put o.dst undef,y) ⟨adn,_,ni.1,hE2⟩ HK NK (ni.2.trans HI))
 ·rintro L ⟨a1,y⟩ ⟨Hv,oA,wq,Su⟩ eL HK NK HI
  have ac8:oA=aC:=by
   refine mK fun t => ?_
   rw[Su t,← e2,yX hrun.env ops.size (ai _) t]
   congr 1
   funext d
   rw[jX (i:=ops.size) (ai _) fun j hj _=>by simp[eL j hj,hj]]
  have acP:y.S=S':=by
   refine mK fun id => ?_
   have:=Hv.get id
   simp only at this
   rw[this,← e4,(run_store hrun id ops.size (ai _)).1]
   exact gH (ai _) fun j hj _=>by simp[eL j hj,hj]
  subst ac8
  exact fe hP (fun w=>⟨_,oG⟩) (hn y a1 acP HK NK wq HI)
 ·rw[e1]
  have:∀ n,lF ops V (fun _=>false) t n=none:=by
   intro n
   induction n with
   | zero=>rfl
   | succ n ih=>unfold lF; simp[ih]
  rw[this]
  simp
theorem O9 (hP:Plain P) (hm:P.follows .mixedOrders=true) (eC:jl P ty) (hc:jL P aa call) (hi:xZ P aa aI) (HD:xY P aa yf) (id:Nat) (ops:Array Oper) (draw:Bool):vc P aa ty aI call yf id ops draw:=by
 cases draw with
 | false=>exact Md hP eC hc hi HD id ops
 | true =>
  intro env aC S' x a b k cs h hk hR he hn
  simp only[nX,if_true] at h
  split at h
  ·cases h
  ·rename_i hd
   have Dl:j8 ops (Region.before ops)=true:=by simpa using hd
   refine ij hP fun n => ?_
   refine⟨_,_,_,_,IU hm,?_⟩
   split at h
   ·rename_i oA h1
    cases h
    split at h1
    ·cases h1
    exact IQ (x:=x.dr _) hP eC hc hi HD hk Dl h1 (hR.dr _) (he.mono (eE x _)) (fun y a' q1 q2 q3 q4 q5=>hn y a' q1 q2 ((eE x _).trans q3) q4 q5) _
   ·split at h
    ·rename_i oA S1 fs h1
     split at h
     ·rename_i hmt
      cases h
      have M1:=(eE x ((x.w.at n).drawn+1)).trans (vH _ ops.size)
      exact IP (x:=(x.dr ((x.w.at n).drawn+1)).pad ops.size) hP eC hc hi HD hk Dl h1 hmt (T9 (hR.dr _) _) (he.mono M1) (fun y a' q1 q2 q3 q4 q5=>hn y a' q1 q2 (M1.trans q3) q4 q5) _
     ·cases h
    ·cases h
def qO (P:Program) (aa:Machine→Trace→Prop) (bF:bP):Prop :=
 ∀ f args v,bF f args=some v→args.all DV.pure=true→v.pure=true→∀ x vals,Rel x→gD x args vals→eH P aa x f vals fun y u=>y.S=x.S∧Rel y∧cr x y∧RV y v u
theorem Iq {bF:bP} (ht:qO P aa bF) (hc:jL P aa call):xZ P aa (j6 bF call):=by
 intro f args v h hp
 unfold j6 at h
 split at h
 ·rename_i v' h1
  split at h
  ·rename_i hv
   cases h
   exact⟨hv,ht f args v h1 hp hv⟩
  ·cases h
 ·split at h
  ·rename_i v' S' h1
   split at h
   ·rename_i hv
    cases h
    refine⟨hv,fun x vals hR ha => ?_⟩
    have ha':gD x.bare args vals:=⟨ha.1,fun j c hj=>(ha.2 j c hj).pure_mono (x:=x) (y:=x.bare) (fun b o h=>⟨h,rfl⟩) (bh.1 hp c (dL hj))⟩
    obtain⟨h2,h3⟩:=hc f args [] v' S' h1 x.bare vals hR.bare rfl ha'
    refine⟨h2,fun fr cs hn=>h3 fr cs fun y0 u ⟨p1,p2,p3,p4⟩ => ?_⟩
    obtain⟨y,r1,r2,q2,r4⟩:=Pv p2 v'
    have q3:=p3.trans r4
    have q4:RV y (kJ (sX S' v') v') u:=by
     rw[← p1,← r2]
     exact look_ok q2 (p4.mono r4)
    have hb:=hR.behind q3 q2
    rw[← r1]
    exact hn (x.behind y) u ⟨rfl,hb,yh hR q3,q4.strip.pure_mono (x:=y) (y:=x.behind y) (fun b o h=>⟨h,rfl⟩) hv⟩
   ·cases h
  ·cases h
theorem AQ (hP:Plain P) (hm:P.follows .mixedOrders=true) (eC:jl P ty) {bF:bP} (ht:qO P aa bF) {L:Nat}:∀ n,jL P aa (dG P ty bF L n).1∧xY P aa (dG P ty bF L n).2
 | 0=>⟨fun f args S v S' h=>by simp[dG] at h,fun id args S v S' h=>by simp[dG] at h⟩
 | n+1=>by
  obtain⟨Va,ihy⟩:=AQ hP hm eC ht (L:=L) n
  have hi:=Iq ht Va
  have kH:∀ id ops draw,vc P aa ty (j6 bF (dG P ty bF L n).1) (dG P ty bF L n).1 (dG P ty bF L n).2 id ops draw:=fun id ops draw=>O9 hP hm eC Va hi ihy id ops draw
  refine⟨fun f args S v S' h x vals hR hS ha => ?_,L6 hP Va kH⟩
  simp only[dG] at h
  split at h
  ·rename_i fn hf
   exact RA hP eC Va kH hf h hR hS ha
  ·cases h
end Go.Di
end
