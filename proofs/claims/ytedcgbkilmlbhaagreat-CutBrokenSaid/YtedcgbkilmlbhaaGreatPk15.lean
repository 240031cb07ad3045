import Derived.Test.YtedcgbkilmlbhaaGreatPk14
section
namespace Go.Di
open Go
variable {P:Program} {ty:eV} {x:Cx} {w':World} {aD:bn} {call:aW}
def Yields (x:Cx) (r:Result Next) (d:DV) (S':ak):Prop:=∃ v y,(r = .ok (.value v) y.w∨(r = .ok .skip y.w∧v=undef))∧y.S=S'∧Rel y∧bk x y∧RV y d v
theorem eP {s:Sem Value} {d:DV} {S':ak} {v:Value} {y:Cx} (h:s.run P x.w = .ok v y.w) (h1:y.S=S') (h2:Rel y) (h3:bk x y) (h4:RV y d v):Yields x ((do pure (.value (← s)):Sem Next).run P x.w) d S' :=
 ⟨v,y,.inl (by simp[h]),h1,h2,h3,h4⟩
theorem aL {s:Sem Value} {d:DV} {v:Value} (hR:Rel x) (h:s.run P x.w = .ok v x.w) (h4:RV x d v):Yields x ((do pure (.value (← s)):Sem Next).run P x.w) d x.S:=eP h rfl hR (bk.refl x) h4
theorem Ee {s:Sem Unit} {S':ak} {y:Cx} (h:s.run P x.w = .ok () y.w) (h1:y.S=S') (h2:Rel y) (h3:bk x y):Yields x ((do s; pure .skip:Sem Next).run P x.w) aP S' :=
 ⟨undef,y,.inr ⟨by simp[h],rfl⟩,h1,h2,h3,.val rfl⟩
theorem kJ {s:Sem Value} {d:DV} (h:gO P s=some d) (w:World):∃ v,s.run P w = .ok v w∧RV x d v:=by
 unfold gO at h
 simp only[Option.bind_eq_some_iff] at h
 obtain⟨v,h1,h2⟩:=h
 exact⟨v,kI h1 w,tT h2⟩
def gT (P:Program) (ty:eV):Prop:=∀ t d,ty t=some d→xK P t=some d
variable {ρd:Operand→Option DV} {ρ:Operand→Value} {o:Oper} {aA:Nat}
def s7 (x:Cx) (ρd:Operand→Option DV) (ρ:Operand→Value):Prop:=∀ a d,ρd a=some d→RV x d (ρ a)
theorem dO (hρ:s7 x ρd ρ) {a:Operand} {v:Value} (h:valOf ρd a=some v):ρ a=v:=by
 unfold valOf at h
 simp only[Option.bind_eq_some_iff] at h
 obtain⟨d,h1,h2⟩:=h
 exact Eu (hρ a d h1) h2
theorem jK (hρ:s7 x ρd ρ) {a:Operand} {n:Int} (h:intOf ρd a=some n):∃ k,ρ a = .int k n:=by
 unfold intOf at h
 split at h
 ·rename_i k m h1
  cases h
  exact⟨k,jS (hρ a _ h1)⟩
 ·cases h
theorem rO (hρ:s7 x ρd ρ):∀ {l:List Operand} {r:List DV},evs ρd l=some r→dR x r (l.map ρ).toArray
 | [],r,h=>by simp only[evs,Option.some.injEq] at h; subst h; exact⟨rfl,by simp⟩
 | a::l,r,h=>by
  unfold evs at h
  split at h
  ·rename_i d r' h1 h2
   cases h
   obtain⟨h3,h4⟩:=rO hρ h2
   refine⟨by simpa using h3,fun j c hc => ?_⟩
   cases j with
   | zero=>simp only[List.getElem?_cons_zero,Option.some.injEq] at hc; subst hc; exact hρ a _ h1
   | succ j=>simpa [Array.getD_eq_getD_getElem?] using h4 j c (by simpa using hc)
  ·cases h
theorem OA (dh:gT P ty) (hR:Rel x) (hn:AJ x.S aA) {e:TypeId} {k:TK} {sz:Nat} {z:List DV} (h:ty e=some ⟨k,sz,some z⟩) :
  Yields x ((do pure (.value (← Instr.alloc e true (.tuple #[]))):Sem Next).run P x.w) (.ptr aA 0) (de x.S aA (.cells z)):=by
 obtain⟨-,i,hi,-,hz⟩:=bh (dh e _ h)
 obtain⟨zv,h1,h2,-⟩:=gC hz
 obtain⟨h3,h4⟩:=fu (x:=x) h2
 have hp:kP x.w (x.w.alloc (.cells zv.cells e)) (.cells zv.cells e (0,0)):=ez _ _
 have jQ:=jj (k:=0) (F:=fun _=>False) (b := .cells z) hR hn hp (by simp) (.inl ⟨z,zv.cells,e,rfl,rfl,by simpa using h3,by simp,fun j c hc=>by simpa [Array.getD_eq_getD_getElem?,List.getD_eq_getElem?_getD] using h4 j c hc⟩)
 refine eP (y:=x.fresh _ aA 0 (fun _=>False) (.cells z)) (v := .pointer (some ⟨x.w.heap.size,0,none⟩)) ?_ rfl jQ (gB hR hn hp) ?_
 ·simp[Instr.alloc,zeroValue,typeInfo,hi,h1,newVar,newRow,Cx.fresh]
 ·have:(x.fresh (x.w.alloc (.cells zv.cells e)) aA 0 (fun _=>False) (.cells z)).μ aA=x.w.heap.size:=if_pos rfl
  rw[← this]
  exact .ptr (l:=z) (by show (de _ _ _)[_]? = _; rw[aS hn.le,if_pos rfl])
theorem W5 (hR:Rel x) (hn:AJ x.S aA) {e:TypeId} {d:DV} {v:Value} (h:RV x d v) :
  Yields x ((do pure (.value (← Instr.box e v)):Sem Next).run P x.w) (.ptr aA 0) (de x.S aA (.cells d.cells)):=by
 obtain⟨h3,h4⟩:=oT h
 have hp:kP x.w (x.w.alloc (.cells v.cells e)) (.cells v.cells e (0,0)):=ez _ _
 have jQ:=jj (k:=0) (F:=fun _=>False) (b := .cells d.cells) hR hn hp (by simp) (.inl ⟨d.cells,v.cells,e,rfl,rfl,h3,by simp,h4⟩)
 refine eP (y:=x.fresh _ aA 0 (fun _=>False) (.cells d.cells)) (v := .pointer (some ⟨x.w.heap.size,0,none⟩)) ?_ rfl jQ (gB hR hn hp) ?_
 ·simp[Instr.box,newVar,newRow,Cx.fresh]
 ·have:(x.fresh (x.w.alloc (.cells v.cells e)) aA 0 (fun _=>False) (.cells d.cells)).μ aA=x.w.heap.size:=if_pos rfl
  rw[← this]
  exact .ptr (l:=d.cells) (by show (de _ _ _)[_]? = _; rw[aS hn.le,if_pos rfl])
theorem JD {rows:List DV} {b o s:Nat} {vs:Nat→Value} (hv:View x rows (some ⟨b,o,none⟩) s vs) (hr:∀ j c,(flat rows)[j]? = some c→RV x c (vs j)) {i:Nat} {r:DV} (h:rows[i]? = some r) :
  ∀ j c,r.cells[j]? = some c→∃ v,x.w.cell? ⟨b,o+i*s+j,none⟩=some v∧RV x c v:=by
 intro j c hc
 have hj:j<s:=by rw[← hv.1 r (List.mem_of_getElem? h)]; exact(List.getElem?_eq_some_iff.1 hc).1
 have hf:=yT hv.1 h hj
 rw[hc] at hf
 obtain⟨-,b',o',h1,-,h2⟩:=hv.2 _ _ hf
 cases h1
 exact⟨_,by rw[Nat.add_assoc]; exact h2,hr _ _ hf⟩
theorem EM (dh:gT P ty) (hR:Rel x) {t:TypeId} {a d:DV} {va:Value} (ha:RV x a va) (h:ic ty x.S t a=some d):∃ v,(Instr.loadAt t va).run P x.w = .ok v x.w∧RV x d v:=by
 unfold ic at h
 split at h
 ·rename_i td id off hk
  obtain⟨k,sz,z⟩:=td
  obtain⟨ow,i,hi,hs,-⟩:=bh (dh t _ hk)
  obtain⟨BQ,d0,hu⟩:=Ga ow
  split at h
  ·rename_i l hl
   obtain⟨arr,e,h1,h2,h3⟩:=hR.cells id l hl
   cases ha with
   | ptr _ =>
    have:=vr (x:=x) (b:=x.μ id) (o:=0) (l:=l) hi hu hs BQ.symm (fun j c hc => ?_) h
    ·obtain⟨v,h4,h5⟩:=this
     refine⟨v,?_,h5⟩
     simpa [Instr.loadAt,Instr.sureAddr] using h4
    ·have hj:j<arr.size:=by rw[h2]; exact(List.getElem?_eq_some_iff.1 hc).1
     refine⟨arr[j],?_,by simpa [Array.getD_eq_getD_getElem?,hj] using h3 j c hc⟩
     simp[World.cell?,h1,hj]
  ·cases h
 ·rename_i td rows i off hk
  obtain⟨k,sz,z⟩:=td
  obtain⟨ow,inf,hi,hs,-⟩:=bh (dh t _ hk)
  obtain⟨BQ,d0,hu⟩:=Ga ow
  split at h
  ·rename_i r hr
   cases ha with
   | @cU _ _ _ b o s vs hv K0 =>
    obtain⟨v,h4,h5⟩:=vr (x:=x) (b:=b) (o:=o+i*s) (l:=r.cells) hi hu hs BQ.symm (JD hv K0 hr) h
    refine⟨v,?_,h5⟩
    rw[Nat.add_assoc] at h4
    simpa [Instr.loadAt,Instr.sureAddr] using h4
  ·cases h
 ·rename_i td id n off hk
  obtain⟨k,sz,z⟩:=td
  obtain⟨ow,i,hi,hs,-⟩:=bh (dh t _ hk)
  obtain⟨BQ,d0,hu⟩:=Ga ow
  split at h
  ·rename_i e s l zz hop
   obtain⟨hS,BO⟩:=iT hop
   obtain⟨arr,h1,-,h2,-,h3,-⟩:=hR.ops id e s l zz hS
   cases ha with
   | dB xe HD hA =>
    rw[hS] at xe
    cases xe
    rw[hA BO]
    obtain⟨v,h4,h5⟩:=vr (x:=x) (b:=x.μ id) (o:=0) (l:=l) hi hu hs BQ.symm (fun j c hc=>by
     have hj:j<arr.size:=Nat.lt_of_lt_of_le (List.getElem?_eq_some_iff.1 hc).1 h2
     refine⟨arr[j],?_,by simpa [Array.getD_eq_getD_getElem?,hj] using (h3 j c hc).2⟩
     simp[World.cell?,h1,hj]) h
    exact⟨v,by simpa [Instr.loadAt,Instr.sureAddr] using h4,h5⟩
  ·cases h
 ·cases h
theorem JI (dh:gT P ty) (hR:Rel x) {t:TypeId} {a d:DV} {va vd:Value} {S':ak} (ha:RV x a va) (hd:RV x d vd) (h:kY ty x.S t a d=some S') :
  ∃ y,(Instr.storeAt t va vd).run P x.w = .ok () y.w∧y.S=S'∧Rel y∧bk x y:=by
 unfold kY at h
 split at h
 ·rename_i td id off hk
  obtain⟨k,sz,z⟩:=td
  obtain⟨ow,i,hi,hs,-⟩:=bh (dh t _ hk)
  split at h
  ·rename_i l hl
   split at h
   ·rename_i hc
    simp only[Bool.and_eq_true,decide_eq_true_eq] at hc
    simp only[Option.map_eq_some_iff] at h
    obtain⟨l',h6,rfl⟩:=h
    obtain⟨arr,e,h1,h2,h3⟩:=hR.cells id l hl
    have nC:=oT hd
    cases ha with
    | ptr _ =>
     have hp:=Iw ⟨h2,h3⟩ nC h6
     obtain⟨h7,h8⟩:=mS h6
     refine⟨x.upd id (arr.toList.take off++vd.cells.toList++arr.toList.drop (off+vd.cells.size)).toArray (fun _=>False) (.cells l'),?_,rfl,xu hR hl (.inl ⟨l,l',rfl,rfl,by simp,hp.1,hp.2⟩),o7 hR hl (.inl ⟨l,l',rfl,rfl⟩)⟩
     have hst:=run_storeCells_at P (x.μ id) off e vd.cells.toList 0 arr x.w h1 (by simp only[Nat.add_zero,Array.length_toList]; rw[nC.1,h2]; exact h7) (cells_one hd hc.2)
     simp only[Nat.add_zero,Array.length_toList] at hst
     have hsz:¬ (vd.cells.size≠i.size):=by rw[nC.1,hc.1,hs]; simp
     simp only[Instr.storeAt,Instr.sureAddr,Sem.run_bind,Sem.run_pure,Result.andThen_ok,storeVar,run_sizeOf hi,if_neg hsz]
     exact hst
   ·cases h
  ·cases h
 ·rename_i td id n off hk
  obtain⟨k,sz,z⟩:=td
  obtain⟨ow,i,hi,hs,-⟩:=bh (dh t _ hk)
  split at h
  ·rename_i e s l hop
   obtain⟨hS,BO⟩:=iT hop
   split at h
   ·rename_i hc
    simp only[Bool.and_eq_true,decide_eq_true_eq] at hc
    simp only[Option.map_eq_some_iff] at h
    obtain⟨l',h6,rfl⟩:=h
    obtain⟨arr,h1,h0,h2,hκ,h3,-,-⟩:=hR.ops id e s l false hS
    have zX:=hd.strip
    have nC:=oT zX
    cases ha with
    | dB xe HD hA =>
     rw[hS] at xe
     cases xe
     rw[hA BO]
     obtain⟨h7,h8⟩:=mS h6
     have hp:=CI (off:=off) h2 (fun j c hc=>(h3 j c hc).2) nC (by omega) (by omega)
     rw[← h8] at hp
     have P0:∀ c∈l',c.bt=true:=fun c hm=>by
      rw[h8] at hm
      rcases List.mem_append.1 hm with hm | hm
      ·rcases List.mem_append.1 hm with hm | hm
       ·obtain⟨j,hj⟩:=List.mem_iff_getElem?.1 (List.mem_of_mem_take hm)
        exact(h3 j c hj).1
       ·exact List.all_eq_true.1 hc.2 c hm
      ·obtain⟨j,hj⟩:=List.mem_iff_getElem?.1 (List.mem_of_mem_drop hm)
       exact(h3 j c hj).1
     have hll:l'.length=l.length:=by rw[h8]; simp; omega
     have Zs:(arr.toList.take off++vd.cells.toList++arr.toList.drop (off+vd.cells.size)).toArray.size=arr.size:=by
      have:=nC.1
      simp
      omega
     refine⟨x.upd id (arr.toList.take off++vd.cells.toList++arr.toList.drop (off+vd.cells.size)).toArray (fun _=>False) (.op e s l' false),?_,rfl,xu hR hS (.inr (.inr ⟨e,s,l,l',rfl,rfl,by omega,by simp,by rw[Zs]; exact h0,by rw[Zs]; omega,fun j c hj=>⟨P0 c (List.mem_of_getElem? hj),hp j c hj⟩⟩)),o7 hR hS (.inr (.inr ⟨e,s,l,l',rfl,rfl,by omega⟩))⟩
     have hst:=run_storeCells_at P (x.μ id) off e vd.cells.toList 0 arr x.w h1 (by simp only[Nat.add_zero,Array.length_toList]; rw[nC.1]; omega) (cells_one zX (List.all_eq_true.2 fun c hm=>J9 (List.all_eq_true.1 hc.2 c hm)))
     simp only[Nat.add_zero,Array.length_toList] at hst
     have hsz:¬ (vd.cells.size≠i.size):=by rw[nC.1,hc.1,hs]; simp
     simp only[Instr.storeAt,Instr.sureAddr,Sem.run_bind,Sem.run_pure,Result.andThen_ok,storeVar,run_sizeOf hi,if_neg hsz]
     exact hst
   ·cases h
  ·cases h
 ·cases h
end Go.Di
end
section
namespace Go.Di
open Go
variable {P : Program} {ty : eV} {x : Cx} {w' : World} {ρd : Operand → Option DV} {ρ : Operand → Value} {o : Oper} {aA : Nat}
theorem qW (off : Nat) : ∀ (cs : List Value) (i : Nat) (arr : Array Value), off + i + cs.length ≤ arr.size →
    ((cs.zipIdx i).foldl (fun a (p : Value × Nat) => a.setIfInBounds (off + p.2) p.1) arr) = (arr.toList.take (off + i) ++ cs ++ arr.toList.drop (off + i + cs.length)).toArray
  | [], i, arr, _ => by simp
  | c :: cs, i, arr, h => by
    simp only [List.length_cons] at h
    simp only [List.zipIdx_cons, List.foldl_cons]
    rw [qW off cs (i + 1) _ (by simp; omega)]
    have e := list_seg_step arr.toList (off + i) c cs (by simp; omega)
    congr 1
    simpa [Array.toList_setIfInBounds, Nat.add_assoc] using e
theorem fold_eq (off : Nat) (cs arr : Array Value) (h : off + cs.size ≤ arr.size) :
    cs.zipIdx.foldl (fun a (p : Value × Nat) => a.setIfInBounds (off + p.2) p.1) arr = (arr.toList.take off ++ cs.toList ++ arr.toList.drop (off + cs.size)).toArray := by
  have := qW off cs.toList 0 arr (by simpa using h)
  rw [← Array.foldl_toList]
  simpa using this
def V3 (x : Cx) (r : List (Nat × DV)) (vs : List (Nat × Value)) : Prop := vs.length = r.length ∧ ∀ (j : Nat) (p : Nat × DV), r[j]? = some p → ∃ v, vs[j]? = some (p.1, v) ∧ RV x p.2 v
def oN (ρ : Operand → Value) (l : List (Nat × Operand)) : List (Nat × Value) := l.map fun p => (p.1, ρ p.2)
theorem qm (hρ : s7 x ρd ρ) : ∀ {l : List (Nat × Operand)} {r : List (Nat × DV)}, gX ρd l = some r → V3 x r (oN ρ l)
  | [], r, h => by simp only [gX, Option.some.injEq] at h; subst h; exact ⟨rfl, by simp⟩
  | (i, a) :: l, r, h => by
    unfold gX at h
    split at h
    · rename_i d r' h1 h2
      cases h
      obtain ⟨h3, h4⟩ := qm hρ h2
      refine ⟨by simpa [oN] using h3, fun j p hp => ?_⟩
      cases j with
      | zero => simp only [List.getElem?_cons_zero, Option.some.injEq] at hp; subst hp; exact ⟨ρ a, rfl, hρ a d h1⟩
      | succ j => simpa [oN] using h4 j p (by simpa using hp)
    · cases h
theorem xC {pd pl : Nat → Option (Nat × Nat)} (vF : ∀ i p, pd i = some p → pl i = some p) : ∀ {r : List (Nat × DV)} {vs : List (Nat × Value)} {l l' : List DV} {arr : Array Value}, V3 x r vs → dR x l arr → iB pd l r = some l' → ∃ QH, Instr.fill pl arr vs = some QH ∧ dR x l' QH
  | [], vs, l, l', arr, hv, hl, h => by
    have : vs = [] := List.eq_nil_of_length_eq_zero (by simpa using hv.1)
    subst this
    simp only [iB, Option.some.injEq] at h
    subst h
    exact ⟨arr, rfl, hl⟩
  | (i, d) :: r, vs, l, l', arr, hv, hl, h => by
    obtain ⟨v, FN, hd⟩ := hv.2 0 (i, d) rfl
    have hd : RV x d v := hd
    cases vs with
    | nil => simp at FN
    | cons v0 vs =>
      simp only [List.getElem?_cons_zero, Option.some.injEq] at FN
      subst FN
      unfold iB at h
      split at h
      · cases h
      · rename_i off size hp
        split at h
        · rename_i hsz
          split at h
          · rename_i l1 h1
            have hc := oT hd
            obtain ⟨h2, h3⟩ := mS h1
            have P0 := Iw hl hc h1
            obtain ⟨QH, h4, h5⟩ := xC vF (r := r) (vs := vs) ⟨by simpa using hv.1, fun j p hj => by simpa using hv.2 (j + 1) p (by simpa using hj)⟩ P0 h
            refine ⟨QH, ?_, h5⟩
            unfold Instr.fill
            simp only [vF i _ hp]
            have c1 : v.cells.size = size := by rw [hc.1, ← hsz]
            have c2 : ¬ (v.cells.size ≠ size ∨ off + v.cells.size > arr.size) := by rw [hl.1, hc.1]; omega
            simp only [gt_iff_lt, Bool.or_eq_true, decide_eq_true_eq, c2, if_false]
            rw [fold_eq off v.cells arr (by rw [hl.1, hc.1]; exact h2)]
            exact h4
          · cases h
        · cases h
theorem wX (dh : gT P ty) (hR : Rel x) (hρ : s7 x ρd ρ) {t : TypeId} {fs : List (Nat × Nat × Bool)} {sz : Nat} {z cs : List DV} {ps : Array (Nat × Operand)} {l : List (Nat × DV)} (h : ty t = some ⟨.struct fs, sz, some z⟩) (hl : gX ρd ps.toList = some l)
    (hf : iB (fun i => (fs[i]?).map fun f => (f.1, f.2.1)) z l = some cs) : Yields x ((do pure (.value (← Instr.build t (ps.map fun p => (p.1, ρ p.2)))) : Sem Next).run P x.w) (.agg cs) x.S := by
  obtain ⟨hk, i, hi, -, hz⟩ := bh (dh t _ h)
  obtain ⟨fields, hu, hfs, YJ⟩ := u6 hk
  obtain ⟨zv, h1, h2, -⟩ := gC hz
  obtain ⟨h3, h4⟩ := fu (x := x) h2
  have wZ : dR x z zv.cells := ⟨by simpa using h3, fun j c hc => by simpa [Array.getD_eq_getD_getElem?, List.getD_eq_getElem?_getD] using h4 j c hc⟩
  have vF : ∀ w : World, (fields.mapM (fun f => do pure (f.offset, ← sizeOf f.type) : Field → Sem (Nat × Nat))).run P w = .ok ((fs.map fun f => (f.1, f.2.1)).toArray) w := by
    intro w
    have key : ∀ (l : List Field) (fs : List (Nat × Nat × Bool)), l.length = fs.length → (∀ (j : Nat) (r : Nat × Nat × Bool), fs[j]? = some r → ∃ f, l[j]? = some f ∧ CS P f r) → (l.mapM (fun f => do pure (f.offset, ← sizeOf f.type) : Field → Sem (Nat × Nat))).run P w = .ok (fs.map fun f => (f.1, f.2.1)) w := by
      intro l
      induction l with
      | nil => intro fs h _; have : fs = [] := List.eq_nil_of_length_eq_zero (by simpa using h.symm); subst this; rfl
      | cons f l ih =>
        intro fs h hj
        cases fs with
        | nil => simp at h
        | cons r fs =>
          obtain ⟨f', h1, h2, inf, h3, h4, -, -⟩ := hj 0 r rfl
          simp only [List.getElem?_cons_zero, Option.some.injEq] at h1
          subst h1
          have := ih fs (by simpa using h) fun j r hr => by simpa using hj (j + 1) r (by simpa using hr)
          simp only [List.mapM_cons, Sem.run_bind, run_sizeOf h3, Result.andThen_ok, Sem.run_pure, this, List.map_cons]
          rw [h2, h4]
    rw [Array.mapM_eq_mapM_toList]
    simp only [Sem.run_map, key fields.toList fs (by simpa using hfs) (fun j r hr => by simpa using YJ j r hr), Result.andThen_ok]
  have mw := qm hρ hl
  obtain ⟨arr, h5, h6⟩ := xC (x := x) (pl := fun i => ((fs.map fun f => (f.1, f.2.1)).toArray)[i]?) (fun i p hp => by simpa using hp) (vs := oN ρ ps.toList) mw wZ hf
  unfold oN at h5
  refine aL hR (v := .agg arr) ?_ (.agg h6.1 h6.2)
  simp only [Instr.build, Sem.run_bind, zeroValue, typeInfo, run_program, Result.andThen_ok, hi, Sem.run_pure, h1, run_underlying hu, vF, Array.toList_map, h5]
theorem zN (dh : gT P ty) (hR : Rel x) (hρ : s7 x ρd ρ) {t : TypeId} {n s sz : Nat} {agg : Bool} {z cs : List DV} {ps : Array (Nat × Operand)} {l : List (Nat × DV)} (h : ty t = some ⟨.array n s agg, sz, some z⟩) (hl : gX ρd ps.toList = some l)
    (hf : iB (fun i => some (i * s, s)) z l = some cs) : Yields x ((do pure (.value (← Instr.build t (ps.map fun p => (p.1, ρ p.2)))) : Sem Next).run P x.w) (.agg cs) x.S := by
  obtain ⟨hk, i, hi, -, hz⟩ := bh (dh t _ h)
  obtain ⟨e, hu, ie, oz, nk, -, -⟩ := tQ hk
  obtain ⟨zv, h1, h2, -⟩ := gC hz
  obtain ⟨h3, h4⟩ := fu (x := x) h2
  have wZ : dR x z zv.cells := ⟨by simpa using h3, fun j c hc => by simpa [Array.getD_eq_getD_getElem?, List.getD_eq_getElem?_getD] using h4 j c hc⟩
  have mw := qm hρ hl
  obtain ⟨arr, h5, h6⟩ := xC (x := x) (pl := fun i => some (i * s, s)) (fun i p hp => hp) (vs := oN ρ ps.toList) mw wZ hf
  unfold oN at h5
  refine aL hR (v := .agg arr) ?_ (.agg h6.1 h6.2)
  subst nk
  simp only [Instr.build, Sem.run_bind, zeroValue, typeInfo, run_program, Result.andThen_ok, hi, Sem.run_pure, h1, run_underlying hu, run_sizeOf oz, Array.toList_map, h5]
theorem wF {z : List DV} {s : Nat} (hs : z.length = s) : ∀ (n j : Nat), j < n * s → ((List.replicate n z).flatten)[j]? = z[j % s]?
  | 0, j, h => by simp at h
  | n + 1, j, h => by
    have xO : 0 < s := by
      rcases Nat.eq_zero_or_pos s with h0 | h0
      · subst h0; simp at h
      · exact h0
    simp only [List.replicate_succ, List.flatten_cons]
    by_cases hj : j < s
    · rw [List.getElem?_append_left (by omega), Nat.mod_eq_of_lt hj]
    · rw [List.getElem?_append_right (by omega), hs, wF hs n (j - s) (by rw [Nat.succ_mul] at h; omega), ← Nat.mod_eq_sub_mod (by omega)]
theorem gA {s : Nat} {agg : Bool} {l : List DV} {n : Nat} (hl : l.length = n * s) (hs : 0 < s) (ha : agg = true ∨ s = 1) (hp : ∀ c ∈ l, c.bt = true) : ∀ i, i < n → (rowOf s agg l i).cells = (l.drop (i * s)).take s := by
  intro i hi
  have h1 : i * s + s ≤ l.length := by rw [hl, ← Nat.succ_mul]; exact Nat.mul_le_mul_right _ hi
  unfold rowOf
  cases agg with
  | true => rfl
  | false =>
    have Je : s = 1 := by simpa using ha
    subst Je
    have hlt : i * 1 < l.length := by omega
    have e : l.getD (i * 1) aP = l[i * 1] := by rw [List.getD_eq_getElem?_getD, List.getElem?_eq_getElem hlt]; rfl
    have P0 := hp l[i * 1] (List.getElem_mem hlt)
    simp only [Bool.false_eq_true, if_false, e]
    have hc : (l[i * 1]).cells = [l[i * 1]] := by
      revert P0
      generalize l[i * 1] = c
      cases c <;> simp [DV.bt, DV.cells]
    rw [hc, List.drop_eq_getElem_cons hlt, List.take_succ_cons, List.take_zero]
theorem Bx {s : Nat} {agg : Bool} {l : List DV} (hs : 0 < s) (ha : agg = true ∨ s = 1) (hp : ∀ c ∈ l, c.bt = true) : ∀ n, l.length = n * s → flat (rowsOf s agg l n) = l ∧ ∀ r ∈ rowsOf s agg l n, r.cells.length = s := by
  intro n hl
  have hc := gA hl hs ha hp
  have hlen : ∀ r ∈ rowsOf s agg l n, r.cells.length = s := by
    intro r hr
    unfold rowsOf at hr
    simp only [List.mem_map, List.mem_range] at hr
    obtain ⟨i, hi, rfl⟩ := hr
    rw [hc i hi, List.length_take, List.length_drop]
    have h1 : i * s + s ≤ l.length := by rw [hl, ← Nat.succ_mul]; exact Nat.mul_le_mul_right _ hi
    omega
  refine ⟨?_, hlen⟩
  have sV := fI hlen
  have Yx : (rowsOf s agg l n).length = n := by simp [rowsOf]
  refine List.ext_getElem? fun j => ?_
  by_cases hj : j < n * s
  · have hdiv : j / s < n := by rw [Nat.div_lt_iff_lt_mul hs]; exact hj
    have ZB : j % s < s := Nat.mod_lt _ hs
    have YF : j = (j / s) * s + j % s := by rw [Nat.mul_comm]; exact (Nat.div_add_mod j s).symm
    have hr : (rowsOf s agg l n)[j / s]? = some (rowOf s agg l (j / s)) := by simp [rowsOf, hdiv]
    rw [YF, yT hlen hr ZB, hc _ hdiv, List.getElem?_take, if_pos ZB, List.getElem?_drop]
  · rw [List.getElem?_eq_none (by rw [sV, Yx]; omega), List.getElem?_eq_none (by omega)]
theorem yy {rows : List DV} {arr : Array Value} {s b : Nat} {y : Cx} {e : TypeId} (h1 : ∀ r ∈ rows, r.cells.length = s) (h2 : ∀ c ∈ flat rows, c.bt = true) (h3 : (flat rows).length ≤ arr.size) (hb : y.w.heap[b]? = some (.cells arr e (0, 0))) (hF : ∀ j, j < (flat rows).length → y.Fz b j) :
    View y rows (some ⟨b, 0, none⟩) s (fun j => arr.getD j undef) := by
  refine ⟨h1, fun j c hc => ⟨h2 c (List.mem_of_getElem? hc), b, 0, rfl, ?_, ?_⟩⟩
  · rw [Nat.zero_add]; exact hF j (List.getElem?_eq_some_iff.1 hc).1
  · have hj : j < arr.size := Nat.lt_of_lt_of_le (List.getElem?_eq_some_iff.1 hc).1 h3
    simp [World.cell?, hb, hj, Array.getD_eq_getD_getElem?]
theorem A3 {z : List DV} {zv : Value} {s n : Nat} (hs : 0 < s) (B1 : z.length = s) (KY : zv.cells.size = s) (h4 : ∀ j c, z[j]? = some c → RV x c (zv.cells.toList.getD j undef)) : dR x ((List.replicate n z).flatten) ((Array.range (n * s)).map (zv.cells[· % zv.cells.size]!)) := by
  refine ⟨by simp [B1], fun j c hc => ?_⟩
  have hj : j < n * s := by have := (List.getElem?_eq_some_iff.1 hc).1; simpa [B1] using this
  rw [wF B1 n j hj] at hc
  have hm : j % s < s := Nat.mod_lt _ hs
  have := h4 _ c hc
  have FH : j % zv.cells.size < zv.cells.size := by rw [KY]; exact hm
  have e1 : ((Array.range (n * s)).map (zv.cells[· % zv.cells.size]!)).getD j undef = zv.cells[j % zv.cells.size]! := by simp [Array.getD_eq_getD_getElem?, hj]
  rw [e1, getElem!_pos zv.cells (j % zv.cells.size) FH]
  have e2 : zv.cells.toList.getD (j % s) undef = zv.cells[j % zv.cells.size] := by simp [List.getD_eq_getElem?_getD, ← KY, FH]
  rw [← e2]
  exact this
theorem BI (dh : gT P ty) (hR : Rel x) (hρ : s7 x ρd ρ) {t e : TypeId} {n s iZ sz sz' : Nat} {agg : Bool} {k : TK} {z0 : Option (List DV)} {z cs : List DV} {ps : Array (Nat × Operand)} {l : List (Nat × DV)} (h : ty t = some ⟨.slice e s iZ agg, sz, z0⟩) (hl : gX ρd ps.toList = some l) (he : ty e = some ⟨k, sz', some z⟩)
    (hs : 0 < s) (hn : n * s ≤ 16777216) (hf : iB (fun i => some (i * s, s)) ((List.replicate n z).flatten) (l.map fun (i, v) => (i, v.strip)) = some cs) :
    ∃ arr, dR x cs arr ∧ cs.length = n * s ∧ (Instr.buildSlice t n (ps.map fun p => (p.1, ρ p.2))).run P x.w = .ok (.slice (some ⟨x.w.heap.size, 0, none⟩) n n) (x.w.alloc (.cells arr e)) := by
  obtain ⟨hk, i, hi, -, -⟩ := bh (dh t _ h)
  obtain ⟨hu, ie, oz, nk, -, BQ⟩ := iR hk
  obtain ⟨-, ie', xP, -, hz⟩ := bh (dh e _ he)
  rw [oz] at xP
  cases xP
  obtain ⟨zv, h1, h2, Yo⟩ := gC hz
  obtain ⟨h3, h4⟩ := fu (x := x) h2
  have KY : zv.cells.size = s := by rw [← nk, ← Yo]; simpa using h3
  have B1 : z.length = s := by rw [Yo, nk]
  have wZ := A3 (n := n) hs B1 KY h4
  have mw : V3 x (l.map fun (i, v) => (i, v.strip)) (oN ρ ps.toList) := by
    have := qm hρ hl
    refine ⟨by simpa using this.1, fun j p hp => ?_⟩
    simp only [List.getElem?_map, Option.map_eq_some_iff] at hp
    obtain ⟨q, hq, rfl⟩ := hp
    obtain ⟨v, Ds, Pq⟩ := this.2 j q hq
    exact ⟨v, by simpa using Ds, Pq.strip⟩
  obtain ⟨arr, h5, h6⟩ := xC (x := x) (pl := fun i => some (i * s, s)) (fun i p hp => hp) mw wZ hf
  have jW : cs.length = n * s := by
    have key : ∀ (r : List (Nat × DV)) (l l' : List DV), iB (fun i => some (i * s, s)) l r = some l' → l'.length = l.length := by
      intro r
      induction r with
      | nil => intro l l' h; simp only [iB, Option.some.injEq] at h; rw [h]
      | cons p r ih =>
        intro l l' h
        obtain ⟨i, d⟩ := p
        unfold iB at h
        simp only at h
        split at h
        · split at h
          · rename_i l1 h1
            rw [ih _ _ h]
            obtain ⟨h2, rfl⟩ := mS h1
            simp; omega
          · cases h
        · cases h
    rw [key _ _ _ hf]; simp [B1]
  refine ⟨arr, h6, jW, ?_⟩
  · subst nk
    have c1 : ¬ (n * ie.size > 2 ^ 24) := by have e : (2 : Nat) ^ 24 = 16777216 := by decide
                                             rw [e]; omega
    have X8 : Instr.fill (fun i => some (i * ie.size, ie.size)) ((Array.range (n * ie.size)).map (zv.cells[· % zv.cells.size]!)) (ps.toList.map fun p => (p.1, ρ p.2)) = some arr := h5
    by_cases h0 : n * ie.size = 0
    · have e0 : (Array.range (n * ie.size)).map ((#[] : Array Value)[· % (#[] : Array Value).size]!) = (Array.range (n * ie.size)).map (zv.cells[· % zv.cells.size]!) := by rw [h0]; simp
      simp only [Instr.buildSlice, Sem.run_bind, run_underlying hu, Result.andThen_ok, run_sizeOf oz, if_neg c1, if_pos h0, Sem.run_pure, e0, Array.toList_map, X8, newRow, run_newObj]
      rfl
    · simp only [Instr.buildSlice, Sem.run_bind, run_underlying hu, Result.andThen_ok, run_sizeOf oz, if_neg c1, if_neg h0, Sem.run_pure, zeroValue, typeInfo, run_program, oz, h1, Array.toList_map, X8, newRow, run_newObj]
      rfl
theorem Aw (dh : gT P ty) (hR : Rel x) (hρ : s7 x ρd ρ) {t e : TypeId} {n s iZ sz sz' : Nat} {agg : Bool} {k : TK} {z0 : Option (List DV)} {z cs : List DV} {ps : Array (Nat × Operand)} {l : List (Nat × DV)} (h : ty t = some ⟨.slice e s iZ agg, sz, z0⟩) (hl : gX ρd ps.toList = some l) (he : ty e = some ⟨k, sz', some z⟩)
    (hs : 0 < s) (hn : n * s ≤ 16777216) (hf : iB (fun i => some (i * s, s)) ((List.replicate n z).flatten) (l.map fun (i, v) => (i, v.strip)) = some cs) (hp : cs.all DV.bt = true) (ha : agg = true ∨ s = 1) :
    Yields x ((do pure (.value (← Instr.buildSlice t n (ps.map fun p => (p.1, ρ p.2)))) : Sem Next).run P x.w) (.sl (rowsOf s agg cs n) none ⟨true, some false⟩) x.S := by
  obtain ⟨arr, h6, jW, hrun⟩ := BI dh hR hρ h hl he hs hn hf
  have Lz : ∀ c ∈ cs, c.bt = true := fun c hc => List.all_eq_true.1 hp c hc
  obtain ⟨sV, Yx⟩ := Bx hs ha Lz n jW
  have P0 : kP x.w (x.w.alloc (.cells arr e)) (.cells arr e (0, 0)) := ez _ _
  have jQ := JZ (F := fun o => o < arr.size) hR P0 fun o ho => ⟨arr[o], by simp [ho]⟩
  have XR : (rowsOf s agg cs n).length = n := by simp [rowsOf]
  have qF : (x.w.alloc (.cells arr e)).heap[x.w.heap.size]? = some (.cells arr e (0, 0)) := P0.new
  have vS : arr.size = cs.length := h6.1
  have M := nM (F := fun o => o < arr.size) hR P0
  refine eP (y := x.froze _ (fun o => o < arr.size)) (v := .slice (some ⟨x.w.heap.size, 0, none⟩) n n) hrun rfl jQ M ?_
  · suffices hk : RV (x.froze (x.w.alloc (.cells arr e)) (fun o => o < arr.size)) (.sl (rowsOf s agg cs n) none ⟨true, some false⟩) (.slice (some ⟨x.w.heap.size, 0, none⟩) (rowsOf s agg cs n).length (rowsOf s agg cs n).length) by rw [XR] at hk; exact hk
    have hv : View (x.froze (x.w.alloc (.cells arr e)) (fun o => o < arr.size)) (rowsOf s agg cs n) (some ⟨x.w.heap.size, 0, none⟩) s (fun j => arr.getD j undef) :=
      yy Yx (by rw [sV]; exact Lz) (by rw [sV]; omega) qF fun j hj => .inr ⟨rfl, by rw [sV] at hj; omega⟩
    refine RV.sl (tok := none) hv (fun j c hc => ?_) (Nat.le_refl _) ⟨fun _ => rfl, fun b h => by cases h; rfl⟩ (by simp) (fun ad h => by cases h; rfl) (fun t ht => nomatch ht)
    rw [sV] at hc
    exact (h6.2 j c hc).mono M
theorem nU (dh : gT P ty) {t : TypeId} {fs : List (Nat × Nat × Bool)} {sz f off s : Nat} {agg : Bool} {z : Option (List DV)} (h : ty t = some ⟨.struct fs, sz, z⟩) (hf : fs[f]? = some (off, s, agg)) (hs : 0 < s) (b o0 : Nat) (w : World) :
    (Instr.fieldAt t (.pointer (some ⟨b, o0, none⟩)) f).run P w = .ok (.pointer (some ⟨b, o0 + off, none⟩)) w := by
  obtain ⟨hk, i, hi, -, -⟩ := bh (dh t _ h)
  obtain ⟨fields, hu, hfs, YJ⟩ := u6 hk
  obtain ⟨fd, h1, h2, inf, h3, h4, -, -⟩ := YJ f _ hf
  simp only at h2 h4
  have hne : ¬ (inf.size = 0) := by omega
  simp only [Instr.fieldAt, Sem.run_bind, run_underlying hu, Result.andThen_ok, h1, Instr.sureAddr, Sem.run_pure, fieldPlace, run_sizeOf h3, if_neg hne, fJ, h2]
theorem wv (dh : gT P ty) {t : TypeId} {k s sz : Nat} {agg : Bool} {z : Option (List DV)} (h : ty t = some ⟨.array k s agg, sz, z⟩) {kd : IntKind} {n : Int} (h0 : 0 ≤ n) (hlt : n.toNat < k) (b o0 : Nat) (w : World) :
    (Instr.indexAt t (.pointer (some ⟨b, o0, none⟩)) (.int kd n)).run P w = .ok (.pointer (some ⟨b, o0 + n.toNat * s, none⟩)) w := by
  obtain ⟨hk, i, hi, -, -⟩ := bh (dh t _ h)
  obtain ⟨e, hu, ie, oz, nk, -, -⟩ := tQ hk
  have hc : 0 ≤ n ∧ n < (k : Int) := ⟨h0, by omega⟩
  subst nk
  simp only [Instr.indexAt, asIntOf, Sem.run_bind, Sem.run_pure, Result.andThen_ok, run_underlying hu, Instr.sureAddr, hc, and_self, if_true, run_sizeOf oz, fJ]
theorem zy (dh : gT P ty) {t e : TypeId} {s iZ sz : Nat} {agg : Bool} {z : Option (List DV)} (h : ty t = some ⟨.slice e s iZ agg, sz, z⟩) {kd : IntKind} {n : Int} {len cap : Nat} (h0 : 0 ≤ n) (hlt : n.toNat < len) (b o0 : Nat) (w : World) :
    (Instr.indexAt t (.slice (some ⟨b, o0, none⟩) len cap) (.int kd n)).run P w = .ok (.pointer (some ⟨b, o0 + n.toNat * s, none⟩)) w := by
  obtain ⟨hk, i, hi, -, -⟩ := bh (dh t _ h)
  obtain ⟨hu, ie, oz, nk, -, -⟩ := iR hk
  have hc : 0 ≤ n ∧ n < (len : Int) := ⟨h0, by omega⟩
  subst nk
  simp only [Instr.indexAt, asIntOf, Sem.run_bind, Sem.run_pure, Result.andThen_ok, run_underlying hu, hc, and_self, if_true, run_sizeOf oz, fJ]
end Go.Di
end
