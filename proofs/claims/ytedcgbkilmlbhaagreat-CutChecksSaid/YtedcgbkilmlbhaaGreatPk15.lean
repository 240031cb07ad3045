import Derived.Test.YtedcgbkilmlbhaaGreatPk14
section
namespace Go.Di
open Go
variable {P:Program} {ty:eY} {x:Cx} {w':World} {aC:bk} {call:aW}
def Yields (x:Cx) (r:Result Next) (d:DV) (S':ak):Prop:=∃ v y,(r = .ok (.value v) y.w∨(r = .ok .skip y.w∧v=undef))∧y.S=S'∧Rel y∧bh x y∧RV y d v
theorem eV {s:Sem Value} {d:DV} {S':ak} {v:Value} {y:Cx} (h:s.run P x.w = .ok v y.w) (h1:y.S=S') (h2:Rel y) (h3:bh x y) (h4:RV y d v):Yields x ((do pure (.value (← s)):Sem Next).run P x.w) d S' :=
 ⟨v,y,.inl (by simp[h]),h1,h2,h3,h4⟩
theorem aL {s:Sem Value} {d:DV} {v:Value} (hR:Rel x) (h:s.run P x.w = .ok v x.w) (h4:RV x d v):Yields x ((do pure (.value (← s)):Sem Next).run P x.w) d x.S:=eV h rfl hR (bh.refl x) h4
theorem Et {s:Sem Unit} {S':ak} {y:Cx} (h:s.run P x.w = .ok () y.w) (h1:y.S=S') (h2:Rel y) (h3:bh x y):Yields x ((do s; pure .skip:Sem Next).run P x.w) aO S' :=
 ⟨undef,y,.inr ⟨by simp[h],rfl⟩,h1,h2,h3,.val rfl⟩
theorem kO {s:Sem Value} {d:DV} (h:gU P s=some d) (w:World):∃ v,s.run P w = .ok v w∧RV x d v:=by
 unfold gU at h
 simp only[Option.bind_eq_some_iff] at h
 obtain⟨v,h1,h2⟩:=h
 exact⟨v,kN h1 w,ug h2⟩
def gY (P:Program) (ty:eY):Prop:=∀ t d,ty t=some d→x7 P t=some d
variable {ρd:Operand→Option DV} {ρ:Operand→Value} {o:Oper} {ay:Nat}
def tq (x:Cx) (ρd:Operand→Option DV) (ρ:Operand→Value):Prop:=∀ a d,ρd a=some d→RV x d (ρ a)
theorem ei (hρ:tq x ρd ρ) {a:Operand} {v:Value} (h:valOf ρd a=some v):ρ a=v:=by
 unfold valOf at h
 simp only[Option.bind_eq_some_iff] at h
 obtain⟨d,h1,h2⟩:=h
 exact EJ (hρ a d h1) h2
theorem jR (hρ:tq x ρd ρ) {a:Operand} {n:Int} (h:intOf ρd a=some n):∃ k,ρ a = .int k n:=by
 unfold intOf at h
 split at h
 ·rename_i k m h1
  cases h
  exact⟨k,jZ (hρ a _ h1)⟩
 ·cases h
theorem sg (hρ:tq x ρd ρ):∀ {l:List Operand} {r:List DV},evs ρd l=some r→en x r (l.map ρ).toArray
 | [],r,h=>by simp only[evs,Option.some.injEq] at h; subst h; exact⟨rfl,by simp⟩
 | a::l,r,h=>by
  unfold evs at h
  split at h
  ·rename_i d r' h1 h2
   cases h
   obtain⟨h3,h4⟩:=sg hρ h2
   refine⟨by simpa using h3,fun j c hc => ?_⟩
   cases j with
   | zero=>simp only[List.getElem?_cons_zero,Option.some.injEq] at hc; subst hc; exact hρ a _ h1
   | succ j=>simpa [Array.getD_eq_getD_getElem?] using h4 j c (by simpa using hc)
  ·cases h
theorem O2 (dx:gY P ty) (hR:Rel x) (hn:AW x.S ay) {e:TypeId} {k:TK} {sz:Nat} {z:List DV} (h:ty e=some ⟨k,sz,some z⟩) :
  Yields x ((do pure (.value (← Instr.alloc e true (.tuple #[]))):Sem Next).run P x.w) (.ptr ay 0) (di x.S ay (.cells z)):=by
 obtain⟨-,i,hi,-,hz⟩:=bg (dx e _ h)
 obtain⟨zv,h1,h2,-⟩:=gH hz
 obtain⟨h3,h4⟩:=fC (x:=x) h2
 have hp:kU x.w (x.w.alloc (.cells zv.cells e)) (.cells zv.cells e (0,0)):=eF _ _
 have jX:=js (k:=0) (F:=fun _=>False) (b := .cells z) hR hn hp (by simp) (.inl ⟨z,zv.cells,e,rfl,rfl,by simpa using h3,by simp,fun j c hc=>by simpa [Array.getD_eq_getD_getElem?,List.getD_eq_getElem?_getD] using h4 j c hc⟩)
 refine eV (y:=x.fresh _ ay 0 (fun _=>False) (.cells z)) (v := .pointer (some ⟨x.w.heap.size,0,none⟩)) ?_ rfl jX (gG hR hn hp) ?_
 ·simp[Instr.alloc,zeroValue,typeInfo,hi,h1,newVar,newRow,Cx.fresh]
 ·have:(x.fresh (x.w.alloc (.cells zv.cells e)) ay 0 (fun _=>False) (.cells z)).μ ay=x.w.heap.size:=if_pos rfl
  rw[← this]
  exact .ptr (l:=z) (by show (di _ _ _)[_]? = _; rw[aR hn.le,if_pos rfl])
theorem Xo (hR:Rel x) (hn:AW x.S ay) {e:TypeId} {d:DV} {v:Value} (h:RV x d v) :
  Yields x ((do pure (.value (← Instr.box e v)):Sem Next).run P x.w) (.ptr ay 0) (di x.S ay (.cells d.cells)):=by
 obtain⟨h3,h4⟩:=o6 h
 have hp:kU x.w (x.w.alloc (.cells v.cells e)) (.cells v.cells e (0,0)):=eF _ _
 have jX:=js (k:=0) (F:=fun _=>False) (b := .cells d.cells) hR hn hp (by simp) (.inl ⟨d.cells,v.cells,e,rfl,rfl,h3,by simp,h4⟩)
 refine eV (y:=x.fresh _ ay 0 (fun _=>False) (.cells d.cells)) (v := .pointer (some ⟨x.w.heap.size,0,none⟩)) ?_ rfl jX (gG hR hn hp) ?_
 ·simp[Instr.box,newVar,newRow,Cx.fresh]
 ·have:(x.fresh (x.w.alloc (.cells v.cells e)) ay 0 (fun _=>False) (.cells d.cells)).μ ay=x.w.heap.size:=if_pos rfl
  rw[← this]
  exact .ptr (l:=d.cells) (by show (di _ _ _)[_]? = _; rw[aR hn.le,if_pos rfl])
theorem Ki {rows:List DV} {b o s:Nat} {vs:Nat→Value} (hv:View x rows (some ⟨b,o,none⟩) s vs) (hr:∀ j c,(flat rows)[j]? = some c→RV x c (vs j)) {i:Nat} {r:DV} (h:rows[i]? = some r) :
  ∀ j c,r.cells[j]? = some c→∃ v,x.w.cell? ⟨b,o+i*s+j,none⟩=some v∧RV x c v:=by
 intro j c hc
 have hj:j<s:=by rw[← hv.1 r (List.mem_of_getElem? h)]; exact(List.getElem?_eq_some_iff.1 hc).1
 have hf:=uq hv.1 h hj
 rw[hc] at hf
 obtain⟨-,b',o',h1,-,h2⟩:=hv.2 _ _ hf
 cases h1
 exact⟨_,by rw[Nat.add_assoc]; exact h2,hr _ _ hf⟩
theorem E2 (dx:gY P ty) (hR:Rel x) {t:TypeId} {a d:DV} {va:Value} (ha:RV x a va) (h:iq ty x.S t a=some d):∃ v,(Instr.loadAt t va).run P x.w = .ok v x.w∧RV x d v:=by
 unfold iq at h
 split at h
 ·rename_i td id off hk
  obtain⟨k,sz,z⟩:=td
  obtain⟨oB,i,hi,hs,-⟩:=bg (dx t _ hk)
  obtain⟨B5,d0,hu⟩:=Gw oB
  split at h
  ·rename_i l hl
   obtain⟨arr,e,h1,h2,h3⟩:=hR.cells id l hl
   cases ha with
   | ptr _ =>
    have:=vK (x:=x) (b:=x.μ id) (o:=0) (l:=l) hi hu hs B5.symm (fun j c hc => ?_) h
    ·obtain⟨v,h4,h5⟩:=this
     refine⟨v,?_,h5⟩
     simpa [Instr.loadAt,Instr.sureAddr] using h4
    ·have hj:j<arr.size:=by rw[h2]; exact(List.getElem?_eq_some_iff.1 hc).1
     refine⟨arr[j],?_,by simpa [Array.getD_eq_getD_getElem?,hj] using h3 j c hc⟩
     simp[World.cell?,h1,hj]
  ·cases h
 ·rename_i td rows i off hk
  obtain⟨k,sz,z⟩:=td
  obtain⟨oB,inf,hi,hs,-⟩:=bg (dx t _ hk)
  obtain⟨B5,d0,hu⟩:=Gw oB
  split at h
  ·rename_i r hr
   cases ha with
   | @cV _ _ _ b o s vs hv LJ =>
    obtain⟨v,h4,h5⟩:=vK (x:=x) (b:=b) (o:=o+i*s) (l:=r.cells) hi hu hs B5.symm (Ki hv LJ hr) h
    refine⟨v,?_,h5⟩
    rw[Nat.add_assoc] at h4
    simpa [Instr.loadAt,Instr.sureAddr] using h4
  ·cases h
 ·rename_i td id n off hk
  obtain⟨k,sz,z⟩:=td
  obtain⟨oB,i,hi,hs,-⟩:=bg (dx t _ hk)
  obtain⟨B5,d0,hu⟩:=Gw oB
  split at h
  ·rename_i e s l zz hop
   obtain⟨hS,B3⟩:=jb hop
   obtain⟨arr,h1,-,h2,-,h3,-⟩:=hR.ops id e s l zz hS
   cases ha with
   | dM xE FZ hA =>
    rw[hS] at xE
    cases xE
    rw[hA B3]
    obtain⟨v,h4,h5⟩:=vK (x:=x) (b:=x.μ id) (o:=0) (l:=l) hi hu hs B5.symm (fun j c hc=>by
     have hj:j<arr.size:=Nat.lt_of_lt_of_le (List.getElem?_eq_some_iff.1 hc).1 h2
     refine⟨arr[j],?_,by simpa [Array.getD_eq_getD_getElem?,hj] using (h3 j c hc).2⟩
     simp[World.cell?,h1,hj]) h
    exact⟨v,by simpa [Instr.loadAt,Instr.sureAddr] using h4,h5⟩
  ·cases h
 ·cases h
theorem Kn (dx:gY P ty) (hR:Rel x) {t:TypeId} {a d:DV} {va vd:Value} {S':ak} (ha:RV x a va) (hd:RV x d vd) (h:lu ty x.S t a d=some S') :
  ∃ y,(Instr.storeAt t va vd).run P x.w = .ok () y.w∧y.S=S'∧Rel y∧bh x y:=by
 unfold lu at h
 split at h
 ·rename_i td id off hk
  obtain⟨k,sz,z⟩:=td
  obtain⟨oB,i,hi,hs,-⟩:=bg (dx t _ hk)
  split at h
  ·rename_i l hl
   split at h
   ·rename_i hc
    simp only[Bool.and_eq_true,decide_eq_true_eq] at hc
    simp only[Option.map_eq_some_iff] at h
    obtain⟨l',h6,rfl⟩:=h
    obtain⟨arr,e,h1,h2,h3⟩:=hR.cells id l hl
    have nG:=o6 hd
    cases ha with
    | ptr _ =>
     have hp:=I2 ⟨h2,h3⟩ nG h6
     obtain⟨h7,h8⟩:=ng h6
     refine⟨x.upd id (arr.toList.take off++vd.cells.toList++arr.toList.drop (off+vd.cells.size)).toArray (fun _=>False) (.cells l'),?_,rfl,xN hR hl (.inl ⟨l,l',rfl,rfl,by simp,hp.1,hp.2⟩),pq hR hl (.inl ⟨l,l',rfl,rfl⟩)⟩
     have hst:=run_storeCells_at P (x.μ id) off e vd.cells.toList 0 arr x.w h1 (by simp only[Nat.add_zero,Array.length_toList]; rw[nG.1,h2]; exact h7) (cells_one hd hc.2)
     simp only[Nat.add_zero,Array.length_toList] at hst
     have hsz:¬ (vd.cells.size≠i.size):=by rw[nG.1,hc.1,hs]; simp
     simp only[Instr.storeAt,Instr.sureAddr,Sem.run_bind,Sem.run_pure,Result.andThen_ok,storeVar,run_sizeOf hi,if_neg hsz]
     exact hst
   ·cases h
  ·cases h
 ·rename_i td id n off hk
  obtain⟨k,sz,z⟩:=td
  obtain⟨oB,i,hi,hs,-⟩:=bg (dx t _ hk)
  split at h
  ·rename_i e s l hop
   obtain⟨hS,B3⟩:=jb hop
   split at h
   ·rename_i hc
    simp only[Bool.and_eq_true,decide_eq_true_eq] at hc
    simp only[Option.map_eq_some_iff] at h
    obtain⟨l',h6,rfl⟩:=h
    obtain⟨arr,h1,h0,h2,hκ,h3,-,-⟩:=hR.ops id e s l false hS
    have Ai:=hd.strip
    have nG:=o6 Ai
    cases ha with
    | dM xE FZ hA =>
     rw[hS] at xE
     cases xE
     rw[hA B3]
     obtain⟨h7,h8⟩:=ng h6
     have hp:=CX (off:=off) h2 (fun j c hc=>(h3 j c hc).2) nG (by omega) (by omega)
     rw[← h8] at hp
     have Qq:∀ c∈l',c.bn=true:=fun c hm=>by
      rw[h8] at hm
      rcases List.mem_append.1 hm with hm | hm
      ·rcases List.mem_append.1 hm with hm | hm
       ·obtain⟨j,hj⟩:=List.mem_iff_getElem?.1 (List.mem_of_mem_take hm)
        exact(h3 j c hj).1
       ·exact List.all_eq_true.1 hc.2 c hm
      ·obtain⟨j,hj⟩:=List.mem_iff_getElem?.1 (List.mem_of_mem_drop hm)
       exact(h3 j c hj).1
     have hll:l'.length=l.length:=by rw[h8]; simp; omega
     have ZD:(arr.toList.take off++vd.cells.toList++arr.toList.drop (off+vd.cells.size)).toArray.size=arr.size:=by
      have:=nG.1
      simp
      omega
     refine⟨x.upd id (arr.toList.take off++vd.cells.toList++arr.toList.drop (off+vd.cells.size)).toArray (fun _=>False) (.op e s l' false),?_,rfl,xN hR hS (.inr (.inr ⟨e,s,l,l',rfl,rfl,by omega,by simp,by rw[ZD]; exact h0,by rw[ZD]; omega,fun j c hj=>⟨Qq c (List.mem_of_getElem? hj),hp j c hj⟩⟩)),pq hR hS (.inr (.inr ⟨e,s,l,l',rfl,rfl,by omega⟩))⟩
     have hst:=run_storeCells_at P (x.μ id) off e vd.cells.toList 0 arr x.w h1 (by simp only[Nat.add_zero,Array.length_toList]; rw[nG.1]; omega) (cells_one Ai (List.all_eq_true.2 fun c hm=>KV (List.all_eq_true.1 hc.2 c hm)))
     simp only[Nat.add_zero,Array.length_toList] at hst
     have hsz:¬ (vd.cells.size≠i.size):=by rw[nG.1,hc.1,hs]; simp
     simp only[Instr.storeAt,Instr.sureAddr,Sem.run_bind,Sem.run_pure,Result.andThen_ok,storeVar,run_sizeOf hi,if_neg hsz]
     exact hst
   ·cases h
  ·cases h
 ·cases h
end Go.Di
end
section
namespace Go.Di
open Go
variable {P : Program} {ty : eY} {x : Cx} {w' : World} {ρd : Operand → Option DV} {ρ : Operand → Value} {o : Oper} {ay : Nat}
theorem rE (off : Nat) : ∀ (cs : List Value) (i : Nat) (arr : Array Value), off + i + cs.length ≤ arr.size →
    ((cs.zipIdx i).foldl (fun a (p : Value × Nat) => a.setIfInBounds (off + p.2) p.1) arr) = (arr.toList.take (off + i) ++ cs ++ arr.toList.drop (off + i + cs.length)).toArray
  | [], i, arr, _ => by simp
  | c :: cs, i, arr, h => by
    simp only [List.length_cons] at h
    simp only [List.zipIdx_cons, List.foldl_cons]
    rw [rE off cs (i + 1) _ (by simp; omega)]
    have e := list_seg_step arr.toList (off + i) c cs (by simp; omega)
    congr 1
    simpa [Array.toList_setIfInBounds, Nat.add_assoc] using e
theorem fold_eq (off : Nat) (cs arr : Array Value) (h : off + cs.size ≤ arr.size) :
    cs.zipIdx.foldl (fun a (p : Value × Nat) => a.setIfInBounds (off + p.2) p.1) arr = (arr.toList.take off ++ cs.toList ++ arr.toList.drop (off + cs.size)).toArray := by
  have := rE off cs.toList 0 arr (by simpa using h)
  rw [← Array.foldl_toList]
  simpa using this
def Wl (x : Cx) (r : List (Nat × DV)) (vs : List (Nat × Value)) : Prop := vs.length = r.length ∧ ∀ (j : Nat) (p : Nat × DV), r[j]? = some p → ∃ v, vs[j]? = some (p.1, v) ∧ RV x p.2 v
def oT (ρ : Operand → Value) (l : List (Nat × Operand)) : List (Nat × Value) := l.map fun p => (p.1, ρ p.2)
theorem qx (hρ : tq x ρd ρ) : ∀ {l : List (Nat × Operand)} {r : List (Nat × DV)}, ic ρd l = some r → Wl x r (oT ρ l)
  | [], r, h => by simp only [ic, Option.some.injEq] at h; subst h; exact ⟨rfl, by simp⟩
  | (i, a) :: l, r, h => by
    unfold ic at h
    split at h
    · rename_i d r' h1 h2
      cases h
      obtain ⟨h3, h4⟩ := qx hρ h2
      refine ⟨by simpa [oT] using h3, fun j p hp => ?_⟩
      cases j with
      | zero => simp only [List.getElem?_cons_zero, Option.some.injEq] at hp; subst hp; exact ⟨ρ a, rfl, hρ a d h1⟩
      | succ j => simpa [oT] using h4 j p (by simpa using hp)
    · cases h
theorem xV {pd pl : Nat → Option (Nat × Nat)} (vV : ∀ i p, pd i = some p → pl i = some p) : ∀ {r : List (Nat × DV)} {vs : List (Nat × Value)} {l l' : List DV} {arr : Array Value}, Wl x r vs → en x l arr → iH pd l r = some l' → ∃ Ra, Instr.fill pl arr vs = some Ra ∧ en x l' Ra
  | [], vs, l, l', arr, hv, hl, h => by
    have : vs = [] := List.eq_nil_of_length_eq_zero (by simpa using hv.1)
    subst this
    simp only [iH, Option.some.injEq] at h
    subst h
    exact ⟨arr, rfl, hl⟩
  | (i, d) :: r, vs, l, l', arr, hv, hl, h => by
    obtain ⟨v, JM, hd⟩ := hv.2 0 (i, d) rfl
    have hd : RV x d v := hd
    cases vs with
    | nil => simp at JM
    | cons v0 vs =>
      simp only [List.getElem?_cons_zero, Option.some.injEq] at JM
      subst JM
      unfold iH at h
      split at h
      · cases h
      · rename_i off size hp
        split at h
        · rename_i hsz
          split at h
          · rename_i l1 h1
            have hc := o6 hd
            obtain ⟨h2, h3⟩ := ng h1
            have Qq := I2 hl hc h1
            obtain ⟨Ra, h4, h5⟩ := xV vV (r := r) (vs := vs) ⟨by simpa using hv.1, fun j p hj => by simpa using hv.2 (j + 1) p (by simpa using hj)⟩ Qq h
            refine ⟨Ra, ?_, h5⟩
            unfold Instr.fill
            simp only [vV i _ hp]
            have c1 : v.cells.size = size := by rw [hc.1, ← hsz]
            have c2 : ¬ (v.cells.size ≠ size ∨ off + v.cells.size > arr.size) := by rw [hl.1, hc.1]; omega
            simp only [gt_iff_lt, Bool.or_eq_true, decide_eq_true_eq, c2, if_false]
            rw [fold_eq off v.cells arr (by rw [hl.1, hc.1]; exact h2)]
            exact h4
          · cases h
        · cases h
theorem xy (dx : gY P ty) (hR : Rel x) (hρ : tq x ρd ρ) {t : TypeId} {fs : List (Nat × Nat × Bool)} {sz : Nat} {z cs : List DV} {ps : Array (Nat × Operand)} {l : List (Nat × DV)} (h : ty t = some ⟨.struct fs, sz, some z⟩) (hl : ic ρd ps.toList = some l)
    (hf : iH (fun i => (fs[i]?).map fun f => (f.1, f.2.1)) z l = some cs) : Yields x ((do pure (.value (← Instr.build t (ps.map fun p => (p.1, ρ p.2)))) : Sem Next).run P x.w) (.agg cs) x.S := by
  obtain ⟨hk, i, hi, -, hz⟩ := bg (dx t _ h)
  obtain ⟨fields, hu, hfs, Y1⟩ := vw hk
  obtain ⟨zv, h1, h2, -⟩ := gH hz
  obtain ⟨h3, h4⟩ := fC (x := x) h2
  have xC : en x z zv.cells := ⟨by simpa using h3, fun j c hc => by simpa [Array.getD_eq_getD_getElem?, List.getD_eq_getElem?_getD] using h4 j c hc⟩
  have vV : ∀ w : World, (fields.mapM (fun f => do pure (f.offset, ← sizeOf f.type) : Field → Sem (Nat × Nat))).run P w = .ok ((fs.map fun f => (f.1, f.2.1)).toArray) w := by
    intro w
    have key : ∀ (l : List Field) (fs : List (Nat × Nat × Bool)), l.length = fs.length → (∀ (j : Nat) (r : Nat × Nat × Bool), fs[j]? = some r → ∃ f, l[j]? = some f ∧ C8 P f r) → (l.mapM (fun f => do pure (f.offset, ← sizeOf f.type) : Field → Sem (Nat × Nat))).run P w = .ok (fs.map fun f => (f.1, f.2.1)) w := by
      intro l
      induction l with
      | nil => intro fs h _; have : fs = [] := List.eq_nil_of_length_eq_zero (by simpa using h.symm); subst this; rfl
      | cons f l ih =>
        intro fs h hj
        cases fs with
        | nil => simp at h
        | cons r fs =>
          obtain ⟨f', h1, h2, inf, h3, h4, -, -⟩ := hj 0 r rfl
          simp only [List.getElem?_cons_zero, Option.some.injEq] at h1
          subst h1
          have := ih fs (by simpa using h) fun j r hr => by simpa using hj (j + 1) r (by simpa using hr)
          simp only [List.mapM_cons, Sem.run_bind, run_sizeOf h3, Result.andThen_ok, Sem.run_pure, this, List.map_cons]
          rw [h2, h4]
    rw [Array.mapM_eq_mapM_toList]
    simp only [Sem.run_map, key fields.toList fs (by simpa using hfs) (fun j r hr => by simpa using Y1 j r hr), Result.andThen_ok]
  have mH := qx hρ hl
  obtain ⟨arr, h5, h6⟩ := xV (x := x) (pl := fun i => ((fs.map fun f => (f.1, f.2.1)).toArray)[i]?) (fun i p hp => by simpa using hp) (vs := oT ρ ps.toList) mH xC hf
  unfold oT at h5
  refine aL hR (v := .agg arr) ?_ (.agg h6.1 h6.2)
  simp only [Instr.build, Sem.run_bind, zeroValue, typeInfo, run_program, Result.andThen_ok, hi, Sem.run_pure, h1, run_underlying hu, vV, Array.toList_map, h5]
theorem Ac (dx : gY P ty) (hR : Rel x) (hρ : tq x ρd ρ) {t : TypeId} {n s sz : Nat} {agg : Bool} {z cs : List DV} {ps : Array (Nat × Operand)} {l : List (Nat × DV)} (h : ty t = some ⟨.array n s agg, sz, some z⟩) (hl : ic ρd ps.toList = some l)
    (hf : iH (fun i => some (i * s, s)) z l = some cs) : Yields x ((do pure (.value (← Instr.build t (ps.map fun p => (p.1, ρ p.2)))) : Sem Next).run P x.w) (.agg cs) x.S := by
  obtain ⟨hk, i, hi, -, hz⟩ := bg (dx t _ h)
  obtain ⟨e, hu, ie, oE, nB, -, -⟩ := ue hk
  obtain ⟨zv, h1, h2, -⟩ := gH hz
  obtain ⟨h3, h4⟩ := fC (x := x) h2
  have xC : en x z zv.cells := ⟨by simpa using h3, fun j c hc => by simpa [Array.getD_eq_getD_getElem?, List.getD_eq_getElem?_getD] using h4 j c hc⟩
  have mH := qx hρ hl
  obtain ⟨arr, h5, h6⟩ := xV (x := x) (pl := fun i => some (i * s, s)) (fun i p hp => hp) (vs := oT ρ ps.toList) mH xC hf
  unfold oT at h5
  refine aL hR (v := .agg arr) ?_ (.agg h6.1 h6.2)
  subst nB
  simp only [Instr.build, Sem.run_bind, zeroValue, typeInfo, run_program, Result.andThen_ok, hi, Sem.run_pure, h1, run_underlying hu, run_sizeOf oE, Array.toList_map, h5]
theorem wW {z : List DV} {s : Nat} (hs : z.length = s) : ∀ (n j : Nat), j < n * s → ((List.replicate n z).flatten)[j]? = z[j % s]?
  | 0, j, h => by simp at h
  | n + 1, j, h => by
    have yb : 0 < s := by
      rcases Nat.eq_zero_or_pos s with h0 | h0
      · subst h0; simp at h
      · exact h0
    simp only [List.replicate_succ, List.flatten_cons]
    by_cases hj : j < s
    · rw [List.getElem?_append_left (by omega), Nat.mod_eq_of_lt hj]
    · rw [List.getElem?_append_right (by omega), hs, wW hs n (j - s) (by rw [Nat.succ_mul] at h; omega), ← Nat.mod_eq_sub_mod (by omega)]
theorem gF {s : Nat} {agg : Bool} {l : List DV} {n : Nat} (hl : l.length = n * s) (hs : 0 < s) (ha : agg = true ∨ s = 1) (hp : ∀ c ∈ l, c.bn = true) : ∀ i, i < n → (rowOf s agg l i).cells = (l.drop (i * s)).take s := by
  intro i hi
  have h1 : i * s + s ≤ l.length := by rw [hl, ← Nat.succ_mul]; exact Nat.mul_le_mul_right _ hi
  unfold rowOf
  cases agg with
  | true => rfl
  | false =>
    have DJ : s = 1 := by simpa using ha
    subst DJ
    have hlt : i * 1 < l.length := by omega
    have e : l.getD (i * 1) aO = l[i * 1] := by rw [List.getD_eq_getElem?_getD, List.getElem?_eq_getElem hlt]; rfl
    have Qq := hp l[i * 1] (List.getElem_mem hlt)
    simp only [Bool.false_eq_true, if_false, e]
    have hc : (l[i * 1]).cells = [l[i * 1]] := by
      revert Qq
      generalize l[i * 1] = c
      cases c <;> simp [DV.bn, DV.cells]
    rw [hc, List.drop_eq_getElem_cons hlt, List.take_succ_cons, List.take_zero]
theorem BM {s : Nat} {agg : Bool} {l : List DV} (hs : 0 < s) (ha : agg = true ∨ s = 1) (hp : ∀ c ∈ l, c.bn = true) : ∀ n, l.length = n * s → flat (rowsOf s agg l n) = l ∧ ∀ r ∈ rowsOf s agg l n, r.cells.length = s := by
  intro n hl
  have hc := gF hl hs ha hp
  have hlen : ∀ r ∈ rowsOf s agg l n, r.cells.length = s := by
    intro r hr
    unfold rowsOf at hr
    simp only [List.mem_map, List.mem_range] at hr
    obtain ⟨i, hi, rfl⟩ := hr
    rw [hc i hi, List.length_take, List.length_drop]
    have h1 : i * s + s ≤ l.length := by rw [hl, ← Nat.succ_mul]; exact Nat.mul_le_mul_right _ hi
    omega
  refine ⟨?_, hlen⟩
  have s7 := eB hlen
  have PY : (rowsOf s agg l n).length = n := by simp [rowsOf]
  refine List.ext_getElem? fun j => ?_
  by_cases hj : j < n * s
  · have hdiv : j / s < n := by rw [Nat.div_lt_iff_lt_mul hs]; exact hj
    have ZM : j % s < s := Nat.mod_lt _ hs
    have YY : j = (j / s) * s + j % s := by rw [Nat.mul_comm]; exact (Nat.div_add_mod j s).symm
    have hr : (rowsOf s agg l n)[j / s]? = some (rowOf s agg l (j / s)) := by simp [rowsOf, hdiv]
    rw [YY, uq hlen hr ZM, hc _ hdiv, List.getElem?_take, if_pos ZM, List.getElem?_drop]
  · rw [List.getElem?_eq_none (by rw [s7, PY]; omega), List.getElem?_eq_none (by omega)]
theorem yN {rows : List DV} {arr : Array Value} {s b : Nat} {y : Cx} {e : TypeId} (h1 : ∀ r ∈ rows, r.cells.length = s) (h2 : ∀ c ∈ flat rows, c.bn = true) (h3 : (flat rows).length ≤ arr.size) (hb : y.w.heap[b]? = some (.cells arr e (0, 0))) (hF : ∀ j, j < (flat rows).length → y.Fz b j) :
    View y rows (some ⟨b, 0, none⟩) s (fun j => arr.getD j undef) := by
  refine ⟨h1, fun j c hc => ⟨h2 c (List.mem_of_getElem? hc), b, 0, rfl, ?_, ?_⟩⟩
  · rw [Nat.zero_add]; exact hF j (List.getElem?_eq_some_iff.1 hc).1
  · have hj : j < arr.size := Nat.lt_of_lt_of_le (List.getElem?_eq_some_iff.1 hc).1 h3
    simp [World.cell?, hb, hj, Array.getD_eq_getD_getElem?]
theorem Bf {z : List DV} {zv : Value} {s n : Nat} (hs : 0 < s) (Cf : z.length = s) (LH : zv.cells.size = s) (h4 : ∀ j c, z[j]? = some c → RV x c (zv.cells.toList.getD j undef)) : en x ((List.replicate n z).flatten) ((Array.range (n * s)).map (zv.cells[· % zv.cells.size]!)) := by
  refine ⟨by simp [Cf], fun j c hc => ?_⟩
  have hj : j < n * s := by have := (List.getElem?_eq_some_iff.1 hc).1; simpa [Cf] using this
  rw [wW Cf n j hj] at hc
  have hm : j % s < s := Nat.mod_lt _ hs
  have := h4 _ c hc
  have F0 : j % zv.cells.size < zv.cells.size := by rw [LH]; exact hm
  have e1 : ((Array.range (n * s)).map (zv.cells[· % zv.cells.size]!)).getD j undef = zv.cells[j % zv.cells.size]! := by simp [Array.getD_eq_getD_getElem?, hj]
  rw [e1, getElem!_pos zv.cells (j % zv.cells.size) F0]
  have e2 : zv.cells.toList.getD (j % s) undef = zv.cells[j % zv.cells.size] := by simp [List.getD_eq_getElem?_getD, ← LH, F0]
  rw [← e2]
  exact this
theorem BV (dx : gY P ty) (hR : Rel x) (hρ : tq x ρd ρ) {t e : TypeId} {n s ji sz sz' : Nat} {agg : Bool} {k : TK} {z0 : Option (List DV)} {z cs : List DV} {ps : Array (Nat × Operand)} {l : List (Nat × DV)} (h : ty t = some ⟨.slice e s ji agg, sz, z0⟩) (hl : ic ρd ps.toList = some l) (he : ty e = some ⟨k, sz', some z⟩)
    (hs : 0 < s) (hn : n * s ≤ 16777216) (hf : iH (fun i => some (i * s, s)) ((List.replicate n z).flatten) (l.map fun (i, v) => (i, v.strip)) = some cs) :
    ∃ arr, en x cs arr ∧ cs.length = n * s ∧ (Instr.buildSlice t n (ps.map fun p => (p.1, ρ p.2))).run P x.w = .ok (.slice (some ⟨x.w.heap.size, 0, none⟩) n n) (x.w.alloc (.cells arr e)) := by
  obtain ⟨hk, i, hi, -, -⟩ := bg (dx t _ h)
  obtain ⟨hu, ie, oE, nB, -, B5⟩ := iZ hk
  obtain ⟨-, ie', yc, -, hz⟩ := bg (dx e _ he)
  rw [oE] at yc
  cases yc
  obtain ⟨zv, h1, h2, YI⟩ := gH hz
  obtain ⟨h3, h4⟩ := fC (x := x) h2
  have LH : zv.cells.size = s := by rw [← nB, ← YI]; simpa using h3
  have Cf : z.length = s := by rw [YI, nB]
  have xC := Bf (n := n) hs Cf LH h4
  have mH : Wl x (l.map fun (i, v) => (i, v.strip)) (oT ρ ps.toList) := by
    have := qx hρ hl
    refine ⟨by simpa using this.1, fun j p hp => ?_⟩
    simp only [List.getElem?_map, Option.map_eq_some_iff] at hp
    obtain ⟨q, hq, rfl⟩ := hp
    obtain ⟨v, DI, PV⟩ := this.2 j q hq
    exact ⟨v, by simpa using DI, PV.strip⟩
  obtain ⟨arr, h5, h6⟩ := xV (x := x) (pl := fun i => some (i * s, s)) (fun i p hp => hp) mH xC hf
  have lR : cs.length = n * s := by
    have key : ∀ (r : List (Nat × DV)) (l l' : List DV), iH (fun i => some (i * s, s)) l r = some l' → l'.length = l.length := by
      intro r
      induction r with
      | nil => intro l l' h; simp only [iH, Option.some.injEq] at h; rw [h]
      | cons p r ih =>
        intro l l' h
        obtain ⟨i, d⟩ := p
        unfold iH at h
        simp only at h
        split at h
        · split at h
          · rename_i l1 h1
            rw [ih _ _ h]
            obtain ⟨h2, rfl⟩ := ng h1
            simp; omega
          · cases h
        · cases h
    rw [key _ _ _ hf]; simp [Cf]
  refine ⟨arr, h6, lR, ?_⟩
  · subst nB
    have c1 : ¬ (n * ie.size > 2 ^ 24) := by have e : (2 : Nat) ^ 24 = 16777216 := by decide
                                             rw [e]; omega
    have Yr : Instr.fill (fun i => some (i * ie.size, ie.size)) ((Array.range (n * ie.size)).map (zv.cells[· % zv.cells.size]!)) (ps.toList.map fun p => (p.1, ρ p.2)) = some arr := h5
    by_cases h0 : n * ie.size = 0
    · have e0 : (Array.range (n * ie.size)).map ((#[] : Array Value)[· % (#[] : Array Value).size]!) = (Array.range (n * ie.size)).map (zv.cells[· % zv.cells.size]!) := by rw [h0]; simp
      simp only [Instr.buildSlice, Sem.run_bind, run_underlying hu, Result.andThen_ok, run_sizeOf oE, if_neg c1, if_pos h0, Sem.run_pure, e0, Array.toList_map, Yr, newRow, run_newObj]
      rfl
    · simp only [Instr.buildSlice, Sem.run_bind, run_underlying hu, Result.andThen_ok, run_sizeOf oE, if_neg c1, if_neg h0, Sem.run_pure, zeroValue, typeInfo, run_program, oE, h1, Array.toList_map, Yr, newRow, run_newObj]
      rfl
theorem AL (dx : gY P ty) (hR : Rel x) (hρ : tq x ρd ρ) {t e : TypeId} {n s ji sz sz' : Nat} {agg : Bool} {k : TK} {z0 : Option (List DV)} {z cs : List DV} {ps : Array (Nat × Operand)} {l : List (Nat × DV)} (h : ty t = some ⟨.slice e s ji agg, sz, z0⟩) (hl : ic ρd ps.toList = some l) (he : ty e = some ⟨k, sz', some z⟩)
    (hs : 0 < s) (hn : n * s ≤ 16777216) (hf : iH (fun i => some (i * s, s)) ((List.replicate n z).flatten) (l.map fun (i, v) => (i, v.strip)) = some cs) (hp : cs.all DV.bn = true) (ha : agg = true ∨ s = 1) :
    Yields x ((do pure (.value (← Instr.buildSlice t n (ps.map fun p => (p.1, ρ p.2)))) : Sem Next).run P x.w) (.sl (rowsOf s agg cs n) none ⟨true, some false⟩) x.S := by
  obtain ⟨arr, h6, lR, hrun⟩ := BV dx hR hρ h hl he hs hn hf
  have Md : ∀ c ∈ cs, c.bn = true := fun c hc => List.all_eq_true.1 hp c hc
  obtain ⟨s7, PY⟩ := BM hs ha Md n lR
  have Qq : kU x.w (x.w.alloc (.cells arr e)) (.cells arr e (0, 0)) := eF _ _
  have jX := KH (F := fun o => o < arr.size) hR Qq fun o ho => ⟨arr[o], by simp [ho]⟩
  have Ya : (rowsOf s agg cs n).length = n := by simp [rowsOf]
  have qO : (x.w.alloc (.cells arr e)).heap[x.w.heap.size]? = some (.cells arr e (0, 0)) := Qq.new
  have wA : arr.size = cs.length := h6.1
  have M := nR (F := fun o => o < arr.size) hR Qq
  refine eV (y := x.froze _ (fun o => o < arr.size)) (v := .slice (some ⟨x.w.heap.size, 0, none⟩) n n) hrun rfl jX M ?_
  · suffices hk : RV (x.froze (x.w.alloc (.cells arr e)) (fun o => o < arr.size)) (.sl (rowsOf s agg cs n) none ⟨true, some false⟩) (.slice (some ⟨x.w.heap.size, 0, none⟩) (rowsOf s agg cs n).length (rowsOf s agg cs n).length) by rw [Ya] at hk; exact hk
    have hv : View (x.froze (x.w.alloc (.cells arr e)) (fun o => o < arr.size)) (rowsOf s agg cs n) (some ⟨x.w.heap.size, 0, none⟩) s (fun j => arr.getD j undef) :=
      yN PY (by rw [s7]; exact Md) (by rw [s7]; omega) qO fun j hj => .inr ⟨rfl, by rw [s7] at hj; omega⟩
    refine RV.sl (tok := none) hv (fun j c hc => ?_) (Nat.le_refl _) ⟨fun _ => rfl, fun b h => by cases h; rfl⟩ (by simp) (fun ad h _ => by cases h; rfl) (fun t ht => nomatch ht)
    rw [s7] at hc
    exact (h6.2 j c hc).mono M
theorem nZ (dx : gY P ty) {t : TypeId} {fs : List (Nat × Nat × Bool)} {sz f off s : Nat} {agg : Bool} {z : Option (List DV)} (h : ty t = some ⟨.struct fs, sz, z⟩) (hf : fs[f]? = some (off, s, agg)) (hs : 0 < s) (b o0 : Nat) (w : World) :
    (Instr.fieldAt t (.pointer (some ⟨b, o0, none⟩)) f).run P w = .ok (.pointer (some ⟨b, o0 + off, none⟩)) w := by
  obtain ⟨hk, i, hi, -, -⟩ := bg (dx t _ h)
  obtain ⟨fields, hu, hfs, Y1⟩ := vw hk
  obtain ⟨fd, h1, h2, inf, h3, h4, -, -⟩ := Y1 f _ hf
  simp only at h2 h4
  have hne : ¬ (inf.size = 0) := by omega
  simp only [Instr.fieldAt, Sem.run_bind, run_underlying hu, Result.andThen_ok, h1, Instr.sureAddr, Sem.run_pure, fieldPlace, run_sizeOf h3, if_neg hne, fM, h2]
theorem wP (dx : gY P ty) {t : TypeId} {k s sz : Nat} {agg : Bool} {z : Option (List DV)} (h : ty t = some ⟨.array k s agg, sz, z⟩) {kd : IntKind} {n : Int} (h0 : 0 ≤ n) (hlt : n.toNat < k) (b o0 : Nat) (w : World) :
    (Instr.indexAt t (.pointer (some ⟨b, o0, none⟩)) (.int kd n)).run P w = .ok (.pointer (some ⟨b, o0 + n.toNat * s, none⟩)) w := by
  obtain ⟨hk, i, hi, -, -⟩ := bg (dx t _ h)
  obtain ⟨e, hu, ie, oE, nB, -, -⟩ := ue hk
  have hc : 0 ≤ n ∧ n < (k : Int) := ⟨h0, by omega⟩
  subst nB
  simp only [Instr.indexAt, asIntOf, Sem.run_bind, Sem.run_pure, Result.andThen_ok, run_underlying hu, Instr.sureAddr, hc, and_self, if_true, run_sizeOf oE, fM]
theorem zP (dx : gY P ty) {t e : TypeId} {s ji sz : Nat} {agg : Bool} {z : Option (List DV)} (h : ty t = some ⟨.slice e s ji agg, sz, z⟩) {kd : IntKind} {n : Int} {len cap : Nat} (h0 : 0 ≤ n) (hlt : n.toNat < len) (b o0 : Nat) (w : World) :
    (Instr.indexAt t (.slice (some ⟨b, o0, none⟩) len cap) (.int kd n)).run P w = .ok (.pointer (some ⟨b, o0 + n.toNat * s, none⟩)) w := by
  obtain ⟨hk, i, hi, -, -⟩ := bg (dx t _ h)
  obtain ⟨hu, ie, oE, nB, -, -⟩ := iZ hk
  have hc : 0 ≤ n ∧ n < (len : Int) := ⟨h0, by omega⟩
  subst nB
  simp only [Instr.indexAt, asIntOf, Sem.run_bind, Sem.run_pure, Result.andThen_ok, run_underlying hu, hc, and_self, if_true, run_sizeOf oE, fM]
end Go.Di
end
