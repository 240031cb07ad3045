import Derived.Test.YtedcgbkilmlbhaaGreatPk16
section
namespace Go.Di
open Go
variable {P:Program} {ty:gF} {x:Cx} {w':World} {aI:bP} {call:bM}
def Yields (x:Cx) (r:Result Next) (d:DV) (S':av):Prop:=∃ v y,(r = .ok (.value v) y.w∨(r = .ok .skip y.w∧v=undef))∧y.S=S'∧Rel y∧cr x y∧RV y d v
theorem gA {s:Sem Value} {d:DV} {S':av} {v:Value} {y:Cx} (h:s.run P x.w = .ok v y.w) (h1:y.S=S') (h2:Rel y) (h3:cr x y) (h4:RV y d v):Yields x ((do pure (.value (← s)):Sem Next).run P x.w) d S' :=
 ⟨v,y,.inl (by simp[h]),h1,h2,h3,h4⟩
theorem aS {s:Sem Value} {d:DV} {v:Value} (hR:Rel x) (h:s.run P x.w = .ok v x.w) (h4:RV x d v):Yields x ((do pure (.value (← s)):Sem Next).run P x.w) d x.S:=gA h rfl hR (cr.refl x) h4
theorem FM {s:Sem Unit} {S':av} {y:Cx} (h:s.run P x.w = .ok () y.w) (h1:y.S=S') (h2:Rel y) (h3:cr x y):Yields x ((do s; pure .skip:Sem Next).run P x.w) bz S' :=
 ⟨undef,y,.inr ⟨by simp[h],rfl⟩,h1,h2,h3,.val rfl⟩
theorem mX {s:Sem Value} {d:DV} (h:iE P s=some d) (w:World):∃ v,s.run P w = .ok v w∧RV x d v:=by
 unfold iE at h
 simp only[ko] at h
 obtain⟨v,h1,h2⟩:=h
 exact⟨v,mW h1 w,vD h2⟩
def jl (P:Program) (ty:gF):Prop:=∀ t d,ty t=some d→NQ P t=some d
variable {ρd:Operand→Option DV} {ρ:Operand→Value} {o:Oper} {aB:Nat}
def uT (x:Cx) (ρd:Operand→Option DV) (ρ:Operand→Value):Prop:=∀ a d,ρd a=some d→RV x d (ρ a)
theorem ff (hρ:uT x ρd ρ) {a:Operand} {v:Value} (h:valOf ρd a=some v):ρ a=v:=by
 unfold valOf at h
 simp only[ko] at h
 obtain⟨d,h1,h2⟩:=h
 exact F2 (hρ a d h1) h2
theorem lJ (hρ:uT x ρd ρ) {a:Operand} {n:Int} (h:intOf ρd a=some n):∃ k,ρ a = .int k n:=by
 unfold intOf at h
 split at h
 ·rename_i k m h1
  cases h
  exact⟨k,tT (hρ a _ h1)⟩
 ·cases h
theorem tX (hρ:uT x ρd ρ):∀ {l:List Operand} {r:List DV},evs ρd l=some r→gD x r (l.map ρ).toArray
 | [],r,h=>by simp only[evs,az] at h; subst h; exact⟨rfl,by simp⟩
 | a::l,r,h=>by
  unfold evs at h
  split at h
  ·rename_i d r' h1 h2
   cases h
   obtain⟨h3,h4⟩:=tX hρ h2
   refine⟨by simpa using h3,fun j c hc => ?_⟩
   cases j with
   | zero=>simp only[List.getElem?_cons_zero,az] at hc; subst hc; exact hρ a _ h1
   | succ j=>simpa [aV] using h4 j c (by simpa using hc)
  ·cases h
theorem QN (eC:jl P ty) (hR:Rel x) (hn:B8 x.S aB) {e:TypeId} {k:TK} {sz:Nat} {z:List DV} (h:ty e=some ⟨k,sz,some z⟩) :
  Yields x ((do pure (.value (← Instr.alloc e true (.tuple #[]))):Sem Next).run P x.w) (.ptr aB 0) (ez x.S aB (.cells z)):=by
 obtain⟨-,i,hi,-,hz⟩:=bO (eC e _ h)
 obtain⟨zv,h1,h2,-⟩:=iS hz
 obtain⟨h3,h4⟩:=gP (x:=x) h2
 have hp:nk x.w (x.w.alloc (.cells zv.cells e)) (.cells zv.cells e (0,0)):=fZ _ _
 have lR:=kO (k:=0) (F:=fun _=>False) (b := .cells z) hR hn hp (by simp) (.inl ⟨z,zv.cells,e,rfl,rfl,by simpa using h3,by simp,fun j c hc=>by simpa [aV,aL] using h4 j c hc⟩)
 refine gA (y:=x.fresh _ aB 0 (fun _=>False) (.cells z)) (v := .pointer (some ⟨x.w.heap.size,0,none⟩)) ?_ rfl lR (iR hR hn hp) ?_
 ·simp[Instr.alloc,zeroValue,typeInfo,hi,h1,newVar,newRow,Cx.fresh]
 ·have:(x.fresh (x.w.alloc (.cells zv.cells e)) aB 0 (fun _=>False) (.cells z)).μ aB=x.w.heap.size:=if_pos rfl
  rw[← this]
  exact .ptr (l:=z) (by show (ez _ _ _)[_]? = _; rw[bn hn.le,if_pos rfl])
theorem YL (hR:Rel x) (hn:B8 x.S aB) {e:TypeId} {d:DV} {v:Value} (h:RV x d v) :
  Yields x ((do pure (.value (← Instr.box e v)):Sem Next).run P x.w) (.ptr aB 0) (ez x.S aB (.cells d.cells)):=by
 obtain⟨h3,h4⟩:=ru h
 have hp:nk x.w (x.w.alloc (.cells v.cells e)) (.cells v.cells e (0,0)):=fZ _ _
 have lR:=kO (k:=0) (F:=fun _=>False) (b := .cells d.cells) hR hn hp (by simp) (.inl ⟨d.cells,v.cells,e,rfl,rfl,h3,by simp,h4⟩)
 refine gA (y:=x.fresh _ aB 0 (fun _=>False) (.cells d.cells)) (v := .pointer (some ⟨x.w.heap.size,0,none⟩)) ?_ rfl lR (iR hR hn hp) ?_
 ·simp[Instr.box,newVar,newRow,Cx.fresh]
 ·have:(x.fresh (x.w.alloc (.cells v.cells e)) aB 0 (fun _=>False) (.cells d.cells)).μ aB=x.w.heap.size:=if_pos rfl
  rw[← this]
  exact .ptr (l:=d.cells) (by show (ez _ _ _)[_]? = _; rw[bn hn.le,if_pos rfl])
theorem LM {rows:List DV} {b o s:Nat} {vs:Nat→Value} (hv:View x rows (some ⟨b,o,none⟩) s vs) (hr:∀ j c,(flat rows)[j]? = some c→RV x c (vs j)) {i:Nat} {r:DV} (h:rows[i]? = some r) :
  ∀ j c,r.cells[j]? = some c→∃ v,x.w.cell? ⟨b,o+i*s+j,none⟩=some v∧RV x c v:=by
 intro j c hc
 have hj:j<s:=by rw[← hv.1 r (dL h)]; exact(aJ.1 hc).1
 have hf:=vL hv.1 h hj
 rw[hc] at hf
 obtain⟨-,b',o',h1,-,h2⟩:=hv.2 _ _ hf
 cases h1
 exact⟨_,by rw[fC]; exact h2,hr _ _ hf⟩
theorem Gn (eC:jl P ty) (hR:Rel x) {t:TypeId} {a d:DV} {va:Value} (ha:RV x a va) (h:jN ty x.S t a=some d):∃ v,(Instr.loadAt t va).run P x.w = .ok v x.w∧RV x d v:=by
 unfold jN at h
 split at h
 ·rename_i td id off hk
  obtain⟨k,sz,z⟩:=td
  obtain⟨sO,i,hi,hs,-⟩:=bO (eC t _ hk)
  obtain⟨Dm,d0,hu⟩:=H6 sO
  split at h
  ·rename_i l hl
   obtain⟨arr,e,h1,h2,h3⟩:=hR.cells id l hl
   cases ha with
   | ptr _ =>
    have:=xo (x:=x) (b:=x.μ id) (o:=0) (l:=l) hi hu hs Dm.symm (fun j c hc => ?_) h
    ·obtain⟨v,h4,h5⟩:=this
     refine⟨v,?_,h5⟩
     simpa [Instr.loadAt,Instr.sureAddr] using h4
    ·have hj:j<arr.size:=by rw[h2]; exact(aJ.1 hc).1
     refine⟨arr[j],?_,by simpa [aV,hj] using h3 j c hc⟩
     simp[World.cell?,h1,hj]
  ·cases h
 ·rename_i td rows i off hk
  obtain⟨k,sz,z⟩:=td
  obtain⟨sO,inf,hi,hs,-⟩:=bO (eC t _ hk)
  obtain⟨Dm,d0,hu⟩:=H6 sO
  split at h
  ·rename_i r hr
   cases ha with
   | @eS _ _ _ b o s vs hv Na =>
    obtain⟨v,h4,h5⟩:=xo (x:=x) (b:=b) (o:=o+i*s) (l:=r.cells) hi hu hs Dm.symm (LM hv Na hr) h
    refine⟨v,?_,h5⟩
    rw[fC] at h4
    simpa [Instr.loadAt,Instr.sureAddr] using h4
  ·cases h
 ·rename_i td id n off hk
  obtain⟨k,sz,z⟩:=td
  obtain⟨sO,i,hi,hs,-⟩:=bO (eC t _ hk)
  obtain⟨Dm,d0,hu⟩:=H6 sO
  split at h
  ·rename_i e s l zz hop
   obtain⟨hS,Dj⟩:=kA hop
   obtain⟨arr,h1,-,h2,-,h3,-⟩:=hR.ops id e s l zz hS
   cases ha with
   | fW yO Js hA =>
    rw[hS] at yO
    cases yO
    rw[hA Dj]
    obtain⟨v,h4,h5⟩:=xo (x:=x) (b:=x.μ id) (o:=0) (l:=l) hi hu hs Dm.symm (fun j c hc=>by
     have hj:j<arr.size:=cI (aJ.1 hc).1 h2
     refine⟨arr[j],?_,by simpa [aV,hj] using (h3 j c hc).2⟩
     simp[World.cell?,h1,hj]) h
    exact⟨v,by simpa [Instr.loadAt,Instr.sureAddr] using h4,h5⟩
  ·cases h
 ·cases h
theorem LR (eC:jl P ty) (hR:Rel x) {t:TypeId} {a d:DV} {va vd:Value} {S':av} (ha:RV x a va) (hd:RV x d vd) (h:nG ty x.S t a d=some S') :
  ∃ y,(Instr.storeAt t va vd).run P x.w = .ok () y.w∧y.S=S'∧Rel y∧cr x y:=by
 unfold nG at h
 split at h
 ·rename_i td id off hk
  obtain⟨k,sz,z⟩:=td
  obtain⟨sO,i,hi,hs,-⟩:=bO (eC t _ hk)
  split at h
  ·rename_i l hl
   split at h
   ·rename_i hc
    simp only[aG,bI] at hc
    simp only[ah] at h
    obtain⟨l',h6,rfl⟩:=h
    obtain⟨arr,e,h1,h2,h3⟩:=hR.cells id l hl
    have pN:=ru hd
    cases ha with
    | ptr _ =>
     have hp:=Ke ⟨h2,h3⟩ pN h6
     obtain⟨h7,h8⟩:=pg h6
     refine⟨x.upd id (arr.toList.take off++vd.cells.toList++arr.toList.drop (off+vd.cells.size)).toArray (fun _=>False) (.cells l'),?_,rfl,yZ hR hl (.inl ⟨l,l',rfl,rfl,by simp,hp.1,hp.2⟩),rB hR hl (.inl ⟨l,l',rfl,rfl⟩)⟩
     have hst:=run_storeCells_at P (x.μ id) off e vd.cells.toList 0 arr x.w h1 (by simp only[Nat.add_zero,Array.length_toList]; rw[pN.1,h2]; exact h7) (cells_one hd hc.2)
     simp only[Nat.add_zero,Array.length_toList] at hst
     have hsz:¬ (vd.cells.size≠i.size):=by rw[pN.1,hc.1,hs]; simp
     simp only[Instr.storeAt,Instr.sureAddr,Sem.run_bind,Sem.run_pure,Result.andThen_ok,storeVar,run_sizeOf hi,if_neg hsz]
     exact hst
   ·cases h
  ·cases h
 ·rename_i td id n off hk
  obtain⟨k,sz,z⟩:=td
  obtain⟨sO,i,hi,hs,-⟩:=bO (eC t _ hk)
  split at h
  ·rename_i e s l hop
   obtain⟨hS,Dj⟩:=kA hop
   split at h
   ·rename_i hc
    simp only[aG,bI] at hc
    simp only[ah] at h
    obtain⟨l',h6,rfl⟩:=h
    obtain⟨arr,h1,h0,h2,hκ,h3,-,-⟩:=hR.ops id e s l false hS
    have Bw:=hd.strip
    have pN:=ru Bw
    cases ha with
    | fW yO Js hA =>
     rw[hS] at yO
     cases yO
     rw[hA Dj]
     obtain⟨h7,h8⟩:=pg h6
     have hp:=Em (off:=off) h2 (fun j c hc=>(h3 j c hc).2) pN (by omega) (by omega)
     rw[← h8] at hp
     have Sg:∀ c∈l',c.bS=true:=fun c hm=>by
      rw[h8] at hm
      rcases gn.1 hm with hm | hm
      ·rcases gn.1 hm with hm | hm
       ·obtain⟨j,hj⟩:=pZ.1 (List.mem_of_mem_take hm)
        exact(h3 j c hj).1
       ·exact bh.1 hc.2 c hm
      ·obtain⟨j,hj⟩:=pZ.1 (List.mem_of_mem_drop hm)
       exact(h3 j c hj).1
     have hll:l'.length=l.length:=by rw[h8]; simp; omega
     have aal:(arr.toList.take off++vd.cells.toList++arr.toList.drop (off+vd.cells.size)).toArray.size=arr.size:=by
      have:=pN.1
      simp
      omega
     refine⟨x.upd id (arr.toList.take off++vd.cells.toList++arr.toList.drop (off+vd.cells.size)).toArray (fun _=>False) (.op e s l' false),?_,rfl,yZ hR hS (.inr (.inr ⟨e,s,l,l',rfl,rfl,by omega,by simp,by rw[aal]; exact h0,by rw[aal]; omega,fun j c hj=>⟨Sg c (dL hj),hp j c hj⟩⟩)),rB hR hS (.inr (.inr ⟨e,s,l,l',rfl,rfl,by omega⟩))⟩
     have hst:=run_storeCells_at P (x.μ id) off e vd.cells.toList 0 arr x.w h1 (by simp only[Nat.add_zero,Array.length_toList]; rw[pN.1]; omega) (cells_one Bw (bh.2 fun c hm=>Mk (bh.1 hc.2 c hm)))
     simp only[Nat.add_zero,Array.length_toList] at hst
     have hsz:¬ (vd.cells.size≠i.size):=by rw[pN.1,hc.1,hs]; simp
     simp only[Instr.storeAt,Instr.sureAddr,Sem.run_bind,Sem.run_pure,Result.andThen_ok,storeVar,run_sizeOf hi,if_neg hsz]
     exact hst
   ·cases h
  ·cases h
 ·cases h
end Go.Di
end
section
namespace Go.Di
open Go
variable {P : Program} {ty : gF} {x : Cx} {w' : World} {ρd : Operand → Option DV} {ρ : Operand → Value} {o : Oper} {aB : Nat}
theorem tE (off : Nat) : ∀ (cs : List Value) (i : Nat) (arr : Array Value), off + i + cs.length ≤ arr.size →
  ((cs.zipIdx i).foldl (fun a (p : Value × Nat) => a.setIfInBounds (off + p.2) p.1) arr) = (arr.toList.take (off + i) ++ cs ++ arr.toList.drop (off + i + cs.length)).toArray
 | [], i, arr, _ => by simp
 | c :: cs, i, arr, h => by
  simp only [List.length_cons] at h
  simp only [List.zipIdx_cons, List.foldl_cons]
  rw [tE off cs (i + 1) _ (by simp; omega)]
  have e := list_seg_step arr.toList (off + i) c cs (by simp; omega)
  congr 1
  simpa [Array.toList_setIfInBounds, fC] using e
theorem fold_eq (off : Nat) (cs arr : Array Value) (h : off + cs.size ≤ arr.size) :
  cs.zipIdx.foldl (fun a (p : Value × Nat) => a.setIfInBounds (off + p.2) p.1) arr = (arr.toList.take off ++ cs.toList ++ arr.toList.drop (off + cs.size)).toArray := by
 have := tE off cs.toList 0 arr (by simpa using h)
 rw [← Array.foldl_toList]
 simpa using this
def XP (x : Cx) (r : List (Nat × DV)) (vs : List (Nat × Value)) : Prop := vs.length = r.length ∧ ∀ (j : Nat) (p : Nat × DV), r[j]? = some p → ∃ v, vs[j]? = some (p.1, v) ∧ RV x p.2 v
def qT (ρ : Operand → Value) (l : List (Nat × Operand)) : List (Nat × Value) := l.map fun p => (p.1, ρ p.2)
theorem sD (hρ : uT x ρd ρ) : ∀ {l : List (Nat × Operand)} {r : List (Nat × DV)}, jq ρd l = some r → XP x r (qT ρ l)
 | [], r, h => by simp only [jq, az] at h; subst h; exact ⟨rfl, by simp⟩
 | (i, a) :: l, r, h => by
  unfold jq at h
  split at h
  ·rename_i d r' h1 h2
   cases h
   obtain ⟨h3, h4⟩ := sD hρ h2
   refine ⟨by simpa [qT] using h3, fun j p hp => ?_⟩
   cases j with
   | zero => simp only [List.getElem?_cons_zero, az] at hp; subst hp; exact ⟨ρ a, rfl, hρ a d h1⟩
   | succ j => simpa [qT] using h4 j p (by simpa using hp)
  ·cases h
theorem zg {pd pl : Nat → Option (Nat × Nat)} (xF : ∀ i p, pd i = some p → pl i = some p) : ∀ {r : List (Nat × DV)} {vs : List (Nat × Value)} {l l' : List DV} {arr : Array Value}, XP x r vs → gD x l arr → jO pd l r = some l' → ∃ S4, Instr.fill pl arr vs = some S4 ∧ gD x l' S4
 | [], vs, l, l', arr, hv, hl, h => by
  have : vs = [] := dY (by simpa using hv.1)
  subst this
  simp only [jO, az] at h
  subst h
  exact ⟨arr, rfl, hl⟩
 | (i, d) :: r, vs, l, l', arr, hv, hl, h => by
  obtain ⟨v, Sf, hd⟩ := hv.2 0 (i, d) rfl
  have hd : RV x d v := hd
  cases vs with
  | nil => simp at Sf
  | cons v0 vs =>
   simp only [List.getElem?_cons_zero, az] at Sf
   subst Sf
   unfold jO at h
   split at h
   ·cases h
   ·rename_i off size hp
    split at h
    ·rename_i hsz
     split at h
     ·rename_i l1 h1
      have hc := ru hd
      obtain ⟨h2, h3⟩ := pg h1
      have Sg := Ke hl hc h1
      obtain ⟨S4, h4, h5⟩ := zg xF (r := r) (vs := vs) ⟨by simpa using hv.1, fun j p hj => by simpa using hv.2 (j + 1) p (by simpa using hj)⟩ Sg h
      refine ⟨S4, ?_, h5⟩
      unfold Instr.fill
      simp only [xF i _ hp]
      have c1 : v.cells.size = size := by rw [hc.1, ← hsz]
      have c2 : ¬ (v.cells.size ≠ size ∨ off + v.cells.size > arr.size) := by rw [hl.1, hc.1]; omega
      simp only [gt_iff_lt, iq, bI, c2, if_false]
      rw [fold_eq off v.cells arr (by rw [hl.1, hc.1]; exact h2)]
      exact h4
     ·cases h
    ·cases h
theorem yJ (eC : jl P ty) (hR : Rel x) (hρ : uT x ρd ρ) {t : TypeId} {fs : List (Nat × Nat × Bool)} {sz : Nat} {z cs : List DV} {ps : Array (Nat × Operand)} {l : List (Nat × DV)} (h : ty t = some ⟨.struct fs, sz, some z⟩) (hl : jq ρd ps.toList = some l)
  (hf : jO (fun i => (fs[i]?).map fun f => (f.1, f.2.1)) z l = some cs) : Yields x ((do pure (.value (← Instr.build t (ps.map fun p => (p.1, ρ p.2)))) : Sem Next).run P x.w) (.agg cs) x.S := by
 obtain ⟨hk, i, hi, -, hz⟩ := bO (eC t _ h)
 obtain ⟨fields, hu, hfs, hff⟩ := wX hk
 obtain ⟨zv, h1, h2, -⟩ := iS hz
 obtain ⟨h3, h4⟩ := gP (x := x) h2
 have yM : gD x z zv.cells := ⟨by simpa using h3, fun j c hc => by simpa [aV, aL] using h4 j c hc⟩
 have xF : ∀ w : World, (fields.mapM (fun f => do pure (f.offset, ← sizeOf f.type) : Field → Sem (Nat × Nat))).run P w = .ok ((fs.map fun f => (f.1, f.2.1)).toArray) w := by
  intro w
  have key : ∀ (l : List Field) (fs : List (Nat × Nat × Bool)), l.length = fs.length → (∀ (j : Nat) (r : Nat × Nat × Bool), fs[j]? = some r → ∃ f, l[j]? = some f ∧ Ey P f r) → (l.mapM (fun f => do pure (f.offset, ← sizeOf f.type) : Field → Sem (Nat × Nat))).run P w = .ok (fs.map fun f => (f.1, f.2.1)) w := by
   intro l
   induction l with
   | nil => intro fs h _; have : fs = [] := dY (by simpa using h.symm); subst this; rfl
   | cons f l ih =>
    intro fs h hj
    cases fs with
    | nil => simp at h
    | cons r fs =>
     obtain ⟨f', h1, h2, inf, h3, h4, -, -⟩ := hj 0 r rfl
     simp only [List.getElem?_cons_zero, az] at h1
     subst h1
     have := ih fs (by simpa using h) fun j r hr => by simpa using hj (j + 1) r (by simpa using hr)
     simp only [List.mapM_cons, Sem.run_bind, run_sizeOf h3, Result.andThen_ok, Sem.run_pure, this, bT]
     rw [h2, h4]
  rw [Array.mapM_eq_mapM_toList]
  simp only [Sem.run_map, key fields.toList fs (by simpa using hfs) (fun j r hr => by simpa using hff j r hr), Result.andThen_ok]
 have oM := sD hρ hl
 obtain ⟨arr, h5, h6⟩ := zg (x := x) (pl := fun i => ((fs.map fun f => (f.1, f.2.1)).toArray)[i]?) (fun i p hp => by simpa using hp) (vs := qT ρ ps.toList) oM yM hf
 unfold qT at h5
 refine aS hR (v := .agg arr) ?_ (.agg h6.1 h6.2)
 simp only [Instr.build, Sem.run_bind, zeroValue, typeInfo, run_program, Result.andThen_ok, hi, Sem.run_pure, h1, run_underlying hu, xF, Array.toList_map, h5]
theorem Bp (eC : jl P ty) (hR : Rel x) (hρ : uT x ρd ρ) {t : TypeId} {n s sz : Nat} {agg : Bool} {z cs : List DV} {ps : Array (Nat × Operand)} {l : List (Nat × DV)} (h : ty t = some ⟨.array n s agg, sz, some z⟩) (hl : jq ρd ps.toList = some l)
  (hf : jO (fun i => some (i * s, s)) z l = some cs) : Yields x ((do pure (.value (← Instr.build t (ps.map fun p => (p.1, ρ p.2)))) : Sem Next).run P x.w) (.agg cs) x.S := by
 obtain ⟨hk, i, hi, -, hz⟩ := bO (eC t _ h)
 obtain ⟨e, hu, ie, qF, pJ, -, -⟩ := vC hk
 obtain ⟨zv, h1, h2, -⟩ := iS hz
 obtain ⟨h3, h4⟩ := gP (x := x) h2
 have yM : gD x z zv.cells := ⟨by simpa using h3, fun j c hc => by simpa [aV, aL] using h4 j c hc⟩
 have oM := sD hρ hl
 obtain ⟨arr, h5, h6⟩ := zg (x := x) (pl := fun i => some (i * s, s)) (fun i p hp => hp) (vs := qT ρ ps.toList) oM yM hf
 unfold qT at h5
 refine aS hR (v := .agg arr) ?_ (.agg h6.1 h6.2)
 subst pJ
 simp only [Instr.build, Sem.run_bind, zeroValue, typeInfo, run_program, Result.andThen_ok, hi, Sem.run_pure, h1, run_underlying hu, run_sizeOf qF, Array.toList_map, h5]
theorem yp {z : List DV} {s : Nat} (hs : z.length = s) : ∀ (n j : Nat), j < n * s → ((List.replicate n z).flatten)[j]? = z[j % s]?
 | 0, j, h => by simp at h
 | n + 1, j, h => by
  have zH : 0 < s := by
   rcases mM s with h0 | h0
   ·subst h0; simp at h
   ·exact h0
  simp only [List.replicate_succ, List.flatten_cons]
  by_cases hj : j < s
  ·rw [eG (by omega), Nat.mod_eq_of_lt hj]
  ·rw [gr (by omega), hs, yp hs n (j - s) (by rw [lp] at h; omega), ← Nat.mod_eq_sub_mod (by omega)]
theorem iQ {s : Nat} {agg : Bool} {l : List DV} {n : Nat} (hl : l.length = n * s) (hs : 0 < s) (ha : agg = true ∨ s = 1) (hp : ∀ c ∈ l, c.bS = true) : ∀ i, i < n → (rowOf s agg l i).cells = (l.drop (i * s)).take s := by
 intro i hi
 have h1 : i * s + s ≤ l.length := by rw [hl, ← lp]; exact ew _ hi
 unfold rowOf
 cases agg with
 | true => rfl
 | false =>
  have Fa : s = 1 := by simpa using ha
  subst Fa
  have hlt : i * 1 < l.length := by omega
  have e : l.getD (i * 1) bz = l[i * 1] := by rw [aL, bK hlt]; rfl
  have Sg := hp l[i * 1] (mJ hlt)
  simp only [aD, if_false, e]
  have hc : (l[i * 1]).cells = [l[i * 1]] := by
   revert Sg
   generalize l[i * 1] = c
   cases c <;> simp [DV.bS, DV.cells]
  rw [hc, mO hlt, List.take_succ_cons, List.take_zero]
theorem C0 {s : Nat} {agg : Bool} {l : List DV} (hs : 0 < s) (ha : agg = true ∨ s = 1) (hp : ∀ c ∈ l, c.bS = true) : ∀ n, l.length = n * s → flat (rowsOf s agg l n) = l ∧ ∀ r ∈ rowsOf s agg l n, r.cells.length = s := by
 intro n hl
 have hc := iQ hl hs ha hp
 have hlen : ∀ r ∈ rowsOf s agg l n, r.cells.length = s := by
  intro r hr
  unfold rowsOf at hr
  simp only [eF, List.mem_range] at hr
  obtain ⟨i, hi, rfl⟩ := hr
  rw [hc i hi, gq, List.length_drop]
  have h1 : i * s + s ≤ l.length := by rw [hl, ← lp]; exact ew _ hi
  omega
 refine ⟨?_, hlen⟩
 have uM := gB hlen
 have RM : (rowsOf s agg l n).length = n := by simp [rowsOf]
 refine mK fun j => ?_
 by_cases hj : j < n * s
 ·have hdiv : j / s < n := by rw [Nat.div_lt_iff_lt_mul hs]; exact hj
  have aat : j % s < s := Nat.mod_lt _ hs
  have hje : j = (j / s) * s + j % s := by rw [Nat.mul_comm]; exact (Nat.div_add_mod j s).symm
  have hr : (rowsOf s agg l n)[j / s]? = some (rowOf s agg l (j / s)) := by simp [rowsOf, hdiv]
  rw [hje, vL hlen hr aat, hc _ hdiv, mL, if_pos aat, pW]
 ·rw [fE (by rw [uM, RM]; omega), fE (by omega)]
theorem Ak {rows : List DV} {arr : Array Value} {s b : Nat} {y : Cx} {e : TypeId} (h1 : ∀ r ∈ rows, r.cells.length = s) (h2 : ∀ c ∈ flat rows, c.bS = true) (h3 : (flat rows).length ≤ arr.size) (hb : y.w.heap[b]? = some (.cells arr e (0, 0))) (hF : ∀ j, j < (flat rows).length → y.Fz b j) :
  View y rows (some ⟨b, 0, none⟩) s (fun j => arr.getD j undef) := by
 refine ⟨h1, fun j c hc => ⟨h2 c (dL hc), b, 0, rfl, ?_, ?_⟩⟩
 ·rw [gL]; exact hF j (aJ.1 hc).1
 ·have hj : j < arr.size := cI (aJ.1 hc).1 h3
  simp [World.cell?, hb, hj, aV]
theorem Cv {z : List DV} {zv : Value} {s n : Nat} (hs : 0 < s) (Dw : z.length = s) (M8 : zv.cells.size = s) (h4 : ∀ j c, z[j]? = some c → RV x c (zv.cells.toList.getD j undef)) : gD x ((List.replicate n z).flatten) ((Array.range (n * s)).map (zv.cells[· % zv.cells.size]!)) := by
 refine ⟨by simp [Dw], fun j c hc => ?_⟩
 have hj : j < n * s := by have := (aJ.1 hc).1; simpa [Dw] using this
 rw [yp Dw n j hj] at hc
 have hm : j % s < s := Nat.mod_lt _ hs
 have := h4 _ c hc
 have Hs : j % zv.cells.size < zv.cells.size := by rw [M8]; exact hm
 have e1 : ((Array.range (n * s)).map (zv.cells[· % zv.cells.size]!)).getD j undef = zv.cells[j % zv.cells.size]! := by simp [aV, hj]
 rw [e1, getElem!_pos zv.cells (j % zv.cells.size) Hs]
 have e2 : zv.cells.toList.getD (j % s) undef = zv.cells[j % zv.cells.size] := by simp [aL, ← M8, Hs]
 rw [← e2]
 exact this
theorem Da (eC : jl P ty) (hR : Rel x) (hρ : uT x ρd ρ) {t e : TypeId} {n s kF sz sz' : Nat} {agg : Bool} {k : TK} {z0 : Option (List DV)} {z cs : List DV} {ps : Array (Nat × Operand)} {l : List (Nat × DV)} (h : ty t = some ⟨.slice e s kF agg, sz, z0⟩) (hl : jq ρd ps.toList = some l) (he : ty e = some ⟨k, sz', some z⟩)
  (hs : 0 < s) (hn : n * s ≤ 16777216) (hf : jO (fun i => some (i * s, s)) ((List.replicate n z).flatten) (l.map fun (i, v) => (i, v.strip)) = some cs) :
  ∃ arr, gD x cs arr ∧ cs.length = n * s ∧ (Instr.buildSlice t n (ps.map fun p => (p.1, ρ p.2))).run P x.w = .ok (.slice (some ⟨x.w.heap.size, 0, none⟩) n n) (x.w.alloc (.cells arr e)) := by
 obtain ⟨hk, i, hi, -, -⟩ := bO (eC t _ h)
 obtain ⟨hu, ie, qF, pJ, -, Dm⟩ := ku hk
 obtain ⟨-, ie', zI, -, hz⟩ := bO (eC e _ he)
 rw [qF] at zI
 cases zI
 obtain ⟨zv, h1, h2, Z9⟩ := iS hz
 obtain ⟨h3, h4⟩ := gP (x := x) h2
 have M8 : zv.cells.size = s := by rw [← pJ, ← Z9]; simpa using h3
 have Dw : z.length = s := by rw [Z9, pJ]
 have yM := Cv (n := n) hs Dw M8 h4
 have oM : XP x (l.map fun (i, v) => (i, v.strip)) (qT ρ ps.toList) := by
  have := sD hρ hl
  refine ⟨by simpa using this.1, fun j p hp => ?_⟩
  simp only [fQ, ah] at hp
  obtain ⟨q, hq, rfl⟩ := hp
  obtain ⟨v, Lg, RJ⟩ := this.2 j q hq
  exact ⟨v, by simpa using Lg, RJ.strip⟩
 obtain ⟨arr, h5, h6⟩ := zg (x := x) (pl := fun i => some (i * s, s)) (fun i p hp => hp) oM yM hf
 have ov : cs.length = n * s := by
  have key : ∀ (r : List (Nat × DV)) (l l' : List DV), jO (fun i => some (i * s, s)) l r = some l' → l'.length = l.length := by
   intro r
   induction r with
   | nil => intro l l' h; simp only [jO, az] at h; rw [h]
   | cons p r ih =>
    intro l l' h
    obtain ⟨i, d⟩ := p
    unfold jO at h
    simp only at h
    split at h
    ·split at h
     ·rename_i l1 h1
      rw [ih _ _ h]
      obtain ⟨h2, rfl⟩ := pg h1
      simp; omega
     ·cases h
    ·cases h
  rw [key _ _ _ hf]; simp [Dw]
 refine ⟨arr, h6, ov, ?_⟩
 ·subst pJ
  have c1 : ¬ (n * ie.size > 2 ^ 24) := by rw [show (2 : Nat) ^ 24 = 16777216 from by decide]; omega
  have ZP : Instr.fill (fun i => some (i * ie.size, ie.size)) ((Array.range (n * ie.size)).map (zv.cells[· % zv.cells.size]!)) (ps.toList.map fun p => (p.1, ρ p.2)) = some arr := h5
  by_cases h0 : n * ie.size = 0
  ·have e0 : (Array.range (n * ie.size)).map ((#[] : Array Value)[· % (#[] : Array Value).size]!) = (Array.range (n * ie.size)).map (zv.cells[· % zv.cells.size]!) := by rw [h0]; simp
   simp only [Instr.buildSlice, Sem.run_bind, run_underlying hu, Result.andThen_ok, run_sizeOf qF, if_neg c1, if_pos h0, Sem.run_pure, e0, Array.toList_map, ZP, newRow, run_newObj]
   rfl
  ·simp only [Instr.buildSlice, Sem.run_bind, run_underlying hu, Result.andThen_ok, run_sizeOf qF, if_neg c1, if_neg h0, Sem.run_pure, zeroValue, typeInfo, run_program, qF, h1, Array.toList_map, ZP, newRow, run_newObj]
   rfl
theorem BX (eC : jl P ty) (hR : Rel x) (hρ : uT x ρd ρ) {t e : TypeId} {n s kF sz sz' : Nat} {agg : Bool} {k : TK} {z0 : Option (List DV)} {z cs : List DV} {ps : Array (Nat × Operand)} {l : List (Nat × DV)} (h : ty t = some ⟨.slice e s kF agg, sz, z0⟩) (hl : jq ρd ps.toList = some l) (he : ty e = some ⟨k, sz', some z⟩)
  (hs : 0 < s) (hn : n * s ≤ 16777216) (hf : jO (fun i => some (i * s, s)) ((List.replicate n z).flatten) (l.map fun (i, v) => (i, v.strip)) = some cs) (hp : cs.all DV.bS = true) (ha : agg = true ∨ s = 1) :
  Yields x ((do pure (.value (← Instr.buildSlice t n (ps.map fun p => (p.1, ρ p.2)))) : Sem Next).run P x.w) (.sl (rowsOf s agg cs n) none ⟨true, some false⟩) x.S := by
 obtain ⟨arr, h6, ov, hrun⟩ := Da eC hR hρ h hl he hs hn hf
 have NB : ∀ c ∈ cs, c.bS = true := fun c hc => bh.1 hp c hc
 obtain ⟨uM, RM⟩ := C0 hs ha NB n ov
 have Sg : nk x.w (x.w.alloc (.cells arr e)) (.cells arr e (0, 0)) := fZ _ _
 have lR := Ma (F := fun o => o < arr.size) hR Sg fun o ho => ⟨arr[o], by simp [ho]⟩
 have ZA : (rowsOf s agg cs n).length = n := by simp [rowsOf]
 have wD : (x.w.alloc (.cells arr e)).heap[x.w.heap.size]? = some (.cells arr e (0, 0)) := Sg.new
 have xT : arr.size = cs.length := h6.1
 have M := qg (F := fun o => o < arr.size) hR Sg
 refine gA (y := x.froze _ (fun o => o < arr.size)) (v := .slice (some ⟨x.w.heap.size, 0, none⟩) n n) hrun rfl lR M ?_
 ·suffices hk : RV (x.froze (x.w.alloc (.cells arr e)) (fun o => o < arr.size)) (.sl (rowsOf s agg cs n) none ⟨true, some false⟩) (.slice (some ⟨x.w.heap.size, 0, none⟩) (rowsOf s agg cs n).length (rowsOf s agg cs n).length) by rw [ZA] at hk; exact hk
  have hv : View (x.froze (x.w.alloc (.cells arr e)) (fun o => o < arr.size)) (rowsOf s agg cs n) (some ⟨x.w.heap.size, 0, none⟩) s (fun j => arr.getD j undef) :=
   Ak RM (by rw [uM]; exact NB) (by rw [uM]; omega) wD fun j hj => .inr ⟨rfl, by rw [uM] at hj; omega⟩
  refine RV.sl (tok := none) hv (fun j c hc => ?_) (ai _) ⟨fun _ => rfl, fun b h => by cases h; rfl⟩ (by simp) (fun ad h _ => by cases h; rfl) (fun t ht => nomatch ht)
  rw [uM] at hc
  exact (h6.2 j c hc).mono M
theorem qo (eC : jl P ty) {t : TypeId} {fs : List (Nat × Nat × Bool)} {sz f off s : Nat} {agg : Bool} {z : Option (List DV)} (h : ty t = some ⟨.struct fs, sz, z⟩) (hf : fs[f]? = some (off, s, agg)) (hs : 0 < s) (b o0 : Nat) (w : World) :
  (Instr.fieldAt t (.pointer (some ⟨b, o0, none⟩)) f).run P w = .ok (.pointer (some ⟨b, o0 + off, none⟩)) w := by
 obtain ⟨hk, i, hi, -, -⟩ := bO (eC t _ h)
 obtain ⟨fields, hu, hfs, hff⟩ := wX hk
 obtain ⟨fd, h1, h2, inf, h3, h4, -, -⟩ := hff f _ hf
 simp only at h2 h4
 have hne : ¬ (inf.size = 0) := by omega
 simp only [Instr.fieldAt, Sem.run_bind, run_underlying hu, Result.andThen_ok, h1, Instr.sureAddr, Sem.run_pure, fieldPlace, run_sizeOf h3, if_neg hne, gV, h2]
theorem ye (eC : jl P ty) {t : TypeId} {k s sz : Nat} {agg : Bool} {z : Option (List DV)} (h : ty t = some ⟨.array k s agg, sz, z⟩) {kd : IntKind} {n : Int} (h0 : 0 ≤ n) (hlt : n.toNat < k) (b o0 : Nat) (w : World) :
  (Instr.indexAt t (.pointer (some ⟨b, o0, none⟩)) (.int kd n)).run P w = .ok (.pointer (some ⟨b, o0 + n.toNat * s, none⟩)) w := by
 obtain ⟨hk, i, hi, -, -⟩ := bO (eC t _ h)
 obtain ⟨e, hu, ie, qF, pJ, -, -⟩ := vC hk
 have hc : 0 ≤ n ∧ n < (k : Int) := ⟨h0, by omega⟩
 subst pJ
 simp only [Instr.indexAt, asIntOf, Sem.run_bind, Sem.run_pure, Result.andThen_ok, run_underlying hu, Instr.sureAddr, hc, and_self, if_true, run_sizeOf qF, gV]
theorem Bc (eC : jl P ty) {t e : TypeId} {s kF sz : Nat} {agg : Bool} {z : Option (List DV)} (h : ty t = some ⟨.slice e s kF agg, sz, z⟩) {kd : IntKind} {n : Int} {len cap : Nat} (h0 : 0 ≤ n) (hlt : n.toNat < len) (b o0 : Nat) (w : World) :
  (Instr.indexAt t (.slice (some ⟨b, o0, none⟩) len cap) (.int kd n)).run P w = .ok (.pointer (some ⟨b, o0 + n.toNat * s, none⟩)) w := by
 obtain ⟨hk, i, hi, -, -⟩ := bO (eC t _ h)
 obtain ⟨hu, ie, qF, pJ, -, -⟩ := ku hk
 have hc : 0 ≤ n ∧ n < (len : Int) := ⟨h0, by omega⟩
 subst pJ
 simp only [Instr.indexAt, asIntOf, Sem.run_bind, Sem.run_pure, Result.andThen_ok, run_underlying hu, hc, and_self, if_true, run_sizeOf qF, gV]
end Go.Di
end
section
namespace Go.Di
open Go
variable {P:Program} {ty:gF} {x:Cx} {w':World} {ρd:Operand→Option DV} {ρ:Operand→Value} {o:Oper} {aB:Nat}
theorem rq {rows:List DV} {tok:Option Nat} {full:SF} {A:Option Addr} {n cap s:Nat} (h:RV x (.sl rows tok full) (.slice A n cap)) (hs:∀ r∈rows,r.cells.length=s) :
  n=rows.length∧n≤cap∧((full.full=true→cap=n)∧OU full A)∧(A=none→cap=0)∧Wm x tok rows A cap∧(∀ ad,A=some ad→0<cap→ad.spot=none) ∧
  (∀ c∈flat rows,c.bS=true)∧∃ vs:List Value,vs.length=n*s∧(∀ j c,(flat rows)[j]? = some c→RV x c (vs.getD j undef)) ∧
   (∀ j c,(flat rows)[j]? = some c→∃ b o,A=some ⟨b,o,none⟩∧x.Fz b (o+j)∧x.w.cell? ⟨b,o+j,none⟩=some (vs.getD j undef))∧∀ u∈vs,u.oneCell'=true:=by
 cases h with
 | @sl _ _ _ _ _ s' vs hv hr h1 h2 h3 hsp h4 =>
  have uM:=gB hs
  refine⟨rfl,h1,h2,h3,h4,hsp,fun c hc => ?_,(List.range (rows.length*s)).map vs,by simp,fun j c hc => ?_,fun j c hc => ?_,fun u hu => ?_⟩
  ·obtain⟨j,hj,rfl⟩:=List.mem_iff_getElem.1 hc
   exact(hv.2 j _ (bK hj)).1
  ·have hj:j<rows.length*s:=by rw[← uM]; exact(aJ.1 hc).1
   simpa [aL,hj] using hr j c hc
  ·have hj:j<rows.length*s:=by rw[← uM]; exact(aJ.1 hc).1
   obtain⟨-,b,o,k1,k2,k3⟩:=hv.2 j c hc
   exact⟨b,o,k1,k2,by simpa [aL,hj] using k3⟩
  ·simp only[eF,List.mem_range] at hu
   obtain⟨j,hj,rfl⟩:=hu
   have oJ:j<(flat rows).length:=by omega
   have k:=bK oJ
   have hp:=(hv.2 j _ k).1
   have h1:((flat rows)[j]).one=true:=by
    revert hp
    generalize (flat rows)[j]=c
    cases c<;>simp[DV.bS,DV.one]
   exact(one_cell (hr j _ k) h1).1
theorem Yw {y:Cx} {R:List DV} {t s N cap:Nat} {e:TypeId} {arr:Array Value} (hR:∀ r∈R,r.cells.length=s) (hp:∀ c∈flat R,c.bS=true) (hS:y.S[t]? = some (.tail e s N)) (hN:N=R.length*s)
  (hh:y.w.heap[y.μ t]? = some (.cells arr e (0,0))) (hF:∀ o,o<N→y.Fz (y.μ t) o) (hsz:N≤arr.size) (hc:∀ j c,(flat R)[j]? = some c→RV y c (arr.getD j undef)) (hk:cap=y.κ t) (Lz:R.length≤cap) :
  RV y (.sl R (some t) ⟨false,none⟩) (.slice (some ⟨y.μ t,0,none⟩) R.length cap):=by
 have uM:=gB hR
 refine RV.sl (Ak hR hp (by omega) hh fun j hj=>hF j (by omega)) hc Lz ⟨by simp,fun _ h=>nomatch h⟩ (by simp) (fun ad h _=>by cases h; rfl) fun t' ht => ?_
 cases ht
 exact⟨e,s,N,hS,by omega,hR,fun _=>⟨rfl,hk⟩⟩
theorem yq (a b:List DV):flat (a++b)=flat a++flat b:=by simp[flat]
theorem xb {y:Cx} {rows news:List DV} {De lP:List Value} {t s b cap:Nat} {e:TypeId} {arr:Array Value} (M:cr x y) (h1:∀ r∈rows,r.cells.length=s) (h2:∀ r∈news,r.cells.length=s) (hp1:∀ c∈flat rows,c.bS=true) (ZD:∀ c∈flat news,c.bS=true)
  (wq:∀ (j:Nat) (c:DV),(flat rows)[j]? = some c→RV x c (De.getD j undef)) (Nc:∀ (j:Nat) (c:DV),(flat news)[j]? = some c→RV x c (lP.getD j undef)) (hS:y.S[t]? = some (.tail e s ((rows.length+news.length)*s))) (hμ:y.μ t=b) (hκ:y.κ t=cap)
  (hh:y.w.heap[b]? = some (.cells arr e (0,0))) (hF:∀ o,o<(rows.length+news.length)*s→y.Fz b o) (hsz:(rows.length+news.length)*s≤arr.size) (RR:∀ j,j<rows.length*s→arr.getD j undef=De.getD j undef) (Jz:∀ j,j<news.length*s→arr.getD (rows.length*s+j) undef=lP.getD j undef)
  (Lz:rows.length+news.length≤cap):RV y (.sl (rows++news) (some t) ⟨false,none⟩) (.slice (some ⟨b,0,none⟩) (rows.length+news.length) cap):=by
 have NG:=gB h1
 have Vk:=gB h2
 subst hμ hκ
 have key:=Yw (y:=y) (R:=rows++news) (t:=t) (s:=s) (arr:=arr) (cap:=y.κ t) (N:=(rows.length+news.length)*s) (fun r hr=>(gn.1 hr).elim (h1 r) (h2 r)) (fun c hc => ?_) hS (by rw[bU]) hh hF hsz (fun j c hc => ?_) rfl (by rw[bU]; exact Lz)
 ·rw[bU] at key; exact key
 ·rw[yq] at hc; exact(gn.1 hc).elim (hp1 c) (ZD c)
 ·rw[yq] at hc
  by_cases hj:j<(flat rows).length
  ·rw[eG hj] at hc
   rw[RR j (by omega)]
   exact(wq j c hc).mono M
  ·rw[gr (by omega)] at hc
   have hj2:j-(flat rows).length<(flat news).length:=(aJ.1 hc).1
   have e1:j=rows.length*s+(j-(flat rows).length):=by omega
   rw[e1,Jz _ (by omega)]
   exact(Nc _ c hc).mono M
theorem xx {De lP:List Value} {Z:Array Value} {n m:Nat} (h1:De.length=n) (h2:lP.length=m):(∀ j,j<n→(De.toArray++lP.toArray++Z).getD j undef=De.getD j undef)∧∀ j,j<m→(De.toArray++lP.toArray++Z).getD (n+j) undef=lP.getD j undef:=by
 constructor
 ·intro j hj
  rw[aV,vA (by simp; omega),vA (by simp; omega)]
  simp[aL]
 ·intro j hj
  rw[aV,vA (by simp; omega),vB (by simp; omega)]
  simp[aL,h1]
theorem Mw (eC:jl P ty) (hR:Rel x) (hn:B8 x.S aB) {t u:TypeId} {a b d:DV} {va vb:Value} {S':av} (ha:RV x a va) (hb:RV x b vb) (h:iY ty x.S aB t a b=some (d,S')) :
  Yields x ((do pure (.value (← Builtin.append_ #[t,t] u #[va,vb])):Sem Next).run P x.w) d S':=by
 unfold iY at h
 split at h
 ·rename_i e s kF agg sz z0 rows tok full news Ds Wc Vc
  obtain⟨hk,it,-,-,-⟩:=bO (eC t _ Vc)
  obtain⟨hu,ie,qF,pJ,Bx,-⟩:=ku hk
  have BG:=ha
  have Fc:=hb
  cases ha with
  | @sl _ _ _ A cap s1 vs1 Lg wq k1 k2 k3 k4 k5 =>
   cases hb with
   | @sl _ _ _ A2 qD s2 vs2 RJ Nc m1 m2 m3 m4 m5 =>
    split at h
    ·rename_i sV
     cases h
     have HT:news=[]:=by simpa using sV
     subst HT
     refine aS hR (v := .slice A rows.length cap) ?_ BG
     subst pJ
     cases A with
     | none=>cases A2<;>simp[Builtin.append_,run_underlying hu,run_sizeOf qF,Builtin.lenOf,Builtin.firstCells,loadCells,loadCellsFrom,k1]
     | some ad=>cases A2<;>simp[Builtin.append_,run_underlying hu,run_sizeOf qF,Builtin.lenOf,Builtin.firstCells,loadCells,loadCellsFrom,storeCells,k1]
    ·rename_i sV
     split at h
     ·rename_i hte
      split at h
      rotate_left
      ·cases h
      rename_i nA
      simp only[aG,bI,bh] at nA
      obtain⟨⟨⟨hs,kM⟩,hlen⟩,kK⟩:=nA
      have hm:0<news.length:=List.length_pos_iff.2 (by simpa using sV)
      obtain⟨z,WN,M8⟩:∃ z,ie.zero=some z∧z.cells.size=s:=by
       obtain⟨-,ie',zI,HE,yM⟩:=bO (eC e _ hte)
       rw[qF] at zI
       cases zI
       obtain⟨z,q1,q2,q3⟩:=iS yM
       have:=(gP (x:=x) q2).1
       exact⟨z,q1,by rw[← pJ,← q3]; simpa using this⟩
      obtain⟨-,-,-,-,-,Xq,Si,lP,rS,BP,wA,Cq⟩:=rq Fc kK
      obtain⟨Vt,rfl⟩:∃ Vt,A2=some Vt:=by
       cases A2 with
       | none=>have:=m3 rfl; omega
       | some ad=>exact⟨ad,rfl⟩
      have yE:=gB kK
      obtain⟨b2,o2,Zq⟩:=Vt
      have Xp:Zq=none:=Xq _ rfl (by omega)
      subst Xp
      have oF:∀ j v,lP[j]? = some v→x.w.cell? ((⟨b2,o2,none⟩:Addr).add j)=some v:=by
       intro j v hv
       have hj:j<(flat news).length:=by rw[yE,← rS]; exact(aJ.1 hv).1
       obtain⟨b',o',q1,-,q2⟩:=wA j _ (bK hj)
       cases q1
       rw[gV,q2]
       simp[aL,hv]
      have ad6:rows.length+news.length≤9223372036854775807:=by omega
      have grown:∀ (w1:List Value),w1.length=rows.length*s→∀ (k:Nat),k=grownCap x.w (rows.length+news.length) cap e→k≤maxLen∧rows.length+news.length≤k ∧
        (w1.toArray++lP.toArray++Builtin.zeroCells z.cells (k-(rows.length+news.length))).size=k*s:=by
       intro w1 Jr k hk
       have Fb:=grownCap_ge x.w (rows.length+news.length) cap e
       have hle:=grownCap_le_maxLen x.w (rows.length+news.length) cap e (by simp only[maxLen]; omega)
       subst hk
       refine⟨hle,Fb,?_⟩
       simp only[Array.size_append,kg,size_zeroCells,M8,Jr,rS,← iZ]
       congr 1
       omega
      have Rf:∀ (hf:full.full=true) (ny:∀ r∈rows,r.cells.length=s),d = .sl (rows++news) (some aB) ⟨false,none⟩→S'=ez x.S aB (.tail e s ((rows.length+news.length)*s)) →
        Yields x ((do pure (.value (← Builtin.append_ #[t,t] u #[.slice A rows.length cap,.slice (some ⟨b2,o2,none⟩) news.length qD])):Sem Next).run P x.w) d S':=by
       intro hf ny hd hS
       subst hd hS
       have Lz:cap=rows.length:=k2.1 hf
       obtain⟨-,-,-,-,-,acQ,ZC,De,Dk,SL,EW,abv⟩:=rq BG ny
       have SP:=gB ny
       obtain⟨g1,g2,g3⟩:=grown De Dk _ rfl
       have hrun:(Builtin.append_ #[t,t] u #[.slice A rows.length cap,.slice (some ⟨b2,o2,none⟩) news.length qD]).run P x.w =
         .ok (.slice (some ⟨x.w.heap.size,0,none⟩) (rows.length+news.length) (grownCap x.w (rows.length+news.length) cap e)) (x.w.drew.alloc (.cells (De.toArray++lP.toArray++Builtin.zeroCells z.cells (grownCap x.w (rows.length+news.length) cap e-(rows.length+news.length))) e)):=by
        cases A with
        | none =>
         have h0:=k3 rfl
         have HF:rows.length=0:=by omega
         have hw0:De=[]:=dY (by rw[Dk,HF]; simp)
         subst hw0
         rw[HF,h0]
         have:=run_append_nil (P:=P) x.w t u e ie z hu qF WN ⟨b2,o2,none⟩ news.length qD lP (by rw[rS,pJ]) oF hm (by omega) (by rw[Bx]; unfold eR at kM; have:news.length*kF≤(rows.length+news.length)*kF:=ew _ (by omega); omega)
         simpa using this
        | some ad =>
         obtain⟨b1,o1,Z1⟩:=ad
         have Fa:0<rows.length→Z1=none:=fun h=>acQ _ rfl (by omega)
         refine run_append_grow (P:=P) x.w t u e ie z hu qF WN ⟨b1,o1,Z1⟩ rows.length cap De (by rw[Dk,pJ]) (fun j v hv => ?_) ⟨b2,o2,none⟩ news.length qD lP (by rw[rS,pJ]) oF (by omega) (by omega) (growslice_fits (by omega) (by rw[Bx]; exact kM))
         have hj:j<(flat rows).length:=by rw[SP,← Dk]; exact(aJ.1 hv).1
         obtain rfl:=Fa (Nat.pos_of_ne_zero fun e=>by rw[SP,e] at hj; simp at hj)
         obtain⟨b',o',q1,-,q2⟩:=EW j _ (bK hj)
         cases q1
         rw[gV,q2]
         simp[aL,hv]
       generalize hk0:grownCap x.w (rows.length+news.length) cap e=k at *
       obtain⟨v1,v2⟩:=xx (Z:=Builtin.zeroCells z.cells (k-(rows.length+news.length))) Dk rS
       generalize BR:De.toArray++lP.toArray++Builtin.zeroCells z.cells (k-(rows.length+news.length))=arr at *
       have hp:nk x.w (x.w.drew.alloc (.cells arr e)) (.cells arr e (0,0)):=⟨rfl,rfl,rfl⟩
       have Vo:(rows.length+news.length)*s≤arr.size:=by rw[g3]; exact ew _ g2
       have lR:=kO (k:=k) (F:=fun o=>o<(rows.length+news.length)*s) (b := .tail e s ((rows.length+news.length)*s)) hR hn hp (fun o ho=>⟨arr[o]'(by omega),by simp only[World.cell?,hp.new]; exact bQ _⟩) (.inr (.inl ⟨e,s,_,arr,rfl,rfl,g3,Vo,g1,fun o ho=>ho⟩))
       have M:=iR (k:=k) (F:=fun o=>o<(rows.length+news.length)*s) (b := .tail e s ((rows.length+news.length)*s)) hR hn hp
       exact gA hrun (y:=x.fresh (x.w.drew.alloc (.cells arr e)) aB k (fun o=>o<(rows.length+news.length)*s) (.tail e s ((rows.length+news.length)*s))) rfl lR M
        (xb M ny kK ZC Si SL BP (by show (ez _ _ _)[_]? = _; rw[bn hn.le,if_pos rfl]) (if_pos rfl) (if_pos rfl) hp.new (fun o ho => .inr ⟨rfl,ho⟩) Vo v1 v2 g2)
      cases tok with
      | none =>
       simp only at h
       split at h
       ·rename_i hfc
        simp only[aG,bh,bI] at hfc
        cases h
        exact Rf hfc.1 hfc.2 rfl rfl
       ·cases h
      | some tk =>
       simp only at h
       split at h
       ·rename_i e' s' n' Hv
        split at h
        ·rename_i Pt
         simp only[aG,bI] at Pt
         obtain⟨⟨w1,w2⟩,w3⟩:=Pt
         rw[w1,w2,w3] at Hv
         cases h
         obtain⟨e2,s2',n2,q1,q2,q3,q4⟩:=k5 tk rfl
         rw[Hv] at q1
         cases q1
         obtain⟨rfl,rfl⟩:=q4 rfl
         obtain⟨-,-,-,-,-,-,ZC,De,Dk,SL,EW,abv⟩:=rq BG q3
         have SP:=gB q3
         obtain⟨cur,t1,t2,t3,t4⟩:=hR.en tk _ _ _ Hv
         have aax:∀ j,j<rows.length*s→cur[j]? = some (De.getD j undef):=by
          intro j hj
          have oJ:j<(flat rows).length:=by omega
          obtain⟨b',o',r1,-,r2⟩:=EW j _ (bK oJ)
          cases r1
          simpa [World.cell?,t1] using r2
         by_cases hroom:rows.length+news.length≤x.κ tk
         ·
          have Dz:rows.length*s+lP.length≤cur.size:=by rw[rS,t2,← iZ]; exact ew _ hroom
          have hrun:=run_append_room (P:=P) x.w t u e ie hu qF (x.μ tk) rows.length (x.κ tk) cur t1 ⟨b2,o2,none⟩ news.length qD lP (by rw[rS,pJ]) oF Cq hroom (by rw[pJ]; exact Dz)
          rw[pJ] at hrun
          generalize BR:(cur.toList.take (rows.length*s)++lP++cur.toList.drop (rows.length*s+lP.length)).toArray=arr at *
          have aaz:arr.size=cur.size:=by rw[← BR]; simp; omega
          have V8:∀ j,j<rows.length*s→arr[j]? = some (De.getD j undef):=by
           intro j hj
           have h1:=aax j hj
           rw[← BR,List.getElem?_toArray,eV,eG (by simp; omega),mL,if_pos hj]
           simpa using h1
          have abz:∀ j,j<news.length*s→arr[rows.length*s+j]? = some (lP.getD j undef):=by
           intro j hj
           have e1:(cur.toList.take (rows.length*s)).length=rows.length*s:=by simp; omega
           rw[← BR,List.getElem?_toArray,eV,gr (by omega),e1,om,eG (by omega)]
           simp[aL,bK (show j<lP.length by omega)]
          have qw:∀ o,o<rows.length*s→(x.w.setRow (x.μ tk) arr).cell? ⟨x.μ tk,o,none⟩=x.w.cell? ⟨x.μ tk,o,none⟩:=by
           intro o ho
           rw[cell_setRow_same _ _ _ _ _ _ _ t1,V8 o ho]
           simp[World.cell?,t1,aax o ho]
          have Vo:(rows.length+news.length)*s≤arr.size:=by rw[aaz,t2]; exact ew _ hroom
          have hle:rows.length*s≤(rows.length+news.length)*s:=ew _ (by omega)
          have lR:=yZ (F:=fun o=>o<(rows.length+news.length)*s) (arr:=arr) (b := .tail e s ((rows.length+news.length)*s)) hR Hv (.inr (.inl ⟨e,s,_,_,rfl,rfl,hle,qw,by rw[aaz]; exact t2,Vo,fun o ho=>ho⟩))
          have M:=rB (F:=fun o=>o<(rows.length+news.length)*s) (arr:=arr) (b := .tail e s ((rows.length+news.length)*s)) hR Hv (.inr (.inl ⟨e,s,_,_,rfl,rfl,hle,qw⟩))
          exact gA hrun (y:=x.upd tk arr (fun o=>o<(rows.length+news.length)*s) (.tail e s ((rows.length+news.length)*s))) rfl lR M
           (xb M q3 kK ZC Si SL BP (by show (x.S.set _ _)[_]? = _; rw[gl Hv,if_pos rfl]) rfl rfl (setRow_heap _ _ _ _ _ _ t1) (fun o ho => .inr ⟨rfl,ho⟩) Vo (fun j hj=>by rw[aV,V8 j hj]; rfl) (fun j hj=>by rw[aV,abz j hj]; rfl) hroom)
         ·
          obtain⟨g1,g2,g3⟩:=grown De Dk _ rfl
          have hrun:=run_append_grow (P:=P) x.w t u e ie z hu qF WN ⟨x.μ tk,0,none⟩ rows.length (x.κ tk) De (by rw[Dk,pJ]) (fun j v hv=>by
            have hj:j<(flat rows).length:=by rw[SP,← Dk]; exact(aJ.1 hv).1
            obtain⟨b',o',r1,-,r2⟩:=EW j _ (bK hj)
            cases r1
            rw[gV,r2]
            simp[aL,hv]) ⟨b2,o2,none⟩ news.length qD lP (by rw[rS,pJ]) oF (by omega) (by omega) (growslice_fits (by omega) (by rw[Bx]; exact kM))
          generalize hk0:grownCap x.w (rows.length+news.length) (x.κ tk) e=k at *
          obtain⟨v1,v2⟩:=xx (Z:=Builtin.zeroCells z.cells (k-(rows.length+news.length))) Dk rS
          generalize BR:De.toArray++lP.toArray++Builtin.zeroCells z.cells (k-(rows.length+news.length))=arr at *
          have hp:nk x.w (x.w.drew.alloc (.cells arr e)) (.cells arr e (0,0)):=⟨rfl,rfl,rfl⟩
          have Vo:(rows.length+news.length)*s≤arr.size:=by rw[g3]; exact ew _ g2
          have hlt:rows.length*s<(rows.length+news.length)*s:=Nat.mul_lt_mul_of_pos_right (by omega) hs
          have lR:=L9 (k:=k) (F:=fun o=>o<(rows.length+news.length)*s) hR Hv hp hlt g3 Vo g1 fun o ho=>ho
          have M:=Bg (k:=k) (F:=fun o=>o<(rows.length+news.length)*s) (n':=(rows.length+news.length)*s) hR Hv hp hlt
          exact gA hrun (y:=x.jy (x.w.drew.alloc (.cells arr e)) tk k (fun o=>o<(rows.length+news.length)*s) (.tail e s ((rows.length+news.length)*s))) rfl lR M
           (xb M q3 kK ZC Si SL BP (by show (x.S.set _ _)[_]? = _; rw[gl Hv,if_pos rfl]) (if_pos rfl) (if_pos rfl) hp.new (fun o ho => .inr ⟨rfl,ho⟩) Vo v1 v2 g2)
        ·cases h
       ·cases h
     ·cases h
 ·cases h
theorem find_congr (kt:TypeId) (k:Value):∀ (l m:List MapEntry) (i:Nat),l.map (fun e=>(e.key,e.val))=m.map (fun e=>(e.key,e.val))→Instr.findAsking kt k l i=Instr.findAsking kt k m i
 | [],[],_,_=>rfl
 | [],_::_,_,h=>by simp at h
 | _::_,[],_,h=>by simp at h
 | e::l,f::m,i,h=>by
  simp only[bT,List.cons.injEq,ax] at h
  unfold Instr.findAsking
  rw[h.1.1,h.1.2,find_congr kt k l m (i+1) h.2]
theorem CJ (kd:TypeDesc) (k:Value):∀ (l m:List MapEntry) (i:Nat),l.map (fun e=>(e.key,e.val))=m.map (fun e=>(e.key,e.val))→Instr.findNow kd k l i=Instr.findNow kd k m i
 | [],[],_,_=>rfl
 | [],_::_,_,h=>by simp at h
 | _::_,[],_,h=>by simp at h
 | e::l,f::m,i,h=>by
  simp only[bT,List.cons.injEq,ax] at h
  unfold Instr.findNow
  rw[h.1.1,h.1.2,CJ kd k l m (i+1) h.2]
theorem CW (kt:TypeId) (k:Value) {l m:List MapEntry} (h:l.map (fun e=>(e.key,e.val))=m.map (fun e=>(e.key,e.val))):Instr.findKey kt k l=Instr.findKey kt k m:=by
 unfold Instr.findKey
 have h1:∀ kd,Instr.findNow kd k l 0=Instr.findNow kd k m 0:=fun kd=>CJ kd k l m 0 h
 have h2:=find_congr kt k l m 0 h
 simp only[h1,h2]
theorem KD (es:List (Value×Value)):(es.map RG).map (fun e=>(e.key,e.val))=es:=by
 rw[List.map_map]
 conv=>rhs; rw[← List.map_id es]
 congr 1
theorem Qq {v:Value} {d:DV} (h:Ft v=some d):RV x d v:=by
 unfold Ft at h
 split at h
 ·rename_i vs
  split at h
  ·rename_i v b hvs
   simp only[ah] at h
   obtain⟨d',h1,rfl⟩:=h
   have e:vs=#[v,.bool b]:=by rw[← Array.toArray_toList (xs:=vs),hvs]
   subst e
   refine .gI rfl fun j c hc => ?_
   match j with
   | 0=>simp only[List.getElem?_cons_zero,az] at hc; subst hc; exact vD h1
   | 1=>simp only[List.getElem?_cons_succ,List.getElem?_cons_zero,az] at hc; subst hc; exact .val rfl
   | j+2=>simp at hc
  ·cases h
 ·exact vD h
theorem I1 (hR:Rel x) (hn:B8 x.S aB) {t:TypeId}:Yields x ((do pure (.value (← Instr.makeMap t none)):Sem Next).run P x.w) (.map aB) (ez x.S aB (.map [])):=by
 have hp:nk x.w (x.w.alloc (.map #[] 0)) (.map #[] 0):=fZ _ _
 have lR:=kO (k:=0) (F:=fun _=>False) (b := .map []) hR hn hp (by simp) (.inr (.inr (.inl ⟨rfl,by simp,rfl⟩)))
 refine gA (y:=x.fresh _ aB 0 (fun _=>False) (.map [])) (v := .map (some x.w.heap.size)) ?_ rfl lR (iR hR hn hp) ?_
 ·simp[Instr.makeMap,Cx.fresh]
 ·have:(x.fresh (x.w.alloc (.map #[] 0)) aB 0 (fun _=>False) (.map [])).μ aB=x.w.heap.size:=if_pos rfl
  rw[← this]
  exact .map (es:=[]) (by show (ez _ _ _)[_]? = _; rw[bn hn.le,if_pos rfl])
theorem KI (hR:Rel x) {id:Nat} {es:List (Value×Value)} (h:x.S[id]? = some (.map es)):∃ zK clk,x.w.heap[x.μ id]? = some (.map zK clk)∧zK.toList.map (fun e=>(e.key,e.val))=es:=by
 obtain⟨o,h1,h2⟩:=hR.eB id _ h rfl
 cases o<;>simp only[qQ] at h2
 exact⟨_,_,h1,h2⟩
theorem um {α β:Type} {s:Sem α} {f:α→Sem β} {b:β} (h:cu P (s >>= f)=some b):∃ a,cu P s=some a∧cu P (f a)=some b:=by
 change cu P (s.bind f)=some b at h
 induction s with
 | pure a=>exact⟨a,rfl,h⟩
 | program k ih=>exact ih P h
 | _=>simp[Sem.bind,cu] at h
theorem Mu (hR:Rel x) {t:TypeId} {id:Nat} {es:List (Value×Value)} {k v:Value} {ok:Bool} {d:DV} (h:x.S[id]? = some (.map es)) (hp:cu P (JG t (es.map RG) k ok)=some v) (hd:Ft v=some d) :
  Yields x ((do pure (.value (← Instr.lookup t (.map (some (x.μ id))) k ok)):Sem Next).run P x.w) d x.S:=by
 obtain⟨zK,clk,h1,h2⟩:=KI hR h
 refine aS hR (v:=v) ?_ (Qq hd)
 have hk:∀ kt,Instr.findKey kt k (es.map RG)=Instr.findKey kt k zK.toList:=fun kt=>CW kt k (by rw[KD,h2])
 have he:(es.map RG).isEmpty=zK.isEmpty:=by
  rw[← h2,Bool.eq_iff_iff]
  simp
 have hg:=iN (P:=P) h1 (by simp)
 unfold JG at hp
 obtain⟨td,p1,p2⟩:=um hp
 have r1:=mW p1 x.w
 cases td with
 | map key elem =>
  simp only at p2
  have r2:=mW p2 x.w
  unfold Instr.lookup
  simp only[Sem.run_bind,r1,Result.andThen_ok,hg,Sem.run_pure,hk,he] at r2 ⊢
  exact r2
 | _=>simp[stuck,cu] at p2
theorem EJ (hR:Rel x) {t:TypeId} {id:Nat} {es es':List (Value×Value)} {k v:Value} {r:Option (Nat×Value)} (h:x.S[id]? = some (.map es)) (hp:cu P (JR t (es.map RG) k)=some r) (hs:NT es k v r=some es') :
  Yields x ((do Instr.mapUpdate t (.map (some (x.μ id))) k v; pure .skip:Sem Next).run P x.w) bz (x.S.set id (.map es')):=by
 obtain⟨zK,clk,h1,h2⟩:=KI hR h
 have hk:∀ kt,Instr.findKey kt k (es.map RG)=Instr.findKey kt k zK.toList:=fun kt=>CW kt k (by rw[KD,h2])
 have hg:=iN (P:=P) h1 (by simp)
 suffices hm:∃ JS XL,(Instr.mapUpdate t (.map (some (x.μ id))) k v).run P x.w = .ok () (bZ x.w (x.μ id) (.map JS XL))∧JS.toList.map (fun e=>(e.key,e.val))=es' by
  obtain⟨JS,XL,q1,q2⟩:=hm
  exact FM (y:=x.tL id (.map JS XL) (.map es')) q1 rfl (F4 hR h trivial (by simp) q2) (xl hR h trivial (by simp))
 unfold JR at hp
 obtain⟨td,p1,p2⟩:=um hp
 have r1:=mW p1 x.w
 cases td with
 | map key elem =>
  simp only at p2
  obtain⟨u,p3,p4⟩:=um p2
  have r2:=mW p3 x.w
  have r3:=mW p4 x.w
  rw[hk] at r3
  unfold Instr.mapUpdate
  simp only[Sem.run_bind,r1,Result.andThen_ok,hg,r2,r3]
  cases r with
  | none =>
   simp only[NT,az] at hs
   subst hs
   exact⟨_,_,jM h1 (by simp),by simp[h2]⟩
  | some q =>
   obtain⟨i,v0⟩:=q
   simp only[NT] at hs
   split at hs
   ·rename_i k' v' hi
    split at hs
    ·rename_i hsb
     cases hs
     have hlt:i<zK.size:=by
      have:=(aJ.1 hi).1
      rw[← h2] at this
      simpa using this
     have hek:((zK[i]?).map (·.key)).getD k=k':=by
      rw[← h2] at hi
      simp only[fQ,gN,ah,ax] at hi
      obtain⟨e,q1,q2,-⟩:=hi
      rw[q1]
      exact q2
     simp only[hek,Instr.keyThatStays,hsb,if_true]
     refine⟨_,_,jM h1 (by simp),?_⟩
     rw[Array.toList_modify]
     refine mK fun j => ?_
     rw[← h2]
     simp only[fQ,List.getElem?_modify,aP,gp]
     by_cases hj:i=j
     ·subst hj
      simp[hlt]
     ·simp[hj]
    ·cases hs
   ·cases hs
 | _=>simp[stuck,cu] at p2
end Go.Di
end
