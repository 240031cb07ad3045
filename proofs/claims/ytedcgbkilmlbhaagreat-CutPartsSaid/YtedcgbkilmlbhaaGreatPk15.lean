import Derived.Test.YtedcgbkilmlbhaaGreatPk14
section
namespace Go.Di
open Go
variable {P:Program} {ty:fI} {x:Cx} {w':World} {aI:bM} {call:bz}
def Yields (x:Cx) (r:Result Next) (d:DV) (S':ak):Prop:=∃ v y,(r = .ok (.value v) y.w∨(r = .ok .skip y.w∧v=undef))∧y.S=S'∧Rel y∧bE x y∧RV y d v
theorem fV {s:Sem Value} {d:DV} {S':ak} {v:Value} {y:Cx} (h:s.run P x.w = .ok v y.w) (h1:y.S=S') (h2:Rel y) (h3:bE x y) (h4:RV y d v):Yields x ((do pure (.value (← s)):Sem Next).run P x.w) d S' :=
 ⟨v,y,.inl (by simp[h]),h1,h2,h3,h4⟩
theorem aQ {s:Sem Value} {d:DV} {v:Value} (hR:Rel x) (h:s.run P x.w = .ok v x.w) (h4:RV x d v):Yields x ((do pure (.value (← s)):Sem Next).run P x.w) d x.S:=fV h rfl hR (bE.refl x) h4
theorem FC {s:Sem Unit} {S':ak} {y:Cx} (h:s.run P x.w = .ok () y.w) (h1:y.S=S') (h2:Rel y) (h3:bE x y):Yields x ((do s; pure .skip:Sem Next).run P x.w) aX S' :=
 ⟨undef,y,.inr ⟨by simp[h],rfl⟩,h1,h2,h3,.val rfl⟩
theorem mz {s:Sem Value} {d:DV} (h:gZ P s=some d) (w:World):∃ v,s.run P w = .ok v w∧RV x d v:=by
 unfold gZ at h
 simp only[jS] at h
 obtain⟨v,h1,h2⟩:=h
 exact⟨v,mw h1 w,vz h2⟩
def iO (P:Program) (ty:fI):Prop:=∀ t d,ty t=some d→NB P t=some d
variable {ρd:Operand→Option DV} {ρ:Operand→Value} {o:Oper} {ay:Nat}
def uL (x:Cx) (ρd:Operand→Option DV) (ρ:Operand→Value):Prop:=∀ a d,ρd a=some d→RV x d (ρ a)
theorem eL (hρ:uL x ρd ρ) {a:Operand} {v:Value} (h:valOf ρd a=some v):ρ a=v:=by
 unfold valOf at h
 simp only[jS] at h
 obtain⟨d,h1,h2⟩:=h
 exact FQ (hρ a d h1) h2
theorem kW (hρ:uL x ρd ρ) {a:Operand} {n:Int} (h:intOf ρd a=some n):∃ k,ρ a = .int k n:=by
 unfold intOf at h
 split at h
 ·rename_i k m h1
  cases h
  exact⟨k,tI (hρ a _ h1)⟩
 ·cases h
theorem tN (hρ:uL x ρd ρ):∀ {l:List Operand} {r:List DV},evs ρd l=some r→fR x r (l.map ρ).toArray
 | [],r,h=>by simp only[evs,az] at h; subst h; exact⟨rfl,by simp⟩
 | a::l,r,h=>by
  unfold evs at h
  split at h
  ·rename_i d r' h1 h2
   cases h
   obtain⟨h3,h4⟩:=tN hρ h2
   refine⟨by simpa using h3,fun j c hc => ?_⟩
   cases j with
   | zero=>simp only[List.getElem?_cons_zero,az] at hc; subst hc; exact hρ a _ h1
   | succ j=>simpa [aT] using h4 j c (by simpa using hc)
  ·cases h
theorem Qd (ee:iO P ty) (hR:Rel x) (hn:Bw x.S ay) {e:TypeId} {k:TK} {sz:Nat} {z:List DV} (h:ty e=some ⟨k,sz,some z⟩) :
  Yields x ((do pure (.value (← Instr.alloc e true (.tuple #[]))):Sem Next).run P x.w) (.ptr ay 0) (dP x.S ay (.cells z)):=by
 obtain⟨-,i,hi,-,hz⟩:=bK (ee e _ h)
 obtain⟨zv,h1,h2,-⟩:=iz hz
 obtain⟨h3,h4⟩:=gB (x:=x) h2
 have hp:mH x.w (x.w.alloc (.cells zv.cells e)) (.cells zv.cells e (0,0)):=fE _ _
 have kE:=kg (k:=0) (F:=fun _=>False) (b := .cells z) hR hn hp (by simp) (.inl ⟨z,zv.cells,e,rfl,rfl,by simpa using h3,by simp,fun j c hc=>by simpa [aT,aO] using h4 j c hc⟩)
 refine fV (y:=x.fresh _ ay 0 (fun _=>False) (.cells z)) (v := .pointer (some ⟨x.w.heap.size,0,none⟩)) ?_ rfl kE (iy hR hn hp) ?_
 ·simp[Instr.alloc,zeroValue,typeInfo,hi,h1,newVar,newRow,Cx.fresh]
 ·have:(x.fresh (x.w.alloc (.cells zv.cells e)) ay 0 (fun _=>False) (.cells z)).μ ay=x.w.heap.size:=if_pos rfl
  rw[← this]
  exact .ptr (l:=z) (by show (dP _ _ _)[_]? = _; rw[aZ hn.le,if_pos rfl])
theorem X8 (hR:Rel x) (hn:Bw x.S ay) {e:TypeId} {d:DV} {v:Value} (h:RV x d v) :
  Yields x ((do pure (.value (← Instr.box e v)):Sem Next).run P x.w) (.ptr ay 0) (dP x.S ay (.cells d.cells)):=by
 obtain⟨h3,h4⟩:=qT h
 have hp:mH x.w (x.w.alloc (.cells v.cells e)) (.cells v.cells e (0,0)):=fE _ _
 have kE:=kg (k:=0) (F:=fun _=>False) (b := .cells d.cells) hR hn hp (by simp) (.inl ⟨d.cells,v.cells,e,rfl,rfl,h3,by simp,h4⟩)
 refine fV (y:=x.fresh _ ay 0 (fun _=>False) (.cells d.cells)) (v := .pointer (some ⟨x.w.heap.size,0,none⟩)) ?_ rfl kE (iy hR hn hp) ?_
 ·simp[Instr.box,newVar,newRow,Cx.fresh]
 ·have:(x.fresh (x.w.alloc (.cells v.cells e)) ay 0 (fun _=>False) (.cells d.cells)).μ ay=x.w.heap.size:=if_pos rfl
  rw[← this]
  exact .ptr (l:=d.cells) (by show (dP _ _ _)[_]? = _; rw[aZ hn.le,if_pos rfl])
theorem Lt {rows:List DV} {b o s:Nat} {vs:Nat→Value} (hv:View x rows (some ⟨b,o,none⟩) s vs) (hr:∀ j c,(flat rows)[j]? = some c→RV x c (vs j)) {i:Nat} {r:DV} (h:rows[i]? = some r) :
  ∀ j c,r.cells[j]? = some c→∃ v,x.w.cell? ⟨b,o+i*s+j,none⟩=some v∧RV x c v:=by
 intro j c hc
 have hj:j<s:=by rw[← hv.1 r (cW h)]; exact(aJ.1 hc).1
 have hf:=vG hv.1 h hj
 rw[hc] at hf
 obtain⟨-,b',o',h1,-,h2⟩:=hv.2 _ _ hf
 cases h1
 exact⟨_,by rw[fO]; exact h2,hr _ _ hf⟩
theorem Gb (ee:iO P ty) (hR:Rel x) {t:TypeId} {a d:DV} {va:Value} (ha:RV x a va) (h:jr ty x.S t a=some d):∃ v,(Instr.loadAt t va).run P x.w = .ok v x.w∧RV x d v:=by
 unfold jr at h
 split at h
 ·rename_i td id off hk
  obtain⟨k,sz,z⟩:=td
  obtain⟨qA,i,hi,hs,-⟩:=bK (ee t _ hk)
  obtain⟨Dj,d0,hu⟩:=HN qA
  split at h
  ·rename_i l hl
   obtain⟨arr,e,h1,h2,h3⟩:=hR.cells id l hl
   cases ha with
   | ptr _ =>
    have:=xe (x:=x) (b:=x.μ id) (o:=0) (l:=l) hi hu hs Dj.symm (fun j c hc => ?_) h
    ·obtain⟨v,h4,h5⟩:=this
     refine⟨v,?_,h5⟩
     simpa [Instr.loadAt,Instr.sureAddr] using h4
    ·have hj:j<arr.size:=by rw[h2]; exact(aJ.1 hc).1
     refine⟨arr[j],?_,by simpa [aT,hj] using h3 j c hc⟩
     simp[World.cell?,h1,hj]
  ·cases h
 ·rename_i td rows i off hk
  obtain⟨k,sz,z⟩:=td
  obtain⟨qA,inf,hi,hs,-⟩:=bK (ee t _ hk)
  obtain⟨Dj,d0,hu⟩:=HN qA
  split at h
  ·rename_i r hr
   cases ha with
   | @ey _ _ _ b o s vs hv MO =>
    obtain⟨v,h4,h5⟩:=xe (x:=x) (b:=b) (o:=o+i*s) (l:=r.cells) hi hu hs Dj.symm (Lt hv MO hr) h
    refine⟨v,?_,h5⟩
    rw[fO] at h4
    simpa [Instr.loadAt,Instr.sureAddr] using h4
  ·cases h
 ·rename_i td id n off hk
  obtain⟨k,sz,z⟩:=td
  obtain⟨qA,i,hi,hs,-⟩:=bK (ee t _ hk)
  obtain⟨Dj,d0,hu⟩:=HN qA
  split at h
  ·rename_i e s l zz hop
   obtain⟨hS,Df⟩:=jU hop
   obtain⟨arr,h1,-,h2,-,h3,-⟩:=hR.ops id e s l zz hS
   cases ha with
   | eT yZ Jg hA =>
    rw[hS] at yZ
    cases yZ
    rw[hA Df]
    obtain⟨v,h4,h5⟩:=xe (x:=x) (b:=x.μ id) (o:=0) (l:=l) hi hu hs Dj.symm (fun j c hc=>by
     have hj:j<arr.size:=cz (aJ.1 hc).1 h2
     refine⟨arr[j],?_,by simpa [aT,hj] using (h3 j c hc).2⟩
     simp[World.cell?,h1,hj]) h
    exact⟨v,by simpa [Instr.loadAt,Instr.sureAddr] using h4,h5⟩
  ·cases h
 ·cases h
theorem LB (ee:iO P ty) (hR:Rel x) {t:TypeId} {a d:DV} {va vd:Value} {S':ak} (ha:RV x a va) (hd:RV x d vd) (h:mQ ty x.S t a d=some S') :
  ∃ y,(Instr.storeAt t va vd).run P x.w = .ok () y.w∧y.S=S'∧Rel y∧bE x y:=by
 unfold mQ at h
 split at h
 ·rename_i td id off hk
  obtain⟨k,sz,z⟩:=td
  obtain⟨qA,i,hi,hs,-⟩:=bK (ee t _ hk)
  split at h
  ·rename_i l hl
   split at h
   ·rename_i hc
    simp only[aB,bJ] at hc
    simp only[ah] at h
    obtain⟨l',h6,rfl⟩:=h
    obtain⟨arr,e,h1,h2,h3⟩:=hR.cells id l hl
    have o9:=qT hd
    cases ha with
    | ptr _ =>
     have hp:=JX ⟨h2,h3⟩ o9 h6
     obtain⟨h7,h8⟩:=oH h6
     refine⟨x.upd id (arr.toList.take off++vd.cells.toList++arr.toList.drop (off+vd.cells.size)).toArray (fun _=>False) (.cells l'),?_,rfl,ze hR hl (.inl ⟨l,l',rfl,rfl,by simp,hp.1,hp.2⟩),qX hR hl (.inl ⟨l,l',rfl,rfl⟩)⟩
     have hst:=run_storeCells_at P (x.μ id) off e vd.cells.toList 0 arr x.w h1 (by simp only[Nat.add_zero,Array.length_toList]; rw[o9.1,h2]; exact h7) (cells_one hd hc.2)
     simp only[Nat.add_zero,Array.length_toList] at hst
     have hsz:¬ (vd.cells.size≠i.size):=by rw[o9.1,hc.1,hs]; simp
     simp only[Instr.storeAt,Instr.sureAddr,Sem.run_bind,Sem.run_pure,Result.andThen_ok,storeVar,run_sizeOf hi,if_neg hsz]
     exact hst
   ·cases h
  ·cases h
 ·rename_i td id n off hk
  obtain⟨k,sz,z⟩:=td
  obtain⟨qA,i,hi,hs,-⟩:=bK (ee t _ hk)
  split at h
  ·rename_i e s l hop
   obtain⟨hS,Df⟩:=jU hop
   split at h
   ·rename_i hc
    simp only[aB,bJ] at hc
    simp only[ah] at h
    obtain⟨l',h6,rfl⟩:=h
    obtain⟨arr,h1,h0,h2,hκ,h3,-,-⟩:=hR.ops id e s l false hS
    have uC:=hd.strip
    have o9:=qT uC
    cases ha with
    | eT yZ Jg hA =>
     rw[hS] at yZ
     cases yZ
     rw[hA Df]
     obtain⟨h7,h8⟩:=oH h6
     have hp:=Ea (off:=off) h2 (fun j c hc=>(h3 j c hc).2) o9 (by omega) (by omega)
     rw[← h8] at hp
     have Rq:∀ c∈l',c.bF=true:=fun c hm=>by
      rw[h8] at hm
      rcases jO.1 hm with hm | hm
      ·rcases jO.1 hm with hm | hm
       ·obtain⟨j,hj⟩:=pN.1 (List.mem_of_mem_take hm)
        exact(h3 j c hj).1
       ·exact aW.1 hc.2 c hm
      ·obtain⟨j,hj⟩:=pN.1 (List.mem_of_mem_drop hm)
       exact(h3 j c hj).1
     have hll:l'.length=l.length:=by rw[h8]; simp; omega
     have aai:(arr.toList.take off++vd.cells.toList++arr.toList.drop (off+vd.cells.size)).toArray.size=arr.size:=by
      have:=o9.1
      simp
      omega
     refine⟨x.upd id (arr.toList.take off++vd.cells.toList++arr.toList.drop (off+vd.cells.size)).toArray (fun _=>False) (.op e s l' false),?_,rfl,ze hR hS (.inr (.inr ⟨e,s,l,l',rfl,rfl,by omega,by simp,by rw[aai]; exact h0,by rw[aai]; omega,fun j c hj=>⟨Rq c (cW hj),hp j c hj⟩⟩)),qX hR hS (.inr (.inr ⟨e,s,l,l',rfl,rfl,by omega⟩))⟩
     have hst:=run_storeCells_at P (x.μ id) off e vd.cells.toList 0 arr x.w h1 (by simp only[Nat.add_zero,Array.length_toList]; rw[o9.1]; omega) (cells_one uC (aW.2 fun c hm=>LZ (aW.1 hc.2 c hm)))
     simp only[Nat.add_zero,Array.length_toList] at hst
     have hsz:¬ (vd.cells.size≠i.size):=by rw[o9.1,hc.1,hs]; simp
     simp only[Instr.storeAt,Instr.sureAddr,Sem.run_bind,Sem.run_pure,Result.andThen_ok,storeVar,run_sizeOf hi,if_neg hsz]
     exact hst
   ·cases h
  ·cases h
 ·cases h
end Go.Di
end
section
namespace Go.Di
open Go
variable {P : Program} {ty : fI} {x : Cx} {w' : World} {ρd : Operand → Option DV} {ρ : Operand → Value} {o : Oper} {ay : Nat}
theorem tf (off : Nat) : ∀ (cs : List Value) (i : Nat) (arr : Array Value), off + i + cs.length ≤ arr.size →
  ((cs.zipIdx i).foldl (fun a (p : Value × Nat) => a.setIfInBounds (off + p.2) p.1) arr) = (arr.toList.take (off + i) ++ cs ++ arr.toList.drop (off + i + cs.length)).toArray
 | [], i, arr, _ => by simp
 | c :: cs, i, arr, h => by
  simp only [List.length_cons] at h
  simp only [List.zipIdx_cons, List.foldl_cons]
  rw [tf off cs (i + 1) _ (by simp; omega)]
  have e := list_seg_step arr.toList (off + i) c cs (by simp; omega)
  congr 1
  simpa [Array.toList_setIfInBounds, fO] using e
theorem fold_eq (off : Nat) (cs arr : Array Value) (h : off + cs.size ≤ arr.size) :
  cs.zipIdx.foldl (fun a (p : Value × Nat) => a.setIfInBounds (off + p.2) p.1) arr = (arr.toList.take off ++ cs.toList ++ arr.toList.drop (off + cs.size)).toArray := by
 have := tf off cs.toList 0 arr (by simpa using h)
 rw [← Array.foldl_toList]
 simpa using this
def Xl (x : Cx) (r : List (Nat × DV)) (vs : List (Nat × Value)) : Prop := vs.length = r.length ∧ ∀ (j : Nat) (p : Nat × DV), r[j]? = some p → ∃ v, vs[j]? = some (p.1, v) ∧ RV x p.2 v
def qP (ρ : Operand → Value) (l : List (Nat × Operand)) : List (Nat × Value) := l.map fun p => (p.1, ρ p.2)
theorem sj (hρ : uL x ρd ρ) : ∀ {l : List (Nat × Operand)} {r : List (Nat × DV)}, iS ρd l = some r → Xl x r (qP ρ l)
 | [], r, h => by simp only [iS, az] at h; subst h; exact ⟨rfl, by simp⟩
 | (i, a) :: l, r, h => by
  unfold iS at h
  split at h
  ·rename_i d r' h1 h2
   cases h
   obtain ⟨h3, h4⟩ := sj hρ h2
   refine ⟨by simpa [qP] using h3, fun j p hp => ?_⟩
   cases j with
   | zero => simp only [List.getElem?_cons_zero, az] at hp; subst hp; exact ⟨ρ a, rfl, hρ a d h1⟩
   | succ j => simpa [qP] using h4 j p (by simpa using hp)
  ·cases h
theorem zu {pd pl : Nat → Option (Nat × Nat)} (xF : ∀ i p, pd i = some p → pl i = some p) : ∀ {r : List (Nat × DV)} {vs : List (Nat × Value)} {l l' : List DV} {arr : Array Value}, Xl x r vs → fR x l arr → js pd l r = some l' → ∃ Sl, Instr.fill pl arr vs = some Sl ∧ fR x l' Sl
 | [], vs, l, l', arr, hv, hl, h => by
  have : vs = [] := dm (by simpa using hv.1)
  subst this
  simp only [js, az] at h
  subst h
  exact ⟨arr, rfl, hl⟩
 | (i, d) :: r, vs, l, l', arr, hv, hl, h => by
  obtain ⟨v, Rp, hd⟩ := hv.2 0 (i, d) rfl
  have hd : RV x d v := hd
  cases vs with
  | nil => simp at Rp
  | cons v0 vs =>
   simp only [List.getElem?_cons_zero, az] at Rp
   subst Rp
   unfold js at h
   split at h
   ·cases h
   ·rename_i off size hp
    split at h
    ·rename_i hsz
     split at h
     ·rename_i l1 h1
      have hc := qT hd
      obtain ⟨h2, h3⟩ := oH h1
      have Rq := JX hl hc h1
      obtain ⟨Sl, h4, h5⟩ := zu xF (r := r) (vs := vs) ⟨by simpa using hv.1, fun j p hj => by simpa using hv.2 (j + 1) p (by simpa using hj)⟩ Rq h
      refine ⟨Sl, ?_, h5⟩
      unfold Instr.fill
      simp only [xF i _ hp]
      have c1 : v.cells.size = size := by rw [hc.1, ← hsz]
      have c2 : ¬ (v.cells.size ≠ size ∨ off + v.cells.size > arr.size) := by rw [hl.1, hc.1]; omega
      simp only [gt_iff_lt, eP, bJ, c2, if_false]
      rw [fold_eq off v.cells arr (by rw [hl.1, hc.1]; exact h2)]
      exact h4
     ·cases h
    ·cases h
theorem yT (ee : iO P ty) (hR : Rel x) (hρ : uL x ρd ρ) {t : TypeId} {fs : List (Nat × Nat × Bool)} {sz : Nat} {z cs : List DV} {ps : Array (Nat × Operand)} {l : List (Nat × DV)} (h : ty t = some ⟨.struct fs, sz, some z⟩) (hl : iS ρd ps.toList = some l)
  (hf : js (fun i => (fs[i]?).map fun f => (f.1, f.2.1)) z l = some cs) : Yields x ((do pure (.value (← Instr.build t (ps.map fun p => (p.1, ρ p.2)))) : Sem Next).run P x.w) (.agg cs) x.S := by
 obtain ⟨hk, i, hi, -, hz⟩ := bK (ee t _ h)
 obtain ⟨fields, hu, Y2, ZJ⟩ := wR hk
 obtain ⟨zv, h1, h2, -⟩ := iz hz
 obtain ⟨h3, h4⟩ := gB (x := x) h2
 have yX : fR x z zv.cells := ⟨by simpa using h3, fun j c hc => by simpa [aT, aO] using h4 j c hc⟩
 have xF : ∀ w : World, (fields.mapM (fun f => do pure (f.offset, ← sizeOf f.type) : Field → Sem (Nat × Nat))).run P w = .ok ((fs.map fun f => (f.1, f.2.1)).toArray) w := by
  intro w
  have key : ∀ (l : List Field) (fs : List (Nat × Nat × Bool)), l.length = fs.length → (∀ (j : Nat) (r : Nat × Nat × Bool), fs[j]? = some r → ∃ f, l[j]? = some f ∧ Em P f r) → (l.mapM (fun f => do pure (f.offset, ← sizeOf f.type) : Field → Sem (Nat × Nat))).run P w = .ok (fs.map fun f => (f.1, f.2.1)) w := by
   intro l
   induction l with
   | nil => intro fs h _; have : fs = [] := dm (by simpa using h.symm); subst this; rfl
   | cons f l ih =>
    intro fs h hj
    cases fs with
    | nil => simp at h
    | cons r fs =>
     obtain ⟨f', h1, h2, inf, h3, h4, -, -⟩ := hj 0 r rfl
     simp only [List.getElem?_cons_zero, az] at h1
     subst h1
     have := ih fs (by simpa using h) fun j r hr => by simpa using hj (j + 1) r (by simpa using hr)
     simp only [List.mapM_cons, Sem.run_bind, run_sizeOf h3, Result.andThen_ok, Sem.run_pure, this, bD]
     rw [h2, h4]
  rw [Array.mapM_eq_mapM_toList]
  simp only [Sem.run_map, key fields.toList fs (by simpa using Y2) (fun j r hr => by simpa using ZJ j r hr), Result.andThen_ok]
 have oe := sj hρ hl
 obtain ⟨arr, h5, h6⟩ := zu (x := x) (pl := fun i => ((fs.map fun f => (f.1, f.2.1)).toArray)[i]?) (fun i p hp => by simpa using hp) (vs := qP ρ ps.toList) oe yX hf
 unfold qP at h5
 refine aQ hR (v := .agg arr) ?_ (.agg h6.1 h6.2)
 simp only [Instr.build, Sem.run_bind, zeroValue, typeInfo, run_program, Result.andThen_ok, hi, Sem.run_pure, h1, run_underlying hu, xF, Array.toList_map, h5]
theorem Bo (ee : iO P ty) (hR : Rel x) (hρ : uL x ρd ρ) {t : TypeId} {n s sz : Nat} {agg : Bool} {z cs : List DV} {ps : Array (Nat × Operand)} {l : List (Nat × DV)} (h : ty t = some ⟨.array n s agg, sz, some z⟩) (hl : iS ρd ps.toList = some l)
  (hf : js (fun i => some (i * s, s)) z l = some cs) : Yields x ((do pure (.value (← Instr.build t (ps.map fun p => (p.1, ρ p.2)))) : Sem Next).run P x.w) (.agg cs) x.S := by
 obtain ⟨hk, i, hi, -, hz⟩ := bK (ee t _ h)
 obtain ⟨e, hu, ie, qB, oU, -, -⟩ := vu hk
 obtain ⟨zv, h1, h2, -⟩ := iz hz
 obtain ⟨h3, h4⟩ := gB (x := x) h2
 have yX : fR x z zv.cells := ⟨by simpa using h3, fun j c hc => by simpa [aT, aO] using h4 j c hc⟩
 have oe := sj hρ hl
 obtain ⟨arr, h5, h6⟩ := zu (x := x) (pl := fun i => some (i * s, s)) (fun i p hp => hp) (vs := qP ρ ps.toList) oe yX hf
 unfold qP at h5
 refine aQ hR (v := .agg arr) ?_ (.agg h6.1 h6.2)
 subst oU
 simp only [Instr.build, Sem.run_bind, zeroValue, typeInfo, run_program, Result.andThen_ok, hi, Sem.run_pure, h1, run_underlying hu, run_sizeOf qB, Array.toList_map, h5]
theorem yt {z : List DV} {s : Nat} (hs : z.length = s) : ∀ (n j : Nat), j < n * s → ((List.replicate n z).flatten)[j]? = z[j % s]?
 | 0, j, h => by simp at h
 | n + 1, j, h => by
  have BO : 0 < s := by
   rcases mc s with h0 | h0
   ·subst h0; simp at h
   ·exact h0
  simp only [List.replicate_succ, List.flatten_cons]
  by_cases hj : j < s
  ·rw [ep (by omega), Nat.mod_eq_of_lt hj]
  ·rw [fQ (by omega), hs, yt hs n (j - s) (by rw [kK] at h; omega), ← Nat.mod_eq_sub_mod (by omega)]
theorem iw {s : Nat} {agg : Bool} {l : List DV} {n : Nat} (hl : l.length = n * s) (hs : 0 < s) (ha : agg = true ∨ s = 1) (hp : ∀ c ∈ l, c.bF = true) : ∀ i, i < n → (rowOf s agg l i).cells = (l.drop (i * s)).take s := by
 intro i hi
 have h1 : i * s + s ≤ l.length := by rw [hl, ← kK]; exact eR _ hi
 unfold rowOf
 cases agg with
 | true => rfl
 | false =>
  have ES : s = 1 := by simpa using ha
  subst ES
  have hlt : i * 1 < l.length := by omega
  have e : l.getD (i * 1) aX = l[i * 1] := by rw [aO, bV hlt]; rfl
  have Rq := hp l[i * 1] (pI hlt)
  simp only [aD, if_false, e]
  have hc : (l[i * 1]).cells = [l[i * 1]] := by
   revert Rq
   generalize l[i * 1] = c
   cases c <;> simp [DV.bF, DV.cells]
  rw [hc, mg hlt, List.take_succ_cons, List.take_zero]
theorem CY {s : Nat} {agg : Bool} {l : List DV} (hs : 0 < s) (ha : agg = true ∨ s = 1) (hp : ∀ c ∈ l, c.bF = true) : ∀ n, l.length = n * s → flat (rowsOf s agg l n) = l ∧ ∀ r ∈ rowsOf s agg l n, r.cells.length = s := by
 intro n hl
 have hc := iw hl hs ha hp
 have hlen : ∀ r ∈ rowsOf s agg l n, r.cells.length = s := by
  intro r hr
  unfold rowsOf at hr
  simp only [fN, List.mem_range] at hr
  obtain ⟨i, hi, rfl⟩ := hr
  rw [hc i hi, lY, List.length_drop]
  have h1 : i * s + s ≤ l.length := by rw [hl, ← kK]; exact eR _ hi
  omega
 refine ⟨?_, hlen⟩
 have rH := fW hlen
 have Nh : (rowsOf s agg l n).length = n := by simp [rowsOf]
 refine lZ fun j => ?_
 by_cases hj : j < n * s
 ·have hdiv : j / s < n := by rw [Nat.div_lt_iff_lt_mul hs]; exact hj
  have aar : j % s < s := Nat.mod_lt _ hs
  have ZF : j = (j / s) * s + j % s := by rw [Nat.mul_comm]; exact (Nat.div_add_mod j s).symm
  have hr : (rowsOf s agg l n)[j / s]? = some (rowOf s agg l (j / s)) := by simp [rowsOf, hdiv]
  rw [ZF, vG hlen hr aar, hc _ hdiv, mb, if_pos aar, pK]
 ·rw [eS (by rw [rH, Nh]; omega), eS (by omega)]
theorem Ag {rows : List DV} {arr : Array Value} {s b : Nat} {y : Cx} {e : TypeId} (h1 : ∀ r ∈ rows, r.cells.length = s) (h2 : ∀ c ∈ flat rows, c.bF = true) (h3 : (flat rows).length ≤ arr.size) (hb : y.w.heap[b]? = some (.cells arr e (0, 0))) (hF : ∀ j, j < (flat rows).length → y.Fz b j) :
  View y rows (some ⟨b, 0, none⟩) s (fun j => arr.getD j undef) := by
 refine ⟨h1, fun j c hc => ⟨h2 c (cW hc), b, 0, rfl, ?_, ?_⟩⟩
 ·rw [gQ]; exact hF j (aJ.1 hc).1
 ·have hj : j < arr.size := cz (aJ.1 hc).1 h3
  simp [World.cell?, hb, hj, aT]
theorem Cn {z : List DV} {zv : Value} {s n : Nat} (hs : 0 < s) (Dt : z.length = s) (MK : zv.cells.size = s) (h4 : ∀ j c, z[j]? = some c → RV x c (zv.cells.toList.getD j undef)) : fR x ((List.replicate n z).flatten) ((Array.range (n * s)).map (zv.cells[· % zv.cells.size]!)) := by
 refine ⟨by simp [Dt], fun j c hc => ?_⟩
 have hj : j < n * s := by have := (aJ.1 hc).1; simpa [Dt] using this
 rw [yt Dt n j hj] at hc
 have hm : j % s < s := Nat.mod_lt _ hs
 have := h4 _ c hc
 have Hf : j % zv.cells.size < zv.cells.size := by rw [MK]; exact hm
 have e1 : ((Array.range (n * s)).map (zv.cells[· % zv.cells.size]!)).getD j undef = zv.cells[j % zv.cells.size]! := by simp [aT, hj]
 rw [e1, getElem!_pos zv.cells (j % zv.cells.size) Hf]
 have e2 : zv.cells.toList.getD (j % s) undef = zv.cells[j % zv.cells.size] := by simp [aO, ← MK, Hf]
 rw [← e2]
 exact this
theorem C8 (ee : iO P ty) (hR : Rel x) (hρ : uL x ρd ρ) {t e : TypeId} {n s jZ sz sz' : Nat} {agg : Bool} {k : TK} {z0 : Option (List DV)} {z cs : List DV} {ps : Array (Nat × Operand)} {l : List (Nat × DV)} (h : ty t = some ⟨.slice e s jZ agg, sz, z0⟩) (hl : iS ρd ps.toList = some l) (he : ty e = some ⟨k, sz', some z⟩)
  (hs : 0 < s) (hn : n * s ≤ 16777216) (hf : js (fun i => some (i * s, s)) ((List.replicate n z).flatten) (l.map fun (i, v) => (i, v.strip)) = some cs) :
  ∃ arr, fR x cs arr ∧ cs.length = n * s ∧ (Instr.buildSlice t n (ps.map fun p => (p.1, ρ p.2))).run P x.w = .ok (.slice (some ⟨x.w.heap.size, 0, none⟩) n n) (x.w.alloc (.cells arr e)) := by
 obtain ⟨hk, i, hi, -, -⟩ := bK (ee t _ h)
 obtain ⟨hu, ie, qB, oU, -, Dj⟩ := jT hk
 obtain ⟨-, ie', zG, -, hz⟩ := bK (ee e _ he)
 rw [qB] at zG
 cases zG
 obtain ⟨zv, h1, h2, Zq⟩ := iz hz
 obtain ⟨h3, h4⟩ := gB (x := x) h2
 have MK : zv.cells.size = s := by rw [← oU, ← Zq]; simpa using h3
 have Dt : z.length = s := by rw [Zq, oU]
 have yX := Cn (n := n) hs Dt MK h4
 have oe : Xl x (l.map fun (i, v) => (i, v.strip)) (qP ρ ps.toList) := by
  have := sj hρ hl
  refine ⟨by simpa using this.1, fun j p hp => ?_⟩
  simp only [en, ah] at hp
  obtain ⟨q, hq, rfl⟩ := hp
  obtain ⟨v, K1, QX⟩ := this.2 j q hq
  exact ⟨v, by simpa using K1, QX.strip⟩
 obtain ⟨arr, h5, h6⟩ := zu (x := x) (pl := fun i => some (i * s, s)) (fun i p hp => hp) oe yX hf
 have nK : cs.length = n * s := by
  have key : ∀ (r : List (Nat × DV)) (l l' : List DV), js (fun i => some (i * s, s)) l r = some l' → l'.length = l.length := by
   intro r
   induction r with
   | nil => intro l l' h; simp only [js, az] at h; rw [h]
   | cons p r ih =>
    intro l l' h
    obtain ⟨i, d⟩ := p
    unfold js at h
    simp only at h
    split at h
    ·split at h
     ·rename_i l1 h1
      rw [ih _ _ h]
      obtain ⟨h2, rfl⟩ := oH h1
      simp; omega
     ·cases h
    ·cases h
  rw [key _ _ _ hf]; simp [Dt]
 refine ⟨arr, h6, nK, ?_⟩
 ·subst oU
  have c1 : ¬ (n * ie.size > 2 ^ 24) := by rw [show (2 : Nat) ^ 24 = 16777216 from by decide]; omega
  have Y8 : Instr.fill (fun i => some (i * ie.size, ie.size)) ((Array.range (n * ie.size)).map (zv.cells[· % zv.cells.size]!)) (ps.toList.map fun p => (p.1, ρ p.2)) = some arr := h5
  by_cases h0 : n * ie.size = 0
  ·have e0 : (Array.range (n * ie.size)).map ((#[] : Array Value)[· % (#[] : Array Value).size]!) = (Array.range (n * ie.size)).map (zv.cells[· % zv.cells.size]!) := by rw [h0]; simp
   simp only [Instr.buildSlice, Sem.run_bind, run_underlying hu, Result.andThen_ok, run_sizeOf qB, if_neg c1, if_pos h0, Sem.run_pure, e0, Array.toList_map, Y8, newRow, run_newObj]
   rfl
  ·simp only [Instr.buildSlice, Sem.run_bind, run_underlying hu, Result.andThen_ok, run_sizeOf qB, if_neg c1, if_neg h0, Sem.run_pure, zeroValue, typeInfo, run_program, qB, h1, Array.toList_map, Y8, newRow, run_newObj]
   rfl
theorem BX (ee : iO P ty) (hR : Rel x) (hρ : uL x ρd ρ) {t e : TypeId} {n s jZ sz sz' : Nat} {agg : Bool} {k : TK} {z0 : Option (List DV)} {z cs : List DV} {ps : Array (Nat × Operand)} {l : List (Nat × DV)} (h : ty t = some ⟨.slice e s jZ agg, sz, z0⟩) (hl : iS ρd ps.toList = some l) (he : ty e = some ⟨k, sz', some z⟩)
  (hs : 0 < s) (hn : n * s ≤ 16777216) (hf : js (fun i => some (i * s, s)) ((List.replicate n z).flatten) (l.map fun (i, v) => (i, v.strip)) = some cs) (hp : cs.all DV.bF = true) (ha : agg = true ∨ s = 1) :
  Yields x ((do pure (.value (← Instr.buildSlice t n (ps.map fun p => (p.1, ρ p.2)))) : Sem Next).run P x.w) (.sl (rowsOf s agg cs n) none ⟨true, some false⟩) x.S := by
 obtain ⟨arr, h6, nK, hrun⟩ := C8 ee hR hρ h hl he hs hn hf
 have Nj : ∀ c ∈ cs, c.bF = true := fun c hc => aW.1 hp c hc
 obtain ⟨rH, Nh⟩ := CY hs ha Nj n nK
 have Rq : mH x.w (x.w.alloc (.cells arr e)) (.cells arr e (0, 0)) := fE _ _
 have kE := LO (F := fun o => o < arr.size) hR Rq fun o ho => ⟨arr[o], by simp [ho]⟩
 have YT : (rowsOf s agg cs n).length = n := by simp [rowsOf]
 have uG : (x.w.alloc (.cells arr e)).heap[x.w.heap.size]? = some (.cells arr e (0, 0)) := Rq.new
 have xU : arr.size = cs.length := h6.1
 have M := pR (F := fun o => o < arr.size) hR Rq
 refine fV (y := x.froze _ (fun o => o < arr.size)) (v := .slice (some ⟨x.w.heap.size, 0, none⟩) n n) hrun rfl kE M ?_
 ·suffices hk : RV (x.froze (x.w.alloc (.cells arr e)) (fun o => o < arr.size)) (.sl (rowsOf s agg cs n) none ⟨true, some false⟩) (.slice (some ⟨x.w.heap.size, 0, none⟩) (rowsOf s agg cs n).length (rowsOf s agg cs n).length) by rw [YT] at hk; exact hk
  have hv : View (x.froze (x.w.alloc (.cells arr e)) (fun o => o < arr.size)) (rowsOf s agg cs n) (some ⟨x.w.heap.size, 0, none⟩) s (fun j => arr.getD j undef) :=
   Ag Nh (by rw [rH]; exact Nj) (by rw [rH]; omega) uG fun j hj => .inr ⟨rfl, by rw [rH] at hj; omega⟩
  refine RV.sl (tok := none) hv (fun j c hc => ?_) (ai _) ⟨fun _ => rfl, fun b h => by cases h; rfl⟩ (by simp) (fun ad h _ => by cases h; rfl) (fun t ht => nomatch ht)
  rw [rH] at hc
  exact (h6.2 j c hc).mono M
theorem pY (ee : iO P ty) {t : TypeId} {fs : List (Nat × Nat × Bool)} {sz f off s : Nat} {agg : Bool} {z : Option (List DV)} (h : ty t = some ⟨.struct fs, sz, z⟩) (hf : fs[f]? = some (off, s, agg)) (hs : 0 < s) (b o0 : Nat) (w : World) :
  (Instr.fieldAt t (.pointer (some ⟨b, o0, none⟩)) f).run P w = .ok (.pointer (some ⟨b, o0 + off, none⟩)) w := by
 obtain ⟨hk, i, hi, -, -⟩ := bK (ee t _ h)
 obtain ⟨fields, hu, Y2, ZJ⟩ := wR hk
 obtain ⟨fd, h1, h2, inf, h3, h4, -, -⟩ := ZJ f _ hf
 simp only at h2 h4
 have hne : ¬ (inf.size = 0) := by omega
 simp only [Instr.fieldAt, Sem.run_bind, run_underlying hu, Result.andThen_ok, h1, Instr.sureAddr, Sem.run_pure, fieldPlace, run_sizeOf h3, if_neg hne, gI, h2]
theorem ye (ee : iO P ty) {t : TypeId} {k s sz : Nat} {agg : Bool} {z : Option (List DV)} (h : ty t = some ⟨.array k s agg, sz, z⟩) {kd : IntKind} {n : Int} (h0 : 0 ≤ n) (hlt : n.toNat < k) (b o0 : Nat) (w : World) :
  (Instr.indexAt t (.pointer (some ⟨b, o0, none⟩)) (.int kd n)).run P w = .ok (.pointer (some ⟨b, o0 + n.toNat * s, none⟩)) w := by
 obtain ⟨hk, i, hi, -, -⟩ := bK (ee t _ h)
 obtain ⟨e, hu, ie, qB, oU, -, -⟩ := vu hk
 have hc : 0 ≤ n ∧ n < (k : Int) := ⟨h0, by omega⟩
 subst oU
 simp only [Instr.indexAt, asIntOf, Sem.run_bind, Sem.run_pure, Result.andThen_ok, run_underlying hu, Instr.sureAddr, hc, and_self, if_true, run_sizeOf qB, gI]
theorem Ba (ee : iO P ty) {t e : TypeId} {s jZ sz : Nat} {agg : Bool} {z : Option (List DV)} (h : ty t = some ⟨.slice e s jZ agg, sz, z⟩) {kd : IntKind} {n : Int} {len cap : Nat} (h0 : 0 ≤ n) (hlt : n.toNat < len) (b o0 : Nat) (w : World) :
  (Instr.indexAt t (.slice (some ⟨b, o0, none⟩) len cap) (.int kd n)).run P w = .ok (.pointer (some ⟨b, o0 + n.toNat * s, none⟩)) w := by
 obtain ⟨hk, i, hi, -, -⟩ := bK (ee t _ h)
 obtain ⟨hu, ie, qB, oU, -, -⟩ := jT hk
 have hc : 0 ≤ n ∧ n < (len : Int) := ⟨h0, by omega⟩
 subst oU
 simp only [Instr.indexAt, asIntOf, Sem.run_bind, Sem.run_pure, Result.andThen_ok, run_underlying hu, hc, and_self, if_true, run_sizeOf qB, gI]
end Go.Di
end
section
namespace Go.Di
open Go
variable {P:Program} {ty:fI} {x:Cx} {w':World} {ρd:Operand→Option DV} {ρ:Operand→Value} {o:Oper} {ay:Nat}
theorem qS {rows:List DV} {tok:Option Nat} {full:SF} {A:Option Addr} {n cap s:Nat} (h:RV x (.sl rows tok full) (.slice A n cap)) (hs:∀ r∈rows,r.cells.length=s) :
  n=rows.length∧n≤cap∧((full.full=true→cap=n)∧OB full A)∧(A=none→cap=0)∧VS x tok rows A cap∧(∀ ad,A=some ad→0<cap→ad.spot=none) ∧
  (∀ c∈flat rows,c.bF=true)∧∃ vs:List Value,vs.length=n*s∧(∀ j c,(flat rows)[j]? = some c→RV x c (vs.getD j undef)) ∧
   (∀ j c,(flat rows)[j]? = some c→∃ b o,A=some ⟨b,o,none⟩∧x.Fz b (o+j)∧x.w.cell? ⟨b,o+j,none⟩=some (vs.getD j undef))∧∀ u∈vs,u.oneCell'=true:=by
 cases h with
 | @sl _ _ _ _ _ s' vs hv hr h1 h2 h3 hsp h4 =>
  have rH:=fW hs
  refine⟨rfl,h1,h2,h3,h4,hsp,fun c hc => ?_,(List.range (rows.length*s)).map vs,by simp,fun j c hc => ?_,fun j c hc => ?_,fun u hu => ?_⟩
  ·obtain⟨j,hj,rfl⟩:=List.mem_iff_getElem.1 hc
   exact(hv.2 j _ (bV hj)).1
  ·have hj:j<rows.length*s:=by rw[← rH]; exact(aJ.1 hc).1
   simpa [aO,hj] using hr j c hc
  ·have hj:j<rows.length*s:=by rw[← rH]; exact(aJ.1 hc).1
   obtain⟨-,b,o,k1,k2,k3⟩:=hv.2 j c hc
   exact⟨b,o,k1,k2,by simpa [aO,hj] using k3⟩
  ·simp only[fN,List.mem_range] at hu
   obtain⟨j,hj,rfl⟩:=hu
   have yY:j<(flat rows).length:=by omega
   have k:=bV yY
   have hp:=(hv.2 j _ k).1
   have h1:((flat rows)[j]).one=true:=by
    revert hp
    generalize (flat rows)[j]=c
    cases c<;>simp[DV.bF,DV.one]
   exact(one_cell (hr j _ k) h1).1
theorem XV {y:Cx} {R:List DV} {t s N cap:Nat} {e:TypeId} {arr:Array Value} (hR:∀ r∈R,r.cells.length=s) (hp:∀ c∈flat R,c.bF=true) (hS:y.S[t]? = some (.tail e s N)) (hN:N=R.length*s)
  (hh:y.w.heap[y.μ t]? = some (.cells arr e (0,0))) (hF:∀ o,o<N→y.Fz (y.μ t) o) (hsz:N≤arr.size) (hc:∀ j c,(flat R)[j]? = some c→RV y c (arr.getD j undef)) (hk:cap=y.κ t) (E4:R.length≤cap) :
  RV y (.sl R (some t) ⟨false,none⟩) (.slice (some ⟨y.μ t,0,none⟩) R.length cap):=by
 have rH:=fW hR
 refine RV.sl (Ag hR hp (by omega) hh fun j hj=>hF j (by omega)) hc E4 ⟨by simp,fun _ h=>nomatch h⟩ (by simp) (fun ad h _=>by cases h; rfl) fun t' ht => ?_
 cases ht
 exact⟨e,s,N,hS,by omega,hR,fun _=>⟨rfl,hk⟩⟩
theorem yx (a b:List DV):flat (a++b)=flat a++flat b:=by simp[flat]
theorem wU {y:Cx} {rows news:List DV} {Dc kZ:List Value} {t s b cap:Nat} {e:TypeId} {arr:Array Value} (M:bE x y) (h1:∀ r∈rows,r.cells.length=s) (h2:∀ r∈news,r.cells.length=s) (V9:∀ c∈flat rows,c.bF=true) (YV:∀ c∈flat news,c.bF=true)
  (wh:∀ (j:Nat) (c:DV),(flat rows)[j]? = some c→RV x c (Dc.getD j undef)) (MP:∀ (j:Nat) (c:DV),(flat news)[j]? = some c→RV x c (kZ.getD j undef)) (hS:y.S[t]? = some (.tail e s ((rows.length+news.length)*s))) (hμ:y.μ t=b) (hκ:y.κ t=cap)
  (hh:y.w.heap[b]? = some (.cells arr e (0,0))) (hF:∀ o,o<(rows.length+news.length)*s→y.Fz b o) (hsz:(rows.length+news.length)*s≤arr.size) (Q2:∀ j,j<rows.length*s→arr.getD j undef=Dc.getD j undef) (Jm:∀ j,j<news.length*s→arr.getD (rows.length*s+j) undef=kZ.getD j undef)
  (E4:rows.length+news.length≤cap):RV y (.sl (rows++news) (some t) ⟨false,none⟩) (.slice (some ⟨b,0,none⟩) (rows.length+news.length) cap):=by
 have Ns:=fW h1
 have UM:=fW h2
 subst hμ hκ
 have key:=XV (y:=y) (R:=rows++news) (t:=t) (s:=s) (arr:=arr) (cap:=y.κ t) (N:=(rows.length+news.length)*s) (fun r hr=>(jO.1 hr).elim (h1 r) (h2 r)) (fun c hc => ?_) hS (by rw[cO]) hh hF hsz (fun j c hc => ?_) rfl (by rw[cO]; exact E4)
 ·rw[cO] at key; exact key
 ·rw[yx] at hc; exact(jO.1 hc).elim (V9 c) (YV c)
 ·rw[yx] at hc
  by_cases hj:j<(flat rows).length
  ·rw[ep hj] at hc
   rw[Q2 j (by omega)]
   exact(wh j c hc).mono M
  ·rw[fQ (by omega)] at hc
   have Rs:j-(flat rows).length<(flat news).length:=(aJ.1 hc).1
   have e1:j=rows.length*s+(j-(flat rows).length):=by omega
   rw[e1,Jm _ (by omega)]
   exact(MP _ c hc).mono M
theorem xy {Dc kZ:List Value} {Z:Array Value} {n m:Nat} (h1:Dc.length=n) (h2:kZ.length=m):(∀ j,j<n→(Dc.toArray++kZ.toArray++Z).getD j undef=Dc.getD j undef)∧∀ j,j<m→(Dc.toArray++kZ.toArray++Z).getD (n+j) undef=kZ.getD j undef:=by
 constructor
 ·intro j hj
  rw[aT,vr (by simp; omega),vr (by simp; omega)]
  simp[aO]
 ·intro j hj
  rw[aT,vr (by simp; omega),vt (by simp; omega)]
  simp[aO,h1]
theorem Mf (ee:iO P ty) (hR:Rel x) (hn:Bw x.S ay) {t u:TypeId} {a b d:DV} {va vb:Value} {S':ak} (ha:RV x a va) (hb:RV x b vb) (h:iE ty x.S ay t a b=some (d,S')) :
  Yields x ((do pure (.value (← Builtin.append_ #[t,t] u #[va,vb])):Sem Next).run P x.w) d S':=by
 unfold iE at h
 split at h
 ·rename_i e s jZ agg sz z0 rows tok full news Dp VG UF
  obtain⟨hk,it,-,-,-⟩:=bK (ee t _ UF)
  obtain⟨hu,ie,qB,oU,Bv,-⟩:=jT hk
  have BC:=ha
  have EU:=hb
  cases ha with
  | @sl _ _ _ A cap s1 vs1 K1 wh k1 k2 k3 k4 k5 =>
   cases hb with
   | @sl _ _ _ A2 qy s2 vs2 QX MP m1 m2 m3 m4 m5 =>
    split at h
    ·rename_i sM
     cases h
     have HH:news=[]:=by simpa using sM
     subst HH
     refine aQ hR (v := .slice A rows.length cap) ?_ BC
     subst oU
     cases A with
     | none=>cases A2<;>simp[Builtin.append_,run_underlying hu,run_sizeOf qB,Builtin.lenOf,Builtin.firstCells,loadCells,loadCellsFrom,k1]
     | some ad=>cases A2<;>simp[Builtin.append_,run_underlying hu,run_sizeOf qB,Builtin.lenOf,Builtin.firstCells,loadCells,loadCellsFrom,storeCells,k1]
    ·rename_i sM
     split at h
     ·rename_i hte
      split at h
      rotate_left
      ·cases h
      rename_i mM
      simp only[aB,bJ,aW] at mM
      obtain⟨⟨⟨hs,j8⟩,hlen⟩,j7⟩:=mM
      have hm:0<news.length:=List.length_pos_iff.2 (by simpa using sM)
      obtain⟨z,Wj,MK⟩:∃ z,ie.zero=some z∧z.cells.size=s:=by
       obtain⟨-,ie',zG,Hr,yX⟩:=bK (ee e _ hte)
       rw[qB] at zG
       cases zG
       obtain⟨z,q1,q2,q3⟩:=iz yX
       have:=(gB (x:=x) q2).1
       exact⟨z,q1,by rw[← oU,← q3]; simpa using this⟩
      obtain⟨-,-,-,-,-,WO,Rr,kZ,rG,BN,wu,Cj⟩:=qS EU j7
      obtain⟨UZ,rfl⟩:∃ UZ,A2=some UZ:=by
       cases A2 with
       | none=>have:=m3 rfl; omega
       | some ad=>exact⟨ad,rfl⟩
      have yL:=fW j7
      obtain⟨b2,o2,sp2⟩:=UZ
      have WN:sp2=none:=WO _ rfl (by omega)
      subst WN
      have nW:∀ j v,kZ[j]? = some v→x.w.cell? ((⟨b2,o2,none⟩:Addr).add j)=some v:=by
       intro j v hv
       have hj:j<(flat news).length:=by rw[yL,← rG]; exact(aJ.1 hv).1
       obtain⟨b',o',q1,-,q2⟩:=wu j _ (bV hj)
       cases q1
       rw[gI,q2]
       simp[aO,hv]
      have adD:rows.length+news.length≤9223372036854775807:=by omega
      have grown:∀ (w1:List Value),w1.length=rows.length*s→∀ (k:Nat),k=grownCap x.w (rows.length+news.length) cap e→k≤maxLen∧rows.length+news.length≤k ∧
        (w1.toArray++kZ.toArray++Builtin.zeroCells z.cells (k-(rows.length+news.length))).size=k*s:=by
       intro w1 Jf k hk
       have ET:=grownCap_ge x.w (rows.length+news.length) cap e
       have hle:=grownCap_le_maxLen x.w (rows.length+news.length) cap e (by simp only[maxLen]; omega)
       subst hk
       refine⟨hle,ET,?_⟩
       simp only[Array.size_append,jP,size_zeroCells,MK,Jf,rG,← jg]
       congr 1
       omega
      have Qx:∀ (hf:full.full=true) (mL:∀ r∈rows,r.cells.length=s),d = .sl (rows++news) (some ay) ⟨false,none⟩→S'=dP x.S ay (.tail e s ((rows.length+news.length)*s)) →
        Yields x ((do pure (.value (← Builtin.append_ #[t,t] u #[.slice A rows.length cap,.slice (some ⟨b2,o2,none⟩) news.length qy])):Sem Next).run P x.w) d S':=by
       intro hf mL hd hS
       subst hd hS
       have E4:cap=rows.length:=k2.1 hf
       obtain⟨-,-,-,-,-,acE,YU,Dc,Dg,RY,EG,abo⟩:=qS BC mL
       have R9:=fW mL
       obtain⟨g1,g2,g3⟩:=grown Dc Dg _ rfl
       have hrun:(Builtin.append_ #[t,t] u #[.slice A rows.length cap,.slice (some ⟨b2,o2,none⟩) news.length qy]).run P x.w =
         .ok (.slice (some ⟨x.w.heap.size,0,none⟩) (rows.length+news.length) (grownCap x.w (rows.length+news.length) cap e)) (x.w.drew.alloc (.cells (Dc.toArray++kZ.toArray++Builtin.zeroCells z.cells (grownCap x.w (rows.length+news.length) cap e-(rows.length+news.length))) e)):=by
        cases A with
        | none =>
         have h0:=k3 rfl
         have Hs:rows.length=0:=by omega
         have hw0:Dc=[]:=dm (by rw[Dg,Hs]; simp)
         subst hw0
         rw[Hs,h0]
         have:=run_append_nil (P:=P) x.w t u e ie z hu qB Wj ⟨b2,o2,none⟩ news.length qy kZ (by rw[rG,oU]) nW hm (by omega) (by rw[Bv]; unfold eD at j8; have:news.length*jZ≤(rows.length+news.length)*jZ:=eR _ (by omega); omega)
         simpa using this
        | some ad =>
         obtain⟨b1,o1,sp1⟩:=ad
         have ES:0<rows.length→sp1=none:=fun h=>acE _ rfl (by omega)
         refine run_append_grow (P:=P) x.w t u e ie z hu qB Wj ⟨b1,o1,sp1⟩ rows.length cap Dc (by rw[Dg,oU]) (fun j v hv => ?_) ⟨b2,o2,none⟩ news.length qy kZ (by rw[rG,oU]) nW (by omega) (by omega) (growslice_fits (by omega) (by rw[Bv]; exact j8))
         have hj:j<(flat rows).length:=by rw[R9,← Dg]; exact(aJ.1 hv).1
         obtain rfl:=ES (Nat.pos_of_ne_zero fun e=>by rw[R9,e] at hj; simp at hj)
         obtain⟨b',o',q1,-,q2⟩:=EG j _ (bV hj)
         cases q1
         rw[gI,q2]
         simp[aO,hv]
       generalize hk0:grownCap x.w (rows.length+news.length) cap e=k at *
       obtain⟨v1,v2⟩:=xy (Z:=Builtin.zeroCells z.cells (k-(rows.length+news.length))) Dg rG
       generalize yN:Dc.toArray++kZ.toArray++Builtin.zeroCells z.cells (k-(rows.length+news.length))=arr at *
       have hp:mH x.w (x.w.drew.alloc (.cells arr e)) (.cells arr e (0,0)):=⟨rfl,rfl,rfl⟩
       have UR:(rows.length+news.length)*s≤arr.size:=by rw[g3]; exact eR _ g2
       have kE:=kg (k:=k) (F:=fun o=>o<(rows.length+news.length)*s) (b := .tail e s ((rows.length+news.length)*s)) hR hn hp (fun o ho=>⟨arr[o]'(by omega),by simp only[World.cell?,hp.new]; exact bL _⟩) (.inr (.inl ⟨e,s,_,arr,rfl,rfl,g3,UR,g1,fun o ho=>ho⟩))
       have M:=iy (k:=k) (F:=fun o=>o<(rows.length+news.length)*s) (b := .tail e s ((rows.length+news.length)*s)) hR hn hp
       exact fV hrun (y:=x.fresh (x.w.drew.alloc (.cells arr e)) ay k (fun o=>o<(rows.length+news.length)*s) (.tail e s ((rows.length+news.length)*s))) rfl kE M
        (wU M mL j7 YU Rr RY BN (by show (dP _ _ _)[_]? = _; rw[aZ hn.le,if_pos rfl]) (if_pos rfl) (if_pos rfl) hp.new (fun o ho => .inr ⟨rfl,ho⟩) UR v1 v2 g2)
      cases tok with
      | none =>
       simp only at h
       split at h
       ·rename_i hfc
        simp only[aB,aW,bJ] at hfc
        cases h
        exact Qx hfc.1 hfc.2 rfl rfl
       ·cases h
      | some tk =>
       simp only at h
       split at h
       ·rename_i e' s' n' Hj
        split at h
        ·rename_i OZ
         simp only[aB,bJ] at OZ
         obtain⟨⟨w1,w2⟩,w3⟩:=OZ
         rw[w1,w2,w3] at Hj
         cases h
         obtain⟨e2,s2',n2,q1,q2,q3,q4⟩:=k5 tk rfl
         rw[Hj] at q1
         cases q1
         obtain⟨rfl,rfl⟩:=q4 rfl
         obtain⟨-,-,-,-,-,-,YU,Dc,Dg,RY,EG,abo⟩:=qS BC q3
         have R9:=fW q3
         obtain⟨cur,t1,t2,t3,t4⟩:=hR.dz tk _ _ _ Hj
         have aav:∀ j,j<rows.length*s→cur[j]? = some (Dc.getD j undef):=by
          intro j hj
          have yY:j<(flat rows).length:=by omega
          obtain⟨b',o',r1,-,r2⟩:=EG j _ (bV yY)
          cases r1
          simpa [World.cell?,t1] using r2
         by_cases hroom:rows.length+news.length≤x.κ tk
         ·
          have Dw:rows.length*s+kZ.length≤cur.size:=by rw[rG,t2,← jg]; exact eR _ hroom
          have hrun:=run_append_room (P:=P) x.w t u e ie hu qB (x.μ tk) rows.length (x.κ tk) cur t1 ⟨b2,o2,none⟩ news.length qy kZ (by rw[rG,oU]) nW Cj hroom (by rw[oU]; exact Dw)
          rw[oU] at hrun
          generalize yN:(cur.toList.take (rows.length*s)++kZ++cur.toList.drop (rows.length*s+kZ.length)).toArray=arr at *
          have aax:arr.size=cur.size:=by rw[← yN]; simp; omega
          have VB:∀ j,j<rows.length*s→arr[j]? = some (Dc.getD j undef):=by
           intro j hj
           have h1:=aav j hj
           rw[← yN,List.getElem?_toArray,jQ,ep (by simp; omega),mb,if_pos hj]
           simpa using h1
          have abt:∀ j,j<news.length*s→arr[rows.length*s+j]? = some (kZ.getD j undef):=by
           intro j hj
           have e1:(cur.toList.take (rows.length*s)).length=rows.length*s:=by simp; omega
           rw[← yN,List.getElem?_toArray,jQ,fQ (by omega),e1,nG,ep (by omega)]
           simp[aO,bV (show j<kZ.length by omega)]
          have qg:∀ o,o<rows.length*s→(x.w.setRow (x.μ tk) arr).cell? ⟨x.μ tk,o,none⟩=x.w.cell? ⟨x.μ tk,o,none⟩:=by
           intro o ho
           rw[cell_setRow_same _ _ _ _ _ _ _ t1,VB o ho]
           simp[World.cell?,t1,aav o ho]
          have UR:(rows.length+news.length)*s≤arr.size:=by rw[aax,t2]; exact eR _ hroom
          have hle:rows.length*s≤(rows.length+news.length)*s:=eR _ (by omega)
          have kE:=ze (F:=fun o=>o<(rows.length+news.length)*s) (arr:=arr) (b := .tail e s ((rows.length+news.length)*s)) hR Hj (.inr (.inl ⟨e,s,_,_,rfl,rfl,hle,qg,by rw[aax]; exact t2,UR,fun o ho=>ho⟩))
          have M:=qX (F:=fun o=>o<(rows.length+news.length)*s) (arr:=arr) (b := .tail e s ((rows.length+news.length)*s)) hR Hj (.inr (.inl ⟨e,s,_,_,rfl,rfl,hle,qg⟩))
          exact fV hrun (y:=x.upd tk arr (fun o=>o<(rows.length+news.length)*s) (.tail e s ((rows.length+news.length)*s))) rfl kE M
           (wU M q3 j7 YU Rr RY BN (by show (x.S.set _ _)[_]? = _; rw[fK Hj,if_pos rfl]) rfl rfl (setRow_heap _ _ _ _ _ _ t1) (fun o ho => .inr ⟨rfl,ho⟩) UR (fun j hj=>by rw[aT,VB j hj]; rfl) (fun j hj=>by rw[aT,abt j hj]; rfl) hroom)
         ·
          obtain⟨g1,g2,g3⟩:=grown Dc Dg _ rfl
          have hrun:=run_append_grow (P:=P) x.w t u e ie z hu qB Wj ⟨x.μ tk,0,none⟩ rows.length (x.κ tk) Dc (by rw[Dg,oU]) (fun j v hv=>by
            have hj:j<(flat rows).length:=by rw[R9,← Dg]; exact(aJ.1 hv).1
            obtain⟨b',o',r1,-,r2⟩:=EG j _ (bV hj)
            cases r1
            rw[gI,r2]
            simp[aO,hv]) ⟨b2,o2,none⟩ news.length qy kZ (by rw[rG,oU]) nW (by omega) (by omega) (growslice_fits (by omega) (by rw[Bv]; exact j8))
          generalize hk0:grownCap x.w (rows.length+news.length) (x.κ tk) e=k at *
          obtain⟨v1,v2⟩:=xy (Z:=Builtin.zeroCells z.cells (k-(rows.length+news.length))) Dg rG
          generalize yN:Dc.toArray++kZ.toArray++Builtin.zeroCells z.cells (k-(rows.length+news.length))=arr at *
          have hp:mH x.w (x.w.drew.alloc (.cells arr e)) (.cells arr e (0,0)):=⟨rfl,rfl,rfl⟩
          have UR:(rows.length+news.length)*s≤arr.size:=by rw[g3]; exact eR _ g2
          have hlt:rows.length*s<(rows.length+news.length)*s:=Nat.mul_lt_mul_of_pos_right (by omega) hs
          have kE:=LN (k:=k) (F:=fun o=>o<(rows.length+news.length)*s) hR Hj hp hlt g3 UR g1 fun o ho=>ho
          have M:=Be (k:=k) (F:=fun o=>o<(rows.length+news.length)*s) (n':=(rows.length+news.length)*s) hR Hj hp hlt
          exact fV hrun (y:=x.iX (x.w.drew.alloc (.cells arr e)) tk k (fun o=>o<(rows.length+news.length)*s) (.tail e s ((rows.length+news.length)*s))) rfl kE M
           (wU M q3 j7 YU Rr RY BN (by show (x.S.set _ _)[_]? = _; rw[fK Hj,if_pos rfl]) (if_pos rfl) (if_pos rfl) hp.new (fun o ho => .inr ⟨rfl,ho⟩) UR v1 v2 g2)
        ·cases h
       ·cases h
     ·cases h
 ·cases h
theorem find_congr (kt:TypeId) (k:Value):∀ (l m:List MapEntry) (i:Nat),l.map (fun e=>(e.key,e.val))=m.map (fun e=>(e.key,e.val))→Instr.findAsking kt k l i=Instr.findAsking kt k m i
 | [],[],_,_=>rfl
 | [],_::_,_,h=>by simp at h
 | _::_,[],_,h=>by simp at h
 | e::l,f::m,i,h=>by
  simp only[bD,List.cons.injEq,av] at h
  unfold Instr.findAsking
  rw[h.1.1,h.1.2,find_congr kt k l m (i+1) h.2]
theorem CF (kd:TypeDesc) (k:Value):∀ (l m:List MapEntry) (i:Nat),l.map (fun e=>(e.key,e.val))=m.map (fun e=>(e.key,e.val))→Instr.findNow kd k l i=Instr.findNow kd k m i
 | [],[],_,_=>rfl
 | [],_::_,_,h=>by simp at h
 | _::_,[],_,h=>by simp at h
 | e::l,f::m,i,h=>by
  simp only[bD,List.cons.injEq,av] at h
  unfold Instr.findNow
  rw[h.1.1,h.1.2,CF kd k l m (i+1) h.2]
theorem CS (kt:TypeId) (k:Value) {l m:List MapEntry} (h:l.map (fun e=>(e.key,e.val))=m.map (fun e=>(e.key,e.val))):Instr.findKey kt k l=Instr.findKey kt k m:=by
 unfold Instr.findKey
 have h1:∀ kd,Instr.findNow kd k l 0=Instr.findNow kd k m 0:=fun kd=>CF kd k l m 0 h
 have h2:=find_congr kt k l m 0 h
 simp only[h1,h2]
theorem Kl (es:List (Value×Value)):(es.map QU).map (fun e=>(e.key,e.val))=es:=by
 rw[List.map_map]
 conv=>rhs; rw[← List.map_id es]
 congr 1
theorem PO {v:Value} {d:DV} (h:Fb v=some d):RV x d v:=by
 unfold Fb at h
 split at h
 ·rename_i vs
  split at h
  ·rename_i v b hvs
   simp only[ah] at h
   obtain⟨d',h1,rfl⟩:=h
   have e:vs=#[v,.bool b]:=by rw[← Array.toArray_toList (xs:=vs),hvs]
   subst e
   refine .tup rfl fun j c hc => ?_
   match j with
   | 0=>simp only[List.getElem?_cons_zero,az] at hc; subst hc; exact vz h1
   | 1=>simp only[List.getElem?_cons_succ,List.getElem?_cons_zero,az] at hc; subst hc; exact .val rfl
   | j+2=>simp at hc
  ·cases h
 ·exact vz h
theorem IJ (hR:Rel x) (hn:Bw x.S ay) {t:TypeId}:Yields x ((do pure (.value (← Instr.makeMap t none)):Sem Next).run P x.w) (.map ay) (dP x.S ay (.map [])):=by
 have hp:mH x.w (x.w.alloc (.map #[] 0)) (.map #[] 0):=fE _ _
 have kE:=kg (k:=0) (F:=fun _=>False) (b := .map []) hR hn hp (by simp) (.inr (.inr (.inl ⟨rfl,by simp,rfl⟩)))
 refine fV (y:=x.fresh _ ay 0 (fun _=>False) (.map [])) (v := .map (some x.w.heap.size)) ?_ rfl kE (iy hR hn hp) ?_
 ·simp[Instr.makeMap,Cx.fresh]
 ·have:(x.fresh (x.w.alloc (.map #[] 0)) ay 0 (fun _=>False) (.map [])).μ ay=x.w.heap.size:=if_pos rfl
  rw[← this]
  exact .map (es:=[]) (by show (dP _ _ _)[_]? = _; rw[aZ hn.le,if_pos rfl])
theorem Kn (hR:Rel x) {id:Nat} {es:List (Value×Value)} (h:x.S[id]? = some (.map es)):∃ zI clk,x.w.heap[x.μ id]? = some (.map zI clk)∧zI.toList.map (fun e=>(e.key,e.val))=es:=by
 obtain⟨o,h1,h2⟩:=hR.dD id _ h rfl
 cases o<;>simp only[qM] at h2
 exact⟨_,_,h1,h2⟩
theorem tZ {α β:Type} {s:Sem α} {f:α→Sem β} {b:β} (h:b7 P (s >>= f)=some b):∃ a,b7 P s=some a∧b7 P (f a)=some b:=by
 change b7 P (s.bind f)=some b at h
 induction s with
 | pure a=>exact⟨a,rfl,h⟩
 | program k ih=>exact ih P h
 | _=>simp[Sem.bind,b7] at h
theorem Md (hR:Rel x) {t:TypeId} {id:Nat} {es:List (Value×Value)} {k v:Value} {ok:Bool} {d:DV} (h:x.S[id]? = some (.map es)) (hp:b7 P (Jq t (es.map QU) k ok)=some v) (hd:Fb v=some d) :
  Yields x ((do pure (.value (← Instr.lookup t (.map (some (x.μ id))) k ok)):Sem Next).run P x.w) d x.S:=by
 obtain⟨zI,clk,h1,h2⟩:=Kn hR h
 refine aQ hR (v:=v) ?_ (PO hd)
 have hk:∀ kt,Instr.findKey kt k (es.map QU)=Instr.findKey kt k zI.toList:=fun kt=>CS kt k (by rw[Kl,h2])
 have he:(es.map QU).isEmpty=zI.isEmpty:=by
  rw[← h2,Bool.eq_iff_iff]
  simp
 have hg:=ir (P:=P) h1 (by simp)
 unfold Jq at hp
 obtain⟨td,p1,p2⟩:=tZ hp
 have r1:=mw p1 x.w
 cases td with
 | map key elem =>
  simp only at p2
  have r2:=mw p2 x.w
  unfold Instr.lookup
  simp only[Sem.run_bind,r1,Result.andThen_ok,hg,Sem.run_pure,hk,he] at r2 ⊢
  exact r2
 | _=>simp[stuck,b7] at p2
theorem Ey (hR:Rel x) {t:TypeId} {id:Nat} {es es':List (Value×Value)} {k v:Value} {r:Option (Nat×Value)} (h:x.S[id]? = some (.map es)) (hp:b7 P (JB t (es.map QU) k)=some r) (hs:ND es k v r=some es') :
  Yields x ((do Instr.mapUpdate t (.map (some (x.μ id))) k v; pure .skip:Sem Next).run P x.w) aX (x.S.set id (.map es')):=by
 obtain⟨zI,clk,h1,h2⟩:=Kn hR h
 have hk:∀ kt,Instr.findKey kt k (es.map QU)=Instr.findKey kt k zI.toList:=fun kt=>CS kt k (by rw[Kl,h2])
 have hg:=ir (P:=P) h1 (by simp)
 suffices hm:∃ JC Xi,(Instr.mapUpdate t (.map (some (x.μ id))) k v).run P x.w = .ok () (bR x.w (x.μ id) (.map JC Xi))∧JC.toList.map (fun e=>(e.key,e.val))=es' by
  obtain⟨JC,Xi,q1,q2⟩:=hm
  exact FC (y:=x.tw id (.map JC Xi) (.map es')) q1 rfl (FT hR h trivial (by simp) q2) (xb hR h trivial (by simp))
 unfold JB at hp
 obtain⟨td,p1,p2⟩:=tZ hp
 have r1:=mw p1 x.w
 cases td with
 | map key elem =>
  simp only at p2
  obtain⟨u,p3,p4⟩:=tZ p2
  have r2:=mw p3 x.w
  have r3:=mw p4 x.w
  rw[hk] at r3
  unfold Instr.mapUpdate
  simp only[Sem.run_bind,r1,Result.andThen_ok,hg,r2,r3]
  cases r with
  | none =>
   simp only[ND,az] at hs
   subst hs
   exact⟨_,_,jo h1 (by simp),by simp[h2]⟩
  | some q =>
   obtain⟨i,v0⟩:=q
   simp only[ND] at hs
   split at hs
   ·rename_i k' v' hi
    split at hs
    ·rename_i hsb
     cases hs
     have hlt:i<zI.size:=by
      have:=(aJ.1 hi).1
      rw[← h2] at this
      simpa using this
     have hek:((zI[i]?).map (·.key)).getD k=k':=by
      rw[← h2] at hi
      simp only[en,gy,ah,av] at hi
      obtain⟨e,q1,q2,-⟩:=hi
      rw[q1]
      exact q2
     simp only[hek,Instr.keyThatStays,hsb,if_true]
     refine⟨_,_,jo h1 (by simp),?_⟩
     rw[Array.toList_modify]
     refine lZ fun j => ?_
     rw[← h2]
     simp only[en,List.getElem?_modify,aK,jh]
     by_cases hj:i=j
     ·subst hj
      simp[hlt]
     ·simp[hj]
    ·cases hs
   ·cases hs
 | _=>simp[stuck,b7] at p2
end Go.Di
end
