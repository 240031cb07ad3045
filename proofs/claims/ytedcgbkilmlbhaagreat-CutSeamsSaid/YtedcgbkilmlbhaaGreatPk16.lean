import Derived.Test.YtedcgbkilmlbhaaGreatPk15
section
namespace Go.Di
open Go
variable {P:Program} {ty:ir} {x:Cx} {w':World} {aM:bV} {call:bP}
def Yields (x:Cx) (r:Result Next) (d:DV) (S':ax):Prop:=∃ v y,(r = .ok (.value v) y.w∨(r = .ok .skip y.w∧v=undef))∧y.S=S'∧Rel y∧bZ x y∧RV y d v
theorem ig {s:Sem Value} {d:DV} {S':ax} {v:Value} {y:Cx} (h:s.run P x.w = .ok v y.w) (h1:y.S=S') (h2:Rel y) (h3:bZ x y) (h4:RV y d v):Yields x ((do pure (.value (← s)):Sem Next).run P x.w) d S' :=
 ⟨v,y,.inl (by simp[h]),h1,h2,h3,h4⟩
theorem aX {s:Sem Value} {d:DV} {v:Value} (hR:Rel x) (h:s.run P x.w = .ok v x.w) (h4:RV x d v):Yields x ((do pure (.value (← s)):Sem Next).run P x.w) d x.S:=ig h rfl hR (bZ.refl x) h4
theorem HI {s:Sem Unit} {S':ax} {y:Cx} (h:s.run P x.w = .ok () y.w) (h1:y.S=S') (h2:Rel y) (h3:bZ x y):Yields x ((do s; pure .skip:Sem Next).run P x.w) bh S' :=
 ⟨undef,y,.inr ⟨by simp[h],rfl⟩,h1,h2,h3,.val rfl⟩
theorem nR {s:Sem Value} {d:DV} (h:jU P s=some d) (w:World):∃ v,s.run P w = .ok v w∧RV x d v:=by
 unfold jU at h
 simp only[lq] at h
 obtain⟨v,h1,h2⟩:=h
 exact⟨v,nQ h1 w,xx h2⟩
def j4 (P:Program) (ty:ir):Prop:=∀ t d,ty t=some d→A8 P t=some d
variable {ρd:Operand→Option DV} {ρ:Operand→Value} {o:Oper} {aH:Nat}
def wJ (x:Cx) (ρd:Operand→Option DV) (ρ:Operand→Value):Prop:=∀ a d,ρd a=some d→RV x d (ρ a)
theorem fZ (hρ:wJ x ρd ρ) {a:Operand} {v:Value} (h:valOf ρd a=some v):ρ a=v:=by
 unfold valOf at h
 simp only[lq] at h
 obtain⟨d,h1,h2⟩:=h
 exact HX (hρ a d h1) h2
theorem mL (hρ:wJ x ρd ρ) {a:Operand} {n:Int} (h:intOf ρd a=some n):∃ k,ρ a = .int k n:=by
 unfold intOf at h
 split at h
 ·rename_i k m h1
  cases h
  exact⟨k,mS (hρ a _ h1)⟩
 ·cases h
theorem vD (hρ:wJ x ρd ρ):∀ {l:List Operand} {r:List DV},evs ρd l=some r→gn x r (l.map ρ).toArray
 | [],r,h=>by simp only[evs,aB] at h; subst h; exact⟨rfl,by simp⟩
 | a::l,r,h=>by
  unfold evs at h
  split at h
  ·rename_i d r' h1 h2
   cases h
   obtain⟨h3,h4⟩:=vD hρ h2
   refine⟨by simpa using h3,fun j c hc => ?_⟩
   cases j with
   | zero=>simp only[List.getElem?_cons_zero,aB] at hc; subst hc; exact hρ a _ h1
   | succ j=>simpa [bg] using h4 j c (by simpa using hc)
  ·cases h
theorem S8 (eY:j4 P ty) (hR:Rel x) (hn:DJ x.S aH) {e:TypeId} {k:TK} {sz:Nat} {z:List DV} (h:ty e=some ⟨k,sz,some z⟩) :
  Yields x ((do pure (.value (← Instr.alloc e true (.tuple #[]))):Sem Next).run P x.w) (.ptr aH 0) (eV x.S aH (.cells z)):=by
 obtain⟨-,i,hi,-,hz⟩:=bY (eY e _ h)
 obtain⟨zv,h1,h2,-⟩:=jC hz
 obtain⟨h3,h4⟩:=iG (x:=x) h2
 have hp:nY x.w (x.w.alloc (.cells zv.cells e)) (.cells zv.cells e (0,0)):=gM _ _
 have mP:=lX (k:=0) (F:=fun _=>False) (b := .cells z) hR hn hp (by simp) (.inl ⟨z,zv.cells,e,rfl,rfl,by simpa using h3,by simp,fun j c hc=>by simpa [bg,aN] using h4 j c hc⟩)
 refine ig (y:=x.fresh _ aH 0 (fun _=>False) (.cells z)) (v := .pointer (some ⟨x.w.heap.size,0,none⟩)) ?_ rfl mP (jB hR hn hp) ?_
 ·simp[Instr.alloc,zeroValue,typeInfo,hi,h1,newVar,newRow,Cx.fresh]
 ·have:(x.fresh (x.w.alloc (.cells zv.cells e)) aH 0 (fun _=>False) (.cells z)).μ aH=x.w.heap.size:=if_pos rfl
  rw[← this]
  exact .ptr (l:=z) (by show (eV _ _ _)[_]? = _; rw[bz hn.le,if_pos rfl])
theorem aa7 (hR:Rel x) (hn:DJ x.S aH) {e:TypeId} {d:DV} {v:Value} (h:RV x d v) :
  Yields x ((do pure (.value (← Instr.box e v)):Sem Next).run P x.w) (.ptr aH 0) (eV x.S aH (.cells d.cells)):=by
 obtain⟨h3,h4⟩:=sN h
 have hp:nY x.w (x.w.alloc (.cells v.cells e)) (.cells v.cells e (0,0)):=gM _ _
 have mP:=lX (k:=0) (F:=fun _=>False) (b := .cells d.cells) hR hn hp (by simp) (.inl ⟨d.cells,v.cells,e,rfl,rfl,h3,by simp,h4⟩)
 refine ig (y:=x.fresh _ aH 0 (fun _=>False) (.cells d.cells)) (v := .pointer (some ⟨x.w.heap.size,0,none⟩)) ?_ rfl mP (jB hR hn hp) ?_
 ·simp[Instr.box,newVar,newRow,Cx.fresh]
 ·have:(x.fresh (x.w.alloc (.cells v.cells e)) aH 0 (fun _=>False) (.cells d.cells)).μ aH=x.w.heap.size:=if_pos rfl
  rw[← this]
  exact .ptr (l:=d.cells) (by show (eV _ _ _)[_]? = _; rw[bz hn.le,if_pos rfl])
theorem NL {rows:List DV} {b o s:Nat} {vs:Nat→Value} (hv:View x rows (some ⟨b,o,none⟩) s vs) (hr:∀ j c,(flat rows)[j]? = some c→RV x c (vs j)) {i:Nat} {r:DV} (h:rows[i]? = some r) :
  ∀ j c,r.cells[j]? = some c→∃ v,x.w.cell? ⟨b,o+i*s+j,none⟩=some v∧RV x c v:=by
 intro j c hc
 have hj:j<s:=by rw[← hv.1 r (dA h)]; exact(aJ.1 hc).1
 have hf:=xD hv.1 h hj
 rw[hc] at hf
 obtain⟨-,b',o',h1,-,h2⟩:=hv.2 _ _ hf
 cases h1
 exact⟨_,by rw[gU]; exact h2,hr _ _ hf⟩
theorem Ip (eY:j4 P ty) (hR:Rel x) {t:TypeId} {a d:DV} {va:Value} (ha:RV x a va) (h:kg ty x.S t a=some d):∃ v,(Instr.loadAt t va).run P x.w = .ok v x.w∧RV x d v:=by
 unfold kg at h
 split at h
 ·rename_i td id off hk
  obtain⟨k,sz,z⟩:=td
  obtain⟨rT,i,hi,hs,-⟩:=bY (eY t _ hk)
  obtain⟨EY,d0,hu⟩:=JR rT
  split at h
  ·rename_i l hl
   obtain⟨arr,e,h1,h2,h3⟩:=hR.cells id l hl
   cases ha with
   | ptr _ =>
    have:=yN (x:=x) (b:=x.μ id) (o:=0) (l:=l) hi hu hs EY.symm (fun j c hc => ?_) h
    ·obtain⟨v,h4,h5⟩:=this
     refine⟨v,?_,h5⟩
     simpa [Instr.loadAt,Instr.sureAddr] using h4
    ·have hj:j<arr.size:=by rw[h2]; exact(aJ.1 hc).1
     refine⟨arr[j],?_,by simpa [bg,hj] using h3 j c hc⟩
     simp[World.cell?,h1,hj]
  ·cases h
 ·rename_i td rows i off hk
  obtain⟨k,sz,z⟩:=td
  obtain⟨rT,inf,hi,hs,-⟩:=bY (eY t _ hk)
  obtain⟨EY,d0,hu⟩:=JR rT
  split at h
  ·rename_i r hr
   cases ha with
   | @eL _ _ _ b o s vs hv Pa =>
    obtain⟨v,h4,h5⟩:=yN (x:=x) (b:=b) (o:=o+i*s) (l:=r.cells) hi hu hs EY.symm (NL hv Pa hr) h
    refine⟨v,?_,h5⟩
    rw[gU] at h4
    simpa [Instr.loadAt,Instr.sureAddr] using h4
  ·cases h
 ·rename_i td id n off hk
  obtain⟨k,sz,z⟩:=td
  obtain⟨rT,i,hi,hs,-⟩:=bY (eY t _ hk)
  obtain⟨EY,d0,hu⟩:=JR rT
  split at h
  ·rename_i e s l zz hop
   obtain⟨hS,EW⟩:=lD hop
   obtain⟨arr,h1,-,h2,-,h3,-⟩:=hR.ops id e s l zz hS
   cases ha with
   | fC Ax Jj hA =>
    rw[hS] at Ax
    cases Ax
    rw[hA EW]
    obtain⟨v,h4,h5⟩:=yN (x:=x) (b:=x.μ id) (o:=0) (l:=l) hi hu hs EY.symm (fun j c hc=>by
     have hj:j<arr.size:=cH (aJ.1 hc).1 h2
     refine⟨arr[j],?_,by simpa [bg,hj] using (h3 j c hc).2⟩
     simp[World.cell?,h1,hj]) h
    exact⟨v,by simpa [Instr.loadAt,Instr.sureAddr] using h4,h5⟩
  ·cases h
 ·cases h
theorem NR (eY:j4 P ty) (hR:Rel x) {t:TypeId} {a d:DV} {va vd:Value} {S':ax} (ha:RV x a va) (hd:RV x d vd) (h:oq ty x.S t a d=some S') :
  ∃ y,(Instr.storeAt t va vd).run P x.w = .ok () y.w∧y.S=S'∧Rel y∧bZ x y:=by
 unfold oq at h
 split at h
 ·rename_i td id off hk
  obtain⟨k,sz,z⟩:=td
  obtain⟨rT,i,hi,hs,-⟩:=bY (eY t _ hk)
  split at h
  ·rename_i l hl
   split at h
   ·rename_i hc
    simp only[aI,bJ] at hc
    simp only[ai] at h
    obtain⟨l',h6,rfl⟩:=h
    obtain⟨arr,e,h1,h2,h3⟩:=hR.cells id l hl
    have qF:=sN hd
    cases ha with
    | ptr _ =>
     have hp:=Mg ⟨h2,h3⟩ qF h6
     obtain⟨h7,h8⟩:=qm h6
     refine⟨x.upd id (arr.toList.take off++vd.cells.toList++arr.toList.drop (off+vd.cells.size)).toArray (fun _=>False) (.cells l'),?_,rfl,AK hR hl (.inl ⟨l,l',rfl,rfl,by simp,hp.1,hp.2⟩),sU hR hl (.inl ⟨l,l',rfl,rfl⟩)⟩
     have hst:=run_storeCells_at P (x.μ id) off e vd.cells.toList 0 arr x.w h1 (by simp only[Nat.add_zero,Array.length_toList]; rw[qF.1,h2]; exact h7) (cells_one hd hc.2)
     simp only[Nat.add_zero,Array.length_toList] at hst
     have hsz:¬ (vd.cells.size≠i.size):=by rw[qF.1,hc.1,hs]; simp
     simp only[Instr.storeAt,Instr.sureAddr,Sem.run_bind,Sem.run_pure,Result.andThen_ok,storeVar,run_sizeOf hi,if_neg hsz]
     exact hst
   ·cases h
  ·cases h
 ·rename_i td id n off hk
  obtain⟨k,sz,z⟩:=td
  obtain⟨rT,i,hi,hs,-⟩:=bY (eY t _ hk)
  split at h
  ·rename_i e s l hop
   obtain⟨hS,EW⟩:=lD hop
   split at h
   ·rename_i hc
    simp only[aI,bJ] at hc
    simp only[ai] at h
    obtain⟨l',h6,rfl⟩:=h
    obtain⟨arr,h1,h0,h2,hκ,h3,-,-⟩:=hR.ops id e s l false hS
    have Aw:=hd.strip
    have qF:=sN Aw
    cases ha with
    | fC Ax Jj hA =>
     rw[hS] at Ax
     cases Ax
     rw[hA EW]
     obtain⟨h7,h8⟩:=qm h6
     have hp:=FY (off:=off) h2 (fun j c hc=>(h3 j c hc).2) qF (by omega) (by omega)
     rw[← h8] at hp
     have UQ:∀ c∈l',c.ck=true:=fun c hm=>by
      rw[h8] at hm
      rcases ja.1 hm with hm | hm
      ·rcases ja.1 hm with hm | hm
       ·obtain⟨j,hj⟩:=qS.1 (List.mem_of_mem_take hm)
        exact(h3 j c hj).1
       ·exact bt.1 hc.2 c hm
      ·obtain⟨j,hj⟩:=qS.1 (List.mem_of_mem_drop hm)
       exact(h3 j c hj).1
     have hll:l'.length=l.length:=by rw[h8]; simp; omega
     have ab3:(arr.toList.take off++vd.cells.toList++arr.toList.drop (off+vd.cells.size)).toArray.size=arr.size:=by
      have:=qF.1
      simp
      omega
     refine⟨x.upd id (arr.toList.take off++vd.cells.toList++arr.toList.drop (off+vd.cells.size)).toArray (fun _=>False) (.op e s l' false),?_,rfl,AK hR hS (.inr (.inr ⟨e,s,l,l',rfl,rfl,by omega,by simp,by rw[ab3]; exact h0,by rw[ab3]; omega,fun j c hj=>⟨UQ c (dA hj),hp j c hj⟩⟩)),sU hR hS (.inr (.inr ⟨e,s,l,l',rfl,rfl,by omega⟩))⟩
     have hst:=run_storeCells_at P (x.μ id) off e vd.cells.toList 0 arr x.w h1 (by simp only[Nat.add_zero,Array.length_toList]; rw[qF.1]; omega) (cells_one Aw (bt.2 fun c hm=>Oi (bt.1 hc.2 c hm)))
     simp only[Nat.add_zero,Array.length_toList] at hst
     have hsz:¬ (vd.cells.size≠i.size):=by rw[qF.1,hc.1,hs]; simp
     simp only[Instr.storeAt,Instr.sureAddr,Sem.run_bind,Sem.run_pure,Result.andThen_ok,storeVar,run_sizeOf hi,if_neg hsz]
     exact hst
   ·cases h
  ·cases h
 ·cases h
end Go.Di
end
section
namespace Go.Di
open Go
variable {P:Program} {ty:ir} {x:Cx} {w':World} {ρd:Operand→Option DV} {ρ:Operand→Value} {o:Oper} {aH:Nat}
theorem vc (off:Nat):∀ (cs:List Value) (i:Nat) (arr:Array Value),off+i+cs.length≤arr.size →
  ((cs.zipIdx i).foldl (fun a (p:Value×Nat)=>a.setIfInBounds (off+p.2) p.1) arr)=(arr.toList.take (off+i)++cs++arr.toList.drop (off+i+cs.length)).toArray
 | [],i,arr,_=>by simp
 | c::cs,i,arr,h=>by
  simp only[List.length_cons] at h
  simp only[List.zipIdx_cons,List.foldl_cons]
  rw[vc off cs (i+1) _ (by simp; omega)]
  have e:=list_seg_step arr.toList (off+i) c cs (by simp; omega)
  congr 1
  simpa [Array.toList_setIfInBounds,gU] using e
theorem fold_eq (off:Nat) (cs arr:Array Value) (h:off+cs.size≤arr.size) :
  cs.zipIdx.foldl (fun a (p:Value×Nat)=>a.setIfInBounds (off+p.2) p.1) arr=(arr.toList.take off++cs.toList++arr.toList.drop (off+cs.size)).toArray:=by
 have:=vc off cs.toList 0 arr (by simpa using h)
 rw[← Array.foldl_toList]
 simpa using this
def aaa (x:Cx) (r:List (Nat×DV)) (vs:List (Nat×Value)):Prop:=vs.length=r.length∧∀ (j:Nat) (p:Nat×DV),r[j]? = some p→∃ v,vs[j]? = some (p.1,v)∧RV x p.2 v
def sF (ρ:Operand→Value) (l:List (Nat×Operand)):List (Nat×Value):=l.map fun p=>(p.1,ρ p.2)
theorem ud (hρ:wJ x ρd ρ):∀ {l:List (Nat×Operand)} {r:List (Nat×DV)},j7 ρd l=some r→aaa x r (sF ρ l)
 | [],r,h=>by simp only[j7,aB] at h; subst h; exact⟨rfl,by simp⟩
 | (i,a)::l,r,h=>by
  unfold j7 at h
  split at h
  ·rename_i d r' h1 h2
   cases h
   obtain⟨h3,h4⟩:=ud hρ h2
   refine⟨by simpa [sF] using h3,fun j p hp => ?_⟩
   cases j with
   | zero=>simp only[List.getElem?_cons_zero,aB] at hp; subst hp; exact⟨ρ a,rfl,hρ a d h1⟩
   | succ j=>simpa [sF] using h4 j p (by simpa using hp)
  ·cases h
theorem AW {pd pl:Nat→Option (Nat×Nat)} (yY:∀ i p,pd i=some p→pl i=some p):∀ {r:List (Nat×DV)} {vs:List (Nat×Value)} {l l':List DV} {arr:Array Value},aaa x r vs→gn x l arr→kH pd l r=some l'→∃ VD,Instr.fill pl arr vs=some VD∧gn x l' VD
 | [],vs,l,l',arr,hv,hl,h=>by
  have:vs=[]:=eF (by simpa using hv.1)
  subst this
  simp only[kH,aB] at h
  subst h
  exact⟨arr,rfl,hl⟩
 | (i,d)::r,vs,l,l',arr,hv,hl,h=>by
  obtain⟨v,Nc,hd⟩:=hv.2 0 (i,d) rfl
  have hd:RV x d v:=hd
  cases vs with
  | nil=>simp at Nc
  | cons v0 vs =>
   simp only[List.getElem?_cons_zero,aB] at Nc
   subst Nc
   unfold kH at h
   split at h
   ·cases h
   ·rename_i off size hp
    split at h
    ·rename_i hsz
     split at h
     ·rename_i l1 h1
      have hc:=sN hd
      obtain⟨h2,h3⟩:=qm h1
      have UQ:=Mg hl hc h1
      obtain⟨VD,h4,h5⟩:=AW yY (r:=r) (vs:=vs) ⟨by simpa using hv.1,fun j p hj=>by simpa using hv.2 (j+1) p (by simpa using hj)⟩ UQ h
      refine⟨VD,?_,h5⟩
      unfold Instr.fill
      simp only[yY i _ hp]
      have c1:v.cells.size=size:=by rw[hc.1,← hsz]
      have c2:¬ (v.cells.size≠size∨off+v.cells.size>arr.size):=by rw[hl.1,hc.1]; omega
      simp only[gt_iff_lt,iZ,bJ,c2,if_false]
      rw[fold_eq off v.cells arr (by rw[hl.1,hc.1]; exact h2)]
      exact h4
     ·cases h
    ·cases h
theorem Aq (eY:j4 P ty) (hR:Rel x) (hρ:wJ x ρd ρ) {t:TypeId} {fs:List (Nat×Nat×Bool)} {sz:Nat} {z cs:List DV} {ps:Array (Nat×Operand)} {l:List (Nat×DV)} (h:ty t=some ⟨.struct fs,sz,some z⟩) (hl:j7 ρd ps.toList=some l)
  (hf:kH (fun i=>(fs[i]?).map fun f=>(f.1,f.2.1)) z l=some cs):Yields x ((do pure (.value (← Instr.build t (ps.map fun p=>(p.1,ρ p.2)))):Sem Next).run P x.w) (.agg cs) x.S:=by
 obtain⟨hk,i,hi,-,hz⟩:=bY (eY t _ h)
 obtain⟨fields,hu,hfs,hff⟩:=yA hk
 obtain⟨zv,h1,h2,-⟩:=jC hz
 obtain⟨h3,h4⟩:=iG (x:=x) h2
 have Au:gn x z zv.cells:=⟨by simpa using h3,fun j c hc=>by simpa [bg,aN] using h4 j c hc⟩
 have yY:∀ w:World,(fields.mapM (fun f=>do pure (f.offset,← sizeOf f.type):Field→Sem (Nat×Nat))).run P w = .ok ((fs.map fun f=>(f.1,f.2.1)).toArray) w:=by
  intro w
  have key:∀ (l:List Field) (fs:List (Nat×Nat×Bool)),l.length=fs.length→(∀ (j:Nat) (r:Nat×Nat×Bool),fs[j]? = some r→∃ f,l[j]? = some f∧Ge P f r)→(l.mapM (fun f=>do pure (f.offset,← sizeOf f.type):Field→Sem (Nat×Nat))).run P w = .ok (fs.map fun f=>(f.1,f.2.1)) w:=by
   intro l
   induction l with
   | nil=>intro fs h _; have:fs=[]:=eF (by simpa using h.symm); subst this; rfl
   | cons f l ih =>
    intro fs h hj
    cases fs with
    | nil=>simp at h
    | cons r fs =>
     obtain⟨f',h1,h2,inf,h3,h4,-,-⟩:=hj 0 r rfl
     simp only[List.getElem?_cons_zero,aB] at h1
     subst h1
     have:=ih fs (by simpa using h) fun j r hr=>by simpa using hj (j+1) r (by simpa using hr)
     simp only[List.mapM_cons,Sem.run_bind,run_sizeOf h3,Result.andThen_ok,Sem.run_pure,this,bQ]
     rw[h2,h4]
  rw[Array.mapM_eq_mapM_toList]
  simp only[Sem.run_map,key fields.toList fs (by simpa using hfs) (fun j r hr=>by simpa using hff j r hr),Result.andThen_ok]
 have pN:=ud hρ hl
 obtain⟨arr,h5,h6⟩:=AW (x:=x) (pl:=fun i=>((fs.map fun f=>(f.1,f.2.1)).toArray)[i]?) (fun i p hp=>by simpa using hp) (vs:=sF ρ ps.toList) pN Au hf
 unfold sF at h5
 refine aX hR (v := .agg arr) ?_ (.agg h6.1 h6.2)
 simp only[Instr.build,Sem.run_bind,zeroValue,typeInfo,run_program,Result.andThen_ok,hi,Sem.run_pure,h1,run_underlying hu,yY,Array.toList_map,h5]
theorem CW (eY:j4 P ty) (hR:Rel x) (hρ:wJ x ρd ρ) {t:TypeId} {n s sz:Nat} {agg:Bool} {z cs:List DV} {ps:Array (Nat×Operand)} {l:List (Nat×DV)} (h:ty t=some ⟨.array n s agg,sz,some z⟩) (hl:j7 ρd ps.toList=some l)
  (hf:kH (fun i=>some (i*s,s)) z l=some cs):Yields x ((do pure (.value (← Instr.build t (ps.map fun p=>(p.1,ρ p.2)))):Sem Next).run P x.w) (.agg cs) x.S:=by
 obtain⟨hk,i,hi,-,hz⟩:=bY (eY t _ h)
 obtain⟨e,hu,ie,rX,qz,-,-⟩:=xw hk
 obtain⟨zv,h1,h2,-⟩:=jC hz
 obtain⟨h3,h4⟩:=iG (x:=x) h2
 have Au:gn x z zv.cells:=⟨by simpa using h3,fun j c hc=>by simpa [bg,aN] using h4 j c hc⟩
 have pN:=ud hρ hl
 obtain⟨arr,h5,h6⟩:=AW (x:=x) (pl:=fun i=>some (i*s,s)) (fun i p hp=>hp) (vs:=sF ρ ps.toList) pN Au hf
 unfold sF at h5
 refine aX hR (v := .agg arr) ?_ (.agg h6.1 h6.2)
 subst qz
 simp only[Instr.build,Sem.run_bind,zeroValue,typeInfo,run_program,Result.andThen_ok,hi,Sem.run_pure,h1,run_underlying hu,run_sizeOf rX,Array.toList_map,h5]
theorem z7 {z:List DV} {s:Nat} (hs:z.length=s):∀ (n j:Nat),j<n*s→((List.replicate n z).flatten)[j]? = z[j % s]?
 | 0,j,h=>by simp at h
 | n+1,j,h=>by
  have Bb:0<s:=by
   rcases nJ s with h0 | h0
   ·subst h0; simp at h
   ·exact h0
  simp only[List.replicate_succ,List.flatten_cons]
  by_cases hj:j<s
  ·rw[fq (by omega),Nat.mod_eq_of_lt hj]
  ·rw[gF (by omega),hs,z7 hs n (j-s) (by rw[kX] at h; omega),← Nat.mod_eq_sub_mod (by omega)]
theorem jA {s:Nat} {agg:Bool} {l:List DV} {n:Nat} (hl:l.length=n*s) (hs:0<s) (ha:agg=true∨s=1) (hp:∀ c∈l,c.ck=true):∀ i,i<n→(rowOf s agg l i).cells=(l.drop (i*s)).take s:=by
 intro i hi
 have h1:i*s+s≤l.length:=by rw[hl,← kX]; exact eU _ hi
 unfold rowOf
 cases agg with
 | true=>rfl
 | false =>
  have DG:s=1:=by simpa using ha
  subst DG
  have hlt:i*1<l.length:=by omega
  have e:l.getD (i*1) bh=l[i*1]:=by rw[aN,bH hlt]; rfl
  have UQ:=hp l[i*1] (mB hlt)
  simp only[aF,if_false,e]
  have hc:(l[i*1]).cells=[l[i*1]]:=by
   revert UQ
   generalize l[i*1]=c
   cases c<;>simp[DV.ck,DV.cells]
  rw[hc,nL hlt,List.take_succ_cons,List.take_zero]
theorem ED {s:Nat} {agg:Bool} {l:List DV} (hs:0<s) (ha:agg=true∨s=1) (hp:∀ c∈l,c.ck=true):∀ n,l.length=n*s→flat (rowsOf s agg l n)=l∧∀ r∈rowsOf s agg l n,r.cells.length=s:=by
 intro n hl
 have hc:=jA hl hs ha hp
 have hlen:∀ r∈rowsOf s agg l n,r.cells.length=s:=by
  intro r hr
  unfold rowsOf at hr
  simp only[cR,List.mem_range] at hr
  obtain⟨i,hi,rfl⟩:=hr
  rw[hc i hi,iD,List.length_drop]
  have h1:i*s+s≤l.length:=by rw[hl,← kX]; exact eU _ hi
  omega
 refine⟨?_,hlen⟩
 have wC:=gI hlen
 have Uq:(rowsOf s agg l n).length=n:=by simp[rowsOf]
 refine kZ fun j => ?_
 by_cases hj:j<n*s
 ·have hdiv:j / s<n:=by rw[Nat.div_lt_iff_lt_mul hs]; exact hj
  have ace:j % s<s:=Nat.mod_lt _ hs
  have hje:j=(j / s)*s+j % s:=by rw[Nat.mul_comm]; exact(Nat.div_add_mod j s).symm
  have hr:(rowsOf s agg l n)[j / s]? = some (rowOf s agg l (j / s)):=by simp[rowsOf,hdiv]
  rw[hje,xD hlen hr ace,hc _ hdiv,nI,if_pos ace,qO]
 ·rw[fN (by rw[wC,Uq]; omega),fN (by omega)]
theorem BR {rows:List DV} {arr:Array Value} {s b:Nat} {y:Cx} {e:TypeId} (h1:∀ r∈rows,r.cells.length=s) (h2:∀ c∈flat rows,c.ck=true) (h3:(flat rows).length≤arr.size) (hb:y.w.heap[b]? = some (.cells arr e (0,0))) (hF:∀ j,j<(flat rows).length→y.Fz b j) :
  View y rows (some ⟨b,0,none⟩) s (fun j=>arr.getD j undef):=by
 refine⟨h1,fun j c hc=>⟨h2 c (dA hc),b,0,rfl,?_,?_⟩⟩
 ·rw[gy]; exact hF j (aJ.1 hc).1
 ·have hj:j<arr.size:=cH (aJ.1 hc).1 h3
  simp[World.cell?,hb,hj,bg]
theorem D8 {z:List DV} {zv:Value} {s n:Nat} (hs:0<s) (Fc:z.length=s) (O8:zv.cells.size=s) (h4:∀ j c,z[j]? = some c→RV x c (zv.cells.toList.getD j undef)):gn x ((List.replicate n z).flatten) ((Array.range (n*s)).map (zv.cells[· % zv.cells.size]!)):=by
 refine⟨by simp[Fc],fun j c hc => ?_⟩
 have hj:j<n*s:=by have:=(aJ.1 hc).1; simpa [Fc] using this
 rw[z7 Fc n j hj] at hc
 have hm:j % s<s:=Nat.mod_lt _ hs
 have:=h4 _ c hc
 have Jk:j % zv.cells.size<zv.cells.size:=by rw[O8]; exact hm
 have e1:((Array.range (n*s)).map (zv.cells[· % zv.cells.size]!)).getD j undef=zv.cells[j % zv.cells.size]! := by simp[bg,hj]
 rw[e1,getElem!_pos zv.cells (j % zv.cells.size) Jk]
 have e2:zv.cells.toList.getD (j % s) undef=zv.cells[j % zv.cells.size]:=by simp[aN,← O8,Jk]
 rw[← e2]
 exact this
theorem EM (eY:j4 P ty) (hR:Rel x) (hρ:wJ x ρd ρ) {t e:TypeId} {n s lK sz sz':Nat} {agg:Bool} {k:TK} {z0:Option (List DV)} {z cs:List DV} {ps:Array (Nat×Operand)} {l:List (Nat×DV)} (h:ty t=some ⟨.slice e s lK agg,sz,z0⟩) (hl:j7 ρd ps.toList=some l) (he:ty e=some ⟨k,sz',some z⟩)
  (hs:0<s) (hn:n*s≤16777216) (hf:kH (fun i=>some (i*s,s)) ((List.replicate n z).flatten) (l.map fun(i,v)=>(i,v.strip))=some cs) :
  ∃ arr,gn x cs arr∧cs.length=n*s∧(Instr.buildSlice t n (ps.map fun p=>(p.1,ρ p.2))).run P x.w = .ok (.slice (some ⟨x.w.heap.size,0,none⟩) n n) (x.w.alloc (.cells arr e)):=by
 obtain⟨hk,i,hi,-,-⟩:=bY (eY t _ h)
 obtain⟨hu,ie,rX,qz,-,EY⟩:=lu hk
 obtain⟨-,ie',Bc,-,hz⟩:=bY (eY e _ he)
 rw[rX] at Bc
 cases Bc
 obtain⟨zv,h1,h2,hzl⟩:=jC hz
 obtain⟨h3,h4⟩:=iG (x:=x) h2
 have O8:zv.cells.size=s:=by rw[← qz,← hzl]; simpa using h3
 have Fc:z.length=s:=by rw[hzl,qz]
 have Au:=D8 (n:=n) hs Fc O8 h4
 have pN:aaa x (l.map fun(i,v)=>(i,v.strip)) (sF ρ ps.toList):=by
  have:=ud hρ hl
  refine⟨by simpa using this.1,fun j p hp => ?_⟩
  simp only[eE,ai] at hp
  obtain⟨q,hq,rfl⟩:=hp
  obtain⟨v,GN,Un⟩:=this.2 j q hq
  exact⟨v,by simpa using GN,Un.strip⟩
 obtain⟨arr,h5,h6⟩:=AW (x:=x) (pl:=fun i=>some (i*s,s)) (fun i p hp=>hp) pN Au hf
 have oJ:cs.length=n*s:=by
  have key:∀ (r:List (Nat×DV)) (l l':List DV),kH (fun i=>some (i*s,s)) l r=some l'→l'.length=l.length:=by
   intro r
   induction r with
   | nil=>intro l l' h; simp only[kH,aB] at h; rw[h]
   | cons p r ih =>
    intro l l' h
    obtain⟨i,d⟩:=p
    unfold kH at h
    simp only at h
    split at h
    ·split at h
     ·rename_i l1 h1
      rw[ih _ _ h]
      obtain⟨h2,rfl⟩:=qm h1
      simp; omega
     ·cases h
    ·cases h
  rw[key _ _ _ hf]; simp[Fc]
 refine⟨arr,h6,oJ,?_⟩
 ·subst qz
  have c1:¬ (n*ie.size>2 ^ 24):=by rw[show (2:Nat) ^ 24=16777216 from by decide]; omega
  have h5':Instr.fill (fun i=>some (i*ie.size,ie.size)) ((Array.range (n*ie.size)).map (zv.cells[· % zv.cells.size]!)) (ps.toList.map fun p=>(p.1,ρ p.2))=some arr:=h5
  by_cases h0:n*ie.size=0
  ·have e0:(Array.range (n*ie.size)).map ((#[]:Array Value)[· % (#[]:Array Value).size]!)=(Array.range (n*ie.size)).map (zv.cells[· % zv.cells.size]!):=by rw[h0]; simp
   simp only[Instr.buildSlice,Sem.run_bind,run_underlying hu,Result.andThen_ok,run_sizeOf rX,if_neg c1,if_pos h0,Sem.run_pure,e0,Array.toList_map,h5',newRow,run_newObj]
   rfl
  ·simp only[Instr.buildSlice,Sem.run_bind,run_underlying hu,Result.andThen_ok,run_sizeOf rX,if_neg c1,if_neg h0,Sem.run_pure,zeroValue,typeInfo,run_program,rX,h1,Array.toList_map,h5',newRow,run_newObj]
   rfl
theorem Dv (eY:j4 P ty) (hR:Rel x) (hρ:wJ x ρd ρ) {t e:TypeId} {n s lK sz sz':Nat} {agg:Bool} {k:TK} {z0:Option (List DV)} {z cs:List DV} {ps:Array (Nat×Operand)} {l:List (Nat×DV)} (h:ty t=some ⟨.slice e s lK agg,sz,z0⟩) (hl:j7 ρd ps.toList=some l) (he:ty e=some ⟨k,sz',some z⟩)
  (hs:0<s) (hn:n*s≤16777216) (hf:kH (fun i=>some (i*s,s)) ((List.replicate n z).flatten) (l.map fun(i,v)=>(i,v.strip))=some cs) (hp:cs.all DV.ck=true) (ha:agg=true∨s=1) :
  Yields x ((do pure (.value (← Instr.buildSlice t n (ps.map fun p=>(p.1,ρ p.2)))):Sem Next).run P x.w) (.sl (rowsOf s agg cs n) none ⟨true,some false⟩) x.S:=by
 obtain⟨arr,h6,oJ,hrun⟩:=EM eY hR hρ h hl he hs hn hf
 have PE:∀ c∈cs,c.ck=true:=fun c hc=>bt.1 hp c hc
 obtain⟨wC,Uq⟩:=ED hs ha PE n oJ
 have UQ:nY x.w (x.w.alloc (.cells arr e)) (.cells arr e (0,0)):=gM _ _
 have mP:=N8 (F:=fun o=>o<arr.size) hR UQ fun o ho=>⟨arr[o],by simp[ho]⟩
 have hrn:(rowsOf s agg cs n).length=n:=by simp[rowsOf]
 have uD:(x.w.alloc (.cells arr e)).heap[x.w.heap.size]? = some (.cells arr e (0,0)):=UQ.new
 have zo:arr.size=cs.length:=h6.1
 have M:=qX (F:=fun o=>o<arr.size) hR UQ
 refine ig (y:=x.froze _ (fun o=>o<arr.size)) (v := .slice (some ⟨x.w.heap.size,0,none⟩) n n) hrun rfl mP M ?_
 ·suffices hk:RV (x.froze (x.w.alloc (.cells arr e)) (fun o=>o<arr.size)) (.sl (rowsOf s agg cs n) none ⟨true,some false⟩) (.slice (some ⟨x.w.heap.size,0,none⟩) (rowsOf s agg cs n).length (rowsOf s agg cs n).length) by rw[hrn] at hk; exact hk
  have hv:View (x.froze (x.w.alloc (.cells arr e)) (fun o=>o<arr.size)) (rowsOf s agg cs n) (some ⟨x.w.heap.size,0,none⟩) s (fun j=>arr.getD j undef) :=
   BR Uq (by rw[wC]; exact PE) (by rw[wC]; omega) uD fun j hj => .inr ⟨rfl,by rw[wC] at hj; omega⟩
  refine RV.sl (tok:=none) hv (fun j c hc => ?_) (ak _) ⟨fun _=>rfl,fun b h=>by cases h; rfl⟩ (by simp) (fun ad h _=>by cases h; rfl) (fun t ht=>nomatch ht)
  rw[wC] at hc
  exact(h6.2 j c hc).mono M
theorem rB (eY:j4 P ty) {t:TypeId} {fs:List (Nat×Nat×Bool)} {sz f off s:Nat} {agg:Bool} {z:Option (List DV)} (h:ty t=some ⟨.struct fs,sz,z⟩) (hf:fs[f]? = some (off,s,agg)) (hs:0<s) (b o0:Nat) (w:World) :
  (Instr.fieldAt t (.pointer (some ⟨b,o0,none⟩)) f).run P w = .ok (.pointer (some ⟨b,o0+off,none⟩)) w:=by
 obtain⟨hk,i,hi,-,-⟩:=bY (eY t _ h)
 obtain⟨fields,hu,hfs,hff⟩:=yA hk
 obtain⟨fd,h1,h2,inf,h3,h4,-,-⟩:=hff f _ hf
 simp only at h2 h4
 have hne:¬ (inf.size=0):=by omega
 simp only[Instr.fieldAt,Sem.run_bind,run_underlying hu,Result.andThen_ok,h1,Instr.sureAddr,Sem.run_pure,fieldPlace,run_sizeOf h3,if_neg hne,iO,h2]
theorem zO (eY:j4 P ty) {t:TypeId} {k s sz:Nat} {agg:Bool} {z:Option (List DV)} (h:ty t=some ⟨.array k s agg,sz,z⟩) {kd:IntKind} {n:Int} (h0:0≤n) (hlt:n.toNat<k) (b o0:Nat) (w:World) :
  (Instr.indexAt t (.pointer (some ⟨b,o0,none⟩)) (.int kd n)).run P w = .ok (.pointer (some ⟨b,o0+n.toNat*s,none⟩)) w:=by
 obtain⟨hk,i,hi,-,-⟩:=bY (eY t _ h)
 obtain⟨e,hu,ie,rX,qz,-,-⟩:=xw hk
 have hc:0≤n∧n<(k:Int):=⟨h0,by omega⟩
 subst qz
 simp only[Instr.indexAt,asIntOf,Sem.run_bind,Sem.run_pure,Result.andThen_ok,run_underlying hu,Instr.sureAddr,hc,and_self,if_true,run_sizeOf rX,iO]
theorem CI (eY:j4 P ty) {t e:TypeId} {s lK sz:Nat} {agg:Bool} {z:Option (List DV)} (h:ty t=some ⟨.slice e s lK agg,sz,z⟩) {kd:IntKind} {n:Int} {len cap:Nat} (h0:0≤n) (hlt:n.toNat<len) (b o0:Nat) (w:World) :
  (Instr.indexAt t (.slice (some ⟨b,o0,none⟩) len cap) (.int kd n)).run P w = .ok (.pointer (some ⟨b,o0+n.toNat*s,none⟩)) w:=by
 obtain⟨hk,i,hi,-,-⟩:=bY (eY t _ h)
 obtain⟨hu,ie,rX,qz,-,-⟩:=lu hk
 have hc:0≤n∧n<(len:Int):=⟨h0,by omega⟩
 subst qz
 simp only[Instr.indexAt,asIntOf,Sem.run_bind,Sem.run_pure,Result.andThen_ok,run_underlying hu,hc,and_self,if_true,run_sizeOf rX,iO]
end Go.Di
end
section
namespace Go.Di
open Go
variable {P:Program} {ty:ir} {x:Cx} {w':World} {ρd:Operand→Option DV} {ρ:Operand→Value} {o:Oper} {aH:Nat}
theorem sM {rows:List DV} {tok:Option Nat} {full:SF} {A:Option Addr} {n cap s:Nat} (h:RV x (.sl rows tok full) (.slice A n cap)) (hs:∀ r∈rows,r.cells.length=s) :
  n=rows.length∧n≤cap∧((full.full=true→cap=n)∧QU full A)∧(A=none→cap=0)∧YQ x tok rows A cap∧(∀ ad,A=some ad→0<cap→ad.spot=none) ∧
  (∀ c∈flat rows,c.ck=true)∧∃ vs:List Value,vs.length=n*s∧(∀ j c,(flat rows)[j]? = some c→RV x c (vs.getD j undef)) ∧
   (∀ j c,(flat rows)[j]? = some c→∃ b o,A=some ⟨b,o,none⟩∧x.Fz b (o+j)∧x.w.cell? ⟨b,o+j,none⟩=some (vs.getD j undef))∧∀ u∈vs,u.oneCell'=true:=by
 cases h with
 | @sl _ _ _ _ _ s' vs hv hr h1 h2 h3 hsp h4 =>
  have wC:=gI hs
  refine⟨rfl,h1,h2,h3,h4,hsp,fun c hc => ?_,(List.range (rows.length*s)).map vs,by simp,fun j c hc => ?_,fun j c hc => ?_,fun u hu => ?_⟩
  ·obtain⟨j,hj,rfl⟩:=List.mem_iff_getElem.1 hc
   exact(hv.2 j _ (bH hj)).1
  ·have hj:j<rows.length*s:=by rw[← wC]; exact(aJ.1 hc).1
   simpa [aN,hj] using hr j c hc
  ·have hj:j<rows.length*s:=by rw[← wC]; exact(aJ.1 hc).1
   obtain⟨-,b,o,k1,k2,k3⟩:=hv.2 j c hc
   exact⟨b,o,k1,k2,by simpa [aN,hj] using k3⟩
  ·simp only[cR,List.mem_range] at hu
   obtain⟨j,hj,rfl⟩:=hu
   have wB:j<(flat rows).length:=by omega
   have k:=bH wB
   have hp:=(hv.2 j _ k).1
   have h1:((flat rows)[j]).one=true:=by
    revert hp
    generalize (flat rows)[j]=c
    cases c<;>simp[DV.ck,DV.one]
   exact(one_cell (hr j _ k) h1).1
theorem aaT {y:Cx} {R:List DV} {t s N cap:Nat} {e:TypeId} {arr:Array Value} (hR:∀ r∈R,r.cells.length=s) (hp:∀ c∈flat R,c.ck=true) (hS:y.S[t]? = some (.tail e s N)) (hN:N=R.length*s)
  (hh:y.w.heap[y.μ t]? = some (.cells arr e (0,0))) (hF:∀ o,o<N→y.Fz (y.μ t) o) (hsz:N≤arr.size) (hc:∀ j c,(flat R)[j]? = some c→RV y c (arr.getD j undef)) (hk:cap=y.κ t) (Nx:R.length≤cap) :
  RV y (.sl R (some t) ⟨false,none⟩) (.slice (some ⟨y.μ t,0,none⟩) R.length cap):=by
 have wC:=gI hR
 refine RV.sl (BR hR hp (by omega) hh fun j hj=>hF j (by omega)) hc Nx ⟨by simp,fun _ h=>nomatch h⟩ (by simp) (fun ad h _=>by cases h; rfl) fun t' ht => ?_
 cases ht
 exact⟨e,s,N,hS,by omega,hR,fun _=>⟨rfl,hk⟩⟩
theorem z8 (a b:List DV):flat (a++b)=flat a++flat b:=by simp[flat]
theorem yF {y:Cx} {rows news:List DV} {ES mO:List Value} {t s b cap:Nat} {e:TypeId} {arr:Array Value} (M:bZ x y) (h1:∀ r∈rows,r.cells.length=s) (h2:∀ r∈news,r.cells.length=s) (hp1:∀ c∈flat rows,c.ck=true) (hp2:∀ c∈flat news,c.ck=true)
  (xX:∀ (j:Nat) (c:DV),(flat rows)[j]? = some c→RV x c (ES.getD j undef)) (Pb:∀ (j:Nat) (c:DV),(flat news)[j]? = some c→RV x c (mO.getD j undef)) (hS:y.S[t]? = some (.tail e s ((rows.length+news.length)*s))) (hμ:y.μ t=b) (hκ:y.κ t=cap)
  (hh:y.w.heap[b]? = some (.cells arr e (0,0))) (hF:∀ o,o<(rows.length+news.length)*s→y.Fz b o) (hsz:(rows.length+news.length)*s≤arr.size) (Uv:∀ j,j<rows.length*s→arr.getD j undef=ES.getD j undef) (Lr:∀ j,j<news.length*s→arr.getD (rows.length*s+j) undef=mO.getD j undef)
  (Nx:rows.length+news.length≤cap):RV y (.sl (rows++news) (some t) ⟨false,none⟩) (.slice (some ⟨b,0,none⟩) (rows.length+news.length) cap):=by
 have PI:=gI h1
 have XP:=gI h2
 subst hμ hκ
 have key:=aaT (y:=y) (R:=rows++news) (t:=t) (s:=s) (arr:=arr) (cap:=y.κ t) (N:=(rows.length+news.length)*s) (fun r hr=>(ja.1 hr).elim (h1 r) (h2 r)) (fun c hc => ?_) hS (by rw[b9]) hh hF hsz (fun j c hc => ?_) rfl (by rw[b9]; exact Nx)
 ·rw[b9] at key; exact key
 ·rw[z8] at hc; exact(ja.1 hc).elim (hp1 c) (hp2 c)
 ·rw[z8] at hc
  by_cases hj:j<(flat rows).length
  ·rw[fq hj] at hc
   rw[Uv j (by omega)]
   exact(xX j c hc).mono M
  ·rw[gF (by omega)] at hc
   have hj2:j-(flat rows).length<(flat news).length:=(aJ.1 hc).1
   have e1:j=rows.length*s+(j-(flat rows).length):=by omega
   rw[e1,Lr _ (by omega)]
   exact(Pb _ c hc).mono M
theorem yR {ES mO:List Value} {Z:Array Value} {n m:Nat} (h1:ES.length=n) (h2:mO.length=m):(∀ j,j<n→(ES.toArray++mO.toArray++Z).getD j undef=ES.getD j undef)∧∀ j,j<m→(ES.toArray++mO.toArray++Z).getD (n+j) undef=mO.getD j undef:=by
 constructor
 ·intro j hj
  rw[bg,xq (by simp; omega),xq (by simp; omega)]
  simp[aN]
 ·intro j hj
  rw[bg,xq (by simp; omega),xu (by simp; omega)]
  simp[aN,h1]
theorem Ox (eY:j4 P ty) (hR:Rel x) (hn:DJ x.S aH) {t u:TypeId} {a b d:DV} {va vb:Value} {S':ax} (ha:RV x a va) (hb:RV x b vb) (h:jK ty x.S aH t a b=some (d,S')) :
  Yields x ((do pure (.value (← Builtin.append_ #[t,t] u #[va,vb])):Sem Next).run P x.w) d S':=by
 unfold jK at h
 split at h
 ·rename_i e s lK agg sz z0 rows tok full news E7 YF XI
  obtain⟨hk,it,-,-,-⟩:=bY (eY t _ XI)
  obtain⟨hu,ie,rX,qz,C7,-⟩:=lu hk
  have Dc:=ha
  have GP:=hb
  cases ha with
  | @sl _ _ _ A cap s1 vs1 GN xX k1 k2 k3 k4 k5 =>
   cases hb with
   | @sl _ _ _ A2 rS s2 vs2 Un Pb m1 m2 m3 m4 m5 =>
    split at h
    ·rename_i uF
     cases h
     have JJ:news=[]:=by simpa using uF
     subst JJ
     refine aX hR (v := .slice A rows.length cap) ?_ Dc
     subst qz
     cases A with
     | none=>cases A2<;>simp[Builtin.append_,run_underlying hu,run_sizeOf rX,Builtin.lenOf,Builtin.firstCells,loadCells,loadCellsFrom,k1]
     | some ad=>cases A2<;>simp[Builtin.append_,run_underlying hu,run_sizeOf rX,Builtin.lenOf,Builtin.firstCells,loadCells,loadCellsFrom,storeCells,k1]
    ·rename_i uF
     split at h
     ·rename_i hte
      split at h
      rotate_left
      ·cases h
      rename_i od
      simp only[aI,bJ,bt] at od
      obtain⟨⟨⟨hs,lV⟩,hlen⟩,lT⟩:=od
      have hm:0<news.length:=List.length_pos_iff.2 (by simpa using uF)
      obtain⟨z,Zb,O8⟩:∃ z,ie.zero=some z∧z.cells.size=s:=by
       obtain⟨-,ie',Bc,Jt,Au⟩:=bY (eY e _ hte)
       rw[rX] at Bc
       cases Bc
       obtain⟨z,q1,q2,q3⟩:=jC Au
       have:=(iG (x:=x) q2).1
       exact⟨z,q1,by rw[← qz,← q3]; simpa using this⟩
      obtain⟨-,-,-,-,-,ZI,UR,mO,tB,Dm,x5,D5⟩:=sM GP lT
      obtain⟨XY,rfl⟩:∃ XY,A2=some XY:=by
       cases A2 with
       | none=>have:=m3 rfl; omega
       | some ad=>exact⟨ad,rfl⟩
      have Aj:=gI lT
      obtain⟨b2,o2,sp2⟩:=XY
      have ZH:sp2=none:=ZI _ rfl (by omega)
      subst ZH
      have pH:∀ j v,mO[j]? = some v→x.w.cell? ((⟨b2,o2,none⟩:Addr).add j)=some v:=by
       intro j v hv
       have hj:j<(flat news).length:=by rw[Aj,← tB]; exact(aJ.1 hv).1
       obtain⟨b',o',q1,-,q2⟩:=x5 j _ (bH hj)
       cases q1
       rw[iO,q2]
       simp[aN,hv]
      have afK:rows.length+news.length≤9223372036854775807:=by omega
      have grown:∀ (w1:List Value),w1.length=rows.length*s→∀ (k:Nat),k=grownCap x.w (rows.length+news.length) cap e→k≤maxLen∧rows.length+news.length≤k ∧
        (w1.toArray++mO.toArray++Builtin.zeroCells z.cells (k-(rows.length+news.length))).size=k*s:=by
       intro w1 Le k hk
       have GO:=grownCap_ge x.w (rows.length+news.length) cap e
       have hle:=grownCap_le_maxLen x.w (rows.length+news.length) cap e (by simp only[maxLen]; omega)
       subst hk
       refine⟨hle,GO,?_⟩
       simp only[Array.size_append,lg,size_zeroCells,O8,Le,tB,← jL]
       congr 1
       omega
      have TD:∀ (hf:full.full=true) (oc:∀ r∈rows,r.cells.length=s),d = .sl (rows++news) (some aH) ⟨false,none⟩→S'=eV x.S aH (.tail e s ((rows.length+news.length)*s)) →
        Yields x ((do pure (.value (← Builtin.append_ #[t,t] u #[.slice A rows.length cap,.slice (some ⟨b2,o2,none⟩) news.length rS])):Sem Next).run P x.w) d S':=by
       intro hf oc hd hS
       subst hd hS
       have Nx:cap=rows.length:=k2.1 hf
       obtain⟨-,-,-,-,-,aeA,hpR,ES,yZ,Vn,GB,adn⟩:=sM Dc oc
       have Vr:=gI oc
       obtain⟨g1,g2,g3⟩:=grown ES yZ _ rfl
       have hrun:(Builtin.append_ #[t,t] u #[.slice A rows.length cap,.slice (some ⟨b2,o2,none⟩) news.length rS]).run P x.w =
         .ok (.slice (some ⟨x.w.heap.size,0,none⟩) (rows.length+news.length) (grownCap x.w (rows.length+news.length) cap e)) (x.w.drew.alloc (.cells (ES.toArray++mO.toArray++Builtin.zeroCells z.cells (grownCap x.w (rows.length+news.length) cap e-(rows.length+news.length))) e)):=by
        cases A with
        | none =>
         have h0:=k3 rfl
         have Ju:rows.length=0:=by omega
         have hw0:ES=[]:=eF (by rw[yZ,Ju]; simp)
         subst hw0
         rw[Ju,h0]
         have:=run_append_nil (P:=P) x.w t u e ie z hu rX Zb ⟨b2,o2,none⟩ news.length rS mO (by rw[tB,qz]) pH hm (by omega) (by rw[C7]; unfold fG at lV; have:news.length*lK≤(rows.length+news.length)*lK:=eU _ (by omega); omega)
         simpa using this
        | some ad =>
         obtain⟨b1,o1,sp1⟩:=ad
         have DG:0<rows.length→sp1=none:=fun h=>aeA _ rfl (by omega)
         refine run_append_grow (P:=P) x.w t u e ie z hu rX Zb ⟨b1,o1,sp1⟩ rows.length cap ES (by rw[yZ,qz]) (fun j v hv => ?_) ⟨b2,o2,none⟩ news.length rS mO (by rw[tB,qz]) pH (by omega) (by omega) (growslice_fits (by omega) (by rw[C7]; exact lV))
         have hj:j<(flat rows).length:=by rw[Vr,← yZ]; exact(aJ.1 hv).1
         obtain rfl:=DG (Nat.pos_of_ne_zero fun e=>by rw[Vr,e] at hj; simp at hj)
         obtain⟨b',o',q1,-,q2⟩:=GB j _ (bH hj)
         cases q1
         rw[iO,q2]
         simp[aN,hv]
       generalize hk0:grownCap x.w (rows.length+news.length) cap e=k at *
       obtain⟨v1,v2⟩:=yR (Z:=Builtin.zeroCells z.cells (k-(rows.length+news.length))) yZ tB
       generalize yc:ES.toArray++mO.toArray++Builtin.zeroCells z.cells (k-(rows.length+news.length))=arr at *
       have hp:nY x.w (x.w.drew.alloc (.cells arr e)) (.cells arr e (0,0)):=⟨rfl,rfl,rfl⟩
       have XT:(rows.length+news.length)*s≤arr.size:=by rw[g3]; exact eU _ g2
       have mP:=lX (k:=k) (F:=fun o=>o<(rows.length+news.length)*s) (b := .tail e s ((rows.length+news.length)*s)) hR hn hp (fun o ho=>⟨arr[o]'(by omega),by simp only[World.cell?,hp.new]; exact bW _⟩) (.inr (.inl ⟨e,s,_,arr,rfl,rfl,g3,XT,g1,fun o ho=>ho⟩))
       have M:=jB (k:=k) (F:=fun o=>o<(rows.length+news.length)*s) (b := .tail e s ((rows.length+news.length)*s)) hR hn hp
       exact ig hrun (y:=x.fresh (x.w.drew.alloc (.cells arr e)) aH k (fun o=>o<(rows.length+news.length)*s) (.tail e s ((rows.length+news.length)*s))) rfl mP M
        (yF M oc lT hpR UR Vn Dm (by show (eV _ _ _)[_]? = _; rw[bz hn.le,if_pos rfl]) (if_pos rfl) (if_pos rfl) hp.new (fun o ho => .inr ⟨rfl,ho⟩) XT v1 v2 g2)
      cases tok with
      | none =>
       simp only at h
       split at h
       ·rename_i hfc
        simp only[aI,bt,bJ] at hfc
        cases h
        exact TD hfc.1 hfc.2 rfl rfl
       ·cases h
      | some tk =>
       simp only at h
       split at h
       ·rename_i e' s' n' Jm
        split at h
        ·rename_i RD
         simp only[aI,bJ] at RD
         obtain⟨⟨w1,w2⟩,w3⟩:=RD
         rw[w1,w2,w3] at Jm
         cases h
         obtain⟨e2,s2',n2,q1,q2,q3,q4⟩:=k5 tk rfl
         rw[Jm] at q1
         cases q1
         obtain⟨rfl,rfl⟩:=q4 rfl
         obtain⟨-,-,-,-,-,-,hpR,ES,yZ,Vn,GB,adn⟩:=sM Dc q3
         have Vr:=gI q3
         obtain⟨cur,t1,t2,t3,t4⟩:=hR.eA tk _ _ _ Jm
         have GX:∀ j,j<rows.length*s→cur[j]? = some (ES.getD j undef):=by
          intro j hj
          have wB:j<(flat rows).length:=by omega
          obtain⟨b',o',r1,-,r2⟩:=GB j _ (bH wB)
          cases r1
          simpa [World.cell?,t1] using r2
         by_cases hroom:rows.length+news.length≤x.κ tk
         ·
          have uE:rows.length*s+mO.length≤cur.size:=by rw[tB,t2,← jL]; exact eU _ hroom
          have hrun:=run_append_room (P:=P) x.w t u e ie hu rX (x.μ tk) rows.length (x.κ tk) cur t1 ⟨b2,o2,none⟩ news.length rS mO (by rw[tB,qz]) pH D5 hroom (by rw[qz]; exact uE)
          rw[qz] at hrun
          generalize yc:(cur.toList.take (rows.length*s)++mO++cur.toList.drop (rows.length*s+mO.length)).toArray=arr at *
          have acj:arr.size=cur.size:=by rw[← yc]; simp; omega
          have YB:∀ j,j<rows.length*s→arr[j]? = some (ES.getD j undef):=by
           intro j hj
           have h1:=GX j hj
           rw[← yc,List.getElem?_toArray,gD,fq (by simp; omega),nI,if_pos hj]
           simpa using h1
          have ads:∀ j,j<news.length*s→arr[rows.length*s+j]? = some (mO.getD j undef):=by
           intro j hj
           have e1:(cur.toList.take (rows.length*s)).length=rows.length*s:=by simp; omega
           rw[← yc,List.getElem?_toArray,gD,gF (by omega),e1,o6,fq (by omega)]
           simp[aN,bH (show j<mO.length by omega)]
          have rG:∀ o,o<rows.length*s→(x.w.setRow (x.μ tk) arr).cell? ⟨x.μ tk,o,none⟩=x.w.cell? ⟨x.μ tk,o,none⟩:=by
           intro o ho
           rw[cell_setRow_same _ _ _ _ _ _ _ t1,YB o ho]
           simp[World.cell?,t1,GX o ho]
          have XT:(rows.length+news.length)*s≤arr.size:=by rw[acj,t2]; exact eU _ hroom
          have hle:rows.length*s≤(rows.length+news.length)*s:=eU _ (by omega)
          have mP:=AK (F:=fun o=>o<(rows.length+news.length)*s) (arr:=arr) (b := .tail e s ((rows.length+news.length)*s)) hR Jm (.inr (.inl ⟨e,s,_,_,rfl,rfl,hle,rG,by rw[acj]; exact t2,XT,fun o ho=>ho⟩))
          have M:=sU (F:=fun o=>o<(rows.length+news.length)*s) (arr:=arr) (b := .tail e s ((rows.length+news.length)*s)) hR Jm (.inr (.inl ⟨e,s,_,_,rfl,rfl,hle,rG⟩))
          exact ig hrun (y:=x.upd tk arr (fun o=>o<(rows.length+news.length)*s) (.tail e s ((rows.length+news.length)*s))) rfl mP M
           (yF M q3 lT hpR UR Vn Dm (by show (x.S.set _ _)[_]? = _; rw[ej Jm,if_pos rfl]) rfl rfl (setRow_heap _ _ _ _ _ _ t1) (fun o ho => .inr ⟨rfl,ho⟩) XT (fun j hj=>by rw[bg,YB j hj]; rfl) (fun j hj=>by rw[bg,ads j hj]; rfl) hroom)
         ·
          obtain⟨g1,g2,g3⟩:=grown ES yZ _ rfl
          have hrun:=run_append_grow (P:=P) x.w t u e ie z hu rX Zb ⟨x.μ tk,0,none⟩ rows.length (x.κ tk) ES (by rw[yZ,qz]) (fun j v hv=>by
            have hj:j<(flat rows).length:=by rw[Vr,← yZ]; exact(aJ.1 hv).1
            obtain⟨b',o',r1,-,r2⟩:=GB j _ (bH hj)
            cases r1
            rw[iO,r2]
            simp[aN,hv]) ⟨b2,o2,none⟩ news.length rS mO (by rw[tB,qz]) pH (by omega) (by omega) (growslice_fits (by omega) (by rw[C7]; exact lV))
          generalize hk0:grownCap x.w (rows.length+news.length) (x.κ tk) e=k at *
          obtain⟨v1,v2⟩:=yR (Z:=Builtin.zeroCells z.cells (k-(rows.length+news.length))) yZ tB
          generalize yc:ES.toArray++mO.toArray++Builtin.zeroCells z.cells (k-(rows.length+news.length))=arr at *
          have hp:nY x.w (x.w.drew.alloc (.cells arr e)) (.cells arr e (0,0)):=⟨rfl,rfl,rfl⟩
          have XT:(rows.length+news.length)*s≤arr.size:=by rw[g3]; exact eU _ g2
          have hlt:rows.length*s<(rows.length+news.length)*s:=Nat.mul_lt_mul_of_pos_right (by omega) hs
          have mP:=N7 (k:=k) (F:=fun o=>o<(rows.length+news.length)*s) hR Jm hp hlt g3 XT g1 fun o ho=>ho
          have M:=CL (k:=k) (F:=fun o=>o<(rows.length+news.length)*s) (n':=(rows.length+news.length)*s) hR Jm hp hlt
          exact ig hrun (y:=x.j9 (x.w.drew.alloc (.cells arr e)) tk k (fun o=>o<(rows.length+news.length)*s) (.tail e s ((rows.length+news.length)*s))) rfl mP M
           (yF M q3 lT hpR UR Vn Dm (by show (x.S.set _ _)[_]? = _; rw[ej Jm,if_pos rfl]) (if_pos rfl) (if_pos rfl) hp.new (fun o ho => .inr ⟨rfl,ho⟩) XT v1 v2 g2)
        ·cases h
       ·cases h
     ·cases h
 ·cases h
theorem find_congr (kt:TypeId) (k:Value):∀ (l m:List MapEntry) (i:Nat),l.map (fun e=>(e.key,e.val))=m.map (fun e=>(e.key,e.val))→Instr.findAsking kt k l i=Instr.findAsking kt k m i
 | [],[],_,_=>rfl
 | [],_::_,_,h=>by simp at h
 | _::_,[],_,h=>by simp at h
 | e::l,f::m,i,h=>by
  simp only[bQ,List.cons.injEq,ay] at h
  unfold Instr.findAsking
  rw[h.1.1,h.1.2,find_congr kt k l m (i+1) h.2]
theorem En (kd:TypeDesc) (k:Value):∀ (l m:List MapEntry) (i:Nat),l.map (fun e=>(e.key,e.val))=m.map (fun e=>(e.key,e.val))→Instr.findNow kd k l i=Instr.findNow kd k m i
 | [],[],_,_=>rfl
 | [],_::_,_,h=>by simp at h
 | _::_,[],_,h=>by simp at h
 | e::l,f::m,i,h=>by
  simp only[bQ,List.cons.injEq,ay] at h
  unfold Instr.findNow
  rw[h.1.1,h.1.2,En kd k l m (i+1) h.2]
theorem Ez (kt:TypeId) (k:Value) {l m:List MapEntry} (h:l.map (fun e=>(e.key,e.val))=m.map (fun e=>(e.key,e.val))):Instr.findKey kt k l=Instr.findKey kt k m:=by
 unfold Instr.findKey
 have h1:∀ kd,Instr.findNow kd k l 0=Instr.findNow kd k m 0:=fun kd=>En kd k l m 0 h
 have h2:=find_congr kt k l m 0 h
 simp only[h1,h2]
theorem MD (es:List (Value×Value)):(es.map Ld).map (fun e=>(e.key,e.val))=es:=by
 rw[List.map_map]
 conv=>rhs; rw[← List.map_id es]
 congr 1
theorem SC {v:Value} {d:DV} (h:Hf v=some d):RV x d v:=by
 unfold Hf at h
 split at h
 ·rename_i vs
  split at h
  ·rename_i v b hvs
   simp only[ai] at h
   obtain⟨d',h1,rfl⟩:=h
   have e:vs=#[v,.bool b]:=by rw[← Array.toArray_toList (xs:=vs),hvs]
   subst e
   refine .gd rfl fun j c hc => ?_
   match j with
   | 0=>simp only[List.getElem?_cons_zero,aB] at hc; subst hc; exact xx h1
   | 1=>simp only[List.getElem?_cons_succ,List.getElem?_cons_zero,aB] at hc; subst hc; exact .val rfl
   | j+2=>simp at hc
  ·cases h
 ·exact xx h
theorem KP (hR:Rel x) (hn:DJ x.S aH) {t:TypeId}:Yields x ((do pure (.value (← Instr.makeMap t none)):Sem Next).run P x.w) (.map aH) (eV x.S aH (.map [])):=by
 have hp:nY x.w (x.w.alloc (.map #[] 0)) (.map #[] 0):=gM _ _
 have mP:=lX (k:=0) (F:=fun _=>False) (b := .map []) hR hn hp (by simp) (.inr (.inr (.inl ⟨rfl,by simp,rfl⟩)))
 refine ig (y:=x.fresh _ aH 0 (fun _=>False) (.map [])) (v := .map (some x.w.heap.size)) ?_ rfl mP (jB hR hn hp) ?_
 ·simp[Instr.makeMap,Cx.fresh]
 ·have:(x.fresh (x.w.alloc (.map #[] 0)) aH 0 (fun _=>False) (.map [])).μ aH=x.w.heap.size:=if_pos rfl
  rw[← this]
  exact .map (es:=[]) (by show (eV _ _ _)[_]? = _; rw[bz hn.le,if_pos rfl])
theorem MF (hR:Rel x) {id:Nat} {es:List (Value×Value)} (h:x.S[id]? = some (.map es)):∃ Bg clk,x.w.heap[x.μ id]? = some (.map Bg clk)∧Bg.toList.map (fun e=>(e.key,e.val))=es:=by
 obtain⟨o,h1,h2⟩:=hR.eR id _ h rfl
 cases o<;>simp only[sD] at h2
 exact⟨_,_,h1,h2⟩
theorem vO {α β:Type} {s:Sem α} {f:α→Sem β} {b:β} (h:cg P (s >>= f)=some b):∃ a,cg P s=some a∧cg P (f a)=some b:=by
 change cg P (s.bind f)=some b at h
 induction s with
 | pure a=>exact⟨a,rfl,h⟩
 | program k ih=>exact ih P h
 | _=>simp[Sem.bind,cg] at h
theorem Ov (hR:Rel x) {t:TypeId} {id:Nat} {es:List (Value×Value)} {k v:Value} {ok:Bool} {d:DV} (h:x.S[id]? = some (.map es)) (hp:cg P (Hj t (es.map Ld) k ok)=some v) (hd:Hf v=some d) :
  Yields x ((do pure (.value (← Instr.lookup t (.map (some (x.μ id))) k ok)):Sem Next).run P x.w) d x.S:=by
 obtain⟨Bg,clk,h1,h2⟩:=MF hR h
 refine aX hR (v:=v) ?_ (SC hd)
 have hk:∀ kt,Instr.findKey kt k (es.map Ld)=Instr.findKey kt k Bg.toList:=fun kt=>Ez kt k (by rw[MD,h2])
 have he:(es.map Ld).isEmpty=Bg.isEmpty:=by
  rw[← h2,Bool.eq_iff_iff]
  simp
 have hg:=jw (P:=P) h1 (by simp)
 unfold Hj at hp
 obtain⟨td,p1,p2⟩:=vO hp
 have r1:=nQ p1 x.w
 cases td with
 | map key elem =>
  simp only at p2
  have r2:=nQ p2 x.w
  unfold Instr.lookup
  simp only[Sem.run_bind,r1,Result.andThen_ok,hg,Sem.run_pure,hk,he] at r2 ⊢
  exact r2
 | _=>simp[stuck,cg] at p2
theorem Gr (hR:Rel x) {t:TypeId} {id:Nat} {es es':List (Value×Value)} {k v:Value} {r:Option (Nat×Value)} (h:x.S[id]? = some (.map es)) (hp:cg P (Hx t (es.map Ld) k)=some r) (hs:JC es k v r=some es') :
  Yields x ((do Instr.mapUpdate t (.map (some (x.μ id))) k v; pure .skip:Sem Next).run P x.w) bh (x.S.set id (.map es')):=by
 obtain⟨Bg,clk,h1,h2⟩:=MF hR h
 have hk:∀ kt,Instr.findKey kt k (es.map Ld)=Instr.findKey kt k Bg.toList:=fun kt=>Ez kt k (by rw[MD,h2])
 have hg:=jw (P:=P) h1 (by simp)
 suffices hm:∃ LO Z6,(Instr.mapUpdate t (.map (some (x.μ id))) k v).run P x.w = .ok () (cv x.w (x.μ id) (.map LO Z6))∧LO.toList.map (fun e=>(e.key,e.val))=es' by
  obtain⟨LO,Z6,q1,q2⟩:=hm
  exact HI (y:=x.vp id (.map LO Z6) (.map es')) q1 rfl (H8 hR h trivial (by simp) q2) (yL hR h trivial (by simp))
 unfold Hx at hp
 obtain⟨td,p1,p2⟩:=vO hp
 have r1:=nQ p1 x.w
 cases td with
 | map key elem =>
  simp only at p2
  obtain⟨u,p3,p4⟩:=vO p2
  have r2:=nQ p3 x.w
  have r3:=nQ p4 x.w
  rw[hk] at r3
  unfold Instr.mapUpdate
  simp only[Sem.run_bind,r1,Result.andThen_ok,hg,r2,r3]
  cases r with
  | none =>
   simp only[JC,aB] at hs
   subst hs
   exact⟨_,_,kF h1 (by simp),by simp[h2]⟩
  | some q =>
   obtain⟨i,v0⟩:=q
   simp only[JC] at hs
   split at hs
   ·rename_i k' v' hi
    split at hs
    ·rename_i hsb
     cases hs
     have hlt:i<Bg.size:=by
      have:=(aJ.1 hi).1
      rw[← h2] at this
      simpa using this
     have hek:((Bg[i]?).map (·.key)).getD k=k':=by
      rw[← h2] at hi
      simp only[eE,gE,ai,ay] at hi
      obtain⟨e,q1,q2,-⟩:=hi
      rw[q1]
      exact q2
     simp only[hek,Instr.keyThatStays,hsb,if_true]
     refine⟨_,_,kF h1 (by simp),?_⟩
     rw[Array.toList_modify]
     refine kZ fun j => ?_
     rw[← h2]
     simp only[eE,List.getElem?_modify,aQ,eT]
     by_cases hj:i=j
     ·subst hj
      simp[hlt]
     ·simp[hj]
    ·cases hs
   ·cases hs
 | _=>simp[stuck,cg] at p2
end Go.Di
end
