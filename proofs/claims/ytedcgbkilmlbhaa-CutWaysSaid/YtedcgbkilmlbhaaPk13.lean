import Derived.Test.YtedcgbkilmlbhaaPk12
section
namespace Go.Di
open Go
variable {P:Program} {ty:Tys} {x:Cx} {w':World}
theorem infoU_spec {t:TypeId} {i:TypeInfo} (h:infoU P t=some i):P.info? t=some i∧∃ d,P.underlying t=some d:=by
 unfold infoU at h
 split at h
 ·rename_i i' d h1 h2; cases h; exact⟨h1,d,h2⟩
 ·cases h
theorem tyOf_info {t:TypeId} {k:TK} {sz:Nat} {z:Option (List DV)} (h:tyOf P t=some ⟨k,sz,z⟩):tkOf P t=some k∧∃ i,P.info? t=some i∧i.size=sz∧zeroOf i=z:=by
 unfold tyOf at h
 split at h
 ·rename_i k' i h1 h2
  cases h
  exact⟨h1,i,h2,rfl,rfl⟩
 ·cases h
theorem zeroOf_spec {i:TypeInfo} {cs:List DV} (h:zeroOf i=some cs):∃ z,i.zero=some z∧ofCells z.cells.toList=some cs∧cs.length=i.size:=by
 unfold zeroOf at h
 split at h
 ·rename_i z hz
  split at h
  ·rename_i cs' hc
   split at h
   ·cases h; exact⟨z,hz,hc,‹_›⟩
   ·cases h
  ·cases h
 ·cases h
theorem tk_slice {t:TypeId} {e s b:Nat} {agg:Bool} (h:tkOf P t=some (.slice e s b agg)):P.underlying t=some (.slice e)∧∃ i,P.info? e=some i∧i.size=s∧i.bytes=b∧aggOf P e=agg:=by
 unfold tkOf at h
 split at h
 ·simp only[Option.map_eq_some_iff] at h; obtain⟨_,_,h⟩:=h; cases h
 ·simp only[Option.map_eq_some_iff] at h; obtain⟨_,_,h⟩:=h; cases h
 ·rename_i e' he
  simp only[Option.map_eq_some_iff] at h
  obtain⟨i,h1,h⟩:=h
  cases h
  exact⟨he,i,(infoU_spec h1).1,rfl,rfl,rfl⟩
 ·cases h
 ·cases h
theorem tk_array {t:TypeId} {n s:Nat} {agg:Bool} (h:tkOf P t=some (.array n s agg)):∃ e,P.underlying t=some (.array n e)∧∃ i,P.info? e=some i∧i.size=s∧aggOf P e=agg∧∃ d0,P.underlying e=some d0:=by
 unfold tkOf at h
 split at h
 ·simp only[Option.map_eq_some_iff] at h; obtain⟨_,_,h⟩:=h; cases h
 ·rename_i m e' he
  simp only[Option.map_eq_some_iff] at h
  obtain⟨i,h1,h⟩:=h
  cases h
  exact⟨e',he,i,(infoU_spec h1).1,rfl,rfl,(infoU_spec h1).2⟩
 ·simp only[Option.map_eq_some_iff] at h; obtain⟨_,_,h⟩:=h; cases h
 ·cases h
 ·cases h
def FieldOk (P:Program) (f:Field) (r:Nat×Nat×Bool):Prop:=f.offset=r.1∧∃ i,P.info? f.type=some i∧i.size=r.2.1∧aggOf P f.type=r.2.2∧∃ d0,P.underlying f.type=some d0
theorem mapM_fields:∀ {l:List Field} {fs:List (Nat×Nat×Bool)},(l.mapM fun f=>(infoU P f.type).map fun i=>(f.offset,i.size,aggOf P f.type))=some fs→l.length=fs.length∧∀ (j:Nat) (r:Nat×Nat×Bool),fs[j]? = some r→∃ f,l[j]? = some f∧FieldOk P f r
 | [],fs,h=>by
  have:fs=[]:=by simpa using h.symm
  subst this; simp
 | f::l,fs,h=>by
  simp only[List.mapM_cons,Option.bind_eq_bind,Option.bind_eq_some_iff,Option.map_eq_some_iff,Option.pure_def,Option.some.injEq] at h
  obtain⟨r,⟨i,h1,rfl⟩,fs',h2,rfl⟩:=h
  obtain⟨h3,h4⟩:=mapM_fields h2
  refine⟨by simp[h3],fun j r hr => ?_⟩
  cases j with
  | zero=>simp only[List.getElem?_cons_zero,Option.some.injEq] at hr; subst hr; exact⟨f,rfl,rfl,i,(infoU_spec h1).1,rfl,rfl,(infoU_spec h1).2⟩
  | succ j=>simpa using h4 j r (by simpa using hr)
theorem tk_struct {t:TypeId} {fs:List (Nat×Nat×Bool)} (h:tkOf P t=some (.struct fs)):∃ fields:Array Field,P.underlying t=some (.struct fields)∧fields.size=fs.length∧∀ (j:Nat) (r:Nat×Nat×Bool),fs[j]? = some r→∃ f,fields[j]? = some f∧FieldOk P f r:=by
 unfold tkOf at h
 split at h
 ·rename_i fields he
  simp only[Option.map_eq_some_iff] at h
  obtain⟨fs',h1,h⟩:=h
  cases h
  obtain⟨h2,h3⟩:=mapM_fields h1
  exact⟨fields,he,by simpa using h2,fun j r hr=>by simpa using h3 j r hr⟩
 ·simp only[Option.map_eq_some_iff] at h; obtain⟨_,_,h⟩:=h; cases h
 ·simp only[Option.map_eq_some_iff] at h; obtain⟨_,_,h⟩:=h; cases h
 ·cases h
 ·cases h
theorem tk_agg {t:TypeId} {k:TK} (h:tkOf P t=some k):k.isAgg=aggOf P t∧∃ d,P.underlying t=some d:=by
 unfold tkOf at h
 unfold aggOf
 split at h
 ·rename_i fields he
  simp only[Option.map_eq_some_iff] at h; obtain⟨_,_,rfl⟩:=h; rw[he]; exact⟨rfl,_,rfl⟩
 ·rename_i n e he
  simp only[Option.map_eq_some_iff] at h; obtain⟨_,_,rfl⟩:=h; rw[he]; exact⟨rfl,_,rfl⟩
 ·rename_i e he
  simp only[Option.map_eq_some_iff] at h; obtain⟨_,_,rfl⟩:=h; rw[he]; exact⟨rfl,_,rfl⟩
 ·rename_i d h1 h2 h3 he
  cases h
  rw[he]
  refine⟨?_,_,rfl⟩
  cases d with
  | struct fs=>exact(h1 fs rfl).elim
  | array n e=>exact(h2 n e rfl).elim
  | _=>rfl
 ·cases h
theorem run_isAgg {t:TypeId} {d:TypeDesc} (h:P.underlying t=some d) (w:World):(isAgg t).run P w = .ok (aggOf P t) w:=by
 unfold isAgg aggOf
 simp only[Sem.run_bind,run_underlying h,Result.andThen_ok,h]
 cases d<;>rfl
theorem run_sizeOf {t:TypeId} {i:TypeInfo} (h:P.info? t=some i) (w:World):(sizeOf t).run P w = .ok i.size w:=by
 simp[sizeOf,typeInfo,h]
theorem rvs_agg {l:List DV} {v:Value} (h:RV x (.agg l) v):∃ vs,v = .agg vs∧RVs x l vs:=by cases h with | agg h hl=>exact⟨_,rfl,h,hl⟩
theorem flat_get {s:Nat}:∀ {rows:List DV},(∀ r∈rows,r.cells.length=s)→∀ {i:Nat} {r:DV},rows[i]? = some r→∀ {j:Nat},j<s→(flat rows)[i*s+j]? = r.cells[j]?
 | [],_,i,r,h,_,_=>by simp at h
 | r0::rows,hs,i,r,h,j,hj=>by
  have h0:r0.cells.length=s:=hs r0 (by simp)
  simp only[flat,List.flatMap_cons]
  cases i with
  | zero =>
   simp only[List.getElem?_cons_zero,Option.some.injEq] at h
   subst h
   rw[List.getElem?_append_left (by omega)]
   simp
  | succ i =>
   have he:(i+1)*s+j=s+(i*s+j):=by rw[Nat.succ_mul]; omega
   rw[he,List.getElem?_append_right (by omega),h0,Nat.add_sub_cancel_left]
   exact flat_get (rows:=rows) (fun r hr=>hs r (by simp[hr])) (by simpa using h) hj
theorem flat_len {s:Nat}:∀ {rows:List DV},(∀ r∈rows,r.cells.length=s)→(flat rows).length=rows.length*s
 | [],_=>by simp[flat]
 | r::rows,h=>by
  have:=flat_len (rows:=rows) fun r hr=>h r (by simp[hr])
  have h0:=h r (by simp)
  simp only[flat] at this
  simp only[flat,List.flatMap_cons,List.length_append,this,h0,List.length_cons,Nat.succ_mul]
  omega
theorem addr_add (b o n:Nat):(⟨b,o,none⟩:Addr).add n=⟨b,o+n,none⟩:=by unfold Addr.add; split<;>simp_all
theorem cutR_spec {l cs:List DV} {off n:Nat} (h:cutR l off n=some cs):cs.length=n∧off+n≤l.length∧∀ j,j<n→cs[j]? = l[off+j]? := by
 unfold cutR at h
 split at h
 ·cases h
  refine⟨by simp; omega,‹_›,fun j hj => ?_⟩
  rw[List.getElem?_take,if_pos hj,List.getElem?_drop]
 ·cases h
theorem load_part {t:TypeId} {i:TypeInfo} {d0:TypeDesc} {b o off size:Nat} {agg:Bool} {l:List DV} {d:DV} (hi:P.info? t=some i) (hu:P.underlying t=some d0) (hs:i.size=size) (ha:aggOf P t=agg)
  (hc:∀ j c,l[j]? = some c→∃ v,x.w.cell? ⟨b,o+j,none⟩=some v∧RV x c v) (h:partD agg size l off=some d):∃ v,(loadVar t ⟨b,o+off,none⟩).run P x.w = .ok v x.w∧RV x d v:=by
 unfold partD at h
 subst ha
 cases hag:aggOf P t with
 | true =>
  rw[hag,if_pos rfl,Option.map_eq_some_iff] at h
  obtain⟨cs,h1,rfl⟩:=h
  obtain⟨h2,h3,h4⟩:=cutR_spec h1
  have hf:∀ j,j<size→∃ v,x.w.cell? ⟨b,o+off+j,none⟩=some v∧∀ c,cs[j]? = some c→RV x c v:=by
   intro j hj
   have hlt:off+j<l.length:=by omega
   obtain⟨v,k1,k2⟩:=hc (off+j) l[off+j] (List.getElem?_eq_getElem hlt)
   refine⟨v,by rw[Nat.add_assoc]; exact k1,fun c hcs => ?_⟩
   rw[h4 j hj,List.getElem?_eq_getElem hlt] at hcs
   cases hcs
   exact k2
  let f:Nat→Value:=fun j=>if hj:j<size then (hf j hj).choose else undef
  have hf1:∀ j,j<size→x.w.cell? ⟨b,o+off+j,none⟩=some (f j):=fun j hj=>by
   simp only[f,dif_pos hj]; exact(hf j hj).choose_spec.1
  have hf2:∀ j,j<size→∀ c,cs[j]? = some c→RV x c (f j):=fun j hj=>by
   simp only[f,dif_pos hj]; exact(hf j hj).choose_spec.2
  refine⟨.agg ((List.range size).map f).toArray,?_,.agg (by simp[h2]) fun j c hcs => ?_⟩
  ·unfold loadVar
   simp only[Sem.run_bind,run_isAgg hu,hag,Result.andThen_ok,if_true,run_sizeOf hi,hs]
   rw[run_loadCells (P:=P) x.w ⟨b,o+off,none⟩ size f fun j hj=>by rw[addr_add]; exact hf1 j hj]
   rfl
  ·have hj:j<size:=by have:=(List.getElem?_eq_some_iff.1 hcs).1; omega
   have:=hf2 j hj c hcs
   simpa [Array.getD_eq_getD_getElem?,hj] using this
 | false =>
  rw[hag] at h
  simp only[Bool.false_eq_true,if_false] at h
  obtain⟨v,k1,k2⟩:=hc off d h
  refine⟨v,?_,k2⟩
  unfold loadVar
  simp only[Sem.run_bind,run_isAgg hu,hag,Result.andThen_ok,Bool.false_eq_true,if_false,run_load,k1]
theorem part_ok {t:TypeId} {i:TypeInfo} {d0:TypeDesc} {off size:Nat} {agg:Bool} {l:List DV} {arr:Array Value} {d:DV} (hi:P.info? t=some i) (hu:P.underlying t=some d0) (hs:i.size=size) (ha:aggOf P t=agg)
  (hc:RVs x l arr) (h:partD agg size l off=some d) (w:World):∃ v,(part t arr off).run P w = .ok v w∧RV x d v:=by
 unfold partD at h
 subst ha
 cases hag:aggOf P t with
 | true =>
  rw[hag,if_pos rfl,Option.map_eq_some_iff] at h
  obtain⟨cs,h1,rfl⟩:=h
  obtain⟨h2,h3,h4⟩:=cutR_spec h1
  refine⟨.agg (arr.extract off (off+size)),?_,.agg (by simp[h2,hc.1]; omega) fun j c hcs => ?_⟩
  ·unfold part
   simp only[Sem.run_bind,run_isAgg hu,hag,Result.andThen_ok,if_true,run_sizeOf hi,hs]
   rfl
  ·have hj:j<size:=by have:=(List.getElem?_eq_some_iff.1 hcs).1; omega
   rw[h4 j hj] at hcs
   have:=hc.2 _ _ hcs
   have hlt:off+j<arr.size:=by rw[hc.1]; omega
   simp only[Array.getD_eq_getD_getElem?,Array.getElem?_extract] at this ⊢
   rw[if_pos (by omega)]
   exact this
 | false =>
  rw[hag] at h
  simp only[Bool.false_eq_true,if_false] at h
  have hlt:off<arr.size:=by rw[hc.1]; exact(List.getElem?_eq_some_iff.1 h).1
  refine⟨arr[off],?_,by simpa [Array.getD_eq_getD_getElem?,hlt] using hc.2 _ _ h⟩
  unfold part
  simp only[Sem.run_bind,run_isAgg hu,hag,Result.andThen_ok,Bool.false_eq_true,if_false,Array.getElem?_eq_getElem hlt,Sem.run_pure]
theorem one_cell {d:DV} {v:Value} (h:RV x d v) (h1:d.one=true):v.oneCell'=true∧d.cells=[d]∧v.cells=#[v]:=by
 cases h with
 | @val v h =>
  cases v with
  | tuple vs=>simp[DV.one] at h1
  | agg vs=>simp[plainV] at h
  | _=>exact⟨rfl,rfl,rfl⟩
 | agg h hl=>simp[DV.one] at h1
 | tup h hl=>simp[DV.one] at h1
 | sl hv hr h1 h2 h3 hsp h4=>exact⟨rfl,rfl,rfl⟩
 | ptr h=>exact⟨rfl,rfl,rfl⟩
 | eptr hv hr=>exact⟨rfl,rfl,rfl⟩
 | fn h1 h2 h3 h4=>exact⟨rfl,rfl,rfl⟩
 | map h=>exact⟨rfl,rfl,rfl⟩
 | yld h=>exact⟨rfl,rfl,rfl⟩
theorem rv_cells {d:DV} {v:Value} (h:RV x d v):RVs x d.cells v.cells:=by
 have key:d.cells=[d]→v.cells=#[v]→RVs x d.cells v.cells:=fun h1 h2=>by
  rw[h1,h2]
  refine⟨rfl,fun j c hc => ?_⟩
  cases j with
  | zero=>simp only[List.getElem?_cons_zero,Option.some.injEq] at hc; subst hc; exact h
  | succ j=>simp at hc
 cases h with
 | agg h hl=>exact⟨h,hl⟩
 | @val v h =>
  cases v with
  | agg vs=>simp[plainV] at h
  | _=>exact key rfl rfl
 | _=>exact key rfl rfl
theorem cells_one {d:DV} {v:Value} (h:RV x d v) (h1:d.cells.all DV.one=true):∀ u∈v.cells.toList,u.oneCell'=true:=by
 intro u hu
 have hc:=rv_cells h
 obtain⟨j,hj,rfl⟩:=List.mem_iff_getElem.1 hu
 have hj':j<d.cells.length:=by rw[← hc.1]; simpa using hj
 have h2:=hc.2 j d.cells[j] (List.getElem?_eq_getElem hj')
 have h3:d.cells[j].one=true:=List.all_eq_true.1 h1 _ (List.getElem_mem hj')
 have h4:=(one_cell h2 h3).1
 have hj2:j<v.cells.size:=by simpa using hj
 simpa [Array.getD_eq_getD_getElem?,hj2] using h4
theorem putR_spec {l cs l':List DV} {off:Nat} (h:putR l off cs=some l'):off+cs.length≤l.length∧l'=l.take off++cs++l.drop (off+cs.length):=by
 unfold putR at h
 split at h
 ·cases h; exact⟨‹_›,rfl⟩
 ·cases h
theorem rvs_put {l cs l':List DV} {arr vs:Array Value} {off:Nat} (hl:RVs x l arr) (hv:RVs x cs vs) (h:putR l off cs=some l'):RVs x l' (arr.toList.take off++vs.toList++arr.toList.drop (off+vs.size)).toArray:=by
 obtain⟨h1,rfl⟩:=putR_spec h
 have e1:=hl.1
 have e2:=hv.1
 refine⟨by simp; omega,fun j c hc => ?_⟩
 simp only[Array.getD_eq_getD_getElem?,List.getElem?_toArray]
 have ha:=fun j c (hc:l[j]? = some c)=>hl.2 j c hc
 by_cases c1:j<off
 ·rw[List.append_assoc,List.getElem?_append_left (by simp; omega),List.getElem?_take,if_pos c1] at hc ⊢
  have:=ha j c hc
  simpa [Array.getD_eq_getD_getElem?] using this
 ·by_cases c2:j<off+cs.length
  ·rw[List.getElem?_append_left (by simp; omega),List.getElem?_append_right (by simp; omega)] at hc ⊢
   have e3:(l.take off).length=off:=by simp; omega
   have e4:(arr.toList.take off).length=off:=by simp; omega
   rw[e3] at hc
   rw[e4]
   have:=hv.2 _ _ hc
   simpa [Array.getD_eq_getD_getElem?] using this
  ·have e3:(l.take off++cs).length=off+cs.length:=by simp; omega
   have e4:(arr.toList.take off++vs.toList).length=off+cs.length:=by simp; omega
   rw[List.getElem?_append_right (by omega),e3,List.getElem?_drop] at hc
   rw[List.getElem?_append_right (by omega),e4,List.getElem?_drop]
   have e5:off+vs.size+(j-(off+cs.length))=off+cs.length+(j-(off+cs.length)):=by omega
   rw[e5]
   have:=ha _ c hc
   simpa [Array.getD_eq_getD_getElem?] using this
end Go.Di
end
section
namespace Go.Di
open Go
variable {P:Program} {ty:Tys} {x:Cx} {w':World} {iso:IsoF} {call:CallF}
def Yields (x:Cx) (r:Result Next) (d:DV) (S':Store):Prop:=∃ v y,(r = .ok (.value v) y.w∨(r = .ok .skip y.w∧v=undef))∧y.S=S'∧Rel y∧Mono x y∧RV y d v
theorem yields_v {s:Sem Value} {d:DV} {S':Store} {v:Value} {y:Cx} (h:s.run P x.w = .ok v y.w) (h1:y.S=S') (h2:Rel y) (h3:Mono x y) (h4:RV y d v):Yields x ((do pure (.value (← s)):Sem Next).run P x.w) d S' :=
 ⟨v,y,.inl (by simp[h]),h1,h2,h3,h4⟩
theorem yields_here {s:Sem Value} {d:DV} {v:Value} (hR:Rel x) (h:s.run P x.w = .ok v x.w) (h4:RV x d v):Yields x ((do pure (.value (← s)):Sem Next).run P x.w) d x.S:=yields_v h rfl hR (Mono.refl x) h4
theorem yields_u {s:Sem Unit} {S':Store} {y:Cx} (h:s.run P x.w = .ok () y.w) (h1:y.S=S') (h2:Rel y) (h3:Mono x y):Yields x ((do s; pure .skip:Sem Next).run P x.w) dundef S' :=
 ⟨undef,y,.inr ⟨by simp[h],rfl⟩,h1,h2,h3,.val rfl⟩
theorem pureD_run {s:Sem Value} {d:DV} (h:pureD P s=some d) (w:World):∃ v,s.run P w = .ok v w∧RV x d v:=by
 unfold pureD at h
 simp only[Option.bind_eq_some_iff] at h
 obtain⟨v,h1,h2⟩:=h
 exact⟨v,pureS_run h1 w,rv_ofVal h2⟩
def TyOk (P:Program) (ty:Tys):Prop:=∀ t d,ty t=some d→tyOf P t=some d
variable {ρd:Operand→Option DV} {ρ:Operand→Value} {o:Oper} {nid:Nat}
def Opds (x:Cx) (ρd:Operand→Option DV) (ρ:Operand→Value):Prop:=∀ a d,ρd a=some d→RV x d (ρ a)
theorem valOf_ok (hρ:Opds x ρd ρ) {a:Operand} {v:Value} (h:valOf ρd a=some v):ρ a=v:=by
 unfold valOf at h
 simp only[Option.bind_eq_some_iff] at h
 obtain⟨d,h1,h2⟩:=h
 exact rv_toVal (hρ a d h1) h2
theorem intOf_ok (hρ:Opds x ρd ρ) {a:Operand} {n:Int} (h:intOf ρd a=some n):∃ k,ρ a = .int k n:=by
 unfold intOf at h
 split at h
 ·rename_i k m h1
  cases h
  exact⟨k,rv_val (hρ a _ h1)⟩
 ·cases h
theorem evs_ok (hρ:Opds x ρd ρ):∀ {l:List Operand} {r:List DV},evs ρd l=some r→RVs x r (l.map ρ).toArray
 | [],r,h=>by simp only[evs,Option.some.injEq] at h; subst h; exact⟨rfl,by simp⟩
 | a::l,r,h=>by
  unfold evs at h
  split at h
  ·rename_i d r' h1 h2
   cases h
   obtain⟨h3,h4⟩:=evs_ok hρ h2
   refine⟨by simpa using h3,fun j c hc => ?_⟩
   cases j with
   | zero=>simp only[List.getElem?_cons_zero,Option.some.injEq] at hc; subst hc; exact hρ a _ h1
   | succ j=>simpa [Array.getD_eq_getD_getElem?] using h4 j c (by simpa using hc)
  ·cases h
theorem op_alloc (hty:TyOk P ty) (hR:Rel x) (hn:Nid x.S nid) {e:TypeId} {k:TK} {sz:Nat} {z:List DV} (h:ty e=some ⟨k,sz,some z⟩) :
  Yields x ((do pure (.value (← Instr.alloc e true (.tuple #[]))):Sem Next).run P x.w) (.ptr nid 0) (setS x.S nid (.cells z)):=by
 obtain⟨-,i,hi,-,hz⟩:=tyOf_info (hty e _ h)
 obtain⟨zv,h1,h2,-⟩:=zeroOf_spec hz
 obtain⟨h3,h4⟩:=rv_ofCells (x:=x) h2
 have hp:Push x.w (x.w.alloc (.cells zv.cells e)) (.cells zv.cells e (0,0)):=push_alloc _ _
 have hR':=rel_fresh (k:=0) (F:=fun _=>False) (b := .cells z) hR hn hp (by simp) (.inl ⟨z,zv.cells,e,rfl,rfl,by simpa using h3,by simp,fun j c hc=>by simpa [Array.getD_eq_getD_getElem?,List.getD_eq_getElem?_getD] using h4 j c hc⟩)
 refine yields_v (y:=x.fresh _ nid 0 (fun _=>False) (.cells z)) (v := .pointer (some ⟨x.w.heap.size,0,none⟩)) ?_ rfl hR' (mono_fresh hR hn hp) ?_
 ·simp[Instr.alloc,zeroValue,typeInfo,hi,h1,newVar,newRow,Cx.fresh]
 ·have:(x.fresh (x.w.alloc (.cells zv.cells e)) nid 0 (fun _=>False) (.cells z)).μ nid=x.w.heap.size:=if_pos rfl
  rw[← this]
  exact .ptr (l:=z) (by show (setS _ _ _)[_]? = _; rw[setS_get hn.le,if_pos rfl])
theorem op_box (hR:Rel x) (hn:Nid x.S nid) {e:TypeId} {d:DV} {v:Value} (h:RV x d v) :
  Yields x ((do pure (.value (← Instr.box e v)):Sem Next).run P x.w) (.ptr nid 0) (setS x.S nid (.cells d.cells)):=by
 obtain⟨h3,h4⟩:=rv_cells h
 have hp:Push x.w (x.w.alloc (.cells v.cells e)) (.cells v.cells e (0,0)):=push_alloc _ _
 have hR':=rel_fresh (k:=0) (F:=fun _=>False) (b := .cells d.cells) hR hn hp (by simp) (.inl ⟨d.cells,v.cells,e,rfl,rfl,h3,by simp,h4⟩)
 refine yields_v (y:=x.fresh _ nid 0 (fun _=>False) (.cells d.cells)) (v := .pointer (some ⟨x.w.heap.size,0,none⟩)) ?_ rfl hR' (mono_fresh hR hn hp) ?_
 ·simp[Instr.box,newVar,newRow,Cx.fresh]
 ·have:(x.fresh (x.w.alloc (.cells v.cells e)) nid 0 (fun _=>False) (.cells d.cells)).μ nid=x.w.heap.size:=if_pos rfl
  rw[← this]
  exact .ptr (l:=d.cells) (by show (setS _ _ _)[_]? = _; rw[setS_get hn.le,if_pos rfl])
theorem view_cell {rows:List DV} {b o s:Nat} {vs:Nat→Value} (hv:View x rows (some ⟨b,o,none⟩) s vs) (hr:∀ j c,(flat rows)[j]? = some c→RV x c (vs j)) {i:Nat} {r:DV} (h:rows[i]? = some r) :
  ∀ j c,r.cells[j]? = some c→∃ v,x.w.cell? ⟨b,o+i*s+j,none⟩=some v∧RV x c v:=by
 intro j c hc
 have hj:j<s:=by rw[← hv.1 r (List.mem_of_getElem? h)]; exact(List.getElem?_eq_some_iff.1 hc).1
 have hf:=flat_get hv.1 h hj
 rw[hc] at hf
 obtain⟨-,b',o',h1,-,h2⟩:=hv.2 _ _ hf
 cases h1
 exact⟨_,by rw[Nat.add_assoc]; exact h2,hr _ _ hf⟩
theorem loadD_ok (hty:TyOk P ty) (hR:Rel x) {t:TypeId} {a d:DV} {va:Value} (ha:RV x a va) (h:loadD ty x.S t a=some d):∃ v,(Instr.loadAt t va).run P x.w = .ok v x.w∧RV x d v:=by
 unfold loadD at h
 split at h
 ·rename_i td id off hk
  obtain⟨k,sz,z⟩:=td
  obtain⟨hk1,i,hi,hs,-⟩:=tyOf_info (hty t _ hk)
  obtain⟨hag,d0,hu⟩:=tk_agg hk1
  split at h
  ·rename_i l hl
   obtain⟨arr,e,h1,h2,h3⟩:=hR.cells id l hl
   cases ha with
   | ptr _ =>
    have:=load_part (x:=x) (b:=x.μ id) (o:=0) (l:=l) hi hu hs hag.symm (fun j c hc => ?_) h
    ·obtain⟨v,h4,h5⟩:=this
     refine⟨v,?_,h5⟩
     simpa [Instr.loadAt,Instr.sureAddr] using h4
    ·have hj:j<arr.size:=by rw[h2]; exact(List.getElem?_eq_some_iff.1 hc).1
     refine⟨arr[j],?_,by simpa [Array.getD_eq_getD_getElem?,hj] using h3 j c hc⟩
     simp[World.cell?,h1,hj]
  ·cases h
 ·rename_i td rows i off hk
  obtain⟨k,sz,z⟩:=td
  obtain⟨hk1,inf,hi,hs,-⟩:=tyOf_info (hty t _ hk)
  obtain⟨hag,d0,hu⟩:=tk_agg hk1
  split at h
  ·rename_i r hr
   cases ha with
   | @eptr _ _ _ b o s vs hv hrv =>
    obtain⟨v,h4,h5⟩:=load_part (x:=x) (b:=b) (o:=o+i*s) (l:=r.cells) hi hu hs hag.symm (view_cell hv hrv hr) h
    refine⟨v,?_,h5⟩
    rw[Nat.add_assoc] at h4
    simpa [Instr.loadAt,Instr.sureAddr] using h4
  ·cases h
 ·cases h
theorem storeD_ok (hty:TyOk P ty) (hR:Rel x) {t:TypeId} {a d:DV} {va vd:Value} {S':Store} (ha:RV x a va) (hd:RV x d vd) (h:storeD ty x.S t a d=some S') :
  ∃ y,(Instr.storeAt t va vd).run P x.w = .ok () y.w∧y.S=S'∧Rel y∧Mono x y:=by
 unfold storeD at h
 split at h
 ·rename_i td id off hk
  obtain⟨k,sz,z⟩:=td
  obtain⟨hk1,i,hi,hs,-⟩:=tyOf_info (hty t _ hk)
  split at h
  ·rename_i l hl
   split at h
   ·rename_i hc
    simp only[Bool.and_eq_true,decide_eq_true_eq] at hc
    simp only[Option.map_eq_some_iff] at h
    obtain⟨l',h6,rfl⟩:=h
    obtain⟨arr,e,h1,h2,h3⟩:=hR.cells id l hl
    have hcells:=rv_cells hd
    cases ha with
    | ptr _ =>
     have hp:=rvs_put ⟨h2,h3⟩ hcells h6
     obtain⟨h7,h8⟩:=putR_spec h6
     refine⟨x.upd id (arr.toList.take off++vd.cells.toList++arr.toList.drop (off+vd.cells.size)).toArray (fun _=>False) (.cells l'),?_,rfl,rel_upd hR hl (.inl ⟨l,l',rfl,rfl,by simp,hp.1,hp.2⟩),mono_upd hR hl (.inl ⟨l,l',rfl,rfl⟩)⟩
     have hst:=run_storeCells_at P (x.μ id) off e vd.cells.toList 0 arr x.w h1 (by simp only[Nat.add_zero,Array.length_toList]; rw[hcells.1,h2]; exact h7) (cells_one hd hc.2)
     simp only[Nat.add_zero,Array.length_toList] at hst
     have hsz:¬ (vd.cells.size≠i.size):=by rw[hcells.1,hc.1,hs]; simp
     simp only[Instr.storeAt,Instr.sureAddr,Sem.run_bind,Sem.run_pure,Result.andThen_ok,storeVar,run_sizeOf hi,if_neg hsz]
     exact hst
   ·cases h
  ·cases h
 ·cases h
end Go.Di
end
section
namespace Go.Di
open Go
variable {P : Program} {ty : Tys} {x : Cx} {w' : World} {ρd : Operand → Option DV} {ρ : Operand → Value} {o : Oper} {nid : Nat}
theorem foldl_set_get (off : Nat) : ∀ (cs : List Value) (i : Nat) (arr : Array Value), off + i + cs.length ≤ arr.size →
    ((cs.zipIdx i).foldl (fun a (p : Value × Nat) => a.setIfInBounds (off + p.2) p.1) arr) = (arr.toList.take (off + i) ++ cs ++ arr.toList.drop (off + i + cs.length)).toArray
  | [], i, arr, _ => by simp
  | c :: cs, i, arr, h => by
    simp only [List.length_cons] at h
    simp only [List.zipIdx_cons, List.foldl_cons]
    rw [foldl_set_get off cs (i + 1) _ (by simp; omega)]
    have e := list_seg_step arr.toList (off + i) c cs (by simp; omega)
    congr 1
    simpa [Array.toList_setIfInBounds, Nat.add_assoc] using e
theorem fold_eq (off : Nat) (cs arr : Array Value) (h : off + cs.size ≤ arr.size) :
    cs.zipIdx.foldl (fun a (p : Value × Nat) => a.setIfInBounds (off + p.2) p.1) arr = (arr.toList.take off ++ cs.toList ++ arr.toList.drop (off + cs.size)).toArray := by
  have := foldl_set_get off cs.toList 0 arr (by simpa using h)
  rw [← Array.foldl_toList]
  simpa using this
def Prts (x : Cx) (r : List (Nat × DV)) (vs : List (Nat × Value)) : Prop := vs.length = r.length ∧ ∀ (j : Nat) (p : Nat × DV), r[j]? = some p → ∃ v, vs[j]? = some (p.1, v) ∧ RV x p.2 v
def vparts (ρ : Operand → Value) (l : List (Nat × Operand)) : List (Nat × Value) := l.map fun p => (p.1, ρ p.2)
theorem partsD_ok (hρ : Opds x ρd ρ) : ∀ {l : List (Nat × Operand)} {r : List (Nat × DV)}, partsD ρd l = some r → Prts x r (vparts ρ l)
  | [], r, h => by simp only [partsD, Option.some.injEq] at h; subst h; exact ⟨rfl, by simp⟩
  | (i, a) :: l, r, h => by
    unfold partsD at h
    split at h
    · rename_i d r' h1 h2
      cases h
      obtain ⟨h3, h4⟩ := partsD_ok hρ h2
      refine ⟨by simpa [vparts] using h3, fun j p hp => ?_⟩
      cases j with
      | zero => simp only [List.getElem?_cons_zero, Option.some.injEq] at hp; subst hp; exact ⟨ρ a, rfl, hρ a d h1⟩
      | succ j => simpa [vparts] using h4 j p (by simpa using hp)
    · cases h
theorem fill_ok {pd pl : Nat → Option (Nat × Nat)} (hpl : ∀ i p, pd i = some p → pl i = some p) : ∀ {r : List (Nat × DV)} {vs : List (Nat × Value)} {l l' : List DV} {arr : Array Value}, Prts x r vs → RVs x l arr → fillD pd l r = some l' → ∃ arr', Instr.fill pl arr vs = some arr' ∧ RVs x l' arr'
  | [], vs, l, l', arr, hv, hl, h => by
    have : vs = [] := List.eq_nil_of_length_eq_zero (by simpa using hv.1)
    subst this
    simp only [fillD, Option.some.injEq] at h
    subst h
    exact ⟨arr, rfl, hl⟩
  | (i, d) :: r, vs, l, l', arr, hv, hl, h => by
    obtain ⟨v, hv0, hd⟩ := hv.2 0 (i, d) rfl
    have hd : RV x d v := hd
    cases vs with
    | nil => simp at hv0
    | cons v0 vs =>
      simp only [List.getElem?_cons_zero, Option.some.injEq] at hv0
      subst hv0
      unfold fillD at h
      split at h
      · cases h
      · rename_i off size hp
        split at h
        · rename_i hsz
          split at h
          · rename_i l1 h1
            have hc := rv_cells hd
            obtain ⟨h2, h3⟩ := putR_spec h1
            have hpu := rvs_put hl hc h1
            obtain ⟨arr', h4, h5⟩ := fill_ok hpl (r := r) (vs := vs) ⟨by simpa using hv.1, fun j p hj => by simpa using hv.2 (j + 1) p (by simpa using hj)⟩ hpu h
            refine ⟨arr', ?_, h5⟩
            unfold Instr.fill
            simp only [hpl i _ hp]
            have c1 : v.cells.size = size := by rw [hc.1, ← hsz]
            have c2 : ¬ (v.cells.size ≠ size ∨ off + v.cells.size > arr.size) := by rw [hl.1, hc.1]; omega
            simp only [gt_iff_lt, Bool.or_eq_true, decide_eq_true_eq, c2, if_false]
            rw [fold_eq off v.cells arr (by rw [hl.1, hc.1]; exact h2)]
            exact h4
          · cases h
        · cases h
theorem op_build_struct (hty : TyOk P ty) (hR : Rel x) (hρ : Opds x ρd ρ) {t : TypeId} {fs : List (Nat × Nat × Bool)} {sz : Nat} {z cs : List DV} {ps : Array (Nat × Operand)} {l : List (Nat × DV)} (h : ty t = some ⟨.struct fs, sz, some z⟩) (hl : partsD ρd ps.toList = some l)
    (hf : fillD (fun i => (fs[i]?).map fun f => (f.1, f.2.1)) z l = some cs) : Yields x ((do pure (.value (← Instr.build t (ps.map fun p => (p.1, ρ p.2)))) : Sem Next).run P x.w) (.agg cs) x.S := by
  obtain ⟨hk, i, hi, -, hz⟩ := tyOf_info (hty t _ h)
  obtain ⟨fields, hu, hfs, hff⟩ := tk_struct hk
  obtain ⟨zv, h1, h2, -⟩ := zeroOf_spec hz
  obtain ⟨h3, h4⟩ := rv_ofCells (x := x) h2
  have hz' : RVs x z zv.cells := ⟨by simpa using h3, fun j c hc => by simpa [Array.getD_eq_getD_getElem?, List.getD_eq_getElem?_getD] using h4 j c hc⟩
  have hpl : ∀ w : World, (fields.mapM (fun f => do pure (f.offset, ← sizeOf f.type) : Field → Sem (Nat × Nat))).run P w = .ok ((fs.map fun f => (f.1, f.2.1)).toArray) w := by
    intro w
    have key : ∀ (l : List Field) (fs : List (Nat × Nat × Bool)), l.length = fs.length → (∀ (j : Nat) (r : Nat × Nat × Bool), fs[j]? = some r → ∃ f, l[j]? = some f ∧ FieldOk P f r) → (l.mapM (fun f => do pure (f.offset, ← sizeOf f.type) : Field → Sem (Nat × Nat))).run P w = .ok (fs.map fun f => (f.1, f.2.1)) w := by
      intro l
      induction l with
      | nil => intro fs h _; have : fs = [] := List.eq_nil_of_length_eq_zero (by simpa using h.symm); subst this; rfl
      | cons f l ih =>
        intro fs h hj
        cases fs with
        | nil => simp at h
        | cons r fs =>
          obtain ⟨f', h1, h2, inf, h3, h4, -, -⟩ := hj 0 r rfl
          simp only [List.getElem?_cons_zero, Option.some.injEq] at h1
          subst h1
          have := ih fs (by simpa using h) fun j r hr => by simpa using hj (j + 1) r (by simpa using hr)
          simp only [List.mapM_cons, Sem.run_bind, run_sizeOf h3, Result.andThen_ok, Sem.run_pure, this, List.map_cons]
          rw [h2, h4]
    rw [Array.mapM_eq_mapM_toList]
    simp only [Sem.run_map, key fields.toList fs (by simpa using hfs) (fun j r hr => by simpa using hff j r hr), Result.andThen_ok]
  have hpr := partsD_ok hρ hl
  obtain ⟨arr, h5, h6⟩ := fill_ok (x := x) (pl := fun i => ((fs.map fun f => (f.1, f.2.1)).toArray)[i]?) (fun i p hp => by simpa using hp) (vs := vparts ρ ps.toList) hpr hz' hf
  unfold vparts at h5
  refine yields_here hR (v := .agg arr) ?_ (.agg h6.1 h6.2)
  simp only [Instr.build, Sem.run_bind, zeroValue, typeInfo, run_program, Result.andThen_ok, hi, Sem.run_pure, h1, run_underlying hu, hpl, Array.toList_map, h5]
theorem op_build_array (hty : TyOk P ty) (hR : Rel x) (hρ : Opds x ρd ρ) {t : TypeId} {n s sz : Nat} {agg : Bool} {z cs : List DV} {ps : Array (Nat × Operand)} {l : List (Nat × DV)} (h : ty t = some ⟨.array n s agg, sz, some z⟩) (hl : partsD ρd ps.toList = some l)
    (hf : fillD (fun i => some (i * s, s)) z l = some cs) : Yields x ((do pure (.value (← Instr.build t (ps.map fun p => (p.1, ρ p.2)))) : Sem Next).run P x.w) (.agg cs) x.S := by
  obtain ⟨hk, i, hi, -, hz⟩ := tyOf_info (hty t _ h)
  obtain ⟨e, hu, ie, hie, hse, -, -⟩ := tk_array hk
  obtain ⟨zv, h1, h2, -⟩ := zeroOf_spec hz
  obtain ⟨h3, h4⟩ := rv_ofCells (x := x) h2
  have hz' : RVs x z zv.cells := ⟨by simpa using h3, fun j c hc => by simpa [Array.getD_eq_getD_getElem?, List.getD_eq_getElem?_getD] using h4 j c hc⟩
  have hpr := partsD_ok hρ hl
  obtain ⟨arr, h5, h6⟩ := fill_ok (x := x) (pl := fun i => some (i * s, s)) (fun i p hp => hp) (vs := vparts ρ ps.toList) hpr hz' hf
  unfold vparts at h5
  refine yields_here hR (v := .agg arr) ?_ (.agg h6.1 h6.2)
  subst hse
  simp only [Instr.build, Sem.run_bind, zeroValue, typeInfo, run_program, Result.andThen_ok, hi, Sem.run_pure, h1, run_underlying hu, run_sizeOf hie, Array.toList_map, h5]
theorem flatten_rep {z : List DV} {s : Nat} (hs : z.length = s) : ∀ (n j : Nat), j < n * s → ((List.replicate n z).flatten)[j]? = z[j % s]?
  | 0, j, h => by simp at h
  | n + 1, j, h => by
    have hpos : 0 < s := by
      rcases Nat.eq_zero_or_pos s with h0 | h0
      · subst h0; simp at h
      · exact h0
    simp only [List.replicate_succ, List.flatten_cons]
    by_cases hj : j < s
    · rw [List.getElem?_append_left (by omega), Nat.mod_eq_of_lt hj]
    · rw [List.getElem?_append_right (by omega), hs, flatten_rep hs n (j - s) (by rw [Nat.succ_mul] at h; omega), ← Nat.mod_eq_sub_mod (by omega)]
theorem rows_cells {s : Nat} {agg : Bool} {l : List DV} {n : Nat} (hl : l.length = n * s) (hs : 0 < s) (ha : agg = true ∨ s = 1) (hp : ∀ c ∈ l, c.pure1 = true) : ∀ i, i < n → (rowOf s agg l i).cells = (l.drop (i * s)).take s := by
  intro i hi
  have h1 : i * s + s ≤ l.length := by rw [hl, ← Nat.succ_mul]; exact Nat.mul_le_mul_right _ hi
  unfold rowOf
  cases agg with
  | true => rfl
  | false =>
    have hs1 : s = 1 := by simpa using ha
    subst hs1
    have hlt : i * 1 < l.length := by omega
    have e : l.getD (i * 1) dundef = l[i * 1] := by rw [List.getD_eq_getElem?_getD, List.getElem?_eq_getElem hlt]; rfl
    have hpu := hp l[i * 1] (List.getElem_mem hlt)
    simp only [Bool.false_eq_true, if_false, e]
    have hc : (l[i * 1]).cells = [l[i * 1]] := by
      revert hpu
      generalize l[i * 1] = c
      cases c <;> simp [DV.pure1, DV.cells]
    rw [hc, List.drop_eq_getElem_cons hlt, List.take_succ_cons, List.take_zero]
theorem flat_rows {s : Nat} {agg : Bool} {l : List DV} (hs : 0 < s) (ha : agg = true ∨ s = 1) (hp : ∀ c ∈ l, c.pure1 = true) : ∀ n, l.length = n * s → flat (rowsOf s agg l n) = l ∧ ∀ r ∈ rowsOf s agg l n, r.cells.length = s := by
  intro n hl
  have hc := rows_cells hl hs ha hp
  have hlen : ∀ r ∈ rowsOf s agg l n, r.cells.length = s := by
    intro r hr
    unfold rowsOf at hr
    simp only [List.mem_map, List.mem_range] at hr
    obtain ⟨i, hi, rfl⟩ := hr
    rw [hc i hi, List.length_take, List.length_drop]
    have h1 : i * s + s ≤ l.length := by rw [hl, ← Nat.succ_mul]; exact Nat.mul_le_mul_right _ hi
    omega
  refine ⟨?_, hlen⟩
  have hfl := flat_len hlen
  have hrl : (rowsOf s agg l n).length = n := by simp [rowsOf]
  refine List.ext_getElem? fun j => ?_
  by_cases hj : j < n * s
  · have hdiv : j / s < n := by rw [Nat.div_lt_iff_lt_mul hs]; exact hj
    have hmod : j % s < s := Nat.mod_lt _ hs
    have hje : j = (j / s) * s + j % s := by rw [Nat.mul_comm]; exact (Nat.div_add_mod j s).symm
    have hr : (rowsOf s agg l n)[j / s]? = some (rowOf s agg l (j / s)) := by simp [rowsOf, hdiv]
    rw [hje, flat_get hlen hr hmod, hc _ hdiv, List.getElem?_take, if_pos hmod, List.getElem?_drop]
  · rw [List.getElem?_eq_none (by rw [hfl, hrl]; omega), List.getElem?_eq_none (by omega)]
theorem view_new {rows : List DV} {arr : Array Value} {s b : Nat} {y : Cx} {e : TypeId} (h1 : ∀ r ∈ rows, r.cells.length = s) (h2 : ∀ c ∈ flat rows, c.pure1 = true) (h3 : (flat rows).length ≤ arr.size) (hb : y.w.heap[b]? = some (.cells arr e (0, 0))) (hF : ∀ j, j < (flat rows).length → y.Fz b j) :
    View y rows (some ⟨b, 0, none⟩) s (fun j => arr.getD j undef) := by
  refine ⟨h1, fun j c hc => ⟨h2 c (List.mem_of_getElem? hc), b, 0, rfl, ?_, ?_⟩⟩
  · rw [Nat.zero_add]; exact hF j (List.getElem?_eq_some_iff.1 hc).1
  · have hj : j < arr.size := Nat.lt_of_lt_of_le (List.getElem?_eq_some_iff.1 hc).1 h3
    simp [World.cell?, hb, hj, Array.getD_eq_getD_getElem?]
theorem op_buildSlice (hty : TyOk P ty) (hR : Rel x) (hρ : Opds x ρd ρ) {t e : TypeId} {n s by_ sz sz' : Nat} {agg : Bool} {k : TK} {z0 : Option (List DV)} {z cs : List DV} {ps : Array (Nat × Operand)} {l : List (Nat × DV)} (h : ty t = some ⟨.slice e s by_ agg, sz, z0⟩) (hl : partsD ρd ps.toList = some l) (he : ty e = some ⟨k, sz', some z⟩)
    (hs : 0 < s) (hn : n * s ≤ 16777216) (hf : fillD (fun i => some (i * s, s)) ((List.replicate n z).flatten) (l.map fun (i, v) => (i, v.strip)) = some cs) (hp : cs.all DV.pure1 = true) (ha : agg = true ∨ s = 1) :
    Yields x ((do pure (.value (← Instr.buildSlice t n (ps.map fun p => (p.1, ρ p.2)))) : Sem Next).run P x.w) (.sl (rowsOf s agg cs n) none ⟨true, some false⟩) x.S := by
  obtain ⟨hk, i, hi, -, -⟩ := tyOf_info (hty t _ h)
  obtain ⟨hu, ie, hie, hse, -, hag⟩ := tk_slice hk
  obtain ⟨-, ie', hie', -, hz⟩ := tyOf_info (hty e _ he)
  rw [hie] at hie'
  cases hie'
  obtain ⟨zv, h1, h2, hzl⟩ := zeroOf_spec hz
  obtain ⟨h3, h4⟩ := rv_ofCells (x := x) h2
  have hzs : zv.cells.size = s := by rw [← hse, ← hzl]; simpa using h3
  have hzl' : z.length = s := by rw [hzl, hse]
  have hz' : RVs x ((List.replicate n z).flatten) ((Array.range (n * s)).map (zv.cells[· % zv.cells.size]!)) := by
    refine ⟨by simp [hzl'], fun j c hc => ?_⟩
    have hj : j < n * s := by have := (List.getElem?_eq_some_iff.1 hc).1; simpa [hzl'] using this
    rw [flatten_rep hzl' n j hj] at hc
    have hm : j % s < s := Nat.mod_lt _ hs
    have := h4 _ c hc
    have hm' : j % zv.cells.size < zv.cells.size := by rw [hzs]; exact hm
    have e1 : ((Array.range (n * s)).map (zv.cells[· % zv.cells.size]!)).getD j undef = zv.cells[j % zv.cells.size]! := by simp [Array.getD_eq_getD_getElem?, hj]
    rw [e1, getElem!_pos zv.cells (j % zv.cells.size) hm']
    have e2 : zv.cells.toList.getD (j % s) undef = zv.cells[j % zv.cells.size] := by simp [List.getD_eq_getElem?_getD, ← hzs, hm']
    rw [← e2]
    exact this
  have hpr : Prts x (l.map fun (i, v) => (i, v.strip)) (vparts ρ ps.toList) := by
    have := partsD_ok hρ hl
    refine ⟨by simpa using this.1, fun j p hp => ?_⟩
    simp only [List.getElem?_map, Option.map_eq_some_iff] at hp
    obtain ⟨q, hq, rfl⟩ := hp
    obtain ⟨v, hv1, hv2⟩ := this.2 j q hq
    exact ⟨v, by simpa using hv1, hv2.strip⟩
  obtain ⟨arr, h5, h6⟩ := fill_ok (x := x) (pl := fun i => some (i * s, s)) (fun i p hp => hp) hpr hz' hf
  have hcs : cs.length = n * s := by
    have key : ∀ (r : List (Nat × DV)) (l l' : List DV), fillD (fun i => some (i * s, s)) l r = some l' → l'.length = l.length := by
      intro r
      induction r with
      | nil => intro l l' h; simp only [fillD, Option.some.injEq] at h; rw [h]
      | cons p r ih =>
        intro l l' h
        obtain ⟨i, d⟩ := p
        unfold fillD at h
        simp only at h
        split at h
        · split at h
          · rename_i l1 h1
            rw [ih _ _ h]
            obtain ⟨h2, rfl⟩ := putR_spec h1
            simp; omega
          · cases h
        · cases h
    rw [key _ _ _ hf]; simp [hzl']
  have hpp : ∀ c ∈ cs, c.pure1 = true := fun c hc => List.all_eq_true.1 hp c hc
  obtain ⟨hfl, hrl⟩ := flat_rows hs ha hpp n hcs
  have hpu : Push x.w (x.w.alloc (.cells arr e)) (.cells arr e (0, 0)) := push_alloc _ _
  have hR' := rel_froze (F := fun o => o < arr.size) hR hpu fun o ho => ⟨arr[o], by simp [ho]⟩
  have hrn : (rowsOf s agg cs n).length = n := by simp [rowsOf]
  have hnew : (x.w.alloc (.cells arr e)).heap[x.w.heap.size]? = some (.cells arr e (0, 0)) := hpu.new
  have hsize : arr.size = cs.length := h6.1
  have M := mono_froze (F := fun o => o < arr.size) hR hpu
  refine yields_v (y := x.froze _ (fun o => o < arr.size)) (v := .slice (some ⟨x.w.heap.size, 0, none⟩) n n) ?_ rfl hR' M ?_
  · subst hse
    have c1 : ¬ (n * ie.size > 2 ^ 24) := by have e : (2 : Nat) ^ 24 = 16777216 := by decide
                                             rw [e]; omega
    have h5' : Instr.fill (fun i => some (i * ie.size, ie.size)) ((Array.range (n * ie.size)).map (zv.cells[· % zv.cells.size]!)) (ps.toList.map fun p => (p.1, ρ p.2)) = some arr := h5
    by_cases h0 : n * ie.size = 0
    · have e0 : (Array.range (n * ie.size)).map ((#[] : Array Value)[· % (#[] : Array Value).size]!) = (Array.range (n * ie.size)).map (zv.cells[· % zv.cells.size]!) := by rw [h0]; simp
      simp only [Instr.buildSlice, Sem.run_bind, run_underlying hu, Result.andThen_ok, run_sizeOf hie, if_neg c1, if_pos h0, Sem.run_pure, e0, Array.toList_map, h5', newRow, run_newObj]
      rfl
    · simp only [Instr.buildSlice, Sem.run_bind, run_underlying hu, Result.andThen_ok, run_sizeOf hie, if_neg c1, if_neg h0, Sem.run_pure, zeroValue, typeInfo, run_program, hie, h1, Array.toList_map, h5', newRow, run_newObj]
      rfl
  · suffices hk : RV (x.froze (x.w.alloc (.cells arr e)) (fun o => o < arr.size)) (.sl (rowsOf s agg cs n) none ⟨true, some false⟩) (.slice (some ⟨x.w.heap.size, 0, none⟩) (rowsOf s agg cs n).length (rowsOf s agg cs n).length) by rw [hrn] at hk; exact hk
    have hv : View (x.froze (x.w.alloc (.cells arr e)) (fun o => o < arr.size)) (rowsOf s agg cs n) (some ⟨x.w.heap.size, 0, none⟩) s (fun j => arr.getD j undef) :=
      view_new hrl (by rw [hfl]; exact hpp) (by rw [hfl]; omega) hnew fun j hj => .inr ⟨rfl, by rw [hfl] at hj; omega⟩
    refine RV.sl (tok := none) hv (fun j c hc => ?_) (Nat.le_refl _) ⟨fun _ => rfl, fun b h => by cases h; rfl⟩ (by simp) (fun ad h => by cases h; rfl) (fun t ht => nomatch ht)
    rw [hfl] at hc
    exact (h6.2 j c hc).mono M
theorem op_fieldAddr (hty : TyOk P ty) {t : TypeId} {fs : List (Nat × Nat × Bool)} {sz f off s : Nat} {agg : Bool} {z : Option (List DV)} (h : ty t = some ⟨.struct fs, sz, z⟩) (hf : fs[f]? = some (off, s, agg)) (hs : 0 < s) (b o0 : Nat) (w : World) :
    (Instr.fieldAt t (.pointer (some ⟨b, o0, none⟩)) f).run P w = .ok (.pointer (some ⟨b, o0 + off, none⟩)) w := by
  obtain ⟨hk, i, hi, -, -⟩ := tyOf_info (hty t _ h)
  obtain ⟨fields, hu, hfs, hff⟩ := tk_struct hk
  obtain ⟨fd, h1, h2, inf, h3, h4, -, -⟩ := hff f _ hf
  simp only at h2 h4
  have hne : ¬ (inf.size = 0) := by omega
  simp only [Instr.fieldAt, Sem.run_bind, run_underlying hu, Result.andThen_ok, h1, Instr.sureAddr, Sem.run_pure, fieldPlace, run_sizeOf h3, if_neg hne, addr_add, h2]
theorem op_indexArr (hty : TyOk P ty) {t : TypeId} {k s sz : Nat} {agg : Bool} {z : Option (List DV)} (h : ty t = some ⟨.array k s agg, sz, z⟩) {kd : IntKind} {n : Int} (h0 : 0 ≤ n) (hlt : n.toNat < k) (b o0 : Nat) (w : World) :
    (Instr.indexAt t (.pointer (some ⟨b, o0, none⟩)) (.int kd n)).run P w = .ok (.pointer (some ⟨b, o0 + n.toNat * s, none⟩)) w := by
  obtain ⟨hk, i, hi, -, -⟩ := tyOf_info (hty t _ h)
  obtain ⟨e, hu, ie, hie, hse, -, -⟩ := tk_array hk
  have hc : 0 ≤ n ∧ n < (k : Int) := ⟨h0, by omega⟩
  subst hse
  simp only [Instr.indexAt, asIntOf, Sem.run_bind, Sem.run_pure, Result.andThen_ok, run_underlying hu, Instr.sureAddr, hc, and_self, if_true, run_sizeOf hie, addr_add]
theorem op_indexSl (hty : TyOk P ty) {t e : TypeId} {s by_ sz : Nat} {agg : Bool} {z : Option (List DV)} (h : ty t = some ⟨.slice e s by_ agg, sz, z⟩) {kd : IntKind} {n : Int} {len cap : Nat} (h0 : 0 ≤ n) (hlt : n.toNat < len) (b o0 : Nat) (w : World) :
    (Instr.indexAt t (.slice (some ⟨b, o0, none⟩) len cap) (.int kd n)).run P w = .ok (.pointer (some ⟨b, o0 + n.toNat * s, none⟩)) w := by
  obtain ⟨hk, i, hi, -, -⟩ := tyOf_info (hty t _ h)
  obtain ⟨hu, ie, hie, hse, -, -⟩ := tk_slice hk
  have hc : 0 ≤ n ∧ n < (len : Int) := ⟨h0, by omega⟩
  subst hse
  simp only [Instr.indexAt, asIntOf, Sem.run_bind, Sem.run_pure, Result.andThen_ok, run_underlying hu, hc, and_self, if_true, run_sizeOf hie, addr_add]
end Go.Di
end
