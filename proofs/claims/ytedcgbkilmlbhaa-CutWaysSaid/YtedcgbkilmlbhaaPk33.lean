/- CutWays: ways from both sides. -/
import Derived.Test.YtedcgbkilmlbhaaPk32
import Derived.Test.YtedcgbkilmlbhaaPk05
import Derived.Test.YtedcgbkilmlbhaaRows
import Derived.Conc.LeavingOf
import Derived.ProofKit
import Derived.Test.YtedcgbkilmlbhaaPk11
section
namespace Go.Tv
open Go Go.Di Go.Conc Go.Co Go.Proofs
theorem tk_tabF:TabK tabF where
 other:=fun f a h1 h2 h3 h4=>by
  have:tab1 f a=none:=by
   unfold tab1
   split
   ·exact absurd rfl h1
   ·exact absurd rfl h2
   ·exact absurd rfl h4
   ·rfl
  simp[tabF,more,Ne.symm h3,this]
 fit:=by simp[tabF,more,DV.eqbs,bb]
def rowsOf (nums:List Int):List DV:=nums.map fun n => .val (.int .i64 n)
theorem rowsR_of:∀ nums:List Int,RowsR (CR I64) I64.agg nums (rowsOf nums)
 | []=>trivial
 | n::l=>⟨⟨rfl,fun l h=>by cases h⟩,rowsR_of l⟩
theorem flat_rowsOf:∀ nums:List Int,flat (rowsOf nums)=rowsOf nums
 | []=>rfl
 | n::l=>by
  have:=flat_rowsOf l
  simp only[flat,rowsOf,List.map_cons,List.flatMap_cons] at this ⊢
  rw[this]
  rfl
def cxOf (W:World) (b o n:Nat):Cx:={ w:=W,μ:=fun _=>0,κ:=fun _=>0,Fz:=fun b' j=>b'=b∧o≤j∧j<o+n,S:=[] }
theorem rel_cxOf {W:World} {b o n:Nat} (h:∀ j,j<n→∃ v,W.cell? ⟨b,o+j,none⟩=some v):Rel (cxOf W b o n) where
 cells:=fun id l hl=>by simp[cxOf] at hl
 tails:=fun id e s n hl=>by simp[cxOf] at hl
 objs:=fun id b hl=>by simp[cxOf] at hl
 inj:=fun i j hi=>absurd hi (not_live_nil i)
 frz:=fun b' j ⟨h1,h2,h3⟩=>by
  subst h1
  obtain⟨v,hv⟩:=h (j-o) (by omega)
  exact⟨v,by rw[← hv]; congr 2; omega⟩
 sep:=fun id ⟨l,hl⟩=>by simp[cxOf] at hl
 sept:=fun id e s n hl=>by simp[cxOf] at hl
theorem rv_slice {W:World} {b o cap:Nat} {a0:Option Addr} {nums:List Int} (hb:nums≠[]→a0=some ⟨b,o,none⟩) (hs:∀ ad,a0=some ad→ad.spot=none) (hn:a0=none→cap=0) (hc:nums.length≤cap)
  (h:∀ j,j<nums.length→W.cell? ⟨b,o+j,none⟩=some (.int .i64 (nums.getD j 0))) :
  RV (cxOf W b o nums.length) (.sl (rowsOf nums) none ⟨false,none⟩) (.slice a0 nums.length cap):=by
 have hl:(rowsOf nums).length=nums.length:=by simp[rowsOf]
 have hget:∀ j c,(flat (rowsOf nums))[j]? = some c→j<nums.length∧c = .val (.int .i64 (nums.getD j 0)):=by
  intro j c hj
  rw[flat_rowsOf] at hj
  simp only[rowsOf,List.getElem?_map,Option.map_eq_some_iff] at hj
  obtain⟨n,hn,rfl⟩:=hj
  have hlt:=(List.getElem?_eq_some_iff.1 hn).1
  exact⟨hlt,by rw[List.getD_eq_getElem?_getD,hn]; rfl⟩
 rw[← hl]
 refine .sl (s:=1) (vs:=fun j => .int .i64 (nums.getD j 0)) ⟨fun r hr => ?_,fun j c hj => ?_⟩ (fun j c hj => ?_) (by rw[hl]; exact hc) ⟨fun h=>(nomatch h),fun b h=>(nomatch h)⟩ hn hs (fun t h=>(nomatch h))
 ·simp only[rowsOf,List.mem_map] at hr
  obtain⟨n,-,rfl⟩:=hr
  rfl
 ·obtain⟨h1,rfl⟩:=hget j c hj
  refine⟨rfl,b,o,hb (fun e=>by subst e; simp at h1),⟨rfl,by omega,by rw[hl] at *; omega⟩,h j h1⟩
 ·obtain⟨h1,rfl⟩:=hget j c hj
  exact .val rfl
theorem law_runs {tab:IsoF} (htab:∀ Final,TabOK Try.prog Final tab) (tkt:TabK tab) {f:FuncId} {n:Nat} (hf:f≠33∧f≠83∧f≠13∧f≠67∧f≠0) (hi:Try.prog.inits.idxOf? f=none) {nums:List Int} (hs:ISpec (isoT tab (n+1)) f [.sl I64 nums .no] (fun v=>v=bval true))
  {W:World} {b o cap:Nat} {a0:Option Addr} (hb:nums≠[]→a0=some ⟨b,o,none⟩) (hsp:∀ ad,a0=some ad→ad.spot=none) (hn:a0=none→cap=0) (hc:nums.length≤cap)
  (h:∀ j,j<nums.length→W.cell? ⟨b,o+j,none⟩=some (.int .i64 (nums.getD j 0))) :
  ∃ N last o w' t',runNT Try.prog (N+1) (solo (G (Frame.enter Try.prog f #[.slice a0 nums.length cap] .normal) []) W) #[]=(.ended o w',t')∧runN Try.prog N (solo (G (Frame.enter Try.prog f #[.slice a0 nums.length cap] .normal) []) W) = .next last ∧
   step Try.prog last = .ended o w'∧Conc.Good Try.prog (fun v w=>v = .bool true∧Stays W w) last o w' t':=by
 obtain⟨d,v,h1,h2,h3,h4,rfl⟩:=hs [.sl (rowsOf nums) none ⟨false,none⟩] ⟨⟨rowsR_of nums,trivial⟩,trivial⟩
 have hd:d = .val (.bool true):=by
  cases d<;>simp[RT] at h3
  rw[h3]
 subst hd
 refine good_of_km ?_ ?_
 ·exact⟨okF_enter _ _ _ _,fun f hf=>(nomatch hf),fun h=>h.elim,fun d h=>(nomatch h)⟩
 ·refine top_bool (x:=cxOf W b o nums.length) plain_try mixed_try (ty_ok _) htab (tkt.other f _ hf.1 hf.2.1 hf.2.2.1 hf.2.2.2.1 hf.2.2.2.2) hi h1 (rel_cxOf fun j hj=>⟨_,h j hj⟩) rfl ⟨rfl,fun j c hj => ?_⟩
  cases j with
  | zero =>
   cases hj
   exact rv_slice hb hsp hn hc h
  | succ j=>simp at hj
end Go.Tv
end
section
namespace Go.Tv
open Go Go.Di Go.Conc Go.Co Go.Proofs
open Go.ChangeShapes Go.WideShapes Go.ChangeAt Go.RowKit
theorem Try.own:ownKnob Try.prog.godebug=none:=by kernel_rfl
theorem Try.laidOut:laidOutB Try.prog=true:=by kernel_rfl
theorem Try.cells3:Try.prog.cellsOf 3=1:=by kernel_rfl
theorem Try.under22:Try.prog.underlying 22=some (.slice 3):=by kernel_rfl
theorem Try.under3:Try.prog.underlying 3=some (.int .i64):=by kernel_rfl
theorem Try.under4:Try.prog.underlying 4=some .bool:=by kernel_rfl
theorem stays_frame {W w':World} (h:Stays W w') (may:MemPlace→Prop):W.keptBut w' may:=by
 refine⟨h.os,h.output,fun i hi => ?_⟩
 rw[h.block i hi]
 split<;>simp_all
theorem stays_same {W w':World} (h:Stays W w') {p:MemPlace} (hp:p.block<W.heap.size):W.sameAt w' p:=by
 cases p with
 | cell b o=>exact World.cell?_of_block (w:=W) (h.block b hp)
 | map b=>exact h.block b hp
set_option maxRecDepth 100000 in
theorem law_row {tab:IsoF} (htab:∀ Final,TabOK Try.prog Final tab) (tkt:TabK tab) {f:FuncId} {fn:Func} (hfn:Try.prog.funcs[f]? = some fn) (hpar:fn.params=#[22]) (hres:fn.resultTypes=#[4]) {s:ChangeSpec} (hvars:s.vars=[])
  (hspec:∀ (H:Type) (d:DataW H),s.fn H [d]={ results:=[.lit (.bool true)],args:=[d] }) {conds:List PathCond} {fresh handsOn:Bool}
  (hf:f≠33∧f≠83∧f≠13∧f≠67∧f≠0) (hi:Try.prog.inits.idxOf? f=none) {n:Nat} (hs:∀ nums,ISpec (isoT tab (n+1)) f [.sl I64 nums .no] (fun v=>v=bval true))
  {os:Os} (started:os.Started) {H:Type} {enc:TypeId×Value→H}
  (witness:∃ (w:World) (tape:Tape) (i:Input),w.os=os∧(w.forCall tape i).Shaped Try.checked.prog∧i.vars=[]∧Input.okWide Try.checked.prog (w.forCall tape i) .any w.heap.size f i ∧
   s.pre6 enc Try.checked.prog fn conds false (w.forCall tape i).memory i.args∧({}:Assume).holds Try.checked.prog (lone (Frame.enter Try.checked.prog f i.args .normal) [] (w.forCall tape i))) :
  ReturnsInLeavingWide {} Try.checked os f .any (s.pre6 enc Try.prog fn conds false) (s.post enc Try.prog fn false fresh handsOn false):=by
 refine returnsInLeavingWide_of_change_sized (C:=Try.checked) Try.own started hfn witness ?_
 intro W base args ds gs before hval0 hW _ _ _
 have hval:∀ (j:Nat) t v,fn.params[j]? = some t→args[j]? = some v→Value.okWide Try.prog W .any base t v:=hval0
 have hW':=hW
 obtain⟨p,q,hA0,hV,rfl,_,_⟩:=hW
 have hA:DataW.TrodAll enc Try.prog W 0 (fun _=>true) true fn.params.toList args.toList ds p:=hA0
 rw[hpar] at hA hval
 obtain⟨v0,d0,rfl,rfl,h0⟩:=trodAll_one hA
 rw[hvars] at hV
 obtain⟨rfl,rfl⟩:=trodVars_none hV
 obtain⟨a0,len,cap,rfl⟩:=okWide_slice Try.under22 (hval 0 22 v0 rfl rfl)
 have hok:=hval 0 22 _ rfl rfl
 have hspot:∀ ad,a0=some ad→ad.spot=none:=by
  intro ad e
  subst e
  simp only[Value.okWide,Try.under22,Cell.okWide,Cell.ok,World.has] at hok
  exact hok.2.2.2.1
 have h0k:=h0
 obtain⟨fuel,hfu⟩:=h0
 clear hA0 hval0
 simp only[List.append_nil] at hW'
 have hlt:∀ x∈p,x.block<W.heap.size:=fun x hx=>by simpa using hW'.lt x hx
 have hargs:∀ (W':World),Stays W W'→DataW.Trod enc Try.prog W' 0 (fun b=>decide (b<W.heap.size)) true 22 (.slice a0 len cap) d0 p :=
  fun W' hn=>WideElems.Trod_stays Try.laidOut (by kernel_rfl) (of_decide_eq_true (by kernel_rfl)) h0k (fun x hx=>stays_same hn (hlt x hx)) fun x hx=>by simpa using hlt x hx
 have close:∀ (zs:List Int) (b o:Nat),zs.length=len→len≤cap→(a0=none→cap=0)→(zs≠[]→a0=some ⟨b,o,none⟩) →
   (∀ j,j<zs.length→W.cell? ⟨b,o+j,none⟩=some (.int .i64 (zs.getD j 0))) →
   ∃ M last o w' t',runNT Try.checked.prog (M+1) (solo (G (Frame.enter Try.checked.prog f #[.slice a0 len cap] .normal) []) W) #[]=(.ended o w',t') ∧
    runN Try.checked.prog M (solo (G (Frame.enter Try.checked.prog f #[.slice a0 len cap] .normal) []) W) = .next last∧step Try.checked.prog last = .ended o w' ∧
    Conc.Good Try.checked.prog (fun v W'=>s.post enc Try.checked.prog fn false fresh handsOn false W #[.slice a0 len cap] v W') last o w' t':=by
  intro zs b o hz hc hn hb hel
  subst hz
  obtain⟨M,last,o,w',t',h1,h2,h3,h4⟩:=law_runs htab tkt hf hi (hs zs) hb hspot hn hc hel
  refine⟨M,last,o,w',t',h1,h2,h3,h4.mono fun v hF => ?_⟩
  obtain⟨rfl,hst⟩:=hF
  have es:s.fn H ([d0]++[])={ results:=[.lit (.bool true)],args:=[d0] }:=hspec H d0
  refine⟨_,_,_,[],p,[],hW',?_,?_,by rw[es,hvars]; rfl,stays_frame hst _,fun h=>by cases h⟩
  ·rw[es,hres]; exact trodAll_mk1 (shut_bool Try.under4 _)
  ·rw[es,hpar]; exact trodAll_mk1 (hargs _ hst)
 rcases open_ints Try.under22 Try.under3 Try.cells3 hfu with ⟨hcs,hx⟩ | ⟨a,len',cap',zs,hcs,_,hl,hm,hz,hx,hcell,hwz⟩
 ·simp[Value.cells] at hcs
  obtain⟨rfl,rfl,rfl⟩:=hcs
  exact close [] 0 0 rfl (Nat.le_refl _) (fun _=>rfl) (fun h=>absurd rfl h) (fun j hj=>absurd hj (by simp))
 ·simp[Value.cells] at hcs
  obtain⟨rfl,rfl,rfl⟩:=hcs
  simp only[if_true] at hz
  have hsp:=hspot a rfl
  obtain⟨b,o,sp⟩:=a
  simp only at hsp
  subst hsp
  have hlen:(zs.take len).length=len:=by simp; omega
  refine close (zs.take len) b o hlen hl (fun h=>by cases h) (fun _=>rfl) fun j hj => ?_
  rw[hlen] at hj
  have h1:=hcell j (by omega)
  have h2:(⟨b,o,none⟩:Addr).add j=⟨b,o+j,none⟩:=by
   unfold Addr.add
   split
   ·rename_i e; subst e; rfl
   ·rfl
  rw[h2] at h1
  rw[h1]
  simp[List.getD_eq_getElem?_getD,hj]
end Go.Tv
end
section
namespace Go.Tv
open Go Go.Di Go.Conc Go.Co Go.Proofs
variable {Final:Machine→Trace→Prop} {x:Cx}
theorem ints_rows:∀ {l:List Int} {rows:List DV},RowsR (CR I64) I64.agg l rows→rows=Go.Tv.rowsOf l
 | [],[],_=>rfl
 | [],_::_,h=>h.elim
 | _::_,[],h=>h.elim
 | n::l,r::rows,h=>by
  obtain⟨⟨h1,h2⟩,h3⟩:=h
  rw[ints_rows h3]
  have h1:r.cells=[.val (.int .i64 n)]:=h1
  have:r = .val (.int .i64 n):=by
   cases r<;>simp only[DV.cells] at h1<;>first | (cases h1; rfl) | (cases h1; done) | exact(h2 rfl _ rfl).elim | skip
   all_goals exact(h2 _ rfl).elim
  rw[this]; rfl
theorem rt_sl {ι:Ids} {S:Store} {t:TT} {l:List t.den} {ap:Ap} {d:DV} (h:RT ι S (.sl t l ap) d):∃ rows tok f,d = .sl rows tok f∧RowsR (CR t) t.agg l rows∧ApOK ι S rows.length tok f ap:=by
 cases d<;>simp only[RT] at h
 exact⟨_,_,_,rfl,h⟩
theorem rt_vl {ι:Ids} {S:Store} {v:Value} {d:DV} (h:RT ι S (.val v) d):d = .val v:=by
 cases d<;>simp only[RT] at h
 rw[h]
theorem ints_of:∀ l:List Int,intsD (Go.Tv.rowsOf l)=some l
 | []=>rfl
 | n::l=>by
  have:=ints_of l
  simp only[Go.Tv.rowsOf,List.map_cons,intsD] at this ⊢
  rw[this]; rfl
theorem tr_tabF:TabR tabF where
 rev:=fun l d hl h=>by
  cases d<;>simp only[RT] at h
  rename_i rows tok f
  rw[ints_rows h.1]
  refine⟨.sl (Go.Tv.rowsOf l.reverse) none ⟨false,none⟩,?_,rfl,by simp only[RT]; exact⟨rowsR_of _,trivial⟩⟩
  have e:tab1 83 [.sl (Go.Tv.rowsOf l) tok f]=some (.sl (Go.Tv.rowsOf l.reverse) none ⟨false,none⟩):=by
   simp only[tab1,revD,ints_of,if_pos hl]; rfl
  simp[tabF,more,e]
theorem sums_st (la ub:List Int) (s:Int):∀ k,smN la ub s k=stF (colL la ub s k)
 | 0=>rfl
 | k+1=>by
  have ih:=sums_st la ub s k
  rw[smN_succ,ih,colL,smS]
  by_cases h:0≤(k:Int)+s∧(k:Int)+s<la.length
  ·rw[if_pos h,if_neg (by omega)]
   have e:stF (colL la ub s k++[ub.getD k 0+la.getD ((k:Int)+s).toNat 0])=stS (stF (colL la ub s k)) (ub.getD k 0+la.getD ((k:Int)+s).toNat 0):=by
    simp[stF,List.foldl_append]
   rw[e]
   generalize stF (colL la ub s k)=st
   generalize ub.getD k 0+la.getD ((k:Int)+s).toNat 0=v
   obtain⟨lo,hi,m⟩:=st
   simp only[stS]
   by_cases h0:m=0
   ·simp[h0]
   ·simp only[h0,if_false]
  ·rw[if_neg h,if_pos (by omega)]
theorem fit_same (la ub:List Int) (w:Int):Go.Co.fitB la ub w=fitsAt la ub w:=by
 funext s
 simp only[Go.Co.fitB,fitsAt,sumsM,sums_st,Bool.decide_and]
theorem shifts_same (la ub:List Int) (w:Int):shiftsM la ub w=shL la ub w (ub.length+la.length+1):=by
 rw[shiftsM,shN,shL,fit_same]
def wkO (u l:List Int) (w:Int) (q:List Int):Wk:=⟨q,w,fun i=>([u,l.reverse,u.reverse,l]:List (List Int)).getD i [],fun i=>([l,u.reverse,l.reverse,u]:List (List Int)).getD i []⟩
theorem wk_of {u l q:List Int} {w:Int} {d:DV} (h:RT noIds [] (wkV u l w q) d):wkD d=some (wkO u l w q):=by
 cases d<;>simp only[wkV,RT] at h
 obtain⟨a0,m,rfl,k0,h⟩:=rtl_cases h
 obtain⟨a1,m,rfl,k1,h⟩:=rtl_cases h
 obtain⟨a2,m,rfl,k2,h⟩:=rtl_cases h
 obtain⟨a3,m,rfl,k3,h⟩:=rtl_cases h
 obtain⟨a4,m,rfl,k4,h⟩:=rtl_cases h
 obtain⟨a5,m,rfl,k5,h⟩:=rtl_cases h
 obtain⟨a6,m,rfl,k6,h⟩:=rtl_cases h
 obtain⟨a7,m,rfl,k7,h⟩:=rtl_cases h
 obtain⟨a8,m,rfl,k8,h⟩:=rtl_cases h
 obtain⟨a9,m,rfl,k9,h⟩:=rtl_cases h
 obtain⟨a10,m,rfl,k10,h⟩:=rtl_cases h
 obtain⟨a11,m,rfl,k11,h⟩:=rtl_cases h
 cases rtl_nil' h
 cases rt_vl k2
 have key:∀ {l:List Int} {d:DV},RT noIds [] (.sl I64 l .no) d→rowD d=some l:=fun {l d} hd=>by
  obtain⟨r,t,f,rfl,hr,-⟩:=rt_sl hd
  rw[ints_rows hr]
  exact ints_of l
 simp only[wkD,rowsD,key k3,key k4,key k5,key k6,key k7,key k8,key k9,key k10,key k11]
 rfl
theorem hts_of {l:List Int} (h:l.length≤1000) (h1:∀ x∈l,0≤x∧x≤9):htsB l=true:=by
 simp only[htsB,Bool.and_eq_true,decide_eq_true_eq,List.all_eq_true]
 exact⟨h,h1⟩
theorem asc_of':∀ {l:List Int},l.Pairwise (· < ·)→ascB l=true
 | [],_=>rfl
 | a::l,h=>by
  rw[List.pairwise_cons] at h
  simp only[ascB,Bool.and_eq_true,List.all_eq_true,decide_eq_true_eq]
  exact⟨h.1,asc_of' h.2⟩
theorem wkB_of {u l q:List Int} {w:Int} (h:Ok u l w q):wkB (wkO u l w q)=true:=by
 have h1:=h.n8
 have h2:=h.len
 have sp:=sh_ok h
 have hu:=hts_of sp.1 h.hu
 have hl:=hts_of sp.2.1 h.hl
 have hur:htsB u.reverse=true:=hts_of (by simp; omega) fun x hx=>h.hu x (by simpa using hx)
 have hlr:htsB l.reverse=true:=hts_of (by simp; omega) fun x hx=>h.hl x (by simpa using hx)
 have h4:(List.range 4).all (fun i=>htsB ((wkO u l w q).up i)&&htsB ((wkO u l w q).lo i))=true:=by
  simp[List.range_succ,wkO,hu,hl,hur,hlr]
 have hw0:=h.w0
 have hw2:=h.w2
 have e1:(wkO u l w q).lies.all (fun x=>decide (0≤x)&&decide (x≤3))=true:=by
  simp only[List.all_eq_true,Bool.and_eq_true,decide_eq_true_eq]
  exact h.lie
 unfold wkB
 rw[h4,e1,show ascB (wkO u l w q).lies=true from asc_of' h.asc,decide_eq_true (show (wkO u l w q).lies.length≤1000 from sp.2.2),decide_eq_true (show 0≤(wkO u l w q).wear from hw0),decide_eq_true (show (wkO u l w q).wear≤1000 by show w≤1000; omega)]
 rfl
theorem seams_same {ua la qa ub lb qb:List Int} {wa wb:Int} (ha:Ok ua la wa qa) (hb:Ok ub lb wb qb):seamsM (wkO ua la wa qa) (wkO ub lb wb qb)=(seamT ua la qa ub lb qb (wa+wb)).map fun x=>(x.1,x.2.1,x.2.2.1):=by
 have h3:=ha.len
 have h3':=hb.len
 unfold seamsM seamT
 rw[List.map_flatMap]
 have congr1:∀ {α β:Type} {l:List α} {f g:α→List β},(∀ x∈l,f x=g x)→l.flatMap f=l.flatMap g:=fun {α β l f g} h=>by
  induction l with
  | nil=>rfl
  | cons x l ih=>rw[List.flatMap_cons,List.flatMap_cons,h x (by simp),ih fun y hy=>h y (by simp[hy])]
 refine congr1 fun x hx => ?_
 rw[List.map_flatMap]
 refine congr1 fun y hy => ?_
 rw[List.map_map]
 have ex:(wkO ua la wa qa).lo x.toNat=layL x ua la∧(layL x ua la).length=ua.length:=by
  rcases four (ha.lie x hx) with rfl | rfl | rfl | rfl<;>simp[wkO,layL,h3]
 have ey:(wkO ub lb wb qb).up y.toNat=layU y ub lb∧(layU y ub lb).length=ub.length:=by
  rcases four (hb.lie y hy) with rfl | rfl | rfl | rfl<;>simp[wkO,layU,h3']
 rw[seamsXY,ex.1,ey.1,shifts_same,ex.2,ey.2]
 rfl
theorem rows_sm:∀ l:List (Int×Int×Int×Unit),RowsR (CR SeamT) SeamT.agg l ((l.map fun x=>(x.1,x.2.1,x.2.2.1)).map smD)
 | []=>trivial
 | (x,y,s,_)::l=>⟨⟨⟨_,_,rfl,rfl,_,_,rfl,rfl,_,_,rfl,rfl,rfl⟩,⟨_,rfl⟩⟩,rows_sm l⟩
theorem ts_tabF:TabS tabF where
 seams:=fun ua la qa ub lb qb wa wb d1 d2 ha hb h1 h2=>by
  refine⟨.sl ((seamsM (wkO ua la wa qa) (wkO ub lb wb qb)).map smD) none ⟨false,none⟩,?_,rfl,?_⟩
  ·have e:tab1 33 [d1,d2]=some (.sl ((seamsM (wkO ua la wa qa) (wkO ub lb wb qb)).map smD) none ⟨false,none⟩):=by
    simp only[tab1,seamsD,wk_of h1,wk_of h2,wkB_of ha,wkB_of hb,Bool.and_self,if_true]
   simp[tabF,more,e]
  ·simp only[RT]
   rw[seams_same ha hb]
   exact⟨rows_sm _,trivial⟩
end Go.Tv
end
section
namespace Go.Tv
open Go Go.Di Go.Proofs
theorem law_specW {tab:IsoF} (tk:TabK tab) {f:FuncId} {fn:Func} {D:List TV→Dn} {k d:Nat} {T:Tbl} (hT:TOK tab k T) (hne:f≠33∧f≠83∧f≠13∧f≠67∧f≠0) (hf:Tp.funcs[f]? = some fn) (hb:fn.body.isSome=true) {rts:List (Option TT)} (h:VI T fn rts D d) {a:List TV} {j:List (Nat×LA)} (hD:D a=some ([],.res (bval true) [] [],j)) (n:Nat):ISpec (isoT tab (n+(k+d+1))) f a (fun v=>v=bval true) :=
 (((mkI tk hT hne hf hb h (T':=T) (by have:=tok_le hT (d+1); rwa [Nat.add_comm,← Nat.add_assoc] at this)).2 n).I f a [] (.res (bval true) [] []) (by simp only[Tbl.addI,if_true,hD]; rfl) trivial).mono fun v hv=>hv.1
end Go.Tv
namespace Go.Proofs.Ytedcgbkilmlbhaa
open Go Go.Di Go.Tv Go.Conc Go.Co Go.Proofs
open Go.ChangeShapes Go.WideShapes Go.ChangeAt Go.RowKit
set_option maxRecDepth 100000 in
theorem cutWays_lifted (os:Os) (started:os.Started) (H:Type) (enc:TypeId×Value→H) :
  ReturnsInLeavingWide {} Try.checked os 3 .any (Rows.cutWaysSpec.pre6 enc Try.prog Try.f3 Rows.cutWaysRow.domain false) (Rows.cutWaysSpec.post enc Try.prog Try.f3 false true false false) :=
 law_row (fun _=>tabF_ok) tk_tabF Try.func3 Try.params3 (by kernel_rfl) rfl (fun _ _=>rfl) (by decide) (by kernel_rfl) (n:=9) (fun nums=>law_specW tk_tabF (fok3 tk_tabF tr_tabF ts_tabF) (by decide) Try.func3 rfl v3 (a:=[.sl I64 nums .no]) rfl 0) started
  (ChangeSpec.witness6 (enc:=enc) (C:=Try.checked) false ⟨#[],#[.slice none 0 0],[]⟩ 9 (by kernel_rfl) (by kernel_rfl) (by kernel_rfl) (by kernel_rfl))
set_option maxRecDepth 100000 in
theorem cutWays_holds:Rows.CutWaysSaid :=
 OpenClaim.holds_of_wide_leaving 3 Try.f3 rfl rfl rfl rfl rfl rfl rfl ⟨rfl,rfl,rfl,rfl,rfl⟩ rfl rfl rfl rfl rfl (by kernel_rfl) Try.func3 (by kernel_rfl)
  (of_decide_eq_true (by kernel_rfl)) (by unfold Func.isWrapper; first | (rw[if_pos (by decide +kernel)]; kernel_rfl) | (rw[if_neg (by decide +kernel)]; exact⟨rfl,rfl⟩))
  (fun os started H enc _=>cutWays_lifted os started H enc)
#print axioms cutWays_holds
end Go.Proofs.Ytedcgbkilmlbhaa
end
