/- CutSplit (the given statement CutSplitSaid): whatever the slice of ints, the law returns true and its argument reads behind the call as before. Conditions: none. -/
import Derived.Test.YtoccmmopffbbfaaPk33
import Derived.Test.YtoccmmopffbbfaaPk05
import Derived.Test.YtoccmmopffbbfaaRows
import Derived.Conc.LeavingOf
import Derived.ProofKit
import Derived.Test.YtoccmmopffbbfaaPk12
section
namespace Go.Tv
open Go Go.Di Go.Conc Go.Co Go.Proofs
theorem tk_tabF:TabK tabF where
 other:=fun f a h1 h2 h3=>by
  have:tab1 f a=none:=by
   unfold tab1
   split
   ·exact absurd rfl h1
   ·exact absurd rfl h2
   ·rfl
  simp[tabF,more,Ne.symm h3,this]
 fit:=by simp[tabF,more,DV.eqbs,bb]
def rowsOf (nums:List Int):List DV:=nums.map fun n => .val (.int .i64 n)
theorem rowsR_of:∀ nums:List Int,RowsR (CR I64) I64.agg nums (rowsOf nums)
 | []=>trivial
 | n::l=>⟨⟨rfl,fun l h=>by cases h⟩,rowsR_of l⟩
theorem flat_rowsOf:∀ nums:List Int,flat (rowsOf nums)=rowsOf nums
 | []=>rfl
 | n::l=>by
  have:=flat_rowsOf l
  simp only[flat,rowsOf,List.map_cons,List.flatMap_cons] at this ⊢
  rw[this]
  rfl
def cxOf (W:World) (b o n:Nat):Cx:={ w:=W,μ:=fun _=>0,κ:=fun _=>0,Fz:=fun b' j=>b'=b∧o≤j∧j<o+n,S:=[] }
theorem rel_cxOf {W:World} {b o n:Nat} (h:∀ j,j<n→∃ v,W.cell? ⟨b,o+j,none⟩=some v):Rel (cxOf W b o n) where
 cells:=fun id l hl=>by simp[cxOf] at hl
 tails:=fun id e s n hl=>by simp[cxOf] at hl
 objs:=fun id b hl=>by simp[cxOf] at hl
 inj:=fun i j hi=>absurd hi (not_live_nil i)
 frz:=fun b' j ⟨h1,h2,h3⟩=>by
  subst h1
  obtain⟨v,hv⟩:=h (j-o) (by omega)
  exact⟨v,by rw[← hv]; congr 2; omega⟩
 sep:=fun id ⟨l,hl⟩=>by simp[cxOf] at hl
 sept:=fun id e s n hl=>by simp[cxOf] at hl
theorem rv_slice {W:World} {b o cap:Nat} {a0:Option Addr} {nums:List Int} (hb:nums≠[]→a0=some ⟨b,o,none⟩) (hs:∀ ad,a0=some ad→ad.spot=none) (hn:a0=none→cap=0) (hc:nums.length≤cap)
  (h:∀ j,j<nums.length→W.cell? ⟨b,o+j,none⟩=some (.int .i64 (nums.getD j 0))) :
  RV (cxOf W b o nums.length) (.sl (rowsOf nums) none ⟨false,none⟩) (.slice a0 nums.length cap):=by
 have hl:(rowsOf nums).length=nums.length:=by simp[rowsOf]
 have hget:∀ j c,(flat (rowsOf nums))[j]? = some c→j<nums.length∧c = .val (.int .i64 (nums.getD j 0)):=by
  intro j c hj
  rw[flat_rowsOf] at hj
  simp only[rowsOf,List.getElem?_map,Option.map_eq_some_iff] at hj
  obtain⟨n,hn,rfl⟩:=hj
  have hlt:=(List.getElem?_eq_some_iff.1 hn).1
  exact⟨hlt,by rw[List.getD_eq_getElem?_getD,hn]; rfl⟩
 rw[← hl]
 refine .sl (s:=1) (vs:=fun j => .int .i64 (nums.getD j 0)) ⟨fun r hr => ?_,fun j c hj => ?_⟩ (fun j c hj => ?_) (by rw[hl]; exact hc) ⟨fun h=>(nomatch h),fun b h=>(nomatch h)⟩ hn hs (fun t h=>(nomatch h))
 ·simp only[rowsOf,List.mem_map] at hr
  obtain⟨n,-,rfl⟩:=hr
  rfl
 ·obtain⟨h1,rfl⟩:=hget j c hj
  refine⟨rfl,b,o,hb (fun e=>by subst e; simp at h1),⟨rfl,by omega,by rw[hl] at *; omega⟩,h j h1⟩
 ·obtain⟨h1,rfl⟩:=hget j c hj
  exact .val rfl
theorem law_runs {f:FuncId} {n:Nat} (hf:f≠51∧f≠110∧f≠17) (hi:Try.prog.inits.idxOf? f=none) {nums:List Int} (hs:ISpec (isoT tabF (n+1)) f [.sl I64 nums .no] (fun v=>v=bval true))
  {W:World} {b o cap:Nat} {a0:Option Addr} (hb:nums≠[]→a0=some ⟨b,o,none⟩) (hsp:∀ ad,a0=some ad→ad.spot=none) (hn:a0=none→cap=0) (hc:nums.length≤cap)
  (h:∀ j,j<nums.length→W.cell? ⟨b,o+j,none⟩=some (.int .i64 (nums.getD j 0))) :
  ∃ N last o w' t',runNT Try.prog (N+1) (solo (G (Frame.enter Try.prog f #[.slice a0 nums.length cap] .normal) []) W) #[]=(.ended o w',t')∧runN Try.prog N (solo (G (Frame.enter Try.prog f #[.slice a0 nums.length cap] .normal) []) W) = .next last ∧
   step Try.prog last = .ended o w'∧Conc.Good Try.prog (fun v w=>v = .bool true∧Stays W w) last o w' t':=by
 obtain⟨d,v,h1,h2,h3,h4,rfl⟩:=hs [.sl (rowsOf nums) none ⟨false,none⟩] ⟨⟨rowsR_of nums,trivial⟩,trivial⟩
 have hd:d = .val (.bool true):=by
  cases d<;>simp[RT] at h3
  rw[h3]
 subst hd
 refine good_of_km ?_ ?_
 ·exact⟨okF_enter _ _ _ _,fun f hf=>(nomatch hf),fun h=>h.elim,fun d h=>(nomatch h)⟩
 ·refine top_bool (x:=cxOf W b o nums.length) plain_try mixed_try (ty_ok _) (fun _=>tabF_ok) (tk_tabF.other f _ hf.1 hf.2.1 hf.2.2) hi h1 (rel_cxOf fun j hj=>⟨_,h j hj⟩) rfl ⟨rfl,fun j c hj => ?_⟩
  cases j with
  | zero =>
   cases hj
   exact rv_slice hb hsp hn hc h
  | succ j=>simp at hj
end Go.Tv
end
section
namespace Go.Tv
open Go Go.Di Go.Conc Go.Co Go.Proofs
open Go.ChangeShapes Go.WideShapes Go.ChangeAt Go.RowKit
theorem Try.own:ownKnob Try.prog.godebug=none:=by kernel_rfl
theorem Try.laidOut:laidOutB Try.prog=true:=by kernel_rfl
theorem Try.cells3:Try.prog.cellsOf 3=1:=by kernel_rfl
theorem Try.under22:Try.prog.underlying 22=some (.slice 3):=by kernel_rfl
theorem Try.under3:Try.prog.underlying 3=some (.int .i64):=by kernel_rfl
theorem Try.under4:Try.prog.underlying 4=some .bool:=by kernel_rfl
theorem stays_frame {W w':World} (h:Stays W w') (may:MemPlace→Prop):W.keptBut w' may:=by
 refine⟨h.os,h.output,fun i hi => ?_⟩
 rw[h.block i hi]
 split<;>simp_all
theorem stays_same {W w':World} (h:Stays W w') {p:MemPlace} (hp:p.block<W.heap.size):W.sameAt w' p:=by
 cases p with
 | cell b o=>exact World.cell?_of_block (w:=W) (h.block b hp)
 | map b=>exact h.block b hp
set_option maxRecDepth 100000 in
theorem law_row {f:FuncId} {fn:Func} (hfn:Try.prog.funcs[f]? = some fn) (hpar:fn.params=#[22]) (hres:fn.resultTypes=#[4]) {s:ChangeSpec} (hvars:s.vars=[])
  (hspec:∀ (H:Type) (d:DataW H),s.fn H [d]={ results:=[.lit (.bool true)],args:=[d] }) {conds:List PathCond} {fresh handsOn:Bool}
  (hf:f≠51∧f≠110∧f≠17) (hi:Try.prog.inits.idxOf? f=none) {n:Nat} (hs:∀ nums,ISpec (isoT tabF (n+1)) f [.sl I64 nums .no] (fun v=>v=bval true))
  {os:Os} (started:os.Started) {H:Type} {enc:TypeId×Value→H}
  (witness:∃ (w:World) (tape:Tape) (i:Input),w.os=os∧(w.forCall tape i).Shaped Try.checked.prog∧i.vars=[]∧Input.okWide Try.checked.prog (w.forCall tape i) .any w.heap.size f i ∧
   s.pre6 enc Try.checked.prog fn conds false (w.forCall tape i).memory i.args∧({}:Assume).holds Try.checked.prog (lone (Frame.enter Try.checked.prog f i.args .normal) [] (w.forCall tape i))) :
  ReturnsInLeavingWide {} Try.checked os f .any (s.pre6 enc Try.prog fn conds false) (s.post enc Try.prog fn false fresh handsOn false):=by
 refine returnsInLeavingWide_of_change_sized (C:=Try.checked) Try.own started hfn witness ?_
 intro W base args ds gs before hval0 hW _ _ _
 have hval:∀ (j:Nat) t v,fn.params[j]? = some t→args[j]? = some v→Value.okWide Try.prog W .any base t v:=hval0
 have hW':=hW
 obtain⟨p,q,hA0,hV,rfl,_,_⟩:=hW
 have hA:DataW.TrodAll enc Try.prog W 0 (fun _=>true) true fn.params.toList args.toList ds p:=hA0
 rw[hpar] at hA hval
 obtain⟨v0,d0,rfl,rfl,h0⟩:=trodAll_one hA
 rw[hvars] at hV
 obtain⟨rfl,rfl⟩:=trodVars_none hV
 obtain⟨a0,len,cap,rfl⟩:=okWide_slice Try.under22 (hval 0 22 v0 rfl rfl)
 have hok:=hval 0 22 _ rfl rfl
 have hspot:∀ ad,a0=some ad→ad.spot=none:=by
  intro ad e
  subst e
  simp only[Value.okWide,Try.under22,Cell.okWide,Cell.ok,World.has] at hok
  exact hok.2.2.2.1
 have h0k:=h0
 obtain⟨fuel,hfu⟩:=h0
 clear hA0 hval0
 simp only[List.append_nil] at hW'
 have hlt:∀ x∈p,x.block<W.heap.size:=fun x hx=>by simpa using hW'.lt x hx
 have hargs:∀ (W':World),Stays W W'→DataW.Trod enc Try.prog W' 0 (fun b=>decide (b<W.heap.size)) true 22 (.slice a0 len cap) d0 p :=
  fun W' hn=>WideElems.Trod_stays Try.laidOut (by kernel_rfl) (of_decide_eq_true (by kernel_rfl)) h0k (fun x hx=>stays_same hn (hlt x hx)) fun x hx=>by simpa using hlt x hx
 have close:∀ (zs:List Int) (b o:Nat),zs.length=len→len≤cap→(a0=none→cap=0)→(zs≠[]→a0=some ⟨b,o,none⟩) →
   (∀ j,j<zs.length→W.cell? ⟨b,o+j,none⟩=some (.int .i64 (zs.getD j 0))) →
   ∃ M last o w' t',runNT Try.checked.prog (M+1) (solo (G (Frame.enter Try.checked.prog f #[.slice a0 len cap] .normal) []) W) #[]=(.ended o w',t') ∧
    runN Try.checked.prog M (solo (G (Frame.enter Try.checked.prog f #[.slice a0 len cap] .normal) []) W) = .next last∧step Try.checked.prog last = .ended o w' ∧
    Conc.Good Try.checked.prog (fun v W'=>s.post enc Try.checked.prog fn false fresh handsOn false W #[.slice a0 len cap] v W') last o w' t':=by
  intro zs b o hz hc hn hb hel
  subst hz
  obtain⟨M,last,o,w',t',h1,h2,h3,h4⟩:=law_runs hf hi (hs zs) hb hspot hn hc hel
  refine⟨M,last,o,w',t',h1,h2,h3,h4.mono fun v hF => ?_⟩
  obtain⟨rfl,hst⟩:=hF
  have es:s.fn H ([d0]++[])={ results:=[.lit (.bool true)],args:=[d0] }:=hspec H d0
  refine⟨_,_,_,[],p,[],hW',?_,?_,by rw[es,hvars]; rfl,stays_frame hst _,fun h=>by cases h⟩
  ·rw[es,hres]; exact trodAll_mk1 (shut_bool Try.under4 _)
  ·rw[es,hpar]; exact trodAll_mk1 (hargs _ hst)
 rcases open_ints Try.under22 Try.under3 Try.cells3 hfu with ⟨hcs,hx⟩ | ⟨a,len',cap',zs,hcs,_,hl,hm,hz,hx,hcell,hwz⟩
 ·simp[Value.cells] at hcs
  obtain⟨rfl,rfl,rfl⟩:=hcs
  exact close [] 0 0 rfl (Nat.le_refl _) (fun _=>rfl) (fun h=>absurd rfl h) (fun j hj=>absurd hj (by simp))
 ·simp[Value.cells] at hcs
  obtain⟨rfl,rfl,rfl⟩:=hcs
  simp only[if_true] at hz
  have hsp:=hspot a rfl
  obtain⟨b,o,sp⟩:=a
  simp only at hsp
  subst hsp
  have hlen:(zs.take len).length=len:=by simp; omega
  refine close (zs.take len) b o hlen hl (fun h=>by cases h) (fun _=>rfl) fun j hj => ?_
  rw[hlen] at hj
  have h1:=hcell j (by omega)
  have h2:(⟨b,o,none⟩:Addr).add j=⟨b,o+j,none⟩:=by
   unfold Addr.add
   split
   ·rename_i e; subst e; rfl
   ·rfl
  rw[h2] at h1
  rw[h1]
  simp[List.getD_eq_getElem?_getD,hj]
end Go.Tv
end
section
namespace Go.Tv
open Go Go.Di Go.Proofs
theorem ints_rows:∀ {l:List Int} {rows:List DV},RowsR (CR I64) I64.agg l rows→rows=Go.Tv.rowsOf l
 | [],[],_=>rfl
 | [],_::_,h=>h.elim
 | _::_,[],h=>h.elim
 | n::l,r::rows,h=>by
  obtain⟨⟨h1,h2⟩,h3⟩:=h
  rw[ints_rows h3]
  have h1:r.cells=[.val (.int .i64 n)]:=h1
  have:r = .val (.int .i64 n):=by
   cases r<;>simp only[DV.cells] at h1<;>first | (cases h1; rfl) | (cases h1; done) | exact(h2 rfl _ rfl).elim | skip
   all_goals exact(h2 _ rfl).elim
  rw[this]; rfl
theorem ints_of:∀ l:List Int,intsD (Go.Tv.rowsOf l)=some l
 | []=>rfl
 | n::l=>by
  have:=ints_of l
  simp only[Go.Tv.rowsOf,List.map_cons,intsD] at this ⊢
  rw[this]; rfl
theorem tr_tabF:TabR tabF where
 rev:=fun l d hl h=>by
  cases d<;>simp only[RT] at h
  rename_i rows tok f
  rw[ints_rows h.1]
  refine⟨.sl (Go.Tv.rowsOf l.reverse) none ⟨false,none⟩,?_,rfl,by simp only[RT]; exact⟨rowsR_of _,trivial⟩⟩
  have e:tab1 110 [.sl (Go.Tv.rowsOf l) tok f]=some (.sl (Go.Tv.rowsOf l.reverse) none ⟨false,none⟩):=by
   simp only[tab1,revD,ints_of,if_pos hl]; rfl
  simp[tabF,more,e]
theorem law_specW {tab:IsoF} (tk:TabK tab) {f:FuncId} {fn:Func} {D:List TV→Dn} {k d:Nat} {T:Tbl} (hT:TOK tab k T) (hne:f≠51∧f≠110∧f≠17) (hf:Tp.funcs[f]? = some fn) (hb:fn.body.isSome=true) {rts:List (Option TT)} (h:VI T fn rts D d) {a:List TV} {j:List (Nat×LA)} (hD:D a=some ([],.res (bval true) [] [],j)) (n:Nat):ISpec (isoT tab (n+(k+d+1))) f a (fun v=>v=bval true) :=
 (((mkI tk hT hne hf hb h (T':=T) (by have:=tok_le hT (d+1); rwa [Nat.add_comm,← Nat.add_assoc] at this)).2 n).I f a [] (.res (bval true) [] []) (by simp only[Tbl.addI,if_true,hD]; rfl) trivial).mono fun v hv=>hv.1
end Go.Tv
namespace Go.Proofs.Ytoccmmopffbbfaa
open Go Go.Di Go.Tv Go.Conc Go.Co Go.Proofs
open Go.ChangeShapes Go.WideShapes Go.ChangeAt Go.RowKit
set_option maxRecDepth 100000 in
theorem cutSplit_lifted (os:Os) (started:os.Started) (H:Type) (enc:TypeId×Value→H) :
  ReturnsInLeavingWide {} Try.checked os 10 .any (Rows.cutSplitSpec.pre6 enc Try.prog Try.f10 Rows.cutSplitRow.domain false) (Rows.cutSplitSpec.post enc Try.prog Try.f10 false true false false) :=
 law_row Try.func10 Try.params10 (by kernel_rfl) rfl (fun _ _=>rfl) (by decide) (by kernel_rfl) (n:=12) (fun nums=>law_specW tk_tabF (wok12 tk_tabF tr_tabF) (by decide) Try.func10 rfl v10 (a:=[.sl I64 nums .no]) rfl 0) started
  (ChangeSpec.witness6 (enc:=enc) (C:=Try.checked) false ⟨#[],#[.slice none 0 0],[]⟩ 12 (by kernel_rfl) (by kernel_rfl) (by kernel_rfl) (by kernel_rfl))
set_option maxRecDepth 100000 in
theorem cutSplit_holds:Rows.CutSplitSaid :=
 OpenClaim.holds_of_wide_leaving 10 Try.f10 rfl rfl rfl rfl rfl rfl rfl ⟨rfl,rfl,rfl,rfl,rfl⟩ rfl rfl rfl rfl rfl (by kernel_rfl) Try.func10 (by kernel_rfl)
  (of_decide_eq_true (by kernel_rfl)) (by unfold Func.isWrapper; first | (rw[if_pos (by decide +kernel)]; kernel_rfl) | (rw[if_neg (by decide +kernel)]; exact⟨rfl,rfl⟩))
  (fun os started H enc _=>cutSplit_lifted os started H enc)
#print axioms cutSplit_holds
end Go.Proofs.Ytoccmmopffbbfaa
end
