/- aaf -/
import Derived.Test.YtedcgbkilmlbhaaPk35
import Derived.Test.YtedcgbkilmlbhaaPk05
import Derived.Test.YtedcgbkilmlbhaaRows
import Derived.Conc.LeavingOf
import Derived.ProofKit
import Derived.Test.YtedcgbkilmlbhaaPk11
import Derived.Test.YtedcgbkilmlbhaaPk13
section
namespace Go.Tv
open Go Go.Di Go.Conc Go.Co Go.Proofs
theorem Cb:sC zL where
 other:=fun f a h1 h2 h3 h4=>by
  have:jS f a=none:=by
   unfold jS
   split
   ·exact absurd rfl h1
   ·exact absurd rfl h2
   ·exact absurd rfl h4
   ·rfl
  simp[zL,more,Ne.symm h3,this]
 fit:=by simp[zL,more,DV.Df,bb]
def rowsOf (fe:List Int):List DV:=fe.map fun n => .val (.int .i64 n)
theorem s8:∀ fe:List Int,dn (CR cv) cv.agg fe (rowsOf fe)
 | []=>trivial
 | n::l=>⟨⟨rfl,fun l h=>by cases h⟩,s8 l⟩
theorem vP:∀ fe:List Int,flat (rowsOf fe)=rowsOf fe
 | []=>rfl
 | n::l=>by
  have:=vP l
  simp only[flat,rowsOf,List.map_cons,List.flatMap_cons] at this ⊢
  rw[this]
  rfl
def BN (W:World) (b o n:Nat):Cx:={ w:=W,μ:=fun _=>0,κ:=fun _=>0,Fz:=fun b' j=>b'=b∧o≤j∧j<o+n,S:=[] }
theorem NW {W:World} {b o n:Nat} (h:∀ j,j<n→∃ v,W.cell? ⟨b,o+j,none⟩=some v):Rel (BN W b o n) where
 cells:=fun id l hl=>by simp[BN] at hl
 cT:=fun id e s n hl=>by simp[BN] at hl
 c9:=fun id b hl=>by simp[BN] at hl
 inj:=fun i j hi=>absurd hi (en i)
 wE:=fun b' j ⟨h1,h2,h3⟩=>by
  subst h1
  obtain⟨v,hv⟩:=h (j-o) (by omega)
  exact⟨v,by rw[← hv]; congr 2; omega⟩
 sep:=fun id ⟨l,hl⟩=>by simp[BN] at hl
 lM:=fun id e s n hl=>by simp[BN] at hl
 ops:=fun id e s l z hl=>by simp[BN] at hl
theorem NQ {W:World} {b o cap:Nat} {a0:Option Addr} {fe:List Int} (hb:fe≠[]→a0=some ⟨b,o,none⟩) (hs:∀ ad,a0=some ad→ad.spot=none) (hn:a0=none→cap=0) (hc:fe.length≤cap)
  (h:∀ j,j<fe.length→W.cell? ⟨b,o+j,none⟩=some (.int .i64 (fe.getD j 0))) :
  RV (BN W b o fe.length) (.sl (rowsOf fe) none ⟨false,none⟩) (.slice a0 fe.length cap):=by
 have hl:(rowsOf fe).length=fe.length:=by simp[rowsOf]
 have aU:∀ j c,(flat (rowsOf fe))[j]? = some c→j<fe.length∧c = .val (.int .i64 (fe.getD j 0)):=by
  intro j c hj
  rw[vP] at hj
  simp only[rowsOf,List.getElem?_map,Option.map_eq_some_iff] at hj
  obtain⟨n,hn,rfl⟩:=hj
  have hlt:=(List.getElem?_eq_some_iff.1 hn).1
  exact⟨hlt,by rw[List.getD_eq_getElem?_getD,hn]; rfl⟩
 rw[← hl]
 refine .sl (s:=1) (vs:=fun j => .int .i64 (fe.getD j 0)) ⟨fun r hr => ?_,fun j c hj => ?_⟩ (fun j c hj => ?_) (by rw[hl]; exact hc) ⟨fun h=>(nomatch h),fun b h=>(nomatch h)⟩ hn hs (fun t h=>(nomatch h))
 ·simp only[rowsOf,List.mem_map] at hr
  obtain⟨n,-,rfl⟩:=hr
  rfl
 ·obtain⟨h1,rfl⟩:=aU j c hj
  refine⟨rfl,b,o,hb (fun e=>by subst e; simp at h1),⟨rfl,by omega,by rw[hl] at *; omega⟩,h j h1⟩
 ·obtain⟨h1,rfl⟩:=aU j c hj
  exact .val rfl
theorem Ov {aZ:bq} (UJ:∀ af,ox Try.prog af aZ) (tkt:sC aZ) {f:FuncId} {n:Nat} (hf:f≠33∧f≠83∧f≠13∧f≠67∧f≠0) (hi:Try.prog.inits.idxOf? f=none) {fe:List Int} (hs:oA (Dc aZ (n+1)) f [.sl cv fe .no] (fun v=>v=mX true))
  {W:World} {b o cap:Nat} {a0:Option Addr} (hb:fe≠[]→a0=some ⟨b,o,none⟩) (hsp:∀ ad,a0=some ad→ad.spot=none) (hn:a0=none→cap=0) (hc:fe.length≤cap)
  (h:∀ j,j<fe.length→W.cell? ⟨b,o+j,none⟩=some (.int .i64 (fe.getD j 0))) :
  ∃ N last o w' t',runNT Try.prog (N+1) (solo (G (Frame.enter Try.prog f #[.slice a0 fe.length cap] .normal) []) W) #[]=(.ended o w',t')∧runN Try.prog N (solo (G (Frame.enter Try.prog f #[.slice a0 fe.length cap] .normal) []) W) = .next last ∧
   step Try.prog last = .ended o w'∧Conc.Good Try.prog (fun v w=>v = .bool true∧oy W w) last o w' t':=by
 obtain⟨d,v,h1,h2,h3,h4,rfl⟩:=hs [.sl (rowsOf fe) none ⟨false,none⟩] ⟨⟨s8 fe,trivial⟩,trivial⟩
 have hd:d = .val (.bool true):=by
  cases d<;>simp[RT] at h3
  rw[h3]
 subst hd
 refine GL ?_ ?_
 ·exact⟨ja _ _ _ _,fun f hf=>(nomatch hf),fun h=>h.elim,fun d h=>(nomatch h)⟩
 ·refine Nl (x:=BN W b o fe.length) ia A0 SD UJ (tkt.other f _ hf.1 hf.2.1 hf.2.2.1 hf.2.2.2.1 hf.2.2.2.2) hi h1 (NW fun j hj=>⟨_,h j hj⟩) rfl ⟨rfl,fun j c hj => ?_⟩
  cases j with
  | zero =>
   cases hj
   exact NQ hb hsp hn hc h
  | succ j=>simp at hj
end Go.Tv
end
section
namespace Go.Tv
open Go Go.Di Go.Conc Go.Co Go.Proofs
open Go.ChangeShapes Go.WideShapes Go.ChangeAt Go.RowKit
theorem Try.own:ownKnob Try.prog.godebug=none:=by kernel_rfl
theorem Try.laidOut:laidOutB Try.prog=true:=by kernel_rfl
theorem Try.Wq:Try.prog.cellsOf 3=1:=by kernel_rfl
theorem Try.B9:Try.prog.underlying 22=some (.slice 3):=by kernel_rfl
theorem Try.Vz:Try.prog.underlying 3=some (.int .i64):=by kernel_rfl
theorem Try.Vy:Try.prog.underlying 4=some .bool:=by kernel_rfl
theorem EI {W w':World} (h:oy W w') (may:MemPlace→Prop):W.keptBut w' may:=by
 refine⟨h.os,h.output,fun i hi => ?_⟩
 rw[h.block i hi]
 split<;>simp_all
theorem Gk {W w':World} (h:oy W w') {p:MemPlace} (hp:p.block<W.heap.size):W.sameAt w' p:=by
 cases p with
 | cell b o=>exact World.cell?_of_block (w:=W) (h.block b hp)
 | map b=>exact h.block b hp
set_option maxRecDepth 100000 in
theorem Rn {aZ:bq} (UJ:∀ af,ox Try.prog af aZ) (tkt:sC aZ) {f:FuncId} {fn:Func} (K9:Try.prog.funcs[f]? = some fn) (YD:fn.params=#[22]) (UO:fn.resultTypes=#[4]) {s:ChangeSpec} (S7:s.vars=[])
  (Zw:∀ (H:Type) (d:DataW H),s.fn H [d]={ results:=[.lit (.bool true)],args:=[d] }) {conds:List PathCond} {fresh handsOn:Bool}
  (hf:f≠33∧f≠83∧f≠13∧f≠67∧f≠0) (hi:Try.prog.inits.idxOf? f=none) {n:Nat} (hs:∀ fe,oA (Dc aZ (n+1)) f [.sl cv fe .no] (fun v=>v=mX true))
  {os:Os} (started:os.Started) {H:Type} {enc:TypeId×Value→H}
  (witness:∃ (w:World) (tape:Tape) (i:Input),w.os=os∧(w.forCall tape i).Shaped Try.checked.prog∧i.vars=[]∧Input.okWide Try.checked.prog (w.forCall tape i) .any w.heap.size f i ∧
   s.pre6 enc Try.checked.prog fn conds false (w.forCall tape i).memory i.args∧({}:Assume).holds Try.checked.prog (lone (Frame.enter Try.checked.prog f i.args .normal) [] (w.forCall tape i))) :
  ReturnsInLeavingWide {} Try.checked os f .any (s.pre6 enc Try.prog fn conds false) (s.post enc Try.prog fn false fresh handsOn false):=by
 refine returnsInLeavingWide_of_change_sized (C:=Try.checked) Try.own started K9 witness ?_
 intro W base args ds gs before S8 hW _ _ _
 have UI:∀ (j:Nat) t v,fn.params[j]? = some t→args[j]? = some v→Value.okWide Try.prog W .any base t v:=S8
 have hW':=hW
 obtain⟨p,q,hA0,hV,rfl,_,_⟩:=hW
 have hA:DataW.TrodAll enc Try.prog W 0 (fun _=>true) true fn.params.toList args.toList ds p:=hA0
 rw[YD] at hA UI
 obtain⟨v0,d0,rfl,rfl,h0⟩:=trodAll_one hA
 rw[S7] at hV
 obtain⟨rfl,rfl⟩:=trodVars_none hV
 obtain⟨a0,len,cap,rfl⟩:=okWide_slice Try.B9 (UI 0 22 v0 rfl rfl)
 have j8:=UI 0 22 _ rfl rfl
 have S9:∀ ad,a0=some ad→ad.spot=none:=by
  intro ad e
  subst e
  simp only[Value.okWide,Try.B9,Cell.okWide,Cell.ok,World.has] at j8
  exact j8.2.2.2.1
 have h0k:=h0
 obtain⟨fuel,hfu⟩:=h0
 clear hA0 S8
 simp only[List.append_nil] at hW'
 have hlt:∀ x∈p,x.block<W.heap.size:=fun x hx=>by simpa using hW'.lt x hx
 have iV:∀ (W':World),oy W W'→DataW.Trod enc Try.prog W' 0 (fun b=>decide (b<W.heap.size)) true 22 (.slice a0 len cap) d0 p :=
  fun W' hn=>WideElems.Trod_stays Try.laidOut (by kernel_rfl) (of_decide_eq_true (by kernel_rfl)) h0k (fun x hx=>Gk hn (hlt x hx)) fun x hx=>by simpa using hlt x hx
 have close:∀ (zs:List Int) (b o:Nat),zs.length=len→len≤cap→(a0=none→cap=0)→(zs≠[]→a0=some ⟨b,o,none⟩) →
   (∀ j,j<zs.length→W.cell? ⟨b,o+j,none⟩=some (.int .i64 (zs.getD j 0))) →
   ∃ M last o w' t',runNT Try.checked.prog (M+1) (solo (G (Frame.enter Try.checked.prog f #[.slice a0 len cap] .normal) []) W) #[]=(.ended o w',t') ∧
    runN Try.checked.prog M (solo (G (Frame.enter Try.checked.prog f #[.slice a0 len cap] .normal) []) W) = .next last∧step Try.checked.prog last = .ended o w' ∧
    Conc.Good Try.checked.prog (fun v W'=>s.post enc Try.checked.prog fn false fresh handsOn false W #[.slice a0 len cap] v W') last o w' t':=by
  intro zs b o hz hc hn hb hel
  subst hz
  obtain⟨M,last,o,w',t',h1,h2,h3,h4⟩:=Ov UJ tkt hf hi (hs zs) hb S9 hn hc hel
  refine⟨M,last,o,w',t',h1,h2,h3,h4.mono fun v hF => ?_⟩
  obtain⟨rfl,hst⟩:=hF
  have es:s.fn H ([d0]++[])={ results:=[.lit (.bool true)],args:=[d0] }:=Zw H d0
  refine⟨_,_,_,[],p,[],hW',?_,?_,by rw[es,S7]; rfl,EI hst _,fun h=>by cases h⟩
  ·rw[es,UO]; exact trodAll_mk1 (shut_bool Try.Vy _)
  ·rw[es,YD]; exact trodAll_mk1 (iV _ hst)
 rcases open_ints Try.B9 Try.Vz Try.Wq hfu with ⟨jQ,hx⟩ | ⟨a,len',cap',zs,jQ,_,hl,hm,hz,hx,nQ,hwz⟩
 ·simp[Value.cells] at jQ
  obtain⟨rfl,rfl,rfl⟩:=jQ
  exact close [] 0 0 rfl (Nat.le_refl _) (fun _=>rfl) (fun h=>absurd rfl h) (fun j hj=>absurd hj (by simp))
 ·simp[Value.cells] at jQ
  obtain⟨rfl,rfl,rfl⟩:=jQ
  simp only[if_true] at hz
  have hsp:=S9 a rfl
  obtain⟨b,o,sp⟩:=a
  simp only at hsp
  subst hsp
  have hlen:(zs.take len).length=len:=by simp; omega
  refine close (zs.take len) b o hlen hl (fun h=>by cases h) (fun _=>rfl) fun j hj => ?_
  rw[hlen] at hj
  have h1:=nQ j (by omega)
  have h2:(⟨b,o,none⟩:Addr).add j=⟨b,o+j,none⟩:=by
   unfold Addr.add
   split
   ·rename_i e; subst e; rfl
   ·rfl
  rw[h2] at h1
  rw[h1]
  simp[List.getD_eq_getElem?_getD,hj]
end Go.Tv
end
section
namespace Go.Tv
open Go Go.Di Go.Conc Go.Co Go.Proofs
variable {af:Machine→Trace→Prop} {x:Cx}
theorem pW:∀ {l:List Int} {rows:List DV},dn (CR cv) cv.agg l rows→rows=Go.Tv.rowsOf l
 | [],[],_=>rfl
 | [],_::_,h=>h.elim
 | _::_,[],h=>h.elim
 | n::l,r::rows,h=>by
  obtain⟨⟨h1,h2⟩,h3⟩:=h
  rw[pW h3]
  have h1:r.cells=[.val (.int .i64 n)]:=h1
  have:r = .val (.int .i64 n):=by
   cases r<;>simp only[DV.cells] at h1<;>first | (cases h1; rfl) | (cases h1; done) | exact(h2 rfl _ rfl).elim | skip
   all_goals exact(h2 _ rfl).elim
  rw[this]; rfl
theorem Zc {ι:jR} {S:ak} {t:TT} {l:List t.den} {ap:Ap} {d:DV} (h:RT ι S (.sl t l ap) d):∃ rows tok f,d = .sl rows tok f∧dn (CR t) t.agg l rows∧qq ι S rows.length tok f ap:=by
 cases d<;>simp only[RT] at h
 exact⟨_,_,_,rfl,h⟩
theorem Zb {ι:jR} {S:ak} {v:Value} {d:DV} (h:RT ι S (.val v) d):d = .val v:=by
 cases d<;>simp only[RT] at h
 rw[h]
theorem wT:∀ l:List Int,vh (Go.Tv.rowsOf l)=some l
 | []=>rfl
 | n::l=>by
  have:=wT l
  simp only[Go.Tv.rowsOf,List.map_cons,vh] at this ⊢
  rw[this]; rfl
theorem QA:LI zL where
 rev:=fun l d hl h=>by
  cases d<;>simp only[RT] at h
  rename_i rows tok f
  rw[pW h.1]
  refine⟨.sl (Go.Tv.rowsOf l.reverse) none ⟨false,none⟩,?_,rfl,by simp only[RT]; exact⟨s8 _,trivial⟩⟩
  have e:jS 83 [.sl (Go.Tv.rowsOf l) tok f]=some (.sl (Go.Tv.rowsOf l.reverse) none ⟨false,none⟩):=by
   simp only[jS,PU,wT,if_pos hl]; rfl
  simp[zL,more,e]
theorem HS (la ub:List Int) (s:Int):∀ k,wY la ub s k=mQ (gK la ub s k)
 | 0=>rfl
 | k+1=>by
  have ih:=HS la ub s k
  rw[oI,ih,gK,Fc]
  by_cases h:0≤(k:Int)+s∧(k:Int)+s<la.length
  ·rw[if_pos h,if_neg (by omega)]
   have e:mQ (gK la ub s k++[ub.getD k 0+la.getD ((k:Int)+s).toNat 0])=zA (mQ (gK la ub s k)) (ub.getD k 0+la.getD ((k:Int)+s).toNat 0):=by
    simp[mQ,List.foldl_append]
   rw[e]
   generalize mQ (gK la ub s k)=st
   generalize ub.getD k 0+la.getD ((k:Int)+s).toNat 0=v
   obtain⟨lo,hi,m⟩:=st
   simp only[zA]
   by_cases h0:m=0
   ·simp[h0]
   ·simp only[h0,if_false]
  ·rw[if_neg h,if_pos (by omega)]
theorem OH (la ub:List Int) (w:Int):Go.Co.LC la ub w=oG la ub w:=by
 funext s
 simp only[Go.Co.LC,oG,qy,HS,Bool.decide_and]
theorem EJ (la ub:List Int) (w:Int):jV la ub w=pe la ub w (ub.length+la.length+1):=by
 rw[jV,KA,pe,OH]
def Ae (u l:List Int) (w:Int) (q:List Int):Wk:=⟨q,w,fun i=>([u,l.reverse,u.reverse,l]:List (List Int)).getD i [],fun i=>([l,u.reverse,l.reverse,u]:List (List Int)).getD i []⟩
theorem SB {u l q:List Int} {w:Int} {d:DV} (h:RT eD [] (Xq u l w q) d):Pq d=some (Ae u l w q):=by
 cases d<;>simp only[Xq,RT] at h
 obtain⟨a0,m,rfl,k0,h⟩:=aj h
 obtain⟨a1,m,rfl,k1,h⟩:=aj h
 obtain⟨a2,m,rfl,k2,h⟩:=aj h
 obtain⟨a3,m,rfl,k3,h⟩:=aj h
 obtain⟨a4,m,rfl,k4,h⟩:=aj h
 obtain⟨a5,m,rfl,k5,h⟩:=aj h
 obtain⟨a6,m,rfl,k6,h⟩:=aj h
 obtain⟨a7,m,rfl,k7,h⟩:=aj h
 obtain⟨a8,m,rfl,k8,h⟩:=aj h
 obtain⟨a9,m,rfl,k9,h⟩:=aj h
 obtain⟨a10,m,rfl,k10,h⟩:=aj h
 obtain⟨a11,m,rfl,k11,h⟩:=aj h
 cases aM h
 cases Zb k2
 have key:∀ {l:List Int} {d:DV},RT eD [] (.sl cv l .no) d→Jc d=some l:=fun {l d} hd=>by
  obtain⟨r,t,f,rfl,hr,-⟩:=Zc hd
  rw[pW hr]
  exact wT l
 simp only[Pq,Aq,key k3,key k4,key k5,key k6,key k7,key k8,key k9,key k10,key k11]
 rfl
theorem B2 {l:List Int} (h:l.length≤1000) (h1:∀ x∈l,0≤x∧x≤9):zP l=true:=by
 simp only[zP,Bool.and_eq_true,decide_eq_true_eq,List.all_eq_true]
 exact⟨h,h1⟩
theorem IL:∀ {l:List Int},l.Pairwise (· < ·)→FG l=true
 | [],_=>rfl
 | a::l,h=>by
  rw[List.pairwise_cons] at h
  simp only[FG,Bool.and_eq_true,List.all_eq_true,decide_eq_true_eq]
  exact⟨h.1,IL h.2⟩
theorem Mv {u l q:List Int} {w:Int} (h:Ok u l w q):WE (Ae u l w q)=true:=by
 have h1:=h.n8
 have h2:=h.len
 have sp:=lq h
 have hu:=B2 sp.1 h.hu
 have hl:=B2 sp.2.1 h.hl
 have hur:zP u.reverse=true:=B2 (by simp; omega) fun x hx=>h.hu x (by simpa using hx)
 have hlr:zP l.reverse=true:=B2 (by simp; omega) fun x hx=>h.hl x (by simpa using hx)
 have h4:(List.range 4).all (fun i=>zP ((Ae u l w q).up i)&&zP ((Ae u l w q).lo i))=true:=by
  simp[List.range_succ,Ae,hu,hl,hur,hlr]
 have hw0:=h.w0
 have hw2:=h.w2
 have e1:(Ae u l w q).aO.all (fun x=>decide (0≤x)&&decide (x≤3))=true:=by
  simp only[List.all_eq_true,Bool.and_eq_true,decide_eq_true_eq]
  exact h.CY
 unfold WE
 rw[h4,e1,show FG (Ae u l w q).aO=true from IL h.PM,decide_eq_true (show (Ae u l w q).aO.length≤1000 from sp.2.2),decide_eq_true (show 0≤(Ae u l w q).bH from hw0),decide_eq_true (show (Ae u l w q).bH≤1000 by show w≤1000; omega)]
 rfl
theorem Gq {ua la qa ub lb qb:List Int} {wa wb:Int} (ha:Ok ua la wa qa) (hb:Ok ub lb wb qb):cB (Ae ua la wa qa) (Ae ub lb wb qb)=(ai ua la qa ub lb qb (wa+wb)).map fun x=>(x.1,x.2.1,x.2.2.1):=by
 have h3:=ha.len
 have h3':=hb.len
 unfold cB ai
 rw[List.map_flatMap]
 have M4:∀ {α β:Type} {l:List α} {f g:α→List β},(∀ x∈l,f x=g x)→l.flatMap f=l.flatMap g:=fun {α β l f g} h=>by
  induction l with
  | nil=>rfl
  | cons x l ih=>rw[List.flatMap_cons,List.flatMap_cons,h x (by simp),ih fun y hy=>h y (by simp[hy])]
 refine M4 fun x hx => ?_
 rw[List.map_flatMap]
 refine M4 fun y hy => ?_
 rw[List.map_map]
 have ex:(Ae ua la wa qa).lo x.toNat=aT x ua la∧(aT x ua la).length=ua.length:=by
  rcases four (ha.CY x hx) with rfl | rfl | rfl | rfl<;>simp[Ae,aT,h3]
 have ey:(Ae ub lb wb qb).up y.toNat=aR y ub lb∧(aR y ub lb).length=ub.length:=by
  rcases four (hb.CY y hy) with rfl | rfl | rfl | rfl<;>simp[Ae,aR,h3']
 rw[dY,ex.1,ey.1,EJ,ex.2,ey.2]
 rfl
theorem Ib:∀ l:List (Int×Int×Int×Unit),dn (CR jw) jw.agg l ((l.map fun x=>(x.1,x.2.1,x.2.2.1)).map Xu)
 | []=>trivial
 | (x,y,s,_)::l=>⟨⟨⟨_,_,rfl,rfl,_,_,rfl,rfl,_,_,rfl,rfl,rfl⟩,⟨_,rfl⟩⟩,Ib l⟩
theorem Qz:Qk zL where
 SH:=fun ua la qa ub lb qb wa wb d1 d2 ha hb h1 h2=>by
  refine⟨.sl ((cB (Ae ua la wa qa) (Ae ub lb wb qb)).map Xu) none ⟨false,none⟩,?_,rfl,?_⟩
  ·have e:jS 33 [d1,d2]=some (.sl ((cB (Ae ua la wa qa) (Ae ub lb wb qb)).map Xu) none ⟨false,none⟩):=by
    simp only[jS,BQ,SB h1,SB h2,Mv ha,Mv hb,Bool.and_self,if_true]
   simp[zL,more,e]
  ·simp only[RT]
   rw[Gq ha hb]
   exact⟨Ib _,trivial⟩
end Go.Tv
end
section
namespace Go.Tv
open Go Go.Di Go.Conc Go.Co Go.Proofs
theorem Qy:Qj zL where
 dup:=fun l d hl h=>by
  cases d<;>simp only[RT] at h
  rename_i rows tok f
  rw[pW h.1]
  refine⟨.sl (Go.Tv.rowsOf l) none ⟨false,none⟩,?_,rfl,by simp only[RT]; exact⟨s8 _,trivial⟩⟩
  have e:jS 67 [.sl (Go.Tv.rowsOf l) tok f]=some (.sl (Go.Tv.rowsOf l) none ⟨false,none⟩):=by
   simp only[jS,Qc,wT,if_pos hl]; rfl
  simp[zL,more,e]
end Go.Tv
end
section
namespace Go.Tv
open Go Go.Di Go.Proofs
theorem Kj {aZ:bq} (tk:sC aZ) {f:FuncId} {fn:Func} {D:List TV→Dn} {k d:Nat} {T:gN} (hT:lg aZ k T) (hne:f≠33∧f≠83∧f≠13∧f≠67∧f≠0) (hf:Tp.funcs[f]? = some fn) (hb:fn.body.isSome=true) {kz:List (Option TT)} (h:VI T fn kz D d) {a:List TV} {j:List (Nat×LA)} (hD:D a=some ([],.res (mX true) [] [],j)) (n:Nat):oA (Dc aZ (n+(k+d+1))) f a (fun v=>v=mX true) :=
 (((rV tk hT hne hf hb h (T':=T) (by have:=jI hT (d+1); rwa [Nat.add_comm,← Nat.add_assoc] at this)).2 n).I f a [] (.res (mX true) [] []) (by simp only[gN.dQ,if_true,hD]; rfl) trivial).mono fun v hv=>hv.1
section
variable {aZ:bq} (tk:sC aZ) (tr:LI aZ) (ts:Qk aZ) (tu:Qj aZ)
include tk tr
theorem aaZ:lg aZ 8 F4:=LM (LM (rV tk (jI (iz tk) 7) (by decide) Try.func54 rfl v54 (rV tk (jI (iz tk) 7) (by decide) Try.func51 rfl v60 (rV tk (Qa tk) (by decide) Try.func30 rfl v48 (rV tk (jI (Yr tk tr) 5) (by decide) Try.func32 rfl v50 (iW (Qa tk)))))) Try.func52 rfl) Try.func53 rfl
include ts tu
theorem aaY:lg aZ 10 F6:=LM (rV tk (jI (Z8 tu (iz tk)) 9) (by decide) Try.func42 rfl v20 (rV tk (aaZ tk tr) (by decide) Try.func25 rfl bz (rV tk (jI (YW tk tr ts) 1) (by decide) Try.func10 rfl WG (rV tk (jI (YW tk tr ts) 1) (by decide) Try.func11 rfl IY (I1 (jI (zJ tk) 7) Try.func24 rfl v19 (jI (Us tk) 4)))))) Try.func15 rfl
end
end Go.Tv
namespace Go.Proofs.Ytedcgbkilmlbhaa
open Go Go.Di Go.Tv Go.Conc Go.Co Go.Proofs
open Go.ChangeShapes Go.WideShapes Go.ChangeAt Go.RowKit
set_option maxRecDepth 100000 in
theorem zi (os:Os) (started:os.Started) (H:Type) (enc:TypeId×Value→H) :
  ReturnsInLeavingWide {} Try.checked os 6 .any (Rows.cutWornSpec.pre6 enc Try.prog Try.f6 Rows.cutWornRow.domain false) (Rows.cutWornSpec.post enc Try.prog Try.f6 false true false false) :=
 Rn (fun _=>QF) Cb Try.func6 Try.params6 (by kernel_rfl) rfl (fun _ _=>rfl) (by decide) (by kernel_rfl) (n:=11) (fun fe=>Kj Cb (aaY Cb QA Qz Qy) (by decide) Try.func6 rfl v6 (a:=[.sl cv fe .no]) rfl 0) started
  (ChangeSpec.witness6 (enc:=enc) (C:=Try.checked) false ⟨#[],#[.slice none 0 0],[]⟩ 9 (by kernel_rfl) (by kernel_rfl) (by kernel_rfl) (by kernel_rfl))
set_option maxRecDepth 100000 in
theorem cutWorn_holds:Rows.CutWornSaid :=
 OpenClaim.holds_of_wide_leaving 6 Try.f6 rfl rfl rfl rfl rfl rfl rfl ⟨rfl,rfl,rfl,rfl,rfl⟩ rfl rfl rfl rfl rfl (by kernel_rfl) Try.func6 (by kernel_rfl)
  (of_decide_eq_true (by kernel_rfl)) (by unfold Func.isWrapper; first | (rw[if_pos (by decide +kernel)]; kernel_rfl) | (rw[if_neg (by decide +kernel)]; exact⟨rfl,rfl⟩))
  (fun os started H enc _=>zi os started H enc)
#print axioms cutWorn_holds
end Go.Proofs.Ytedcgbkilmlbhaa
end
