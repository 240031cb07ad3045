/- The law CutAll returns true, whatever the numbers: every input. -/
import Derived.Test.YtedcgbkilmlbhaaGreatPk32
import Derived.Test.YtedcgbkilmlbhaaGreatPk09
import Derived.Test.YtedcgbkilmlbhaaGreatPk10
section
namespace Go.Tv
open Go Go.Di Go.Conc Go.Co Go.Proofs
variable {Final:Machine→Trace→Prop} {x:Cx}
noncomputable def opsY:Array Oper:=match sortY with
 | .region _ ops _=>ops
 | _=>#[]
theorem sortY_eq:sortY = .region 13 opsY false:=by kernel_rfl
theorem rtl_unk {ι:Ids} {S:Store}:∀ l:List DV,RTl ι S (List.replicate l.length .unk) l
 | []=>rtl_nil
 | d::l=>by rw[List.length_cons,List.replicate_succ]; exact rtl_cons (by simp only[RT]) (rtl_unk l)
theorem opY (i:Nat) (o:Oper) (h:opsY.toList[i]? = some o):opsY[i]? = some o:=by rw[← h,Array.getElem?_toList]
noncomputable def oY (i:Nat):Oper:=opsY.toList.getD i default
theorem oY0:opsY[0]? = some (oY 0)∧(oY 0).op = .fieldAddr 25 (.tmp 8) 3∧(oY 0).dst=some 56∧(oY 0).guard=none:=⟨opY _ _ (by kernel_rfl),by kernel_rfl,by kernel_rfl,by kernel_rfl⟩
theorem oY1:opsY[1]? = some (oY 1)∧(oY 1).op = .load 23 (.tmp 56)∧(oY 1).dst=some 57∧(oY 1).guard=none:=⟨opY _ _ (by kernel_rfl),by kernel_rfl,by kernel_rfl,by kernel_rfl⟩
theorem oY2:opsY[2]? = some (oY 2)∧(oY 2).op = .call { callee := .value (.func 99),args:=#[.tmp 57],argTypes:=#[23] }∧(oY 2).guard=none:=⟨opY _ _ (by kernel_rfl),by kernel_rfl,by kernel_rfl⟩
theorem d58:(oY 2).dst=some 58:=by kernel_rfl
theorem ty25:∃ z,tyOf Tryz.prog 25=some ⟨.struct [(0,1,false),(1,1,false),(2,1,false),(3,1,false)],4,z⟩:=by
 have h:(tyOf Tryz.prog 25).map (fun d=>(d.k,d.size))=some (.struct [(0,1,false),(1,1,false),(2,1,false),(3,1,false)],4):=by kernel_rfl
 cases e:tyOf Tryz.prog 25 with
 | none=>rw[e] at h; cases h
 | some d=>obtain⟨k,s,z⟩:=d; rw[e] at h; cases h; exact⟨z,rfl⟩
theorem ty23:∃ k z,tyOf Tryz.prog 23=some ⟨k,1,z⟩∧k.isAgg=false:=by
 have h:(tyOf Tryz.prog 23).map (fun d=>(d.k.isAgg,d.size))=some (false,1):=by kernel_rfl
 cases e:tyOf Tryz.prog 23 with
 | none=>rw[e] at h; cases h
 | some d =>
  obtain⟨k,s,z⟩:=d
  rw[e] at h
  simp only[Option.map_some,Option.some.injEq,Prod.mk.injEq] at h
  obtain⟨h1,rfl⟩:=h
  exact⟨k,z,rfl,h1⟩
theorem rep_undef {k j:Nat}:(Array.replicate k undef).getD j undef=undef:=by rw[Array.getD_eq_getD_getElem?,Array.getElem?_replicate]; split<;>rfl
theorem tmps52:Tryz.f52.ntmps=60:=by kernel_rfl
theorem bodyY:Tryz.f52.body=some y0:=body_some rfl
theorem size_opsY:opsY.size=3:=by kernel_rfl
theorem rt_sl {ι:Ids} {S:Store} {t:TT} {l:List t.den} {ap:Ap} {d:DV} (h:RT ι S (.sl t l ap) d):∃ rows tok f,d = .sl rows tok f∧RowsR (CR t) t.agg l rows∧ApOK ι S rows.length tok f ap:=by
 cases d<;>simp only[RT] at h
 exact⟨_,_,_,rfl,h⟩
theorem rt_vl {ι:Ids} {S:Store} {v:Value} {d:DV} (h:RT ι S (.val v) d):d = .val v:=by
 cases d<;>simp only[RT] at h
 rw[h]
theorem rt_nl {ι:Ids} {S:Store} {d:DV} (h:RT ι S .nils d):d=zD:=by
 cases d<;>simp only[RT] at h
 obtain⟨rfl,rfl,rfl⟩:=h
 rfl
theorem rt_pt {ι:Ids} {S:Store} {k o:Nat} {d:DV} (h:RT ι S (.ptr k o) d):∃ id,d = .ptr id o∧ι k=some id:=by
 cases d<;>simp only[RT] at h
 obtain⟨h1,rfl⟩:=h
 exact⟨_,rfl,h1⟩
theorem wanted_none {o:Oper} {y:Nat→Option Bool} (h:o.guard=none):Region.wanted o y=true:=by simp[Region.wanted,h]
theorem rv_tok {e:TypeId} {s:Nat} {rows:List DV} {t:Nat} {f:SF} {v:Value} (h:RV x (.sl rows (some t) f) v) (ht:x.S[t]? = some (.tail e s (rows.length*s))):v = .slice (some ⟨x.μ t,0,none⟩) rows.length (x.κ t):=by
 cases h with
 | sl _ _ _ _ _ _ h7 =>
  obtain⟨e',s',n,k1,k2,k3,k4⟩:=h7 t rfl
  rw[ht] at k1
  cases k1
  obtain⟨rfl,rfl⟩:=k4 rfl
  rfl
theorem rv_content {t:Nat} {f:SF} {v:Value} {qs:List Int} {cur:Array Value} (h:RV x (.sl (Go.Tv.rowsOf qs) (some t) f) v) (ht:x.S[t]? = some (.tail 3 1 (qs.length*1))) (hc:x.w.heap[x.μ t]? = some (.cells cur 3 (0,0))):cur.toList.take qs.length=qs.map (Value.int .i64):=by
 have hv:=rv_tok h (e:=3) (s:=1) (by rw[rowsOf_len]; exact ht)
 subst hv
 cases h with
 | @sl _ _ _ _ _ s vs h1 h2 _ _ _ _ _ =>
  apply List.ext_getElem?
  intro j
  by_cases hj:j<qs.length
  ·have hf:(flat (Go.Tv.rowsOf qs))[j]? = some (.val (.int .i64 (qs.getD j 0))):=by
    rw[flat_rowsOf,Go.Tv.rowsOf,List.getElem?_map,List.getD_eq_getElem?_getD,List.getElem?_eq_getElem hj]
    rfl
   obtain⟨-,b,o,q1,-,q3⟩:=h1.2 j _ hf
   cases q1
   have q4:=rv_val (h2 j _ hf)
   rw[q4] at q3
   simp only[World.cell?,hc,Nat.zero_add,Option.isSome_none,Bool.false_eq_true,if_false] at q3
   rw[List.getElem?_take_of_lt hj,Array.getElem?_toList,q3,List.getElem?_map,List.getD_eq_getElem?_getD,List.getElem?_eq_getElem hj]
   rfl
  ·rw[List.getElem?_take_eq_none (by omega),List.getElem?_eq_none (by simp; omega)]
theorem rvs_over {env:List DV} {arr:Array Value} (h:RVs x env arr) {j:Nat} {d:DV} (hd:RV x d (arr.getD j undef)):RVs x (env.set j d) arr:=by
 refine⟨by simp[h.1],fun i c hi => ?_⟩
 rw[List.getElem?_set] at hi
 split at hi
 ·rename_i e
  subst e
  split at hi
  ·cases hi; exact hd
  ·cases hi
 ·exact h.2 i c hi
theorem rt_res {n w:Int} {u l q:List Int} {d:DV} (h:RT noIds [] (.tup [.agg [.sl I64 (layU n u l) .no,.sl I64 (layL n u l) .no,ival w,.sl I64 (sortI (xorL n q)) .no],ival 0]) d):wkD' d=layRes n u l q w:=by
 cases d<;>simp only[RT] at h
 obtain⟨d1,m,rfl,h1,h⟩:=rtl_cases h
 obtain⟨d2,m,rfl,h2,h⟩:=rtl_cases h
 cases rtl_nil' h
 cases rt_vl h2
 cases d1<;>simp only[RT] at h1
 obtain⟨a1,m,rfl,k1,h1⟩:=rtl_cases h1
 obtain⟨a2,m,rfl,k2,h1⟩:=rtl_cases h1
 obtain⟨a3,m,rfl,k3,h1⟩:=rtl_cases h1
 obtain⟨a4,m,rfl,k4,h1⟩:=rtl_cases h1
 cases rtl_nil' h1
 obtain⟨_,_,_,rfl,r1,-⟩:=rt_sl k1
 obtain⟨_,_,_,rfl,r2,-⟩:=rt_sl k2
 obtain⟨_,_,_,rfl,r4,-⟩:=rt_sl k4
 cases rt_vl k3
 cases ints_rows r1
 cases ints_rows r2
 cases ints_rows r4
 rfl
set_option maxHeartbeats 2000000 in
set_option maxRecDepth 100000 in
theorem lay_bare (tk:TabK tabF) (tr:TabR tabF) (hR:Rel x) (hS:x.S=[]) {u l q:List Int} {w n:Int} {t1 t2 t3:Option Nat} {f1 f2 f3:SF} (hok:Ok u l w q) (hn:0≤n∧n≤3) {vals:Array Value}
  (ha:RVs x [.agg [.sl (Go.Tv.rowsOf u) t1 f1,.sl (Go.Tv.rowsOf l) t2 f2,.val (.int .i64 w),.sl (Go.Tv.rowsOf q) t3 f3],.val (.int .i64 n)] vals):EnterOK Tryz.prog Final x 52 vals fun y v=>Rel y∧Mono x y∧RV y (layRes n u l q w) v:=by
 have hP:=plain_try
 have hcy:=deepP_ok (Final:=Final) plain_try mixed_try (ty_ok _) tabF_ok (L:=LL) 5
 have hcall:CallOK Tryz.prog Final (callT' tabF 5):=hcy.1
 have hyf:YldOK Tryz.prog Final (yfT tabF 5):=hcy.2
 have hiso:IsoOK Tryz.prog Final (isoT tabF 5):=iso_ok tabF_ok hcy.1
 have hreg:∀ id ops draw,RegOK Tryz.prog Final Ty (isoT tabF 5) (callT' tabF 5) (yfT tabF 5) id ops draw:=fun id ops draw=>reg_ok plain_try mixed_try (ty_ok _) hcall hiso hyf id ops draw
 have hL:=lok tk tr
 have hl1:=lev_tok hL 0 0
 have W1:WT Tp Ty (isoT tabF 5) (callT' tabF 5) (yfT tabF 5) [] LL 52 false (seqs preY .skip) (te0Y u l q w n) [] (endB [] (te1Y q n) (tSY [.sl I64 (layU n u l) .no,.sl I64 (layL n u l) .no,ival w,.nils])):=vc_ok (lev_tbl hl1) (inl_ok hL.1 0 hl1) _ _ _ _ _ _ (xA1 u l q w n hok hn).h
 refine⟨⟨Tryz.f52,y0,Tryz.func52,bodyY⟩,fun fr cs hnx => ?_⟩
 rw[enter_at vals Tryz.func52 bodyY,← Frame.atR_of_none (b:=base 52) rfl]
 generalize hargs:[DV.agg [.sl (Go.Tv.rowsOf u) t1 f1,.sl (Go.Tv.rowsOf l) t2 f2,.val (.int .i64 w),.sl (Go.Tv.rowsOf q) t3 f3],.val (.int .i64 n)]=args at ha
 have hlen:args.length=2:=by rw[← hargs]; rfl
 have he:RVs x (args++List.replicate (Tryz.f52.ntmps-args.length) dundef) (vals++Array.replicate (Tryz.f52.ntmps-vals.size) undef):=by
  refine rvs_append ha ⟨by simp[ha.1],fun j c hc => ?_⟩
  rw[List.getElem?_replicate] at hc
  split at hc
  ·rename_i hj
   cases hc
   rw[rep_undef]
   exact .val rfl
  ·cases hc
 have hRT:RelT noIds (te0Y u l q w n) [] (args++List.replicate (Tryz.f52.ntmps-args.length) dundef) []:=by
  refine⟨?_,fun k l hk=>(by simp at hk),fun k e s hk=>(by simp at hk),fun k k' hk=>(by cases hk),fun i j k' hi=>(by cases hi)⟩
  rw[hlen,tmps52]
  refine rtl_append ?_ (rtl_rep _ _)
  rw[← hargs]
  refine rtl_cons ?_ (rtl_one (by simp only[RT]))
  simp only[RT]
  exact rtl_cons (by simp only[RT]; exact⟨rowsR_of _,trivial⟩) (rtl_cons (by simp only[RT]; exact⟨rowsR_of _,trivial⟩) (rtl_cons (by simp only[RT]) (rtl_one (by simp only[RT]; exact⟨rowsR_of _,trivial⟩))))
 obtain⟨e,env1,S1,ι1,te1,tS1,h1,hR1,hB1,-,-,hQ1⟩:=W1 noIds _ [] hRT (fun k hk=>(by cases hk))
 cases e with
 | exit id=>exact hQ1.elim
 | ret=>exact hQ1.elim
 | normal =>
 have hfit:=(back_ok hQ1).1
 obtain⟨ι1',hR1',-,-⟩:=rel_less hR1 hfit.l hfit.b hfit.ok (bok_less hfit.b hB1 hfit.base)
 obtain⟨ea,sa,h1a,h1b⟩:=codeD_split (l:=[lft y0,lft (rgt y0),lft (rgt (rgt y0)),lft (rgt (rgt (rgt y0))),lft (rgt (rgt (rgt (rgt y0))))]) (m:=[lft (lft y5)]) h1
 rw[y0_eq]
 refine chain_ok (n0:=0) (ds:=[]) (b:=base 52) (cs:=fr::cs) hP hcall hreg (by simp[base]) rfl rfl [lft y0,lft (rgt y0),lft (rgt (rgt y0)),lft (rgt (rgt (rgt y0))),lft (rgt (rgt (rgt (rgt y0))))] _ (by rw[hS]; exact h1a) hR he (defOK_nil _ _) (Nat.zero_le _) fun ya aa dsa p1 p2 p3 p4 p5 => ?_
 refine mu_ctl hP (fun w=>⟨_,rG_seq⟩) ?_
 refine chain_ok (n0:=0) (ds:=dsa) (b:=base 52) (cs:=fr::cs) hP hcall hreg (by simp[base]) rfl rfl [lft (lft y5)] loopY (by rw[p1]; exact h1b) p2 p4 p5 (Nat.zero_le _) fun y1 a1 ds1 q1 q2 q3 q4 q5 => ?_
 have M01:=p3.trans q3
 clear p1 p2 p3 p4 p5 q3 h1a h1b h1 he hRT hQ1 hfit hR1 hB1
 obtain⟨k3,dsv,i3,s3,r3⟩:=hR1'.cells 12 [.sl I64 (layU n u l) .no,.sl I64 (layL n u l) .no,ival w,.nils] rfl
 obtain⟨dU,dsv,rfl,rU,r3⟩:=rtl_cases r3
 obtain⟨dL,dsv,rfl,rL,r3⟩:=rtl_cases r3
 obtain⟨dW,dsv,rfl,rW,r3⟩:=rtl_cases r3
 obtain⟨dZ,dsv,rfl,rZ,r3⟩:=rtl_cases r3
 cases rtl_nil' r3
 obtain⟨_,tU,fU,rfl,rU,-⟩:=rt_sl rU
 obtain⟨_,tL,fL,rfl,rL,-⟩:=rt_sl rL
 cases rt_vl rW
 cases rt_nl rZ
 cases ints_rows rU
 cases ints_rows rL
 obtain⟨arr3,e3,g1,g2,g3⟩:=q2.cells k3 _ (by rw[q1]; exact s3)
 have v0:=g3 0 _ rfl
 have v1:=g3 1 _ rfl
 have v2:=g3 2 _ rfl
 have v3:=g3 3 _ rfl
 obtain⟨a0,c0,hv0⟩:=rv_sl_hd v0
 obtain⟨a1',c1,hv1⟩:=rv_sl_hd v1
 rw[rowsOf_len] at hv0 hv1
 have s3y:y1.S[k3]? = some (.cells [.sl (Go.Tv.rowsOf (layU n u l)) tU fU,.sl (Go.Tv.rowsOf (layL n u l)) tL fL,.val (.int .i64 w),zD]):=by rw[q1]; exact s3
 have Mt:=mono_tell (l':=[.val (.slice a0 (layU n u l).length c0),.val (.slice a1' (layL n u l).length c1),.val (.int .i64 w),zD]) s3y
 have Rt:=rel_tell (l':=[.val (.slice a0 (layU n u l).length c0),.val (.slice a1' (layL n u l).length c1),.val (.int .i64 w),zD]) q2 s3y rfl fun arr e harr j c hc=>by
  rw[g1] at harr
  cases harr
  match j,hc with
  | 0,hc=>cases hc; rw[hv0]; exact .val rfl
  | 1,hc=>cases hc; rw[hv1]; exact .val rfl
  | 2,hc=>cases hc; exact v2.mono Mt
  | 3,hc=>cases hc; exact v3.mono Mt
  | j+4,hc=>simp at hc
 have rZ':RT ι1' (S1.set k3 (.cells [.val (.slice a0 (layU n u l).length c0),.val (.slice a1' (layL n u l).length c1),.val (.int .i64 w),zD])) .nils zD:=by simp only[RT,and_self]
 have rZl:RTl ι1' (S1.set k3 (.cells [.val (.slice a0 (layU n u l).length c0),.val (.slice a1' (layL n u l).length c1),.val (.int .i64 w),zD])) [hdV a0 (layU n u l).length c0,hdV a1' (layL n u l).length c1,ival w,.nils] [.val (.slice a0 (layU n u l).length c0),.val (.slice a1' (layL n u l).length c1),.val (.int .i64 w),zD] :=
  rtl_cons (by simp only[hdV,RT]) (rtl_cons (by simp only[hdV,RT]) (rtl_cons (by simp only[RT]) (rtl_one rZ')))
 have hRt:=relT_tell hR1' (k:=12) rfl i3 s3 rZl
 have hRt':RelT ι1' (te1Y q n) (tSY [hdV a0 (layU n u l).length c0,hdV a1' (layL n u l).length c1,ival w,.nils]) env1 (S1.set k3 (.cells [.val (.slice a0 (layU n u l).length c0),.val (.slice a1' (layL n u l).length c1),.val (.int .i64 w),zD])):=hRt
 have hq:q.length≤1000:=(sh_ok hok).2.2
 have W2:WT Tp Ty (isoT tabF 5) (callT' tabF 5) (yfT tabF 5) [1,12] LL 52 false loopY (te1Y q n) _ _:=vc_ok (lev_tbl hl1) (inl_ok hL.1 0 hl1) _ _ _ _ _ _ (xA2 q w n a0 a1' (layU n u l).length c0 (layL n u l).length c1 hq).h
 obtain⟨e,env2,S2,ι2,te2,tS2,h2,kR2,kB2,kF2,-,hQ2⟩:=W2 ι1' env1 _ hRt' (fun k hk=>by
  simp only[List.mem_cons,List.not_mem_nil,or_false] at hk
  rcases hk with rfl | rfl<;>exact⟨_,rfl⟩)
 cases e with
 | exit id=>exact hQ2.elim
 | ret=>exact hQ2.elim
 | normal =>
 have hfit2:=(back_ok hQ2).1
 obtain⟨ι2',hR2',kF2',-⟩:=rel_less kR2 hfit2.l hfit2.b hfit2.ok (bok_less hfit2.b kB2 hfit2.base)
 have hbase:=(kF2.trans kF2').base
 obtain⟨k1,dsz,i1,s1,r1⟩:=hR1'.cells 1 zeroV rfl
 have i1':ι2' 1=some k1:=(hbase 1 (by simp)).trans i1
 have i3':ι2' 12=some k3:=(hbase 12 (by simp)).trans i3
 have hne:k1≠k3:=fun e=>absurd (hR1'.inj 1 12 _ i1 (by rw[e]; exact i3)) (by decide)
 obtain⟨k1b,z1,j1,s1b,r1b⟩:=hR2'.cells 1 zeroV rfl
 rw[i1'] at j1
 cases j1
 obtain⟨k3b,z3,j3,s3b,r3b⟩:=hR2'.cells 12 [hdV a0 (layU n u l).length c0,hdV a1' (layL n u l).length c1,ival w,.sl I64 (xorL n q) (.lab 13)] rfl
 rw[i3'] at j3
 cases j3
 obtain⟨d0,z1,rfl,b0,r1b⟩:=rtl_cases r1b
 obtain⟨d1,z1,rfl,b1,r1b⟩:=rtl_cases r1b
 obtain⟨d2,z1,rfl,b2,r1b⟩:=rtl_cases r1b
 obtain⟨d3,z1,rfl,b3,r1b⟩:=rtl_cases r1b
 cases rtl_nil' r1b
 cases rt_nl b0
 cases rt_nl b1
 cases rt_vl b2
 cases rt_nl b3
 obtain⟨d0,z3,rfl,b0,r3b⟩:=rtl_cases r3b
 obtain⟨d1,z3,rfl,b1,r3b⟩:=rtl_cases r3b
 obtain⟨d2,z3,rfl,b2,r3b⟩:=rtl_cases r3b
 obtain⟨d3,z3,rfl,b3,r3b⟩:=rtl_cases r3b
 cases rtl_nil' r3b
 cases rt_vl b0
 cases rt_vl b1
 cases rt_vl b2
 obtain⟨rowsQ,tok,fQ,rfl,rQ,apQ⟩:=rt_sl b3
 cases ints_rows rQ
 have hxl:(xorL n q).length=q.length:=by simp[xorL]
 have hqp:0<q.length:=List.length_pos_iff.2 hok.ne
 rcases apQ with ⟨-,-,h0⟩ | ⟨t,et,st,hit,rfl,htl⟩
 ·rw[rowsOf_len] at h0; omega
 obtain⟨nt,htl'⟩:=hR2'.own 13 3 1 rfl t hit
 rw[htl] at htl'
 cases htl'
 rw[rowsOf_len] at htl
 have e8:env2.getD 8 dundef = .ptr k3 0:=by
  obtain⟨id,h8,h9⟩:=rt_pt (show RT ι2' S2 (.ptr 12 0) (env2.getD 8 dundef) from rtl_getD hR2'.env 8)
  rw[i3'] at h9
  cases h9
  exact h8
 have e4:env2.getD 4 dundef = .ptr k1 0:=by
  obtain⟨id,h8,h9⟩:=rt_pt (show RT ι2' S2 (.ptr 1 0) (env2.getD 4 dundef) from rtl_getD hR2'.env 4)
  rw[i1'] at h9
  cases h9
  exact h8
 have hlen2:env2.length=60:=rtl_len hR2'.env
 refine codeD_ok (n0:=0) (ds:=ds1) (b:=base 52) (cs:=fr::cs) (rnd:=false) hP hcall (by simp[base]) rfl (fun _=>rfl) loopY (regs_all hreg loopY) (x:={ y1 with S:=y1.S.set k3 (.cells [.val (.slice a0 (layU n u l).length c0),.val (.slice a1' (layL n u l).length c1),.val (.int .i64 w),zD]) }) (env:=env1) (k:=[.code (.seq sortY endY)]) (by show codeD _ _ _ _ _ _ _ _ loopY env1 (y1.S.set k3 _)=_; rw[q1]; exact h2) Rt (q4.mono Mt) (q5.mono Mt) (Nat.zero_le _) fun y2 a2 ds2 r1 r2 r3 r4 r5 => ?_
 show KMu _ _ () (G ((base 52).atR a2 [.code (.seq sortY endY)]) (fr::cs)) y2.w
 refine mu_ctl hP (fun w=>⟨_,rG_seq⟩) ?_
 rw[sortY_eq]
 refine mu_ctl hP (fun w=>⟨_,rG_region⟩) ?_
 rw[show List.range opsY.size=[0,1,2] by rw[size_opsY]; rfl]
 obtain⟨z25,hz25⟩:=ty25
 obtain⟨k23,z23,hz23,ha23⟩:=ty23
 refine mu_op (iso:=isoT tabF 5) (call:=callT' tabF 5) (yf:=yfT tabF 5) hP (ty_ok _) hcall hiso hyf (nid:=y2.S.length) (by simp[base]) oY0.1 (wanted_none oY0.2.2.2) r2 (nid_len _) r4 (d := .ptr k3 3) (S':=y2.S) (by simp only[stepOp,oY0.2.1,evD,e8,hz25]; rfl) fun y3 v56 t1 t2 t3 t4 => ?_
 rw[oY0.2.2.1]
 have E3:=(put_ok (r4.mono t3) (dst:=some 56) t4).1
 refine mu_op (iso:=isoT tabF 5) (call:=callT' tabF 5) (yf:=yfT tabF 5) hP (ty_ok _) hcall hiso hyf (nid:=y3.S.length) (by simp[base]) oY1.1 (wanted_none oY1.2.2.2) t2 (nid_len _) E3 (d := .sl (Go.Tv.rowsOf (xorL n q)) (some t) fQ) (S':=y3.S) (by
  have e56:(putD env2 (some 56) (.ptr k3 3)).getD 56 dundef = .ptr k3 3:=by simp[putD,List.getD_eq_getElem?_getD,hlen2]
  simp only[stepOp,oY1.2.1,evD,e56,loadD,hz23,t1,r1,s3b,partD,ha23]; rfl) fun y4 v57 u1 u2 u3 u4 => ?_
 rw[oY1.2.2.1]
 have E4:=(put_ok (E3.mono u3) (dst:=some 57) u4).1
 have hS4:y4.S=S2:=u1.trans (t1.trans r1)
 have ht4:y4.S[t]? = some (.tail 3 1 ((xorL n q).length*1)):=by rw[hS4]; exact htl
 obtain⟨cur,hcur,hcs,hcn,-⟩:=u2.tails t 3 1 _ ht4
 have hcont:=rv_content u4 ht4 hcur
 have hv57:=rv_tok u4 (e:=3) (s:=1) (by rw[rowsOf_len]; exact ht4)
 rw[rowsOf_len] at hv57
 have hsz60:((a2.put (some 56) v56).put (some 57) v57).tmps.size=60:=by rw[E4.1]; simp[putD,hlen2]
 have hev:(#[Operand.tmp 57]).map ((a2.put (some 56) v56).put (some 57) v57).eval=#[.slice (some ⟨y4.μ t,0,none⟩) (xorL n q).length (y4.κ t)]:=by
  rw[← hv57]
  have h57:((a2.put (some 56) v56).put (some 57) v57).eval (.tmp 57)=v57:=by
   have hs:57<(a2.put (some 56) v56).tmps.size:=by
    have:=hsz60
    simp only[Act.put,Array.size_setIfInBounds] at this ⊢
    omega
   show ((a2.put (some 56) v56).tmps.setIfInBounds 57 v57).getD 57 undef=v57
   rw[Array.getD_eq_getD_getElem?,Array.getElem?_setIfInBounds,if_pos rfl,if_pos hs]
   rfl
  simp[h57]
 have M14:Mono y1 y4:=Mt.trans (r3.trans (t3.trans u3))
 have s3y4:y4.S[k3]? = some (.cells [.val (.slice a0 (layU n u l).length c0),.val (.slice a1' (layL n u l).length c1),.val (.int .i64 w),.sl (Go.Tv.rowsOf (xorL n q)) (some t) fQ]):=by rw[hS4]; exact s3b
 have hnt:¬ Live y1.S t:=fun ht=>by
  obtain⟨b,hb1,hb2⟩:=ht
  rw[q1] at hb1
  rcases (kF2.trans kF2').ours 13 t hit with ⟨j,hj⟩ | hj
  ·obtain⟨bj,m1,m2⟩:=hRt'.dom j t hj
   have hcj:∃ c,bj = .cells c:=by
    have hmem:=List.mem_of_getElem? m1
    simp only[tSY,List.replicate,List.set,List.mem_cons,List.not_mem_nil,or_false] at hmem
    rcases hmem with h | h | h | h | h | h | h | h | h | h | h | h | h<;>first | exact absurd h m2 | exact⟨_,h⟩
   obtain⟨c,rfl⟩:=hcj
   obtain⟨t',dd,n1,n2,-⟩:=hRt'.cells j c m1
   rw[hj] at n1
   cases n1
   have hm:=(r3.trans (t3.trans u3)).cells t dd (by show (y1.S.set k3 _)[t]? = _; rw[q1]; exact n2)
   obtain⟨-,l',hl'⟩:=hm
   rw[ht4] at hl'
   cases hl'
  ·refine hj ?_
   by_cases e:t=k3
   ·subst e; rw[ht4] at s3y4; cases s3y4
   ·exact⟨b,by rw[set_get s3,if_neg e]; exact hb1,hb2⟩
 rw[Frame.atR_of_none (b:=base 52) rfl]
 refine mu_call_raw hP (by simp[base]) oY2.1 (wanted_none oY2.2.2) oY2.2.1 Tryz.func99 (body_some (fn:=Tryz.f99) rfl) (R:=fun v w'=>v = .tuple #[]∧(w'.os=y4.w.os∧w'.output=y4.w.output∧y4.w.heap.size≤w'.heap.size∧(∀ k,k<y4.w.heap.size→k≠y4.μ t→w'.heap[k]? = y4.w.heap[k]?)∧w'.heap[y4.μ t]? = some (.cells (Sort.putCells (Value.int .i64) 0 (sortI (xorL n q)).toArray cur) 3 (0,0)))) (fun τ => ?_) fun v w' hw' τ d => ?_
 ·rw[hev]
  refine(Tryz.sort_any (w:=y4.w.re τ 0) hcur hcont (by rw[hxl]; exact hq)).mono ?_
  rintro e w' ⟨rfl,hg,hh⟩
  exact⟨_,rfl,rfl,hg.os,hg.output,hg.size,fun k hk hk'=>hg.block k hk (fun e=>hk' (by cases e; rfl)),hh⟩
 obtain⟨rfl,w1,w2,w3,w4,w5⟩:=hw'
 have SI:SortIn x y1 y4 (w'.re τ d) k1 k3 t (Go.Tv.rowsOf (layU n u l)) (Go.Tv.rowsOf (layL n u l)) w (xorL n q) cur _ _ :=
  { h0:=hS,M01:=M01,R1:=q2,M1:=M14,Ry:=u2,hk3:=⟨_,s3y⟩,hk1:=⟨_,by rw[q1]; exact s1⟩,hne:=hne,hy3:=⟨fQ,s3y4⟩,hy1:=by rw[hS4]; exact s1b,hyt:=ht4,hnt:=hnt,rU:=⟨tU,fU,hv0▸v0⟩,rL:=⟨tL,fL,hv1▸v1⟩,hcur:=hcur,gos:=w1,gout:=w2,gsz:=w3,gblk:=w4,hw3:=w5,hsz:=by omega }
 have R3:=SI.rel
 have M03:=SI.mono
 generalize hx3:sortCx y1 y4 (w'.re τ d) k1 k3 t (Go.Tv.rowsOf (layU n u l)) (Go.Tv.rowsOf (layL n u l)) w (xorL n q)=x3 at R3 M03
 have hw3:w'.re τ d=x3.w:=by rw[← hx3]; rfl
 have hμ3:x3.μ=y4.μ:=by rw[← hx3]; rfl
 have hS3:∀ i,x3.S[i]? = if i=k3 then some (.cells (outD (Go.Tv.rowsOf (layU n u l)) (Go.Tv.rowsOf (layL n u l)) w (xorL n q))) else if i=k1 then some (.cells zeroD) else (y4.S[i]?).map keepD:=fun i=>by rw[← hx3]; exact SI.get i
 rw[← Frame.atR_of_none (b:=base 52) rfl,hw3]
 refine mu_ctl hP (fun w=>⟨_,rG_end_region⟩) ?_
 have E5:=(put_ok (E4) (dst:=(oY 2).dst) (d:=dundef) (v := .tuple #[]) (.val rfl)).1
 generalize ha5:((a2.put (some 56) v56).put (some 57) v57).put (oY 2).dst (.tuple #[])=a5 at E5
 obtain⟨envc,C5,hlc⟩:=any_rvs (y:=x3) E5
 have hlc60:envc.length=60:=by rw[hlc]; simp[putD,hlen2,d58]
 have hg2:∀ i,i<56→((putD (putD (putD env2 (some 56) (.ptr k3 3)) (some 57) (.sl (Go.Tv.rowsOf (xorL n q)) (some t) fQ)) (oY 2).dst dundef))[i]? = some (env2.getD i dundef):=fun i hi=>by
  simp only[putD,d58]
  rw[List.getElem?_set,if_neg (by omega),List.getElem?_set,if_neg (by omega),List.getElem?_set,if_neg (by omega),List.getD_eq_getElem?_getD,List.getElem?_eq_getElem (by omega)]
  rfl
 have p8:RV x3 (.ptr k3 0) (a5.tmps.getD 8 undef):=by
  have h8:=E5.2 8 _ (hg2 8 (by omega))
  rw[e8] at h8
  generalize a5.tmps.getD 8 undef=v at h8
  cases h8
  rw[← hμ3]
  exact .ptr (l:=outD (Go.Tv.rowsOf (layU n u l)) (Go.Tv.rowsOf (layL n u l)) w (xorL n q)) (by rw[hS3,if_pos rfl])
 have p4:RV x3 (.ptr k1 0) (a5.tmps.getD 4 undef):=by
  have h8:=E5.2 4 _ (hg2 4 (by omega))
  rw[e4] at h8
  generalize a5.tmps.getD 4 undef=v at h8
  cases h8
  rw[← hμ3]
  exact .ptr (l:=zeroD) (by rw[hS3,if_neg hne,if_pos rfl])
 have C3:=rvs_over (rvs_over C5 p4) p8
 have hD5:DefOK 0 x3 ds2 a5.defers:=by
  have hd:a5.defers=a2.defers:=by
   rw[← ha5,d58]
   rfl
  obtain⟨z1,z2,z3⟩:=(r5.mono (t3.trans u3))
  rw[hd]
  refine⟨by rw[z1,hμ3],z2,fun id hid => ?_⟩
  obtain⟨y1',y2',y3'⟩:=z3 id hid
  have nk3:id≠k3:=by rintro rfl; rw[s3y4] at y2'; cases y2'
  have s1y4:y4.S[k1]? = some (.cells zeroD):=by rw[hS4]; exact s1b
  have nk1:id≠k1:=by rintro rfl; rw[s1y4] at y2'; cases y2'
  have nt:id≠t:=by rintro rfl; rw[ht4] at y2'; cases y2'
  refine⟨y1',by rw[hS3,if_neg nk3,if_neg nk1,y2']; rfl,?_⟩
  rw[hμ3,← hw3]
  refine(w4 _ (Array.getElem?_eq_some_iff.1 y3').1 (fun e=>nt (u2.inj id t (live_some y2' (by simp)) (live_some ht4 (by simp)) e))).trans y3'
 have W3:WT Tp Ty (isoT tabF 5) (callT' tabF 5) (yfT tabF 5) [] LL 52 false endY te2Y _ _:=vc_ok (lev_tbl hl1) (inl_ok hL.1 0 hl1) _ _ _ _ _ _ (xA3 (layU n u l) (layL n u l) (sortI (xorL n q)) w).h
 have hRT3:RelT (fun i=>if i=1 then some k1 else if i=12 then some k3 else none) te2Y (tSY [.sl I64 (layU n u l) .no,.sl I64 (layL n u l) .no,ival w,.sl I64 (sortI (xorL n q)) .no]) ((envc.set 4 (.ptr k1 0)).set 8 (.ptr k3 0)) x3.S:=by
  refine⟨?_,fun k c hk => ?_,fun k e s hk => ?_,fun k k' hk => ?_,fun i j k' hi hj => ?_⟩
  ·refine rtl_set 8 (rtl_set 4 ?_ ?_) ?_
   ·rw[← hlc60]; exact rtl_unk envc
   ·simp[RT]
   ·simp[RT]
  ·have hcase:(k=1∧c=zeroV)∨(k=12∧c=[.sl I64 (layU n u l) .no,.sl I64 (layL n u l) .no,ival w,.sl I64 (sortI (xorL n q)) .no]):=by
    match k,hk with
    | 1,hk=>cases hk; exact .inl ⟨rfl,rfl⟩
    | 12,hk=>cases hk; exact .inr ⟨rfl,rfl⟩
    | 0,hk | 2,hk | 3,hk | 4,hk | 5,hk | 6,hk | 7,hk | 8,hk | 9,hk | 10,hk | 11,hk=>cases hk
    | k+13,hk=>simp[tSY] at hk
   rcases hcase with ⟨rfl,rfl⟩ | ⟨rfl,rfl⟩
   ·refine⟨k1,zeroD,rfl,by rw[hS3,if_neg hne,if_pos rfl],?_⟩
    exact rtl_cons (by simp only[RT,and_self]) (rtl_cons (by simp only[RT,and_self]) (rtl_cons (by simp only[RT]) (rtl_one (by simp only[RT,and_self]))))
   ·refine⟨k3,outD (Go.Tv.rowsOf (layU n u l)) (Go.Tv.rowsOf (layL n u l)) w (xorL n q),rfl,by rw[hS3,if_pos rfl],?_⟩
    exact rtl_cons (by simp only[RT]; exact⟨rowsR_of _,trivial⟩) (rtl_cons (by simp only[RT]; exact⟨rowsR_of _,trivial⟩) (rtl_cons (by simp only[RT]) (rtl_one (by simp only[RT]; exact⟨rowsR_of _,trivial⟩))))
  ·exfalso
   match k,hk with
   | 1,hk | 12,hk | 0,hk | 2,hk | 3,hk | 4,hk | 5,hk | 6,hk | 7,hk | 8,hk | 9,hk | 10,hk | 11,hk=>cases hk
   | k+13,hk=>simp[tSY] at hk
  ·by_cases e1:k=1
   ·subst e1; exact⟨_,rfl,by simp⟩
   ·by_cases e2:k=12
    ·subst e2; exact⟨_,rfl,by simp⟩
    ·simp[e1,e2] at hk
  ·by_cases e1:i=1<;>by_cases e2:j=1
   ·omega
   ·subst e1
    by_cases e3:j=12
    ·subst e3; simp at hi hj; exact absurd (hi.trans hj.symm) hne
    ·simp[e2,e3] at hj
   ·subst e2
    by_cases e3:i=12
    ·subst e3; simp at hi hj; exact absurd (hj.trans hi.symm) hne
    ·simp[e1,e3] at hi
   ·by_cases e3:i=12<;>by_cases e4:j=12
    ·omega
    ·simp[e2,e4] at hj
    ·simp[e1,e3] at hi
    ·simp[e1,e3] at hi
 obtain⟨e,env4,S4,ι4,te4,tS4,h4,zR,-,-,-,zQ⟩:=W3 _ _ _ hRT3 (fun k hk=>(by cases hk))
 obtain⟨hne',vs,hv,hp,-,hq'⟩:=end_f (fun _ _=>fin_i) zQ
 obtain⟨dsr,dr1,dr2⟩:=resT_ok zR hv
 have hst:=one_strip (ts:=[some PieceT,some I64]) (ι':=noIds) (S':=[]) hp dr2
 have hres:wkD' (oneOf dsr).strip=layRes n u l q w:=by
  obtain⟨hq1,-⟩:=hq'
  rw[hq1] at hst
  exact rt_res hst.2
 refine codeD_ok (n0:=0) (ds:=ds2) (b:=base 52) (cs:=fr::cs) (rnd:=false) (k:=[]) hP hcall (by simp[base]) rfl (fun _=>rfl) endY (regs_all hreg endY) h4 R3 C3 hD5 (Nat.zero_le _) fun z az dz v1 v2 v3 v4 v5 => ?_
 have hleave:∀ todo,KMu Tryz.prog Final () (G { (base 52).at az todo with mode := .returning } (fr::cs)) z.w:=fun todo =>
  mu_leave hP (ty_ok _) (x0:=x) (b:=base 52) (env:=env4) (l:=dsr) (Sr:=S4) rfl Tryz.func52 dz v1 v2 (M03.trans v3) v4 (by rw[hS]; exact v5) dr1 fun z' uu m1 m2 m3 m4=>hnx z' uu ⟨m2,m3,by rw[← hres]; exact rv_wkD m4.strip⟩
 cases e with
 | normal =>
  show KMu Tryz.prog Final () (G ((base 52).atR az []) (fr::cs)) z.w
  rw[Frame.atR_of_none (b:=base 52) rfl]
  exact mu_ctl hP (fun w=>⟨_,stepG_end⟩) (hleave _)
 | ret =>
  intro k'
  rw[Frame.atR_of_none (b:=base 52) rfl]
  exact mu_ctl hP (fun w=>⟨_,stepG_ret'⟩) (hleave _)
 | exit id=>exact hne'.elim
end Go.Tv
end
section
namespace Go.Tv
open Go Go.Di Go.Conc Go.Co Go.Proofs
variable {Final:Machine→Trace→Prop} {x:Cx}
theorem ints_of:∀ l:List Int,intsD (Go.Tv.rowsOf l)=some l
 | []=>rfl
 | n::l=>by
  have:=ints_of l
  simp only[Go.Tv.rowsOf,List.map_cons,intsD] at this ⊢
  rw[this]; rfl
theorem rows_ints:∀ {rows:List DV} {l:List Int},intsD rows=some l→rows=Go.Tv.rowsOf l
 | [],l,h=>by cases h; rfl
 | d::rows,l,h=>by
  unfold intsD at h
  split at h
  ·rename_i e; cases e
  ·rename_i n r e
   cases e
   simp only[Option.map_eq_some_iff] at h
   obtain⟨m,h1,rfl⟩:=h
   rw[rows_ints h1]; rfl
  ·cases h
theorem tr_tabF:TabR tabF where
 rev:=fun l d hl h=>by
  cases d<;>simp only[RT] at h
  rename_i rows tok f
  rw[ints_rows h.1]
  refine⟨.sl (Go.Tv.rowsOf l.reverse) none ⟨false,none⟩,?_,rfl,by simp only[RT]; exact⟨rowsR_of _,trivial⟩⟩
  have e:tab1 133 [.sl (Go.Tv.rowsOf l) tok f]=some (.sl (Go.Tv.rowsOf l.reverse) none ⟨false,none⟩):=by
   simp only[tab1,revD,ints_of,if_pos hl]; rfl
  simp[tabF,more,e]
def layD:DV→DV→Option DV
 | .agg [.sl ru _ _,.sl rl _ _,.val (.int .i64 w),.sl rq _ _],.val (.int .i64 n)=>match intsD ru,intsD rl,intsD rq with
  | some u,some l,some q=>if chk u l w q=0∧0≤n∧n≤3 then some (layRes n u l q w) else none
  | _,_,_=>none
 | _,_=>none
theorem lay_known {a b d:DV} (h:layD a b=some d) (hp:[a,b].all DV.pure=true) (hv:d.pure=true) {vals:Array Value} (hR:Rel x) (ha:RVs x [a,b] vals):EnterOK Tryz.prog Final x 52 vals fun y u=>y.S=x.S∧Rel y∧Mono x y∧RV y d u:=by
 unfold layD at h
 split at h
 ·rename_i ru t1 f1 rl t2 f2 w rq t3 f3 n
  split at h
  ·rename_i u l q h1 h2 h3
   split at h
   ·rename_i hc
    cases h
    cases rows_ints h1
    cases rows_ints h2
    cases rows_ints h3
    have ha':RVs x.bare _ vals:=⟨ha.1,fun j c hj=>(ha.2 j c hj).pure_mono (x:=x) (y:=x.bare) (fun b o h=>⟨h,rfl⟩) (List.all_eq_true.1 hp c (List.mem_of_getElem? hj))⟩
    obtain⟨h4,h5⟩:=lay_bare (Final:=Final) tk_tabF tr_tabF hR.bare rfl (chk_ok.1 hc.1) hc.2 ha'
    refine⟨h4,fun fr cs hn=>h5 fr cs fun y u ⟨q2,q3,q4⟩ => ?_⟩
    exact hn (x.behind y) u ⟨rfl,hR.behind q3 q2,mono_behind hR q3,q4.pure_mono (x:=y) (y:=x.behind y) (fun b o h=>⟨h,rfl⟩) hv⟩
   ·cases h
  ·cases h
 ·cases h
def tabG:IsoF:=fun f args=>match f,args with
 | 52,[a,b]=>layD a b
 | _,_=>tabF f args
theorem tabG_52 (a b:DV):tabG 52 [a,b]=layD a b:=by simp[tabG]
theorem tabG_ok:TabOK Tryz.prog Final tabG:=by
 intro f args v h hp hv x vals hR ha
 unfold tabG at h
 split at h
 ·exact lay_known h hp hv hR ha
 ·exact tabF_ok f args v h hp hv x vals hR ha
theorem tk_tabG:TabK tabG where
 other:=fun f a h1 h2 h3 h4 h5=>by
  unfold tabG
  split
  ·exact absurd rfl h5
  ·exact tk_tabF.other f a h1 h2 h3 h4 h5
 fit:=tk_tabF.fit
theorem tr_tabG:TabR tabG where
 rev:=tr_tabF.rev
theorem tl_tabG:TabL tabG where
 lay:=fun u l q w n d1 d2 hok hn h1 h2=>by
  cases rt_vl h2
  cases d1<;>simp only[pcV,RT] at h1
  obtain⟨a1,m,rfl,k1,h1⟩:=rtl_cases h1
  obtain⟨a2,m,rfl,k2,h1⟩:=rtl_cases h1
  obtain⟨a3,m,rfl,k3,h1⟩:=rtl_cases h1
  obtain⟨a4,m,rfl,k4,h1⟩:=rtl_cases h1
  cases rtl_nil' h1
  obtain⟨_,_,_,rfl,r1,-⟩:=rt_sl k1
  obtain⟨_,_,_,rfl,r2,-⟩:=rt_sl k2
  obtain⟨_,_,_,rfl,r4,-⟩:=rt_sl k4
  cases rt_vl k3
  cases ints_rows r1
  cases ints_rows r2
  cases ints_rows r4
  refine⟨layRes n u l q w,?_,rfl,?_⟩
  ·simp only[tabG_52,layD,ints_of,ok_chk hok,hn,and_self,if_true]
  ·rw[← sort_laid hok.lie hok.asc hn]
   simp only[layRes,RT]
   refine rtl_cons ?_ (rtl_one (by simp only[RT]))
   simp only[RT]
   exact rtl_cons (by simp only[RT]; exact⟨rowsR_of _,trivial⟩) (rtl_cons (by simp only[RT]; exact⟨rowsR_of _,trivial⟩) (rtl_cons (by simp only[RT]) (rtl_one (by simp only[RT]; exact⟨rowsR_of _,trivial⟩))))
end Go.Tv
end
section
namespace Go.Tv
open Go Go.Di Go.Conc Go.Co Go.Proofs
theorem sums_st (la ub:List Int) (s:Int):∀ k,smN la ub s k=stF (colL la ub s k)
 | 0=>rfl
 | k+1=>by
  have ih:=sums_st la ub s k
  rw[smN_succ,ih,colL,smS]
  by_cases h:0≤(k:Int)+s∧(k:Int)+s<la.length
  ·rw[if_pos h,if_neg (by omega)]
   have e:stF (colL la ub s k++[ub.getD k 0+la.getD ((k:Int)+s).toNat 0])=stS (stF (colL la ub s k)) (ub.getD k 0+la.getD ((k:Int)+s).toNat 0):=by
    simp[stF,List.foldl_append]
   rw[e]
   generalize stF (colL la ub s k)=st
   generalize ub.getD k 0+la.getD ((k:Int)+s).toNat 0=v
   obtain⟨lo,hi,m⟩:=st
   simp only[stS]
   by_cases h0:m=0
   ·simp[h0]
   ·simp only[h0,if_false]
  ·rw[if_neg h,if_pos (by omega)]
theorem fit_same (la ub:List Int) (w:Int):Go.Co.fitB la ub w=fitsAt la ub w:=by
 funext s
 simp only[Go.Co.fitB,fitsAt,sumsM,sums_st,Bool.decide_and]
theorem shifts_same (la ub:List Int) (w:Int):shiftsM la ub w=shL la ub w (ub.length+la.length+1):=by
 rw[shiftsM,shN,shL,fit_same]
def wkO (u l:List Int) (w:Int) (q:List Int):Wk:=⟨q,w,fun i=>([u,l.reverse,u.reverse,l]:List (List Int)).getD i [],fun i=>([l,u.reverse,l.reverse,u]:List (List Int)).getD i []⟩
theorem wk_of {u l q:List Int} {w:Int} {d:DV} (h:RT noIds [] (wkV u l w q) d):wkD d=some (wkO u l w q):=by
 cases d<;>simp only[wkV,RT] at h
 obtain⟨a0,m,rfl,k0,h⟩:=rtl_cases h
 obtain⟨a1,m,rfl,k1,h⟩:=rtl_cases h
 obtain⟨a2,m,rfl,k2,h⟩:=rtl_cases h
 obtain⟨a3,m,rfl,k3,h⟩:=rtl_cases h
 obtain⟨a4,m,rfl,k4,h⟩:=rtl_cases h
 obtain⟨a5,m,rfl,k5,h⟩:=rtl_cases h
 obtain⟨a6,m,rfl,k6,h⟩:=rtl_cases h
 obtain⟨a7,m,rfl,k7,h⟩:=rtl_cases h
 obtain⟨a8,m,rfl,k8,h⟩:=rtl_cases h
 obtain⟨a9,m,rfl,k9,h⟩:=rtl_cases h
 obtain⟨a10,m,rfl,k10,h⟩:=rtl_cases h
 obtain⟨a11,m,rfl,k11,h⟩:=rtl_cases h
 cases rtl_nil' h
 cases rt_vl k2
 have key:∀ {l:List Int} {d:DV},RT noIds [] (.sl I64 l .no) d→rowD d=some l:=fun {l d} hd=>by
  obtain⟨r,t,f,rfl,hr,-⟩:=rt_sl hd
  rw[ints_rows hr]
  exact ints_of l
 simp only[wkD,rowsD,key k3,key k4,key k5,key k6,key k7,key k8,key k9,key k10,key k11]
 rfl
theorem hts_of {l:List Int} (h:l.length≤1000) (h1:∀ x∈l,0≤x∧x≤9):htsB l=true:=by
 simp only[htsB,Bool.and_eq_true,decide_eq_true_eq,List.all_eq_true]
 exact⟨h,h1⟩
theorem asc_of':∀ {l:List Int},l.Pairwise (· < ·)→ascB l=true
 | [],_=>rfl
 | a::l,h=>by
  rw[List.pairwise_cons] at h
  simp only[ascB,Bool.and_eq_true,List.all_eq_true,decide_eq_true_eq]
  exact⟨h.1,asc_of' h.2⟩
theorem wkB_of {u l q:List Int} {w:Int} (h:Ok u l w q):wkB (wkO u l w q)=true:=by
 have h1:=h.n8
 have h2:=h.len
 have sp:=sh_ok h
 have hu:=hts_of sp.1 h.hu
 have hl:=hts_of sp.2.1 h.hl
 have hur:htsB u.reverse=true:=hts_of (by simp; omega) fun x hx=>h.hu x (by simpa using hx)
 have hlr:htsB l.reverse=true:=hts_of (by simp; omega) fun x hx=>h.hl x (by simpa using hx)
 have h4:(List.range 4).all (fun i=>htsB ((wkO u l w q).up i)&&htsB ((wkO u l w q).lo i))=true:=by
  simp[List.range_succ,wkO,hu,hl,hur,hlr]
 have hw0:=h.w0
 have hw2:=h.w2
 have e1:(wkO u l w q).lies.all (fun x=>decide (0≤x)&&decide (x≤3))=true:=by
  simp only[List.all_eq_true,Bool.and_eq_true,decide_eq_true_eq]
  exact h.lie
 unfold wkB
 rw[h4,e1,show ascB (wkO u l w q).lies=true from asc_of' h.asc,decide_eq_true (show (wkO u l w q).lies.length≤1000 from sp.2.2),decide_eq_true (show 0≤(wkO u l w q).wear from hw0),decide_eq_true (show (wkO u l w q).wear≤1000 by show w≤1000; omega)]
 rfl
theorem seams_same {ua la qa ub lb qb:List Int} {wa wb:Int} (ha:Ok ua la wa qa) (hb:Ok ub lb wb qb):seamsM (wkO ua la wa qa) (wkO ub lb wb qb)=(seamT ua la qa ub lb qb (wa+wb)).map fun x=>(x.1,x.2.1,x.2.2.1):=by
 have h3:=ha.len
 have h3':=hb.len
 unfold seamsM seamT
 rw[List.map_flatMap]
 have congr1:∀ {α β:Type} {l:List α} {f g:α→List β},(∀ x∈l,f x=g x)→l.flatMap f=l.flatMap g:=fun {α β l f g} h=>by
  induction l with
  | nil=>rfl
  | cons x l ih=>rw[List.flatMap_cons,List.flatMap_cons,h x (by simp),ih fun y hy=>h y (by simp[hy])]
 refine congr1 fun x hx => ?_
 rw[List.map_flatMap]
 refine congr1 fun y hy => ?_
 rw[List.map_map]
 have ex:(wkO ua la wa qa).lo x.toNat=layL x ua la∧(layL x ua la).length=ua.length:=by
  rcases four (ha.lie x hx) with rfl | rfl | rfl | rfl<;>simp[wkO,layL,h3]
 have ey:(wkO ub lb wb qb).up y.toNat=layU y ub lb∧(layU y ub lb).length=ub.length:=by
  rcases four (hb.lie y hy) with rfl | rfl | rfl | rfl<;>simp[wkO,layU,h3']
 rw[seamsXY,ex.1,ey.1,shifts_same,ex.2,ey.2]
 rfl
theorem rows_sm:∀ l:List (Int×Int×Int×Unit),RowsR (CR SeamT) SeamT.agg l ((l.map fun x=>(x.1,x.2.1,x.2.2.1)).map smD)
 | []=>trivial
 | (x,y,s,_)::l=>⟨⟨⟨_,_,rfl,rfl,_,_,rfl,rfl,_,_,rfl,rfl,rfl⟩,⟨_,rfl⟩⟩,rows_sm l⟩
theorem ts_tabG:TabS tabG where
 seams:=fun ua la qa ub lb qb wa wb d1 d2 ha hb h1 h2=>by
  refine⟨.sl ((seamsM (wkO ua la wa qa) (wkO ub lb wb qb)).map smD) none ⟨false,none⟩,?_,rfl,?_⟩
  ·have e:tab1 60 [d1,d2]=some (.sl ((seamsM (wkO ua la wa qa) (wkO ub lb wb qb)).map smD) none ⟨false,none⟩):=by
    simp only[tab1,seamsD,wk_of h1,wk_of h2,wkB_of ha,wkB_of hb,Bool.and_self,if_true]
   simp[tabG,tabF,more,e]
  ·simp only[RT]
   rw[seams_same ha hb]
   exact⟨rows_sm _,trivial⟩
end Go.Tv
end
section
namespace Go.Tv
open Go Go.Di Go.Proofs
theorem law_specW {tab:IsoF} (tk:TabK tab) {f:FuncId} {fn:Func} {D:List TV→Dn} {k d:Nat} {T:Tbl} (hT:TOK tab k T) (hne:f≠60∧f≠133∧f≠12∧f≠43∧f≠52) (hf:Tp.funcs[f]? = some fn) (hb:fn.body.isSome=true) {rts:List (Option TT)} (h:VI T fn rts D d) {a:List TV} {j:List (Nat×LA)} (hD:D a=some ([],.res (bval true) [] [],j)) (n:Nat):ISpec (isoT tab (n+(k+d+1))) f a (fun v=>v=bval true) :=
 (((mkI tk hT hne hf hb h (T':=T) (by have:=tok_le hT (d+1); rwa [Nat.add_comm,← Nat.add_assoc] at this)).2 n).I f a [] (.res (bval true) [] []) (by simp only[Tbl.addI,if_true,hD]; rfl) trivial).mono fun v hv=>hv.1
end Go.Tv
namespace Go.Proofs.YtedcgbkilmlbhaaGreat
open Go Go.Di Go.Tv Go.Conc Go.Co Go.Proofs
open Go.ChangeShapes Go.WideShapes Go.ChangeAt Go.RowKit
set_option maxRecDepth 100000 in
theorem cutAll_lifted (os:Os) (started:os.Started) (H:Type) (enc:TypeId×Value→H) :
  ReturnsInLeavingWide {} Tryz.checked os 9 .any (Rows.cutAllSpec.pre6 enc Tryz.prog Tryz.f9 Rows.cutAllRow.domain false) (Rows.cutAllSpec.post enc Tryz.prog Tryz.f9 false true false false) :=
 law_row (fun _=>tabG_ok) tk_tabG Tryz.func9 Tryz.params9 (by kernel_rfl) rfl (fun _ _=>rfl) (by decide) (by kernel_rfl) (n:=10) (fun nums=>law_specW tk_tabG (eok3 tk_tabG tr_tabG tl_tabG ts_tabG) (by decide) Tryz.func9 rfl v9 (a:=[.sl I64 nums .no]) rfl 0) started
  (ChangeSpec.witness6 (enc:=enc) (C:=Tryz.checked) false ⟨#[],#[.slice none 0 0],[]⟩ 10 (by kernel_rfl) (by kernel_rfl) (by kernel_rfl) (by kernel_rfl))
set_option maxRecDepth 100000 in
theorem cutAll_holds:Rows.CutAllSaid :=
 OpenClaim.holds_of_wide_leaving 9 Tryz.f9 rfl rfl rfl rfl rfl rfl rfl ⟨rfl,rfl,rfl,rfl,rfl⟩ rfl rfl rfl rfl rfl (by kernel_rfl) Tryz.func9 (by kernel_rfl)
  (of_decide_eq_true (by kernel_rfl)) (by unfold Func.isWrapper; first | (rw[if_pos (by decide +kernel)]; kernel_rfl) | (rw[if_neg (by decide +kernel)]; exact⟨rfl,rfl⟩))
  (fun os started H enc _=>cutAll_lifted os started H enc)
#print axioms cutAll_holds
end Go.Proofs.YtedcgbkilmlbhaaGreat
end
