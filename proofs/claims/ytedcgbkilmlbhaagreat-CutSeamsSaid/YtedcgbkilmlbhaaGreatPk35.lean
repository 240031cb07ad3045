/- adY -/
import Derived.Test.YtedcgbkilmlbhaaGreatPk34
import Derived.Test.YtedcgbkilmlbhaaGreatPk11
import Derived.Test.YtedcgbkilmlbhaaGreatPk10
import Derived.Test.YtedcgbkilmlbhaaGreatPk13
section
namespace Go.Tv
open Go Go.Di Go.Conc Go.Co Go.Proofs
variable {af:Machine→Trace→Prop} {x:Cx}
noncomputable def E9:Array Oper:=match G9 with
 | .region _ ops _=>ops
 | _=>#[]
theorem Sj:G9 = .region 13 E9 false:=by kernel_rfl
theorem Mi {ι:mm} {S:ax}:∀ l:List DV,dw ι S (List.replicate l.length .unk) l
 | []=>cF
 | d::l=>by rw[List.length_cons,List.replicate_succ]; exact aP (by simp only[RT]) (Mi l)
theorem opY (i:Nat) (o:Oper) (h:E9.toList[i]? = some o):E9[i]? = some o:=by rw[← h,gE]
noncomputable def oY (i:Nat):Oper:=E9.toList.getD i default
theorem oY0:E9[0]? = some (oY 0)∧(oY 0).op = .fieldAddr 25 (.tmp 8) 3∧(oY 0).dst=some 56∧(oY 0).guard=none:=⟨opY _ _ (by kernel_rfl),by kernel_rfl,by kernel_rfl,by kernel_rfl⟩
theorem oY1:E9[1]? = some (oY 1)∧(oY 1).op = .load 23 (.tmp 56)∧(oY 1).dst=some 57∧(oY 1).guard=none:=⟨opY _ _ (by kernel_rfl),by kernel_rfl,by kernel_rfl,by kernel_rfl⟩
theorem oY2:E9[2]? = some (oY 2)∧(oY 2).op = .call { callee := .value (.func 99),args:=#[.tmp 57],argTypes:=#[23] }∧(oY 2).guard=none:=⟨opY _ _ (by kernel_rfl),by kernel_rfl,by kernel_rfl⟩
theorem d58:(oY 2).dst=some 58:=by kernel_rfl
theorem aeb:∃ z,A8 Tryz.prog 25=some ⟨.struct [(0,1,false),(1,1,false),(2,1,false),(3,1,false)],4,z⟩:=by
 have h:(A8 Tryz.prog 25).map (fun d=>(d.k,d.size))=some (.struct [(0,1,false),(1,1,false),(2,1,false),(3,1,false)],4):=by kernel_rfl
 cases e:A8 Tryz.prog 25 with
 | none=>rw[e] at h; cases h
 | some d=>obtain⟨k,s,z⟩:=d; rw[e] at h; cases h; exact⟨z,rfl⟩
theorem aec:∃ k z,A8 Tryz.prog 23=some ⟨k,1,z⟩∧k.isAgg=false:=by
 have h:(A8 Tryz.prog 23).map (fun d=>(d.k.isAgg,d.size))=some (false,1):=by kernel_rfl
 cases e:A8 Tryz.prog 23 with
 | none=>rw[e] at h; cases h
 | some d =>
  obtain⟨k,s,z⟩:=d
  rw[e] at h
  simp only[Option.map_some,aB,ay] at h
  obtain⟨h1,rfl⟩:=h
  exact⟨k,z,rfl,h1⟩
theorem N6 {k j:Nat}:(Array.replicate k undef).getD j undef=undef:=by rw[bg,Array.getElem?_replicate]; split<;>rfl
theorem aaF:Tryz.f52.ntmps=60:=by kernel_rfl
theorem YO:Tryz.f52.body=some y0:=qu rfl
theorem NW:E9.size=3:=by kernel_rfl
theorem Bp {ι:mm} {S:ax} {t:TT} {l:List t.den} {ap:Ap} {d:DV} (h:RT ι S (.sl t l ap) d):∃ rows tok f,d = .sl rows tok f∧eN (CR t) t.agg l rows∧uL ι S rows.length tok f ap:=by
 cases d<;>simp only[RT] at h
 exact⟨_,_,_,rfl,h⟩
theorem zb {ι:mm} {S:ax} {v:Value} {d:DV} (h:RT ι S (.val v) d):d = .val v:=by
 cases d<;>simp only[RT] at h
 rw[h]
theorem LC {ι:mm} {S:ax} {d:DV} (h:RT ι S .gq d):d=zD:=by
 cases d<;>simp only[RT] at h
 obtain⟨rfl,rfl,rfl⟩:=h
 rfl
theorem X5 {ι:mm} {S:ax} {k o:Nat} {d:DV} (h:RT ι S (.ptr k o) d):∃ id,d = .ptr id o∧ι k=some id:=by
 cases d<;>simp only[RT] at h
 obtain⟨h1,rfl⟩:=h
 exact⟨_,rfl,h1⟩
theorem s4 {o:Oper} {y:Nat→Option Bool} (h:o.guard=none):Region.wanted o y=true:=by simp[Region.wanted,h]
theorem Rj {e:TypeId} {s:Nat} {rows:List DV} {t:Nat} {f:SF} {v:Value} (h:RV x (.sl rows (some t) f) v) (ht:x.S[t]? = some (.tail e s (rows.length*s))):v = .slice (some ⟨x.μ t,0,none⟩) rows.length (x.κ t):=by
 cases h with
 | sl _ _ _ _ _ _ h7 =>
  obtain⟨e',s',n,k1,k2,k3,k4⟩:=h7 t rfl
  rw[ht] at k1
  cases k1
  obtain⟨rfl,rfl⟩:=k4 rfl
  rfl
theorem Ky {t:Nat} {f:SF} {v:Value} {qs:List Int} {cur:Array Value} (h:RV x (.sl (Go.Tv.rowsOf qs) (some t) f) v) (ht:x.S[t]? = some (.tail 3 1 (qs.length*1))) (hc:x.w.heap[x.μ t]? = some (.cells cur 3 (0,0))):cur.toList.take qs.length=qs.map (Value.int .i64):=by
 have hv:=Rj h (e:=3) (s:=1) (by rw[iH]; exact ht)
 subst hv
 cases h with
 | @sl _ _ _ _ _ s vs h1 h2 _ _ _ _ _ =>
  apply kZ
  intro j
  by_cases hj:j<qs.length
  ·have hf:(flat (Go.Tv.rowsOf qs))[j]? = some (.val (.int .i64 (qs.getD j 0))):=by
    rw[tf,Go.Tv.rowsOf,eE,aN,bH hj]
    rfl
   obtain⟨-,b,o,q1,-,q3⟩:=h1.2 j _ hf
   cases q1
   have q4:=mS (h2 j _ hf)
   rw[q4] at q3
   simp only[World.cell?,hc,gy,Option.isSome_none,aF,if_false] at q3
   rw[List.getElem?_take_of_lt hj,gE,q3,eE,aN,bH hj]
   rfl
  ·rw[List.getElem?_take_eq_none (by omega),fN (by simp; omega)]
theorem HW {env:List DV} {arr:Array Value} (h:gn x env arr) {j:Nat} {d:DV} (hd:RV x d (arr.getD j undef)):gn x (env.set j d) arr:=by
 refine⟨by simp[h.1],fun i c hi => ?_⟩
 rw[aQ] at hi
 split at hi
 ·rename_i e
  subst e
  split at hi
  ·cases hi; exact hd
  ·cases hi
 ·exact h.2 i c hi
theorem aaW {n w:Int} {u l q:List Int} {d:DV} (h:RT dK [] (.gd [.agg [.sl bO (bR n u l) .no,.sl bO (bS n u l) .no,bk w,.sl bO (oL (jX n q)) .no],bk 0]) d):Zl d=Fv n u l q w:=by
 cases d<;>simp only[RT] at h
 obtain⟨d1,m,rfl,h1,h⟩:=aj h
 obtain⟨d2,m,rfl,h2,h⟩:=aj h
 cases aU h
 cases zb h2
 cases d1<;>simp only[RT] at h1
 obtain⟨a1,m,rfl,k1,h1⟩:=aj h1
 obtain⟨a2,m,rfl,k2,h1⟩:=aj h1
 obtain⟨a3,m,rfl,k3,h1⟩:=aj h1
 obtain⟨a4,m,rfl,k4,h1⟩:=aj h1
 cases aU h1
 obtain⟨_,_,_,rfl,r1,-⟩:=Bp k1
 obtain⟨_,_,_,rfl,r2,-⟩:=Bp k2
 obtain⟨_,_,_,rfl,r4,-⟩:=Bp k4
 cases zb k3
 cases iQ r1
 cases iQ r2
 cases iQ r4
 rfl
theorem Xo {tS:List TB} {vs:List TV} {a b:TV} {t1 t2:TT} (h:kO (bT [some t1,some t2] (wH tS vs)) = .gd [a,b]):wH tS vs=vs:=by
 unfold wH at h ⊢
 split at h
 ·split at h
  ·split at h
   ·cases t1<;>cases h
   ·cases t1<;>cases h
  ·cases t1<;>cases h
 ·rfl
set_option maxHeartbeats 2000000 in
set_option maxRecDepth 100000 in
theorem Tt (tk:uK j8) (tr:JO j8) (hR:Rel x) (hS:x.S=[]) {u l q:List Int} {w n:Int} {t1 t2 t3:Option Nat} {f1 f2 f3:SF} (jF:Ok u l w q) (hn:0≤n∧n≤3) {vals:Array Value}
  (ha:gn x [.agg [.sl (Go.Tv.rowsOf u) t1 f1,.sl (Go.Tv.rowsOf l) t2 f2,.val (.int .i64 w),.sl (Go.Tv.rowsOf q) t3 f3],.val (.int .i64 n)] vals):eH Tryz.prog af x 52 vals fun y v=>Rel y∧bZ x y∧RV y (Fv n u l q w) v:=by
 have hP:=iq
 have hcy:=xE (af:=af) iq ue Bn FN (L:=LL) 5
 have jk:jr Tryz.prog af (mV j8 5):=hcy.1
 have hyf:wT Tryz.prog af (Xy j8 5):=hcy.2
 have ZT:wW Tryz.prog af (vt j8 5):=FB FN hcy.1
 have je:∀ id ops draw,sC Tryz.prog af Ty (vt j8 5) (mV j8 5) (Xy j8 5) id ops draw:=fun id ops draw=>JZ iq ue Bn jk ZT hyf id ops draw
 have hL:=lok tk tr
 have yZ:=oT hL 0 0
 have W1:WT Tp Ty (vt j8 5) (mV j8 5) (Xy j8 5) [] LL 52 false (x9 abT .skip) (Zp u l q w n) [] (Z4 [] (PV q n) (Pv [.sl bO (bR n u l) .no,.sl bO (bS n u l) .no,bk w,.gq])):=lR (qK yZ) (vA hL.1 0 yZ) _ _ _ _ _ _ (xA1 u l q w n jF hn).h
 refine⟨⟨Tryz.f52,y0,Tryz.func52,YO⟩,fun fr cs hnx => ?_⟩
 rw[enter_at vals Tryz.func52 YO,← Frame.atR_of_none (b:=base 52) rfl]
 generalize kU:[DV.agg [.sl (Go.Tv.rowsOf u) t1 f1,.sl (Go.Tv.rowsOf l) t2 f2,.val (.int .i64 w),.sl (Go.Tv.rowsOf q) t3 f3],.val (.int .i64 n)]=args at ha
 have hlen:args.length=2:=by rw[← kU]; rfl
 have he:gn x (args++List.replicate (Tryz.f52.ntmps-args.length) bh) (vals++Array.replicate (Tryz.f52.ntmps-vals.size) undef):=by
  refine kE ha ⟨by simp[ha.1],fun j c hc => ?_⟩
  rw[nK] at hc
  split at hc
  ·rename_i hj
   cases hc
   rw[N6]
   exact .val rfl
  ·cases hc
 have hRT:cK dK (Zp u l q w n) [] (args++List.replicate (Tryz.f52.ntmps-args.length) bh) []:=by
  refine⟨?_,fun k l hk=>(by simp at hk),fun k e s hk=>(by simp at hk),fun k k' hk=>(by cases hk),fun i j k' hi=>(by cases hi),fun k b hk=>(by simp at hk)⟩
  rw[hlen,aaF]
  refine fB ?_ (tF _ _)
  rw[← kU]
  refine aP ?_ (gf (by simp only[RT]))
  simp only[RT]
  exact aP (by simp only[RT]; exact⟨lC _,trivial⟩) (aP (by simp only[RT]; exact⟨lC _,trivial⟩) (aP (by simp only[RT]) (gf (by simp only[RT]; exact⟨lC _,trivial⟩))))
 obtain⟨e,mH,S1,ι1,mW,jR,h1,Pk,Nj,-,-,hQ1⟩:=W1 dK _ [] hRT (fun k hk=>(by cases hk))
 cases e with
 | exit id=>exact hQ1.elim
 | ret=>exact hQ1.elim
 | normal =>
 have uE:=(AY hQ1).1
 obtain⟨ι1',Vu,-,-⟩:=sQ Pk uE.l uE.b uE.ok (sY uE.b Nj uE.base)
 obtain⟨ea,sa,h1a,h1b⟩:=Ae (l:=[wj y0,wj (nu y0),wj (nu (nu y0)),wj (nu (nu (nu y0))),wj (nu (nu (nu (nu y0))))]) (m:=[wj (wj y5)]) h1
 rw[acF]
 refine Cn (n0:=0) (ds:=[]) (b:=base 52) (cs:=fr::cs) hP jk je (by simp[base]) rfl rfl [wj y0,wj (nu y0),wj (nu (nu y0)),wj (nu (nu (nu y0))),wj (nu (nu (nu (nu y0))))] _ (by rw[hS]; exact h1a) hR he (uj _ _) (gh _) fun ya aa dsa p1 p2 p3 p4 p5 => ?_
 refine dY hP (fun w=>⟨_,Fq⟩) ?_
 refine Cn (n0:=0) (ds:=dsa) (b:=base 52) (cs:=fr::cs) hP jk je (by simp[base]) rfl rfl [wj (wj y5)] Bq (by rw[p1]; exact h1b) p2 p4 p5 (gh _) fun y1 a1 ds1 q1 q2 q3 q4 q5 => ?_
 have Zk:=p3.trans q3
 clear p1 p2 p3 p4 p5 q3 h1a h1b h1 he hRT hQ1 uE Pk Nj
 obtain⟨k3,dsv,i3,s3,r3⟩:=Vu.cells 12 [.sl bO (bR n u l) .no,.sl bO (bS n u l) .no,bk w,.gq] rfl
 obtain⟨dU,dsv,rfl,rU,r3⟩:=aj r3
 obtain⟨dL,dsv,rfl,rL,r3⟩:=aj r3
 obtain⟨dW,dsv,rfl,rW,r3⟩:=aj r3
 obtain⟨dZ,dsv,rfl,rZ,r3⟩:=aj r3
 cases aU r3
 obtain⟨_,tU,fU,rfl,rU,-⟩:=Bp rU
 obtain⟨_,tL,fL,rfl,rL,-⟩:=Bp rL
 cases zb rW
 cases LC rZ
 cases iQ rU
 cases iQ rL
 obtain⟨afT,e3,g1,g2,g3⟩:=q2.cells k3 _ (by rw[q1]; exact s3)
 have v0:=g3 0 _ rfl
 have v1:=g3 1 _ rfl
 have v2:=g3 2 _ rfl
 have v3:=g3 3 _ rfl
 obtain⟨a0,c0,Nc⟩:=HY v0
 obtain⟨Po,c1,GN⟩:=HY v1
 rw[iH] at Nc GN
 have s3y:y1.S[k3]? = some (.cells [.sl (Go.Tv.rowsOf (bR n u l)) tU fU,.sl (Go.Tv.rowsOf (bS n u l)) tL fL,.val (.int .i64 w),zD]):=by rw[q1]; exact s3
 have Mt:=Er (l':=[.val (.slice a0 (bR n u l).length c0),.val (.slice Po (bS n u l).length c1),.val (.int .i64 w),zD]) s3y
 have Rt:=SE (l':=[.val (.slice a0 (bR n u l).length c0),.val (.slice Po (bS n u l).length c1),.val (.int .i64 w),zD]) q2 s3y rfl fun arr e yc j c hc=>by
  rw[g1] at yc
  cases yc
  match j,hc with
  | 0,hc=>cases hc; rw[Nc]; exact .val rfl
  | 1,hc=>cases hc; rw[GN]; exact .val rfl
  | 2,hc=>cases hc; exact v2.mono Mt
  | 3,hc=>cases hc; exact v3.mono Mt
  | j+4,hc=>simp at hc
 have rZ':RT ι1' (S1.set k3 (.cells [.val (.slice a0 (bR n u l).length c0),.val (.slice Po (bS n u l).length c1),.val (.int .i64 w),zD])) .gq zD:=by simp only[RT,and_self]
 have rZl:dw ι1' (S1.set k3 (.cells [.val (.slice a0 (bR n u l).length c0),.val (.slice Po (bS n u l).length c1),.val (.int .i64 w),zD])) [Lm a0 (bR n u l).length c0,Lm Po (bS n u l).length c1,bk w,.gq] [.val (.slice a0 (bR n u l).length c0),.val (.slice Po (bS n u l).length c1),.val (.int .i64 w),zD] :=
  aP (by simp only[Lm,RT]) (aP (by simp only[Lm,RT]) (aP (by simp only[RT]) (gf rZ')))
 have hRt:=Ob Vu (k:=12) rfl i3 s3 rZl
 have ZY:cK ι1' (PV q n) (Pv [Lm a0 (bR n u l).length c0,Lm Po (bS n u l).length c1,bk w,.gq]) mH (S1.set k3 (.cells [.val (.slice a0 (bR n u l).length c0),.val (.slice Po (bS n u l).length c1),.val (.int .i64 w),zD])):=hRt
 have hq:q.length≤1000:=(DO jF).2.2
 have W2:WT Tp Ty (vt j8 5) (mV j8 5) (Xy j8 5) [1,12] LL 52 false Bq (PV q n) _ _:=lR (qK yZ) (vA hL.1 0 yZ) _ _ _ _ _ _ (xA2 q w n a0 Po (bR n u l).length c0 (bS n u l).length c1 hq).h
 obtain⟨e,Bf,S2,ι2,te2,UI,h2,kR2,kB2,kF2,-,hQ2⟩:=W2 ι1' mH _ ZY (fun k hk=>by
  simp only[bI,ep,or_false] at hk
  rcases hk with rfl | rfl<;>exact⟨_,rfl⟩)
 cases e with
 | exit id=>exact hQ2.elim
 | ret=>exact hQ2.elim
 | normal =>
 have Hs:=(AY hQ2).1
 obtain⟨ι2',Nz,abX,-⟩:=sQ kR2 Hs.l Hs.b Hs.ok (sY Hs.b kB2 Hs.base)
 have Bu:=(kF2.trans abX).base
 obtain⟨k1,dsz,i1,s1,r1⟩:=Vu.cells 1 zeroV rfl
 have i1':ι2' 1=some k1:=(Bu 1 (by simp)).trans i1
 have i3':ι2' 12=some k3:=(Bu 12 (by simp)).trans i3
 have hne:k1≠k3:=fun e=>absurd (Vu.inj 1 12 _ i1 (by rw[e]; exact i3)) (by decide)
 obtain⟨k1b,z1,j1,s1b,UM⟩:=Nz.cells 1 zeroV rfl
 rw[i1'] at j1
 cases j1
 obtain⟨k3b,z3,j3,s3b,UL⟩:=Nz.cells 12 [Lm a0 (bR n u l).length c0,Lm Po (bS n u l).length c1,bk w,.sl bO (jX n q) (.oE 13)] rfl
 rw[i3'] at j3
 cases j3
 obtain⟨d0,z1,rfl,b0,UM⟩:=aj UM
 obtain⟨d1,z1,rfl,b1,UM⟩:=aj UM
 obtain⟨d2,z1,rfl,b2,UM⟩:=aj UM
 obtain⟨d3,z1,rfl,b3,UM⟩:=aj UM
 cases aU UM
 cases LC b0
 cases LC b1
 cases zb b2
 cases LC b3
 obtain⟨d0,z3,rfl,b0,UL⟩:=aj UL
 obtain⟨d1,z3,rfl,b1,UL⟩:=aj UL
 obtain⟨d2,z3,rfl,b2,UL⟩:=aj UL
 obtain⟨d3,z3,rfl,b3,UL⟩:=aj UL
 cases aU UL
 cases zb b0
 cases zb b1
 cases zb b2
 obtain⟨afs,tok,fQ,rfl,rQ,apQ⟩:=Bp b3
 cases iQ rQ
 have hxl:(jX n q).length=q.length:=by simp[jX]
 have hqp:0<q.length:=List.length_pos_iff.2 jF.ne
 rcases apQ with ⟨-,-,h0⟩ | ⟨t,et,st,hit,rfl,htl⟩
 ·rw[iH] at h0; omega
 obtain⟨nt,ab1⟩:=Nz.own 13 3 1 rfl t hit
 rw[htl] at ab1
 cases ab1
 rw[iH] at htl
 have e8:Bf.getD 8 bh = .ptr k3 0:=by
  obtain⟨id,h8,h9⟩:=X5 (show RT ι2' S2 (.ptr 12 0) (Bf.getD 8 bh) from sO Nz.env 8)
  rw[i3'] at h9
  cases h9
  exact h8
 have e4:Bf.getD 4 bh = .ptr k1 0:=by
  obtain⟨id,h8,h9⟩:=X5 (show RT ι2' S2 (.ptr 1 0) (Bf.getD 4 bh) from sO Nz.env 4)
  rw[i1'] at h9
  cases h9
  exact h8
 have Bt:Bf.length=60:=iB Nz.env
 refine oA (n0:=0) (ds:=ds1) (b:=base 52) (cs:=fr::cs) (iJ:=false) hP jk (by simp[base]) rfl (fun _=>rfl) Bq (ow je Bq) (x:={ y1 with S:=y1.S.set k3 (.cells [.val (.slice a0 (bR n u l).length c0),.val (.slice Po (bS n u l).length c1),.val (.int .i64 w),zD]) }) (env:=mH) (k:=[.code (.seq G9 JM)]) (by show ct _ _ _ _ _ _ _ _ Bq mH (y1.S.set k3 _)=_; rw[q1]; exact h2) Rt (q4.mono Mt) (q5.mono Mt) (gh _) fun y2 a2 ds2 r1 r2 r3 r4 r5 => ?_
 show iz _ _ () (G ((base 52).atR a2 [.code (.seq G9 JM)]) (fr::cs)) y2.w
 refine dY hP (fun w=>⟨_,Fq⟩) ?_
 rw[Sj]
 refine dY hP (fun w=>⟨_,Eh⟩) ?_
 rw[show List.range E9.size=[0,1,2] by rw[NW]; rfl]
 obtain⟨z25,aeu⟩:=aeb
 obtain⟨k23,z23,aev,ae6⟩:=aec
 refine Hh (aM:=vt j8 5) (call:=mV j8 5) (yf:=Xy j8 5) hP Bn jk ZT hyf (aH:=y2.S.length) (by simp[base]) oY0.1 (s4 oY0.2.2.2) r2 (AP _) r4 (d := .ptr k3 3) (S':=y2.S) (by simp only[ah,oY0.2.1,jb,e8,aeu]; rfl) fun y3 v56 t1 t2 t3 t4 => ?_
 rw[oY0.2.2.1]
 have E3:=(qE (r4.mono t3) (dst:=some 56) t4).1
 refine Hh (aM:=vt j8 5) (call:=mV j8 5) (yf:=Xy j8 5) hP Bn jk ZT hyf (aH:=y3.S.length) (by simp[base]) oY1.1 (s4 oY1.2.2.2) t2 (AP _) E3 (d := .sl (Go.Tv.rowsOf (jX n q)) (some t) fQ) (S':=y3.S) (by
  have e56:(gV Bf (some 56) (.ptr k3 3)).getD 56 bh = .ptr k3 3:=by simp[gV,aN,Bt]
  simp only[ah,oY1.2.1,jb,e56,kg,aev,t1,r1,s3b,ng,ae6]; rfl) fun y4 v57 u1 u2 u3 u4 => ?_
 rw[oY1.2.2.1]
 have E4:=(qE (E3.mono u3) (dst:=some 57) u4).1
 have hS4:y4.S=S2:=u1.trans (t1.trans r1)
 have Up:y4.S[t]? = some (.tail 3 1 ((jX n q).length*1)):=by rw[hS4]; exact htl
 obtain⟨cur,GX,oJ,C6,-⟩:=u2.eA t 3 1 _ Up
 have QH:=Ky u4 Up GX
 have ab0:=Rj u4 (e:=3) (s:=1) (by rw[iH]; exact Up)
 rw[iH] at ab0
 have adj:((a2.put (some 56) v56).put (some 57) v57).tmps.size=60:=by rw[E4.1]; simp[gV,Bt]
 have tC:(#[Operand.tmp 57]).map ((a2.put (some 56) v56).put (some 57) v57).eval=#[.slice (some ⟨y4.μ t,0,none⟩) (jX n q).length (y4.κ t)]:=by
  rw[← ab0]
  have h57:((a2.put (some 56) v56).put (some 57) v57).eval (.tmp 57)=v57:=by
   have hs:57<(a2.put (some 56) v56).tmps.size:=by
    have:=adj
    simp only[Act.put,qT] at this ⊢
    omega
   show ((a2.put (some 56) v56).tmps.setIfInBounds 57 v57).getD 57 undef=v57
   rw[bg,Array.getElem?_setIfInBounds,if_pos rfl,if_pos hs]
   rfl
  simp[h57]
 have M14:bZ y1 y4:=Mt.trans (r3.trans (t3.trans u3))
 have Vf:y4.S[k3]? = some (.cells [.val (.slice a0 (bR n u l).length c0),.val (.slice Po (bS n u l).length c1),.val (.int .i64 w),.sl (Go.Tv.rowsOf (jX n q)) (some t) fQ]):=by rw[hS4]; exact s3b
 have hnt:¬ Live y1.S t:=fun ht=>by
  obtain⟨b,Lp,DI⟩:=ht
  rw[q1] at Lp
  rcases (kF2.trans abX).ours 13 t hit with ⟨j,hj⟩ | hj
  ·obtain⟨bj,m1,m2⟩:=ZY.xY j t hj
   have Ln:∃ c,bj = .cells c:=by
    have pz:=dA m1
    simp only[Pv,List.replicate,List.set,bI,ep,or_false] at pz
    rcases pz with h | h | h | h | h | h | h | h | h | h | h | h | h<;>first | exact absurd h m2 | exact⟨_,h⟩
   obtain⟨c,rfl⟩:=Ln
   obtain⟨t',dd,n1,n2,-⟩:=ZY.cells j c m1
   rw[hj] at n1
   cases n1
   have hm:=(r3.trans (t3.trans u3)).cells t dd (by show (y1.S.set k3 _)[t]? = _; rw[q1]; exact n2)
   obtain⟨-,l',iy⟩:=hm
   rw[Up] at iy
   cases iy
  ·refine hj ?_
   by_cases e:t=k3
   ·subst e; rw[Up] at Vf; cases Vf
   ·exact⟨b,by rw[ej s3,if_neg e]; exact Lp,DI⟩
 rw[Frame.atR_of_none (b:=base 52) rfl]
 refine zU hP (by simp[base]) oY2.1 (s4 oY2.2.2) oY2.2.1 Tryz.func99 (qu (fn:=Tryz.f99) rfl) (R:=fun v w'=>v = .tuple #[]∧(w'.os=y4.w.os∧w'.output=y4.w.output∧y4.w.heap.size≤w'.heap.size∧(∀ k,k<y4.w.heap.size→k≠y4.μ t→w'.heap[k]? = y4.w.heap[k]?)∧w'.heap[y4.μ t]? = some (.cells (Sort.putCells (Value.int .i64) 0 (oL (jX n q)).toArray cur) 3 (0,0)))) (fun τ => ?_) fun v w' hw' τ d => ?_
 ·rw[tC]
  refine(Tryz.BT (w:=y4.w.re τ 0) GX QH (by rw[hxl]; exact hq)).mono ?_
  rintro e w' ⟨rfl,hg,hh⟩
  exact⟨_,rfl,rfl,hg.os,hg.output,hg.size,fun k hk pK=>hg.block k hk (fun e=>pK (by cases e; rfl)),hh⟩
 obtain⟨rfl,w1,w2,w3,w4,w5⟩:=hw'
 have SI:iA x y1 y4 (w'.re τ d) k1 k3 t (Go.Tv.rowsOf (bR n u l)) (Go.Tv.rowsOf (bS n u l)) w (jX n q) cur _ _ :=
  { h0:=hS,Zk:=Zk,R1:=q2,M1:=M14,Ry:=u2,y6:=⟨_,s3y⟩,rT:=⟨_,by rw[q1]; exact s1⟩,hne:=hne,hy3:=⟨fQ,Vf⟩,Uk:=by rw[hS4]; exact s1b,Uj:=Up,hnt:=hnt,rU:=⟨tU,fU,Nc▸v0⟩,rL:=⟨tL,fL,GN▸v1⟩,GX:=GX,gos:=w1,acr:=w2,gsz:=w3,acv:=w4,YX:=w5,hsz:=by omega }
 have R3:=SI.rel
 have M03:=SI.mono
 generalize XH:sH y1 y4 (w'.re τ d) k1 k3 t (Go.Tv.rowsOf (bR n u l)) (Go.Tv.rowsOf (bS n u l)) w (jX n q)=x3 at R3 M03
 have YX:w'.re τ d=x3.w:=by rw[← XH]; rfl
 have hμ3:x3.μ=y4.μ:=by rw[← XH]; rfl
 have hS3:∀ i,x3.S[i]? = if i=k3 then some (.cells (JE (Go.Tv.rowsOf (bR n u l)) (Go.Tv.rowsOf (bS n u l)) w (jX n q))) else if i=k1 then some (.cells y8) else (y4.S[i]?).map DY:=fun i=>by rw[← XH]; exact SI.get i
 rw[← Frame.atR_of_none (b:=base 52) rfl,YX]
 refine dY hP (fun w=>⟨_,mD⟩) ?_
 have E5:=(qE (E4) (dst:=(oY 2).dst) (d:=bh) (v := .tuple #[]) (.val rfl)).1
 generalize ha5:((a2.put (some 56) v56).put (some 57) v57).put (oY 2).dst (.tuple #[])=a5 at E5
 obtain⟨Z3,C5,hlc⟩:=Xv (y:=x3) E5
 have ado:Z3.length=60:=by rw[hlc]; simp[gV,Bt,d58]
 have UT:∀ i,i<56→((gV (gV (gV Bf (some 56) (.ptr k3 3)) (some 57) (.sl (Go.Tv.rowsOf (jX n q)) (some t) fQ)) (oY 2).dst bh))[i]? = some (Bf.getD i bh):=fun i hi=>by
  simp only[gV,d58]
  rw[aQ,if_neg (by omega),aQ,if_neg (by omega),aQ,if_neg (by omega),aN,bH (by omega)]
  rfl
 have p8:RV x3 (.ptr k3 0) (a5.tmps.getD 8 undef):=by
  have h8:=E5.2 8 _ (UT 8 (by omega))
  rw[e8] at h8
  generalize a5.tmps.getD 8 undef=v at h8
  cases h8
  rw[← hμ3]
  exact .ptr (l:=JE (Go.Tv.rowsOf (bR n u l)) (Go.Tv.rowsOf (bS n u l)) w (jX n q)) (by rw[hS3,if_pos rfl])
 have p4:RV x3 (.ptr k1 0) (a5.tmps.getD 4 undef):=by
  have h8:=E5.2 4 _ (UT 4 (by omega))
  rw[e4] at h8
  generalize a5.tmps.getD 4 undef=v at h8
  cases h8
  rw[← hμ3]
  exact .ptr (l:=y8) (by rw[hS3,if_neg hne,if_pos rfl])
 have C3:=HW (HW C5 p4) p8
 have hD5:oN 0 x3 ds2 a5.defers:=by
  have hd:a5.defers=a2.defers:=by
   rw[← ha5,d58]
   rfl
  obtain⟨z1,z2,z3⟩:=(r5.mono (t3.trans u3))
  rw[hd]
  refine⟨by rw[z1,hμ3],z2,fun id hid => ?_⟩
  obtain⟨y1',Xz,y3'⟩:=z3 id hid
  have nk3:id≠k3:=by rintro rfl; rw[Vf] at Xz; cases Xz
  have aeh:y4.S[k1]? = some (.cells y8):=by rw[hS4]; exact s1b
  have nk1:id≠k1:=by rintro rfl; rw[aeh] at Xz; cases Xz
  have nt:id≠t:=by rintro rfl; rw[Up] at Xz; cases Xz
  refine⟨y1',by rw[hS3,if_neg nk3,if_neg nk1,Xz]; rfl,?_⟩
  rw[hμ3,← YX]
  refine(w4 _ (aR.1 y3').1 (fun e=>nt (u2.inj id t (iP Xz (by simp)) (iP Up (by simp)) e))).trans y3'
 have W3:WT Tp Ty (vt j8 5) (mV j8 5) (Xy j8 5) [] LL 52 false JM Vd _ _:=lR (qK yZ) (vA hL.1 0 yZ) _ _ _ _ _ _ (xA3 (bR n u l) (bS n u l) (oL (jX n q)) w).h
 have ae9:cK (fun i=>if i=1 then some k1 else if i=12 then some k3 else none) Vd (Pv [.sl bO (bR n u l) .no,.sl bO (bS n u l) .no,bk w,.sl bO (oL (jX n q)) .no]) ((Z3.set 4 (.ptr k1 0)).set 8 (.ptr k3 0)) x3.S:=by
  refine⟨?_,fun k c hk => ?_,fun k e s hk => ?_,fun k k' hk => ?_,fun i j k' hi hj => ?_,fun k b hk => ?_⟩
  ·refine AH 8 (AH 4 ?_ ?_) ?_
   ·rw[← ado]; exact Mi Z3
   ·simp[RT]
   ·simp[RT]
  ·have cO:(k=1∧c=zeroV)∨(k=12∧c=[.sl bO (bR n u l) .no,.sl bO (bS n u l) .no,bk w,.sl bO (oL (jX n q)) .no]):=by
    match k,hk with
    | 1,hk=>cases hk; exact .inl ⟨rfl,rfl⟩
    | 12,hk=>cases hk; exact .inr ⟨rfl,rfl⟩
    | 0,hk | 2,hk | 3,hk | 4,hk | 5,hk | 6,hk | 7,hk | 8,hk | 9,hk | 10,hk | 11,hk=>cases hk
    | k+13,hk=>simp[Pv] at hk
   rcases cO with ⟨rfl,rfl⟩ | ⟨rfl,rfl⟩
   ·refine⟨k1,y8,rfl,by rw[hS3,if_neg hne,if_pos rfl],?_⟩
    exact aP (by simp only[RT,and_self]) (aP (by simp only[RT,and_self]) (aP (by simp only[RT]) (gf (by simp only[RT,and_self]))))
   ·refine⟨k3,JE (Go.Tv.rowsOf (bR n u l)) (Go.Tv.rowsOf (bS n u l)) w (jX n q),rfl,by rw[hS3,if_pos rfl],?_⟩
    exact aP (by simp only[RT]; exact⟨lC _,trivial⟩) (aP (by simp only[RT]; exact⟨lC _,trivial⟩) (aP (by simp only[RT]) (gf (by simp only[RT]; exact⟨lC _,trivial⟩))))
  ·exfalso
   match k,hk with
   | 1,hk | 12,hk | 0,hk | 2,hk | 3,hk | 4,hk | 5,hk | 6,hk | 7,hk | 8,hk | 9,hk | 10,hk | 11,hk=>cases hk
   | k+13,hk=>simp[Pv] at hk
  ·by_cases e1:k=1
   ·subst e1; exact⟨_,rfl,by simp⟩
   ·by_cases e2:k=12
    ·subst e2; exact⟨_,rfl,by simp⟩
    ·simp[e1,e2] at hk
  ·by_cases e1:i=1<;>by_cases e2:j=1
   ·omega
   ·subst e1
    by_cases e3:j=12
    ·subst e3; simp at hi hj; exact absurd (hi.trans hj.symm) hne
    ·simp[e2,e3] at hj
   ·subst e2
    by_cases e3:i=12
    ·subst e3; simp at hi hj; exact absurd (hj.trans hi.symm) hne
    ·simp[e1,e3] at hi
   ·by_cases e3:i=12<;>by_cases e4:j=12
    ·omega
    ·simp[e2,e4] at hj
    ·simp[e1,e3] at hi
    ·simp[e1,e3] at hi
  ·intro t ht
   match k,hk with
   | 1,hk | 12,hk | 0,hk | 2,hk | 3,hk | 4,hk | 5,hk | 6,hk | 7,hk | 8,hk | 9,hk | 10,hk | 11,hk=>cases hk; trivial
   | k+13,hk=>simp[Pv] at hk
 obtain⟨e,afh,S4,ι4,te4,tS4,h4,zR,-,-,-,zQ⟩:=W3 _ _ _ ae9 (fun k hk=>(by cases hk))
 obtain⟨aeK,vs,hv,hp,-,Jv⟩:=LP (fun _ _=>YM) zQ
 obtain⟨dsr,dr1,dr2⟩:=tI zR hv
 rw[Xo Jv.1] at hp Jv
 have hst:=Ek (ts:=[some aO,some bO]) (ι':=dK) (S':=[]) hp dr2
 have P4:Zl (oneOf dsr).strip=Fv n u l q w:=by
  obtain⟨hq1,-⟩:=Jv
  rw[hq1] at hst
  exact aaW hst.2
 refine oA (n0:=0) (ds:=ds2) (b:=base 52) (cs:=fr::cs) (iJ:=false) (k:=[]) hP jk (by simp[base]) rfl (fun _=>rfl) JM (ow je JM) h4 R3 C3 hD5 (gh _) fun z az dz v1 v2 v3 v4 v5 => ?_
 have iU:∀ todo,iz Tryz.prog af () (G { (base 52).at az todo with mode := .returning } (fr::cs)) z.w:=fun todo =>
  B6 hP Bn (x0:=x) (b:=base 52) (env:=afh) (l:=dsr) (Sr:=S4) rfl Tryz.func52 dz v1 v2 (M03.trans v3) v4 (by rw[hS]; exact v5) dr1 fun z' uu m1 m2 m3 m4=>hnx z' uu ⟨m2,m3,by rw[← P4]; exact aaS m4.strip⟩
 cases e with
 | normal =>
  show iz Tryz.prog af () (G ((base 52).atR az []) (fr::cs)) z.w
  rw[Frame.atR_of_none (b:=base 52) rfl]
  exact dY hP (fun w=>⟨_,stepG_end⟩) (iU _)
 | ret =>
  intro k'
  rw[Frame.atR_of_none (b:=base 52) rfl]
  exact dY hP (fun w=>⟨_,stepG_ret'⟩) (iU _)
 | exit id=>exact aeK.elim
end Go.Tv
end
section
namespace Go.Tv
open Go Go.Di Go.Conc Go.Co Go.Proofs
variable {af:Machine→Trace→Prop} {x:Cx}
theorem AU:∀ l:List Int,pV (Go.Tv.rowsOf l)=some l
 | []=>rfl
 | n::l=>by
  have:=AU l
  simp only[Go.Tv.rowsOf,bQ,pV] at this ⊢
  rw[this]; rfl
theorem tZ:∀ {rows:List DV} {l:List Int},pV rows=some l→rows=Go.Tv.rowsOf l
 | [],l,h=>by cases h; rfl
 | d::rows,l,h=>by
  unfold pV at h
  split at h
  ·rename_i e; cases e
  ·rename_i n r e
   cases e
   simp only[ai] at h
   obtain⟨m,h1,rfl⟩:=h
   rw[tZ h1]; rfl
  ·cases h
theorem L0:JO j8 where
 rev:=fun l d hl h=>by
  cases d<;>simp only[RT] at h
  rename_i rows tok f
  rw[iQ h.1]
  refine⟨.sl (Go.Tv.rowsOf l.reverse) none ⟨false,none⟩,?_,rfl,by simp only[RT]; exact⟨lC _,trivial⟩⟩
  have e:nv 133 [.sl (Go.Tv.rowsOf l) tok f]=some (.sl (Go.Tv.rowsOf l.reverse) none ⟨false,none⟩):=by
   simp only[nv,Vh,AU,if_pos hl]; rfl
  simp[j8,more,e]
def ZA:DV→DV→Option DV
 | .agg [.sl ru _ _,.sl rl _ _,.val (.int .i64 w),.sl rq _ _],.val (.int .i64 n)=>match pV ru,pV rl,pV rq with
  | some u,some l,some q=>if jG u l w q=0∧0≤n∧n≤3 then some (Fv n u l q w) else none
  | _,_,_=>none
 | _,_=>none
theorem OJ {a b d:DV} (h:ZA a b=some d) (hp:[a,b].all DV.pure=true) (hv:d.pure=true) {vals:Array Value} (hR:Rel x) (ha:gn x [a,b] vals):eH Tryz.prog af x 52 vals fun y u=>y.S=x.S∧Rel y∧bZ x y∧RV y d u:=by
 unfold ZA at h
 split at h
 ·rename_i ru t1 f1 rl t2 f2 w rq t3 f3 n
  split at h
  ·rename_i u l q h1 h2 h3
   split at h
   ·rename_i hc
    cases h
    cases tZ h1
    cases tZ h2
    cases tZ h3
    have ha':gn x.bare _ vals:=⟨ha.1,fun j c hj=>(ha.2 j c hj).pure_mono (x:=x) (y:=x.bare) (fun b o h=>⟨h,rfl⟩) (bt.1 hp c (dA hj))⟩
    obtain⟨h4,h5⟩:=Tt (af:=af) FL L0 hR.bare rfl (Kh.1 hc.1) hc.2 ha'
    refine⟨h4,fun fr cs hn=>h5 fr cs fun y u ⟨q2,q3,q4⟩ => ?_⟩
    exact hn (x.behind y) u ⟨rfl,hR.behind q3 q2,s8 hR q3,q4.pure_mono (x:=y) (y:=x.behind y) (fun b o h=>⟨h,rfl⟩) hv⟩
   ·cases h
  ·cases h
 ·cases h
def Dg:bV:=fun f args=>match f,args with
 | 52,[a,b]=>ZA a b
 | _,_=>j8 f args
theorem V8:rI Tryz.prog af Dg:=by
 intro f args v h hp hv x vals hR ha
 unfold Dg at h
 split at h
 ·exact OJ h hp hv hR ha
 ·exact FN f args v h hp hv x vals hR ha
theorem FK:uK Dg where
 other:=fun f a h1 h2 h3 h4 h5=>by
  unfold Dg
  split
  ·exact absurd rfl h5
  ·exact FL.other f a h1 h2 h3 h4 h5
 fit:=FL.fit
theorem V3:JO Dg where
 rev:=L0.rev
end Go.Tv
end
section
namespace Go.Tv
open Go Go.Di Go.Conc Go.Co Go.Proofs
theorem V1:Qg Dg where
 dup:=fun l d hl h=>by
  cases d<;>simp only[RT] at h
  rename_i rows tok f
  rw[iQ h.1]
  refine⟨.sl (Go.Tv.rowsOf l) none ⟨false,none⟩,?_,rfl,by simp only[RT]; exact⟨lC _,trivial⟩⟩
  have e:nv 43 [.sl (Go.Tv.rowsOf l) tok f]=some (.sl (Go.Tv.rowsOf l) none ⟨false,none⟩):=by
   simp only[nv,Vz,AU,if_pos hl]; rfl
  simp[Dg,j8,more,e]
end Go.Tv
end
section
namespace Go.Tv
open Go Go.Di Go.Conc Go.Co Go.Proofs
theorem L8 (la ub:List Int) (s:Int):∀ k,A1 la ub s k=oD (fP la ub s k)
 | 0=>rfl
 | k+1=>by
  have ih:=L8 la ub s k
  rw[sL,ih,fP,Jp]
  by_cases h:0≤(k:Int)+s∧(k:Int)+s<la.length
  ·rw[if_pos h,if_neg (by omega)]
   have e:oD (fP la ub s k++[ub.getD k 0+la.getD ((k:Int)+s).toNat 0])=M8 (oD (fP la ub s k)) (ub.getD k 0+la.getD ((k:Int)+s).toNat 0):=by
    simp[oD,List.foldl_append]
   rw[e]
   generalize oD (fP la ub s k)=st
   generalize ub.getD k 0+la.getD ((k:Int)+s).toNat 0=v
   obtain⟨lo,hi,m⟩:=st
   simp only[M8]
   by_cases h0:m=0
   ·simp[h0]
   ·simp only[h0,if_false]
  ·rw[if_neg h,if_pos (by omega)]
theorem TG (la ub:List Int) (w:Int):Go.Co.Qb la ub w=ia la ub w:=by
 funext s
 simp only[Go.Co.Qb,ia,uQ,L8,Bool.decide_and]
theorem IX (la ub:List Int) (w:Int):ny la ub w=pJ la ub w (ub.length+la.length+1):=by
 rw[ny,O3,pJ,TG]
def Dz (u l:List Int) (w:Int) (q:List Int):Wk:=⟨q,w,fun i=>([u,l.reverse,u.reverse,l]:List (List Int)).getD i [],fun i=>([l,u.reverse,l.reverse,u]:List (List Int)).getD i []⟩
theorem XZ {u l q:List Int} {w:Int} {d:DV} (h:RT dK [] (wkV u l w q) d):UF d=some (Dz u l w q):=by
 cases d<;>simp only[wkV,RT] at h
 obtain⟨a0,m,rfl,k0,h⟩:=aj h
 obtain⟨a1,m,rfl,k1,h⟩:=aj h
 obtain⟨a2,m,rfl,k2,h⟩:=aj h
 obtain⟨a3,m,rfl,k3,h⟩:=aj h
 obtain⟨a4,m,rfl,k4,h⟩:=aj h
 obtain⟨a5,m,rfl,k5,h⟩:=aj h
 obtain⟨a6,m,rfl,k6,h⟩:=aj h
 obtain⟨a7,m,rfl,k7,h⟩:=aj h
 obtain⟨a8,m,rfl,k8,h⟩:=aj h
 obtain⟨a9,m,rfl,k9,h⟩:=aj h
 obtain⟨a10,m,rfl,k10,h⟩:=aj h
 obtain⟨a11,m,rfl,k11,h⟩:=aj h
 cases aU h
 cases zb k2
 have key:∀ {l:List Int} {d:DV},RT dK [] (.sl bO l .no) d→Nr d=some l:=fun {l d} hd=>by
  obtain⟨r,t,f,rfl,hr,-⟩:=Bp hd
  rw[iQ hr]
  exact AU l
 simp only[UF,DR,key k3,key k4,key k5,key k6,key k7,key k8,key k9,key k10,key k11]
 rfl
theorem FC {l:List Int} (h:l.length≤1000) (h1:∀ x∈l,0≤x∧x≤9):Dl l=true:=by
 simp only[Dl,aI,bJ,bt]
 exact⟨h,h1⟩
theorem MU:∀ {l:List Int},l.Pairwise (· < ·)→JN l=true
 | [],_=>rfl
 | a::l,h=>by
  rw[List.pairwise_cons] at h
  simp only[JN,aI,bt,bJ]
  exact⟨h.1,MU h.2⟩
theorem Rb {u l q:List Int} {w:Int} (h:Ok u l w q):wkB (Dz u l w q)=true:=by
 have h1:=h.n8
 have h2:=h.len
 have sp:=DO h
 have hu:=FC sp.1 h.hu
 have hl:=FC sp.2.1 h.hl
 have hur:Dl u.reverse=true:=FC (by simp; omega) fun x hx=>h.hu x (by simpa using hx)
 have hlr:Dl l.reverse=true:=FC (by simp; omega) fun x hx=>h.hl x (by simpa using hx)
 have h4:(List.range 4).all (fun i=>Dl ((Dz u l w q).up i)&&Dl ((Dz u l w q).lo i))=true:=by
  simp[jM,Dz,hu,hl,hur,hlr]
 have hw0:=h.w0
 have hw2:=h.w2
 have e1:(Dz u l w q).bp.all (fun x=>decide (0≤x)&&decide (x≤3))=true:=by
  simp only[bt,aI,bJ]
  exact h.O6
 unfold wkB
 rw[h4,e1,show JN (Dz u l w q).bp=true from MU h.U3,gB (show (Dz u l w q).bp.length≤1000 from sp.2.2),gB (show 0≤(Dz u l w q).cD from hw0),gB (show (Dz u l w q).cD≤1000 by show w≤1000; omega)]
 rfl
theorem Kw {ua la qa ub lb qb:List Int} {wa wb:Int} (ha:Ok ua la wa qa) (hb:Ok ub lb wb qb):dH (Dz ua la wa qa) (Dz ub lb wb qb)=(aA ua la qa ub lb qb (wa+wb)).map fun x=>(x.1,x.2.1,x.2.2.1):=by
 have h3:=ha.len
 have h3':=hb.len
 unfold dH aA
 rw[List.map_flatMap]
 have RO:∀ {α β:Type} {l:List α} {f g:α→List β},(∀ x∈l,f x=g x)→l.flatMap f=l.flatMap g:=fun {α β l f g} h=>by
  induction l with
  | nil=>rfl
  | cons x l ih=>rw[fM,fM,h x (by simp),ih fun y hy=>h y (by simp[hy])]
 refine RO fun x hx => ?_
 rw[List.map_flatMap]
 refine RO fun y hy => ?_
 rw[List.map_map]
 have ex:(Dz ua la wa qa).lo x.toNat=bS x ua la∧(bS x ua la).length=ua.length:=by
  rcases four (ha.O6 x hx) with rfl | rfl | rfl | rfl<;>simp[Dz,bS,h3]
 have ey:(Dz ub lb wb qb).up y.toNat=bR y ub lb∧(bR y ub lb).length=ub.length:=by
  rcases four (hb.O6 y hy) with rfl | rfl | rfl | rfl<;>simp[Dz,bR,h3']
 rw[gr,ex.1,ey.1,IX,ex.2,ey.2]
 rfl
theorem Mj:∀ l:List (Int×Int×Int×Unit),eN (CR gX) gX.agg l ((l.map fun x=>(x.1,x.2.1,x.2.2.1)).map smD)
 | []=>trivial
 | (x,y,s,_)::l=>⟨⟨⟨_,_,rfl,rfl,_,_,rfl,rfl,_,_,rfl,rfl,rfl⟩,⟨_,rfl⟩⟩,Mj l⟩
theorem V2:Z8 Dg where
 X4:=fun ua la qa ub lb qb wa wb d1 d2 ha hb h1 h2=>by
  refine⟨.sl ((dH (Dz ua la wa qa) (Dz ub lb wb qb)).map smD) none ⟨false,none⟩,?_,rfl,?_⟩
  ·have e:nv 60 [d1,d2]=some (.sl ((dH (Dz ua la wa qa) (Dz ub lb wb qb)).map smD) none ⟨false,none⟩):=by
    simp only[nv,Fo,XZ h1,XZ h2,Rb ha,Rb hb,gA,if_true]
   simp[Dg,j8,more,e]
  ·simp only[RT]
   rw[Kw ha hb]
   exact⟨Mj _,trivial⟩
end Go.Tv
end
section
namespace Go.Tv
open Go Go.Di Go.Proofs
abbrev Md:List TT:=[.sl aO,aO,bO,bO,bM]
set_option maxRecDepth 100000 in
theorem Kv (n:Nat) (Jh:List TV) (h:TVs Md Jh):sE (vt Dg (n+10)) 3 Jh (fun v=>v=kC true):=by
 match Jh,h with
 | [_,_,_,_,_],⟨⟨l,rfl⟩,⟨⟨u,lo,w,q,_⟩,rfl⟩,⟨a,rfl⟩,⟨b,rfl⟩,⟨Dk,rfl⟩,_⟩ =>
  have ok:=aef FK V3 V2 V1
  exact(((kz FK ok (by decide) Tryz.func3 rfl v3 (T':=S2) (dX ok)).2 n).I 3 [.sl aO l .no,Uh u lo w q,bk a,bk b,.sl bO Dk .no] [] (.res (kC true) [] []) rfl trivial).mono fun v hv=>hv.1
end Go.Tv
namespace Go.Proofs.YtedcgbkilmlbhaaGreat
open Go Go.Di Go.Tv Go.Conc Go.Co Go.Proofs
open Go.ChangeShapes Go.WideShapes Go.ChangeAt Go.RowKit
set_option maxRecDepth 100000 in
theorem EA:wK Tryz.prog aO (.inl 25):=by
 have h3:Tryz.prog.underlying 3=some (.int .i64)∧Tryz.prog.cellsOf 3=1:=⟨by kernel_rfl,by kernel_rfl⟩
 have h22:wK Tryz.prog bM (.inl 23):=⟨by kernel_rfl,3,by kernel_rfl,by kernel_rfl,h3⟩
 exact⟨_,_,_,Tryz.underlying25,rfl,rfl,by kernel_rfl,by kernel_rfl,h22,_,_,rfl,rfl,by kernel_rfl,h22,_,_,rfl,rfl,by kernel_rfl,h3,_,_,rfl,rfl,by kernel_rfl,h22,rfl⟩
set_option maxRecDepth 100000 in
theorem Ar (os:Os) (started:os.Started) (H:Type) (enc:TypeId×Value→H) :
  ReturnsInLeavingWide {} Tryz.checked os 3 .any (Rows.cutSeamsSpec.pre6 enc Tryz.prog Tryz.f3 Rows.cutSeamsRow.domain false) (Rows.cutSeamsSpec.post enc Tryz.prog Tryz.f3 false true false false) :=
 aej (fun _=>V8) FK Tryz.func3 (ts:=[22,25,3,3,23]) (Ts:=Md) (by kernel_rfl) ⟨⟨by kernel_rfl,25,by kernel_rfl,by kernel_rfl,EA⟩,EA,⟨by kernel_rfl,by kernel_rfl⟩,⟨by kernel_rfl,by kernel_rfl⟩,⟨by kernel_rfl,3,by kernel_rfl,by kernel_rfl,by kernel_rfl,by kernel_rfl⟩,trivial⟩ (by decide +kernel) (by kernel_rfl) rfl
  (fun _ ds h=>by match ds,h with | [_,_,_,_,_],_=>rfl) (by decide) (by kernel_rfl) (n:=9) (Kv 0) started
  (ChangeSpec.witness6 (enc:=enc) (C:=Tryz.checked) false ⟨#[],#[.slice none 0 0,.agg #[.slice none 0 0,.slice none 0 0,.int .i64 0,.slice none 0 0],.int .i64 0,.int .i64 0,.slice none 0 0],[]⟩ 9 (by kernel_rfl) (by kernel_rfl) (by kernel_rfl) (by kernel_rfl))
set_option maxRecDepth 100000 in
theorem cutSeams_holds:Rows.CutSeamsSaid :=
 OpenClaim.holds_of_wide_leaving 3 Tryz.f3 rfl rfl rfl rfl rfl rfl rfl ⟨rfl,rfl,rfl,rfl,rfl⟩ rfl rfl rfl rfl rfl (by kernel_rfl) Tryz.func3 (by kernel_rfl)
  (of_decide_eq_true (by kernel_rfl)) (by unfold Func.isWrapper; first | (rw[if_pos (by decide +kernel)]; kernel_rfl) | (rw[if_neg (by decide +kernel)]; exact⟨rfl,rfl⟩))
  (fun os started H enc _=>Ar os started H enc)
#print axioms cutSeams_holds
end Go.Proofs.YtedcgbkilmlbhaaGreat
end
