/- Yy -/
import Derived.Test.YtedcgbkilmlbhaaGreatPk34
import Derived.Test.YtedcgbkilmlbhaaGreatPk11
import Derived.Test.YtedcgbkilmlbhaaGreatPk12
section
namespace Go.Tv
open Go Go.Di Go.Conc Go.Co Go.Proofs
variable {af:Machine→Trace→Prop} {x:Cx}
noncomputable def Cb:Array Oper:=match D3 with
 | .region _ ops _=>ops
 | _=>#[]
theorem Ot:D3 = .region 13 Cb false:=by kernel_rfl
theorem I4 {ι:jE} {S:ak}:∀ l:List DV,cq ι S (List.replicate l.length .unk) l
 | []=>bI
 | d::l=>by rw[List.length_cons,List.replicate_succ]; exact aD (by simp only[RT]) (I4 l)
theorem opY (i:Nat) (o:Oper) (h:Cb.toList[i]? = some o):Cb[i]? = some o:=by rw[← h,Array.getElem?_toList]
noncomputable def oY (i:Nat):Oper:=Cb.toList.getD i default
theorem oY0:Cb[0]? = some (oY 0)∧(oY 0).op = .fieldAddr 25 (.tmp 8) 3∧(oY 0).dst=some 56∧(oY 0).guard=none:=⟨opY _ _ (by kernel_rfl),by kernel_rfl,by kernel_rfl,by kernel_rfl⟩
theorem oY1:Cb[1]? = some (oY 1)∧(oY 1).op = .load 23 (.tmp 56)∧(oY 1).dst=some 57∧(oY 1).guard=none:=⟨opY _ _ (by kernel_rfl),by kernel_rfl,by kernel_rfl,by kernel_rfl⟩
theorem oY2:Cb[2]? = some (oY 2)∧(oY 2).op = .call { callee := .value (.func 99),args:=#[.tmp 57],argTypes:=#[23] }∧(oY 2).guard=none:=⟨opY _ _ (by kernel_rfl),by kernel_rfl,by kernel_rfl⟩
theorem d58:(oY 2).dst=some 58:=by kernel_rfl
theorem abB:∃ z,x7 Tryz.prog 25=some ⟨.struct [(0,1,false),(1,1,false),(2,1,false),(3,1,false)],4,z⟩:=by
 have h:(x7 Tryz.prog 25).map (fun d=>(d.k,d.size))=some (.struct [(0,1,false),(1,1,false),(2,1,false),(3,1,false)],4):=by kernel_rfl
 cases e:x7 Tryz.prog 25 with
 | none=>rw[e] at h; cases h
 | some d=>obtain⟨k,s,z⟩:=d; rw[e] at h; cases h; exact⟨z,rfl⟩
theorem abC:∃ k z,x7 Tryz.prog 23=some ⟨k,1,z⟩∧k.isAgg=false:=by
 have h:(x7 Tryz.prog 23).map (fun d=>(d.k.isAgg,d.size))=some (false,1):=by kernel_rfl
 cases e:x7 Tryz.prog 23 with
 | none=>rw[e] at h; cases h
 | some d =>
  obtain⟨k,s,z⟩:=d
  rw[e] at h
  simp only[Option.map_some,Option.some.injEq,Prod.mk.injEq] at h
  obtain⟨h1,rfl⟩:=h
  exact⟨k,z,rfl,h1⟩
theorem KE {k j:Nat}:(Array.replicate k undef).getD j undef=undef:=by rw[Array.getD_eq_getD_getElem?,Array.getElem?_replicate]; split<;>rfl
theorem WR:Tryz.f52.ntmps=60:=by kernel_rfl
theorem UM:Tryz.f52.body=some y0:=nv rfl
theorem Kt:Cb.size=3:=by kernel_rfl
theorem og {ι:jE} {S:ak} {t:TT} {l:List t.den} {ap:Ap} {d:DV} (h:RT ι S (.sl t l ap) d):∃ rows tok f,d = .sl rows tok f∧de (CR t) t.agg l rows∧qV ι S rows.length tok f ap:=by
 cases d<;>simp only[RT] at h
 exact⟨_,_,_,rfl,h⟩
theorem oL {ι:jE} {S:ak} {v:Value} {d:DV} (h:RT ι S (.val v) d):d = .val v:=by
 cases d<;>simp only[RT] at h
 rw[h]
theorem Io {ι:jE} {S:ak} {d:DV} (h:RT ι S .eu d):d=zD:=by
 cases d<;>simp only[RT] at h
 obtain⟨rfl,rfl,rfl⟩:=h
 rfl
theorem TY {ι:jE} {S:ak} {k o:Nat} {d:DV} (h:RT ι S (.ptr k o) d):∃ id,d = .ptr id o∧ι k=some id:=by
 cases d<;>simp only[RT] at h
 obtain⟨h1,rfl⟩:=h
 exact⟨_,rfl,h1⟩
theorem pI {o:Oper} {y:Nat→Option Bool} (h:o.guard=none):Region.wanted o y=true:=by simp[Region.wanted,h]
theorem NC {e:TypeId} {s:Nat} {rows:List DV} {t:Nat} {f:SF} {v:Value} (h:RV x (.sl rows (some t) f) v) (ht:x.S[t]? = some (.tail e s (rows.length*s))):v = .slice (some ⟨x.μ t,0,none⟩) rows.length (x.κ t):=by
 cases h with
 | sl _ _ _ _ _ _ h7 =>
  obtain⟨e',s',n,k1,k2,k3,k4⟩:=h7 t rfl
  rw[ht] at k1
  cases k1
  obtain⟨rfl,rfl⟩:=k4 rfl
  rfl
theorem Hi {t:Nat} {f:SF} {v:Value} {qs:List Int} {cur:Array Value} (h:RV x (.sl (Go.Tv.rowsOf qs) (some t) f) v) (ht:x.S[t]? = some (.tail 3 1 (qs.length*1))) (hc:x.w.heap[x.μ t]? = some (.cells cur 3 (0,0))):cur.toList.take qs.length=qs.map (Value.int .i64):=by
 have hv:=NC h (e:=3) (s:=1) (by rw[fD]; exact ht)
 subst hv
 cases h with
 | @sl _ _ _ _ _ s vs h1 h2 _ _ _ _ _ =>
  apply List.ext_getElem?
  intro j
  by_cases hj:j<qs.length
  ·have hf:(flat (Go.Tv.rowsOf qs))[j]? = some (.val (.int .i64 (qs.getD j 0))):=by
    rw[pP,Go.Tv.rowsOf,List.getElem?_map,List.getD_eq_getElem?_getD,List.getElem?_eq_getElem hj]
    rfl
   obtain⟨-,b,o,q1,-,q3⟩:=h1.2 j _ hf
   cases q1
   have q4:=jZ (h2 j _ hf)
   rw[q4] at q3
   simp only[World.cell?,hc,Nat.zero_add,Option.isSome_none,Bool.false_eq_true,if_false] at q3
   rw[List.getElem?_take_of_lt hj,Array.getElem?_toList,q3,List.getElem?_map,List.getD_eq_getElem?_getD,List.getElem?_eq_getElem hj]
   rfl
  ·rw[List.getElem?_take_eq_none (by omega),List.getElem?_eq_none (by simp; omega)]
theorem EI {env:List DV} {arr:Array Value} (h:en x env arr) {j:Nat} {d:DV} (hd:RV x d (arr.getD j undef)):en x (env.set j d) arr:=by
 refine⟨by simp[h.1],fun i c hi => ?_⟩
 rw[List.getElem?_set] at hi
 split at hi
 ·rename_i e
  subst e
  split at hi
  ·cases hi; exact hd
  ·cases hi
 ·exact h.2 i c hi
theorem Xe {n w:Int} {u l q:List Int} {d:DV} (h:RT c9 [] (.ep [.agg [.sl bW (bT n u l) .no,.sl bW (bU n u l) .no,bt w,.sl bW (kV (fo n q)) .no],bt 0]) d):Vq d=vg n u l q w:=by
 cases d<;>simp only[RT] at h
 obtain⟨d1,m,rfl,h1,h⟩:=ai h
 obtain⟨d2,m,rfl,h2,h⟩:=ai h
 cases aF h
 cases oL h2
 cases d1<;>simp only[RT] at h1
 obtain⟨a1,m,rfl,k1,h1⟩:=ai h1
 obtain⟨a2,m,rfl,k2,h1⟩:=ai h1
 obtain⟨a3,m,rfl,k3,h1⟩:=ai h1
 obtain⟨a4,m,rfl,k4,h1⟩:=ai h1
 cases aF h1
 obtain⟨_,_,_,rfl,r1,-⟩:=og k1
 obtain⟨_,_,_,rfl,r2,-⟩:=og k2
 obtain⟨_,_,_,rfl,r4,-⟩:=og k4
 cases oL k3
 cases cZ r1
 cases cZ r2
 cases cZ r4
 rfl
theorem SY {tS:List TB} {vs:List TV} {a b:TV} {t1 t2:TT} (h:iO (aX [some t1,some t2] (th tS vs)) = .ep [a,b]):th tS vs=vs:=by
 unfold th at h ⊢
 split at h
 ·split at h
  ·split at h
   ·cases t1<;>cases h
   ·cases t1<;>cases h
  ·cases t1<;>cases h
 ·rfl
set_option maxHeartbeats 2000000 in
set_option maxRecDepth 100000 in
theorem Pg (tk:oK iw) (tr:D1 iw) (hR:Rel x) (hS:x.S=[]) {u l q:List Int} {w n:Int} {t1 t2 t3:Option Nat} {f1 f2 f3:SF} (fT:Ok u l w q) (hn:0≤n∧n≤3) {vals:Array Value}
  (ha:en x [.agg [.sl (Go.Tv.rowsOf u) t1 f1,.sl (Go.Tv.rowsOf l) t2 f2,.val (.int .i64 w),.sl (Go.Tv.rowsOf q) t3 f3],.val (.int .i64 n)] vals):cU Tryz.prog af x 52 vals fun y v=>Rel y∧bh x y∧RV y (vg n u l q w) v:=by
 have hP:=eX
 have hcy:=ur (af:=af) eX qy yl CL (L:=LL) 5
 have gq:gz Tryz.prog af (j5 iw 5):=hcy.1
 have hyf:tJ Tryz.prog af (Te iw 5):=hcy.2
 have VZ:tN Tryz.prog af (rO iw 5):=Cy CL hcy.1
 have gd:∀ id ops draw,oQ Tryz.prog af Ty (rO iw 5) (j5 iw 5) (Te iw 5) id ops draw:=fun id ops draw=>GF eX qy yl gq VZ hyf id ops draw
 have hL:=lok tk tr
 have vW:=mb hL 0 0
 have W1:WT Tp Ty (rO iw 5) (j5 iw 5) (Te iw 5) [] LL 52 false (uX Zt .skip) (Vu u l q w n) [] (Wb [] (Mo q n) (L0 [.sl bW (bT n u l) .no,.sl bW (bU n u l) .no,bt w,.eu])):=jk (nM vW) (rV hL.1 0 vW) _ _ _ _ _ _ (xA1 u l q w n fT hn).h
 refine⟨⟨Tryz.f52,y0,Tryz.func52,UM⟩,fun fr cs hnx => ?_⟩
 rw[enter_at vals Tryz.func52 UM,← Frame.atR_of_none (b:=base 52) rfl]
 generalize iU:[DV.agg [.sl (Go.Tv.rowsOf u) t1 f1,.sl (Go.Tv.rowsOf l) t2 f2,.val (.int .i64 w),.sl (Go.Tv.rowsOf q) t3 f3],.val (.int .i64 n)]=args at ha
 have hlen:args.length=2:=by rw[← iU]; rfl
 have he:en x (args++List.replicate (Tryz.f52.ntmps-args.length) aO) (vals++Array.replicate (Tryz.f52.ntmps-vals.size) undef):=by
  refine iE ha ⟨by simp[ha.1],fun j c hc => ?_⟩
  rw[List.getElem?_replicate] at hc
  split at hc
  ·rename_i hj
   cases hc
   rw[KE]
   exact .val rfl
  ·cases hc
 have hRT:bL c9 (Vu u l q w n) [] (args++List.replicate (Tryz.f52.ntmps-args.length) aO) []:=by
  refine⟨?_,fun k l hk=>(by simp at hk),fun k e s hk=>(by simp at hk),fun k k' hk=>(by cases hk),fun i j k' hi=>(by cases hi),fun k b hk=>(by simp at hk)⟩
  rw[hlen,WR]
  refine dI ?_ (qd _ _)
  rw[← iU]
  refine aD ?_ (dA (by simp only[RT]))
  simp only[RT]
  exact aD (by simp only[RT]; exact⟨fI _,trivial⟩) (aD (by simp only[RT]; exact⟨fI _,trivial⟩) (aD (by simp only[RT]) (dA (by simp only[RT]; exact⟨fI _,trivial⟩))))
 obtain⟨e,jM,S1,ι1,j6,gT,h1,LR,JS,-,-,hQ1⟩:=W1 c9 _ [] hRT (fun k hk=>(by cases hk))
 cases e with
 | exit id=>exact hQ1.elim
 | ret=>exact hQ1.elim
 | normal =>
 have qP:=(xW hQ1).1
 obtain⟨ι1',Q1,-,-⟩:=o9 LR qP.l qP.b qP.ok (pG qP.b JS qP.base)
 obtain⟨ea,sa,h1a,h1b⟩:=xe (l:=[sU y0,sU (kz y0),sU (kz (kz y0)),sU (kz (kz (kz y0))),sU (kz (kz (kz (kz y0))))]) (m:=[sU (sU y5)]) h1
 rw[aab]
 refine zn (n0:=0) (ds:=[]) (b:=base 52) (cs:=fr::cs) hP gq gd (by simp[base]) rfl rfl [sU y0,sU (kz y0),sU (kz (kz y0)),sU (kz (kz (kz y0))),sU (kz (kz (kz (kz y0))))] _ (by rw[hS]; exact h1a) hR he (qC _ _) (Nat.zero_le _) fun ya aa dsa p1 p2 p3 p4 p5 => ?_
 refine cF hP (fun w=>⟨_,Cp⟩) ?_
 refine zn (n0:=0) (ds:=dsa) (b:=base 52) (cs:=fr::cs) hP gq gd (by simp[base]) rfl rfl [sU (sU y5)] yo (by rw[p1]; exact h1b) p2 p4 p5 (Nat.zero_le _) fun y1 a1 ds1 q1 q2 q3 q4 q5 => ?_
 have Vp:=p3.trans q3
 clear p1 p2 p3 p4 p5 q3 h1a h1b h1 he hRT hQ1 qP LR JS
 obtain⟨k3,dsv,i3,s3,r3⟩:=Q1.cells 12 [.sl bW (bT n u l) .no,.sl bW (bU n u l) .no,bt w,.eu] rfl
 obtain⟨dU,dsv,rfl,rU,r3⟩:=ai r3
 obtain⟨dL,dsv,rfl,rL,r3⟩:=ai r3
 obtain⟨dW,dsv,rfl,rW,r3⟩:=ai r3
 obtain⟨dZ,dsv,rfl,rZ,r3⟩:=ai r3
 cases aF r3
 obtain⟨_,tU,fU,rfl,rU,-⟩:=og rU
 obtain⟨_,tL,fL,rfl,rL,-⟩:=og rL
 cases oL rW
 cases Io rZ
 cases cZ rU
 cases cZ rL
 obtain⟨adj,e3,g1,g2,g3⟩:=q2.cells k3 _ (by rw[q1]; exact s3)
 have v0:=g3 0 _ rfl
 have v1:=g3 1 _ rfl
 have v2:=g3 2 _ rfl
 have v3:=g3 3 _ rfl
 obtain⟨a0,c0,JM⟩:=EK v0
 obtain⟨LV,c1,DI⟩:=EK v1
 rw[fD] at JM DI
 have s3y:y1.S[k3]? = some (.cells [.sl (Go.Tv.rowsOf (bT n u l)) tU fU,.sl (Go.Tv.rowsOf (bU n u l)) tL fL,.val (.int .i64 w),zD]):=by rw[q1]; exact s3
 have Mt:=Bw (l':=[.val (.slice a0 (bT n u l).length c0),.val (.slice LV (bU n u l).length c1),.val (.int .i64 w),zD]) s3y
 have Rt:=OJ (l':=[.val (.slice a0 (bT n u l).length c0),.val (.slice LV (bU n u l).length c1),.val (.int .i64 w),zD]) q2 s3y rfl fun arr e uZ j c hc=>by
  rw[g1] at uZ
  cases uZ
  match j,hc with
  | 0,hc=>cases hc; rw[JM]; exact .val rfl
  | 1,hc=>cases hc; rw[DI]; exact .val rfl
  | 2,hc=>cases hc; exact v2.mono Mt
  | 3,hc=>cases hc; exact v3.mono Mt
  | j+4,hc=>simp at hc
 have rZ':RT ι1' (S1.set k3 (.cells [.val (.slice a0 (bT n u l).length c0),.val (.slice LV (bU n u l).length c1),.val (.int .i64 w),zD])) .eu zD:=by simp only[RT,and_self]
 have rZl:cq ι1' (S1.set k3 (.cells [.val (.slice a0 (bT n u l).length c0),.val (.slice LV (bU n u l).length c1),.val (.int .i64 w),zD])) [Ie a0 (bT n u l).length c0,Ie LV (bU n u l).length c1,bt w,.eu] [.val (.slice a0 (bT n u l).length c0),.val (.slice LV (bU n u l).length c1),.val (.int .i64 w),zD] :=
  aD (by simp only[Ie,RT]) (aD (by simp only[Ie,RT]) (aD (by simp only[RT]) (dA rZ')))
 have hRt:=KN Q1 (k:=12) rfl i3 s3 rZl
 have V4:bL ι1' (Mo q n) (L0 [Ie a0 (bT n u l).length c0,Ie LV (bU n u l).length c1,bt w,.eu]) jM (S1.set k3 (.cells [.val (.slice a0 (bT n u l).length c0),.val (.slice LV (bU n u l).length c1),.val (.int .i64 w),zD])):=hRt
 have hq:q.length≤1000:=(A1 fT).2.2
 have W2:WT Tp Ty (rO iw 5) (j5 iw 5) (Te iw 5) [1,12] LL 52 false yo (Mo q n) _ _:=jk (nM vW) (rV hL.1 0 vW) _ _ _ _ _ _ (xA2 q w n a0 LV (bT n u l).length c0 (bU n u l).length c1 hq).h
 obtain⟨e,ye,S2,ι2,YA,Qj,h2,kR2,kB2,kF2,-,hQ2⟩:=W2 ι1' jM _ V4 (fun k hk=>by
  simp only[List.mem_cons,List.not_mem_nil,or_false] at hk
  rcases hk with rfl | rfl<;>exact⟨_,rfl⟩)
 cases e with
 | exit id=>exact hQ2.elim
 | ret=>exact hQ2.elim
 | normal =>
 have Ef:=(xW hQ2).1
 obtain⟨ι2',J7,Zx,-⟩:=o9 kR2 Ef.l Ef.b Ef.ok (pG Ef.b kB2 Ef.base)
 have yu:=(kF2.trans Zx).base
 obtain⟨k1,dsz,i1,s1,r1⟩:=Q1.cells 1 zeroV rfl
 have i1':ι2' 1=some k1:=(yu 1 (by simp)).trans i1
 have i3':ι2' 12=some k3:=(yu 12 (by simp)).trans i3
 have hne:k1≠k3:=fun e=>absurd (Q1.inj 1 12 _ i1 (by rw[e]; exact i3)) (by decide)
 obtain⟨k1b,z1,j1,s1b,Qn⟩:=J7.cells 1 zeroV rfl
 rw[i1'] at j1
 cases j1
 obtain⟨k3b,z3,j3,s3b,Qm⟩:=J7.cells 12 [Ie a0 (bT n u l).length c0,Ie LV (bU n u l).length c1,bt w,.sl bW (fo n q) (.oC 13)] rfl
 rw[i3'] at j3
 cases j3
 obtain⟨d0,z1,rfl,b0,Qn⟩:=ai Qn
 obtain⟨d1,z1,rfl,b1,Qn⟩:=ai Qn
 obtain⟨d2,z1,rfl,b2,Qn⟩:=ai Qn
 obtain⟨d3,z1,rfl,b3,Qn⟩:=ai Qn
 cases aF Qn
 cases Io b0
 cases Io b1
 cases oL b2
 cases Io b3
 obtain⟨d0,z3,rfl,b0,Qm⟩:=ai Qm
 obtain⟨d1,z3,rfl,b1,Qm⟩:=ai Qm
 obtain⟨d2,z3,rfl,b2,Qm⟩:=ai Qm
 obtain⟨d3,z3,rfl,b3,Qm⟩:=ai Qm
 cases aF Qm
 cases oL b0
 cases oL b1
 cases oL b2
 obtain⟨acQ,tok,fQ,rfl,rQ,apQ⟩:=og b3
 cases cZ rQ
 have hxl:(fo n q).length=q.length:=by simp[fo]
 have hqp:0<q.length:=List.length_pos_iff.2 fT.ne
 rcases apQ with ⟨-,-,h0⟩ | ⟨t,et,st,Yh,rfl,htl⟩
 ·rw[fD] at h0; omega
 obtain⟨nt,ZB⟩:=J7.own 13 3 1 rfl t Yh
 rw[htl] at ZB
 cases ZB
 rw[fD] at htl
 have e8:ye.getD 8 aO = .ptr k3 0:=by
  obtain⟨id,h8,h9⟩:=TY (show RT ι2' S2 (.ptr 12 0) (ye.getD 8 aO) from o7 J7.env 8)
  rw[i3'] at h9
  cases h9
  exact h8
 have e4:ye.getD 4 aO = .ptr k1 0:=by
  obtain⟨id,h8,h9⟩:=TY (show RT ι2' S2 (.ptr 1 0) (ye.getD 4 aO) from o7 J7.env 4)
  rw[i1'] at h9
  cases h9
  exact h8
 have yt:ye.length=60:=fu J7.env
 refine lI (n0:=0) (ds:=ds1) (b:=base 52) (cs:=fr::cs) (fF:=false) hP gq (by simp[base]) rfl (fun _=>rfl) yo (lD gd yo) (x:={ y1 with S:=y1.S.set k3 (.cells [.val (.slice a0 (bT n u l).length c0),.val (.slice LV (bU n u l).length c1),.val (.int .i64 w),zD]) }) (env:=jM) (k:=[.code (.seq D3 Gr)]) (by show bC _ _ _ _ _ _ _ _ yo jM (y1.S.set k3 _)=_; rw[q1]; exact h2) Rt (q4.mono Mt) (q5.mono Mt) (Nat.zero_le _) fun y2 a2 Zk r1 r2 r3 r4 r5 => ?_
 show ff _ _ () (G ((base 52).atR a2 [.code (.seq D3 Gr)]) (fr::cs)) y2.w
 refine cF hP (fun w=>⟨_,Cp⟩) ?_
 rw[Ot]
 refine cF hP (fun w=>⟨_,Bn⟩) ?_
 rw[show List.range Cb.size=[0,1,2] by rw[Kt]; rfl]
 obtain⟨z25,abM⟩:=abB
 obtain⟨k23,z23,abN,acv⟩:=abC
 refine D8 (aC:=rO iw 5) (call:=j5 iw 5) (yf:=Te iw 5) hP yl gq VZ hyf (ay:=y2.S.length) (by simp[base]) oY0.1 (pI oY0.2.2.2) r2 (xR _) r4 (d := .ptr k3 3) (S':=y2.S) (by simp only[ah,oY0.2.1,ga,e8,abM]; rfl) fun y3 v56 t1 t2 t3 t4 => ?_
 rw[oY0.2.2.1]
 have E3:=(nF (r4.mono t3) (dst:=some 56) t4).1
 refine D8 (aC:=rO iw 5) (call:=j5 iw 5) (yf:=Te iw 5) hP yl gq VZ hyf (ay:=y3.S.length) (by simp[base]) oY1.1 (pI oY1.2.2.2) t2 (xR _) E3 (d := .sl (Go.Tv.rowsOf (fo n q)) (some t) fQ) (S':=y3.S) (by
  have e56:(eP ye (some 56) (.ptr k3 3)).getD 56 aO = .ptr k3 3:=by simp[eP,List.getD_eq_getElem?_getD,yt]
  simp only[ah,oY1.2.1,ga,e56,iq,abN,t1,r1,s3b,kg,acv]; rfl) fun y4 v57 u1 u2 u3 u4 => ?_
 rw[oY1.2.2.1]
 have E4:=(nF (E3.mono u3) (dst:=some 57) u4).1
 have hS4:y4.S=S2:=u1.trans (t1.trans r1)
 have PX:y4.S[t]? = some (.tail 3 1 ((fo n q).length*1)):=by rw[hS4]; exact htl
 obtain⟨cur,DW,lR,Aj,-⟩:=u2.cN t 3 1 _ PX
 have Nd:=Hi u4 PX DW
 have ZA:=NC u4 (e:=3) (s:=1) (by rw[fD]; exact PX)
 rw[fD] at ZA
 have aaL:((a2.put (some 56) v56).put (some 57) v57).tmps.size=60:=by rw[E4.1]; simp[eP,yt]
 have qa:(#[Operand.tmp 57]).map ((a2.put (some 56) v56).put (some 57) v57).eval=#[.slice (some ⟨y4.μ t,0,none⟩) (fo n q).length (y4.κ t)]:=by
  rw[← ZA]
  have h57:((a2.put (some 56) v56).put (some 57) v57).eval (.tmp 57)=v57:=by
   have hs:57<(a2.put (some 56) v56).tmps.size:=by
    have:=aaL
    simp only[Act.put,Array.size_setIfInBounds] at this ⊢
    omega
   show ((a2.put (some 56) v56).tmps.setIfInBounds 57 v57).getD 57 undef=v57
   rw[Array.getD_eq_getD_getElem?,Array.getElem?_setIfInBounds,if_pos rfl,if_pos hs]
   rfl
  simp[h57]
 have M14:bh y1 y4:=Mt.trans (r3.trans (t3.trans u3))
 have QI:y4.S[k3]? = some (.cells [.val (.slice a0 (bT n u l).length c0),.val (.slice LV (bU n u l).length c1),.val (.int .i64 w),.sl (Go.Tv.rowsOf (fo n q)) (some t) fQ]):=by rw[hS4]; exact s3b
 have Ye:¬ Live y1.S t:=fun ht=>by
  obtain⟨b,Ih,AV⟩:=ht
  rw[q1] at Ih
  rcases (kF2.trans Zx).ours 13 t Yh with ⟨j,hj⟩ | hj
  ·obtain⟨bj,m1,m2⟩:=V4.uP j t hj
   have Ig:∃ c,bj = .cells c:=by
    have mw:=List.mem_of_getElem? m1
    simp only[L0,List.replicate,List.set,List.mem_cons,List.not_mem_nil,or_false] at mw
    rcases mw with h | h | h | h | h | h | h | h | h | h | h | h | h<;>first | exact absurd h m2 | exact⟨_,h⟩
   obtain⟨c,rfl⟩:=Ig
   obtain⟨t',dd,n1,n2,-⟩:=V4.cells j c m1
   rw[hj] at n1
   cases n1
   have hm:=(r3.trans (t3.trans u3)).cells t dd (by show (y1.S.set k3 _)[t]? = _; rw[q1]; exact n2)
   obtain⟨-,l',gK⟩:=hm
   rw[PX] at gK
   cases gK
  ·refine hj ?_
   by_cases e:t=k3
   ·subst e; rw[PX] at QI; cases QI
   ·exact⟨b,by rw[cI s3,if_neg e]; exact Ih,AV⟩
 rw[Frame.atR_of_none (b:=base 52) rfl]
 refine wR hP (by simp[base]) oY2.1 (pI oY2.2.2) oY2.2.1 Tryz.func99 (nv (fn:=Tryz.f99) rfl) (R:=fun v w'=>v = .tuple #[]∧(w'.os=y4.w.os∧w'.output=y4.w.output∧y4.w.heap.size≤w'.heap.size∧(∀ k,k<y4.w.heap.size→k≠y4.μ t→w'.heap[k]? = y4.w.heap[k]?)∧w'.heap[y4.μ t]? = some (.cells (Sort.putCells (Value.int .i64) 0 (kV (fo n q)).toArray cur) 3 (0,0)))) (fun τ => ?_) fun v w' YL τ d => ?_
 ·rw[qa]
  refine(Tryz.yP (w:=y4.w.re τ 0) DW Nd (by rw[hxl]; exact hq)).mono ?_
  rintro e w' ⟨rfl,hg,hh⟩
  exact⟨_,rfl,rfl,hg.os,hg.output,hg.size,fun k hk pZ=>hg.block k hk (fun e=>pZ (by cases e; rfl)),hh⟩
 obtain⟨rfl,w1,w2,w3,w4,w5⟩:=YL
 have SI:fq x y1 y4 (w'.re τ d) k1 k3 t (Go.Tv.rowsOf (bT n u l)) (Go.Tv.rowsOf (bU n u l)) w (fo n q) cur _ _ :=
  { h0:=hS,Vp:=Vp,R1:=q2,M1:=M14,Ry:=u2,vX:=⟨_,s3y⟩,oB:=⟨_,by rw[q1]; exact s1⟩,hne:=hne,YJ:=⟨fQ,QI⟩,PT:=by rw[hS4]; exact s1b,PS:=PX,Ye:=Ye,rU:=⟨tU,fU,JM▸v0⟩,rL:=⟨tL,fL,DI▸v1⟩,DW:=DW,gos:=w1,ZY:=w2,gsz:=w3,Z3:=w4,U0:=w5,hsz:=by omega }
 have R3:=SI.rel
 have M03:=SI.mono
 generalize Tq:oV y1 y4 (w'.re τ d) k1 k3 t (Go.Tv.rowsOf (bT n u l)) (Go.Tv.rowsOf (bU n u l)) w (fo n q)=x3 at R3 M03
 have U0:w'.re τ d=x3.w:=by rw[← Tq]; rfl
 have hμ3:x3.μ=y4.μ:=by rw[← Tq]; rfl
 have Za:∀ i,x3.S[i]? = if i=k3 then some (.cells (Gh (Go.Tv.rowsOf (bT n u l)) (Go.Tv.rowsOf (bU n u l)) w (fo n q))) else if i=k1 then some (.cells vZ) else (y4.S[i]?).map A6:=fun i=>by rw[← Tq]; exact SI.get i
 rw[← Frame.atR_of_none (b:=base 52) rfl,U0]
 refine cF hP (fun w=>⟨_,jJ⟩) ?_
 have E5:=(nF (E4) (dst:=(oY 2).dst) (d:=aO) (v := .tuple #[]) (.val rfl)).1
 generalize ha5:((a2.put (some 56) v56).put (some 57) v57).put (oY 2).dst (.tuple #[])=a5 at E5
 obtain⟨Wa,C5,hlc⟩:=S9 (y:=x3) E5
 have aaQ:Wa.length=60:=by rw[hlc]; simp[eP,yt,d58]
 have Qs:∀ i,i<56→((eP (eP (eP ye (some 56) (.ptr k3 3)) (some 57) (.sl (Go.Tv.rowsOf (fo n q)) (some t) fQ)) (oY 2).dst aO))[i]? = some (ye.getD i aO):=fun i hi=>by
  simp only[eP,d58]
  rw[List.getElem?_set,if_neg (by omega),List.getElem?_set,if_neg (by omega),List.getElem?_set,if_neg (by omega),List.getD_eq_getElem?_getD,List.getElem?_eq_getElem (by omega)]
  rfl
 have p8:RV x3 (.ptr k3 0) (a5.tmps.getD 8 undef):=by
  have h8:=E5.2 8 _ (Qs 8 (by omega))
  rw[e8] at h8
  generalize a5.tmps.getD 8 undef=v at h8
  cases h8
  rw[← hμ3]
  exact .ptr (l:=Gh (Go.Tv.rowsOf (bT n u l)) (Go.Tv.rowsOf (bU n u l)) w (fo n q)) (by rw[Za,if_pos rfl])
 have p4:RV x3 (.ptr k1 0) (a5.tmps.getD 4 undef):=by
  have h8:=E5.2 4 _ (Qs 4 (by omega))
  rw[e4] at h8
  generalize a5.tmps.getD 4 undef=v at h8
  cases h8
  rw[← hμ3]
  exact .ptr (l:=vZ) (by rw[Za,if_neg hne,if_pos rfl])
 have C3:=EI (EI C5 p4) p8
 have hD5:lU 0 x3 Zk a5.defers:=by
  have hd:a5.defers=a2.defers:=by
   rw[← ha5,d58]
   rfl
  obtain⟨z1,z2,z3⟩:=(r5.mono (t3.trans u3))
  rw[hd]
  refine⟨by rw[z1,hμ3],z2,fun id hid => ?_⟩
  obtain⟨y1',Tf,y3'⟩:=z3 id hid
  have nk3:id≠k3:=by rintro rfl; rw[QI] at Tf; cases Tf
  have abF:y4.S[k1]? = some (.cells vZ):=by rw[hS4]; exact s1b
  have nk1:id≠k1:=by rintro rfl; rw[abF] at Tf; cases Tf
  have nt:id≠t:=by rintro rfl; rw[PX] at Tf; cases Tf
  refine⟨y1',by rw[Za,if_neg nk3,if_neg nk1,Tf]; rfl,?_⟩
  rw[hμ3,← U0]
  refine(w4 _ (Array.getElem?_eq_some_iff.1 y3').1 (fun e=>nt (u2.inj id t (fN Tf (by simp)) (fN PX (by simp)) e))).trans y3'
 have W3:WT Tp Ty (rO iw 5) (j5 iw 5) (Te iw 5) [] LL 52 false Gr QH _ _:=jk (nM vW) (rV hL.1 0 vW) _ _ _ _ _ _ (xA3 (bT n u l) (bU n u l) (kV (fo n q)) w).h
 have acz:bL (fun i=>if i=1 then some k1 else if i=12 then some k3 else none) QH (L0 [.sl bW (bT n u l) .no,.sl bW (bU n u l) .no,bt w,.sl bW (kV (fo n q)) .no]) ((Wa.set 4 (.ptr k1 0)).set 8 (.ptr k3 0)) x3.S:=by
  refine⟨?_,fun k c hk => ?_,fun k e s hk => ?_,fun k k' hk => ?_,fun i j k' hi hj => ?_,fun k b hk => ?_⟩
  ·refine xL 8 (xL 4 ?_ ?_) ?_
   ·rw[← aaQ]; exact I4 Wa
   ·simp[RT]
   ·simp[RT]
  ·have bP:(k=1∧c=zeroV)∨(k=12∧c=[.sl bW (bT n u l) .no,.sl bW (bU n u l) .no,bt w,.sl bW (kV (fo n q)) .no]):=by
    match k,hk with
    | 1,hk=>cases hk; exact .inl ⟨rfl,rfl⟩
    | 12,hk=>cases hk; exact .inr ⟨rfl,rfl⟩
    | 0,hk | 2,hk | 3,hk | 4,hk | 5,hk | 6,hk | 7,hk | 8,hk | 9,hk | 10,hk | 11,hk=>cases hk
    | k+13,hk=>simp[L0] at hk
   rcases bP with ⟨rfl,rfl⟩ | ⟨rfl,rfl⟩
   ·refine⟨k1,vZ,rfl,by rw[Za,if_neg hne,if_pos rfl],?_⟩
    exact aD (by simp only[RT,and_self]) (aD (by simp only[RT,and_self]) (aD (by simp only[RT]) (dA (by simp only[RT,and_self]))))
   ·refine⟨k3,Gh (Go.Tv.rowsOf (bT n u l)) (Go.Tv.rowsOf (bU n u l)) w (fo n q),rfl,by rw[Za,if_pos rfl],?_⟩
    exact aD (by simp only[RT]; exact⟨fI _,trivial⟩) (aD (by simp only[RT]; exact⟨fI _,trivial⟩) (aD (by simp only[RT]) (dA (by simp only[RT]; exact⟨fI _,trivial⟩))))
  ·exfalso
   match k,hk with
   | 1,hk | 12,hk | 0,hk | 2,hk | 3,hk | 4,hk | 5,hk | 6,hk | 7,hk | 8,hk | 9,hk | 10,hk | 11,hk=>cases hk
   | k+13,hk=>simp[L0] at hk
  ·by_cases e1:k=1
   ·subst e1; exact⟨_,rfl,by simp⟩
   ·by_cases e2:k=12
    ·subst e2; exact⟨_,rfl,by simp⟩
    ·simp[e1,e2] at hk
  ·by_cases e1:i=1<;>by_cases e2:j=1
   ·omega
   ·subst e1
    by_cases e3:j=12
    ·subst e3; simp at hi hj; exact absurd (hi.trans hj.symm) hne
    ·simp[e2,e3] at hj
   ·subst e2
    by_cases e3:i=12
    ·subst e3; simp at hi hj; exact absurd (hj.trans hi.symm) hne
    ·simp[e1,e3] at hi
   ·by_cases e3:i=12<;>by_cases e4:j=12
    ·omega
    ·simp[e2,e4] at hj
    ·simp[e1,e3] at hi
    ·simp[e1,e3] at hi
  ·intro t ht
   match k,hk with
   | 1,hk | 12,hk | 0,hk | 2,hk | 3,hk | 4,hk | 5,hk | 6,hk | 7,hk | 8,hk | 9,hk | 10,hk | 11,hk=>cases hk; trivial
   | k+13,hk=>simp[L0] at hk
 obtain⟨e,acE,S4,ι4,te4,tS4,h4,zR,-,-,-,zQ⟩:=W3 _ _ _ acz (fun k hk=>(by cases hk))
 obtain⟨ab3,vs,hv,hp,-,F9⟩:=IC (fun _ _=>UK) zQ
 obtain⟨dsr,dr1,dr2⟩:=qh zR hv
 rw[SY F9.1] at hp F9
 have hst:=Bq (ts:=[some aJ,some bW]) (ι':=c9) (S':=[]) hp dr2
 have Mw:Vq (oneOf dsr).strip=vg n u l q w:=by
  obtain⟨hq1,-⟩:=F9
  rw[hq1] at hst
  exact Xe hst.2
 refine lI (n0:=0) (ds:=Zk) (b:=base 52) (cs:=fr::cs) (fF:=false) (k:=[]) hP gq (by simp[base]) rfl (fun _=>rfl) Gr (lD gd Gr) h4 R3 C3 hD5 (Nat.zero_le _) fun z az dz v1 v2 v3 v4 v5 => ?_
 have fS:∀ todo,ff Tryz.prog af () (G { (base 52).at az todo with mode := .returning } (fr::cs)) z.w:=fun todo =>
  yZ hP yl (x0:=x) (b:=base 52) (env:=acE) (l:=dsr) (Sr:=S4) rfl Tryz.func52 dz v1 v2 (M03.trans v3) v4 (by rw[hS]; exact v5) dr1 fun z' uu m1 m2 m3 m4=>hnx z' uu ⟨m2,m3,by rw[← Mw]; exact Xa m4.strip⟩
 cases e with
 | normal =>
  show ff Tryz.prog af () (G ((base 52).atR az []) (fr::cs)) z.w
  rw[Frame.atR_of_none (b:=base 52) rfl]
  exact cF hP (fun w=>⟨_,stepG_end⟩) (fS _)
 | ret =>
  intro k'
  rw[Frame.atR_of_none (b:=base 52) rfl]
  exact cF hP (fun w=>⟨_,stepG_ret'⟩) (fS _)
 | exit id=>exact ab3.elim
end Go.Tv
end
section
namespace Go.Tv
open Go Go.Di Go.Conc Go.Co Go.Proofs
variable {af:Machine→Trace→Prop} {x:Cx}
theorem tZ:∀ l:List Int,mM (Go.Tv.rowsOf l)=some l
 | []=>rfl
 | n::l=>by
  have:=tZ l
  simp only[Go.Tv.rowsOf,List.map_cons,mM] at this ⊢
  rw[this]; rfl
theorem qv:∀ {rows:List DV} {l:List Int},mM rows=some l→rows=Go.Tv.rowsOf l
 | [],l,h=>by cases h; rfl
 | d::rows,l,h=>by
  unfold mM at h
  split at h
  ·rename_i e; cases e
  ·rename_i n r e
   cases e
   simp only[Option.map_eq_some_iff] at h
   obtain⟨m,h1,rfl⟩:=h
   rw[qv h1]; rfl
  ·cases h
theorem IP:D1 iw where
 rev:=fun l d hl h=>by
  cases d<;>simp only[RT] at h
  rename_i rows tok f
  rw[cZ h.1]
  refine⟨.sl (Go.Tv.rowsOf l.reverse) none ⟨false,none⟩,?_,rfl,by simp only[RT]; exact⟨fI _,trivial⟩⟩
  have e:lK 133 [.sl (Go.Tv.rowsOf l) tok f]=some (.sl (Go.Tv.rowsOf l.reverse) none ⟨false,none⟩):=by
   simp only[lK,QK,tZ,if_pos hl]; rfl
  simp[iw,more,e]
def J3:DV→DV→Option DV
 | .agg [.sl ru _ _,.sl rl _ _,.val (.int .i64 w),.sl rq _ _],.val (.int .i64 n)=>match mM ru,mM rl,mM rq with
  | some u,some l,some q=>if gf u l w q=0∧0≤n∧n≤3 then some (vg n u l q w) else none
  | _,_,_=>none
 | _,_=>none
theorem Lg {a b d:DV} (h:J3 a b=some d) (hp:[a,b].all DV.pure=true) (hv:d.pure=true) {vals:Array Value} (hR:Rel x) (ha:en x [a,b] vals):cU Tryz.prog af x 52 vals fun y u=>y.S=x.S∧Rel y∧bh x y∧RV y d u:=by
 unfold J3 at h
 split at h
 ·rename_i ru t1 f1 rl t2 f2 w rq t3 f3 n
  split at h
  ·rename_i u l q h1 h2 h3
   split at h
   ·rename_i hc
    cases h
    cases qv h1
    cases qv h2
    cases qv h3
    have ha':en x.bare _ vals:=⟨ha.1,fun j c hj=>(ha.2 j c hj).pure_mono (x:=x) (y:=x.bare) (fun b o h=>⟨h,rfl⟩) (List.all_eq_true.1 hp c (List.mem_of_getElem? hj))⟩
    obtain⟨h4,h5⟩:=Pg (af:=af) CI IP hR.bare rfl (CA.1 hc.1) hc.2 ha'
    refine⟨h4,fun fr cs hn=>h5 fr cs fun y u ⟨q2,q3,q4⟩ => ?_⟩
    exact hn (x.behind y) u ⟨rfl,hR.behind q3 q2,pM hR q3,q4.pure_mono (x:=y) (y:=x.behind y) (fun b o h=>⟨h,rfl⟩) hv⟩
   ·cases h
  ·cases h
 ·cases h
def xk:bk:=fun f args=>match f,args with
 | 52,[a,b]=>J3 a b
 | _,_=>iw f args
theorem IW (a b:DV):xk 52 [a,b]=J3 a b:=by simp[xk]
theorem RJ:ot Tryz.prog af xk:=by
 intro f args v h hp hv x vals hR ha
 unfold xk at h
 split at h
 ·exact Lg h hp hv hR ha
 ·exact CL f args v h hp hv x vals hR ha
theorem CH:oK xk where
 other:=fun f a h1 h2 h3 h4 h5=>by
  unfold xk
  split
  ·exact absurd rfl h5
  ·exact CI.other f a h1 h2 h3 h4 h5
 fit:=CI.fit
theorem RD:D1 xk where
 rev:=IP.rev
theorem RF:Wh xk where
 lay:=fun u l q w n d1 d2 fT hn h1 h2=>by
  cases oL h2
  cases d1<;>simp only[JJ,RT] at h1
  obtain⟨a1,m,rfl,k1,h1⟩:=ai h1
  obtain⟨a2,m,rfl,k2,h1⟩:=ai h1
  obtain⟨a3,m,rfl,k3,h1⟩:=ai h1
  obtain⟨a4,m,rfl,k4,h1⟩:=ai h1
  cases aF h1
  obtain⟨_,_,_,rfl,r1,-⟩:=og k1
  obtain⟨_,_,_,rfl,r2,-⟩:=og k2
  obtain⟨_,_,_,rfl,r4,-⟩:=og k4
  cases oL k3
  cases cZ r1
  cases cZ r2
  cases cZ r4
  refine⟨vg n u l q w,?_,rfl,?_⟩
  ·simp only[IW,J3,tZ,NJ fT,hn,and_self,if_true]
  ·rw[← Ks fT.UW fT.Yt hn]
   simp only[vg,RT]
   refine aD ?_ (dA (by simp only[RT]))
   simp only[RT]
   exact aD (by simp only[RT]; exact⟨fI _,trivial⟩) (aD (by simp only[RT]; exact⟨fI _,trivial⟩) (aD (by simp only[RT]) (dA (by simp only[RT]; exact⟨fI _,trivial⟩))))
 no:=fun u l q w n d1 d2 hv h1 h2=>by
  cases oL h2
  cases d1<;>simp only[JJ,RT] at h1
  obtain⟨a1,m,rfl,k1,h1⟩:=ai h1
  obtain⟨a2,m,rfl,k2,h1⟩:=ai h1
  obtain⟨a3,m,rfl,k3,h1⟩:=ai h1
  obtain⟨a4,m,rfl,k4,h1⟩:=ai h1
  cases aF h1
  obtain⟨_,_,_,rfl,r1,-⟩:=og k1
  obtain⟨_,_,_,rfl,r2,-⟩:=og k2
  obtain⟨_,_,_,rfl,r4,-⟩:=og k4
  cases oL k3
  cases cZ r1
  cases cZ r2
  cases cZ r4
  simp only[IW,J3,tZ,if_neg hv]
end Go.Tv
end
section
namespace Go.Tv
open Go Go.Di Go.Conc Go.Co Go.Proofs
theorem RB:MI xk where
 dup:=fun l d hl h=>by
  cases d<;>simp only[RT] at h
  rename_i rows tok f
  rw[cZ h.1]
  refine⟨.sl (Go.Tv.rowsOf l) none ⟨false,none⟩,?_,rfl,by simp only[RT]; exact⟨fI _,trivial⟩⟩
  have e:lK 43 [.sl (Go.Tv.rowsOf l) tok f]=some (.sl (Go.Tv.rowsOf l) none ⟨false,none⟩):=by
   simp only[lK,Q5,tZ,if_pos hl]; rfl
  simp[xk,iw,more,e]
end Go.Tv
end
section
namespace Go.Tv
open Go Go.Di Go.Proofs
theorem Z8:jU xk 8 H5:=abZ CH RD RF RB
abbrev Jy:List TT:=[.sl aJ,aJ,bW,bZ]
set_option maxRecDepth 100000 in
theorem FR (n:Nat) (FW:List TV) (h:TVs Jy FW):oS (rO xk (n+9)) 7 FW (fun v=>v=mz true):=by
 match FW,h with
 | [_,_,_,_],⟨⟨l,rfl⟩,⟨⟨u,lo,w,q,_⟩,rfl⟩,⟨s,rfl⟩,⟨Az,rfl⟩,_⟩ =>
  exact(((qI CH Z8 (by decide) Tryz.func7 rfl xA (T':=H5) (iC Z8)).2 n).I 7 [.sl aJ l .no,JJ u lo w q,bt s,.sl bW Az .no] [] (.res (mz true) [] []) rfl trivial).mono fun v hv=>hv.1
end Go.Tv
namespace Go.Proofs.YtedcgbkilmlbhaaGreat
open Go Go.Di Go.Tv Go.Conc Go.Co Go.Proofs
open Go.ChangeShapes Go.WideShapes Go.ChangeAt Go.RowKit
set_option maxRecDepth 100000 in
theorem BI:tw Tryz.prog aJ (.inl 25):=by
 have h3:Tryz.prog.underlying 3=some (.int .i64)∧Tryz.prog.cellsOf 3=1:=⟨by kernel_rfl,by kernel_rfl⟩
 have h22:tw Tryz.prog bZ (.inl 23):=⟨by kernel_rfl,3,by kernel_rfl,by kernel_rfl,h3⟩
 exact⟨_,_,_,Tryz.underlying25,rfl,rfl,by kernel_rfl,by kernel_rfl,h22,_,_,rfl,rfl,by kernel_rfl,h22,_,_,rfl,rfl,by kernel_rfl,h3,_,_,rfl,rfl,by kernel_rfl,h22,rfl⟩
set_option maxRecDepth 100000 in
theorem vU (os:Os) (started:os.Started) (H:Type) (enc:TypeId×Value→H) :
  ReturnsInLeavingWide {} Tryz.checked os 7 .any (Rows.cutChecksSpec.pre6 enc Tryz.prog Tryz.f7 Rows.cutChecksRow.domain false) (Rows.cutChecksSpec.post enc Tryz.prog Tryz.f7 false true false false) :=
 abH (fun _=>RJ) CH Tryz.func7 (ts:=[22,25,3,23]) (Ts:=Jy) (by kernel_rfl) ⟨⟨by kernel_rfl,25,by kernel_rfl,by kernel_rfl,BI⟩,BI,⟨by kernel_rfl,by kernel_rfl⟩,⟨by kernel_rfl,3,by kernel_rfl,by kernel_rfl,by kernel_rfl,by kernel_rfl⟩,trivial⟩ (by decide +kernel) (by kernel_rfl) rfl
  (fun _ ds h=>by match ds,h with | [_,_,_,_],_=>rfl) (by decide) (by kernel_rfl) (n:=8) (FR 0) started
  (ChangeSpec.witness6 (enc:=enc) (C:=Tryz.checked) false ⟨#[],#[.slice none 0 0,.agg #[.slice none 0 0,.slice none 0 0,.int .i64 0,.slice none 0 0],.int .i64 0,.slice none 0 0],[]⟩ 9 (by kernel_rfl) (by kernel_rfl) (by kernel_rfl) (by kernel_rfl))
set_option maxRecDepth 100000 in
theorem cutChecks_holds:Rows.CutChecksSaid :=
 OpenClaim.holds_of_wide_leaving 7 Tryz.f7 rfl rfl rfl rfl rfl rfl rfl ⟨rfl,rfl,rfl,rfl,rfl⟩ rfl rfl rfl rfl rfl (by kernel_rfl) Tryz.func7 (by kernel_rfl)
  (of_decide_eq_true (by kernel_rfl)) (by unfold Func.isWrapper; first | (rw[if_pos (by decide +kernel)]; kernel_rfl) | (rw[if_neg (by decide +kernel)]; exact⟨rfl,rfl⟩))
  (fun os started H enc _=>vU os started H enc)
#print axioms cutChecks_holds
end Go.Proofs.YtedcgbkilmlbhaaGreat
end
