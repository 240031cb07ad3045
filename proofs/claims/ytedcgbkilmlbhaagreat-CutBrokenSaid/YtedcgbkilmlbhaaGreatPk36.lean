/- Ye -/
import Derived.Test.YtedcgbkilmlbhaaGreatPk35
import Derived.Test.YtedcgbkilmlbhaaGreatPk12
section
namespace Go.Tv
open Go Go.Di Go.Conc Go.Co Go.Proofs
variable {af:Machine→Trace→Prop} {x:Cx}
noncomputable def BW:Array Oper:=match DL with
 | .region _ ops _=>ops
 | _=>#[]
theorem NU:DL = .region 13 BW false:=by kernel_rfl
theorem Iy {ι:jF} {S:ak}:∀ l:List DV,cA ι S (List.replicate l.length .unk) l
 | []=>bJ
 | d::l=>by rw[List.length_cons,List.replicate_succ]; exact aG (by simp only[RT]) (Iy l)
theorem opY (i:Nat) (o:Oper) (h:BW.toList[i]? = some o):BW[i]? = some o:=by rw[← h,Array.getElem?_toList]
noncomputable def oY (i:Nat):Oper:=BW.toList.getD i default
theorem oY0:BW[0]? = some (oY 0)∧(oY 0).op = .fieldAddr 25 (.tmp 8) 3∧(oY 0).dst=some 56∧(oY 0).guard=none:=⟨opY _ _ (by kernel_rfl),by kernel_rfl,by kernel_rfl,by kernel_rfl⟩
theorem oY1:BW[1]? = some (oY 1)∧(oY 1).op = .load 23 (.tmp 56)∧(oY 1).dst=some 57∧(oY 1).guard=none:=⟨opY _ _ (by kernel_rfl),by kernel_rfl,by kernel_rfl,by kernel_rfl⟩
theorem oY2:BW[2]? = some (oY 2)∧(oY 2).op = .call { callee := .value (.func 99),args:=#[.tmp 57],argTypes:=#[23] }∧(oY 2).guard=none:=⟨opY _ _ (by kernel_rfl),by kernel_rfl,by kernel_rfl⟩
theorem d58:(oY 2).dst=some 58:=by kernel_rfl
theorem abc:∃ z,xK Tryz.prog 25=some ⟨.struct [(0,1,false),(1,1,false),(2,1,false),(3,1,false)],4,z⟩:=by
 have h:(xK Tryz.prog 25).map (fun d=>(d.k,d.size))=some (.struct [(0,1,false),(1,1,false),(2,1,false),(3,1,false)],4):=by kernel_rfl
 cases e:xK Tryz.prog 25 with
 | none=>rw[e] at h; cases h
 | some d=>obtain⟨k,s,z⟩:=d; rw[e] at h; cases h; exact⟨z,rfl⟩
theorem abd:∃ k z,xK Tryz.prog 23=some ⟨k,1,z⟩∧k.isAgg=false:=by
 have h:(xK Tryz.prog 23).map (fun d=>(d.k.isAgg,d.size))=some (false,1):=by kernel_rfl
 cases e:xK Tryz.prog 23 with
 | none=>rw[e] at h; cases h
 | some d =>
  obtain⟨k,s,z⟩:=d
  rw[e] at h
  simp only[Option.map_some,Option.some.injEq,Prod.mk.injEq] at h
  obtain⟨h1,rfl⟩:=h
  exact⟨k,z,rfl,h1⟩
theorem JX {k j:Nat}:(Array.replicate k undef).getD j undef=undef:=by rw[Array.getD_eq_getD_getElem?,Array.getElem?_replicate]; split<;>rfl
theorem Wx:Tryz.f52.ntmps=60:=by kernel_rfl
theorem Ut:Tryz.f52.body=some y0:=mY rfl
theorem JN:BW.size=3:=by kernel_rfl
theorem tf {ι:jF} {S:ak} {t:TT} {l:List t.den} {ap:Ap} {d:DV} (h:RT ι S (.sl t l ap) d):∃ rows tok f,d = .sl rows tok f∧dK (CR t) t.agg l rows∧qK ι S rows.length tok f ap:=by
 cases d<;>simp only[RT] at h
 exact⟨_,_,_,rfl,h⟩
theorem tc {ι:jF} {S:ak} {v:Value} {d:DV} (h:RT ι S (.val v) d):d = .val v:=by
 cases d<;>simp only[RT] at h
 rw[h]
theorem HT {ι:jF} {S:ak} {d:DV} (h:RT ι S .ei d):d=zD:=by
 cases d<;>simp only[RT] at h
 obtain⟨rfl,rfl,rfl⟩:=h
 rfl
theorem To {ι:jF} {S:ak} {k o:Nat} {d:DV} (h:RT ι S (.ptr k o) d):∃ id,d = .ptr id o∧ι k=some id:=by
 cases d<;>simp only[RT] at h
 obtain⟨h1,rfl⟩:=h
 exact⟨_,rfl,h1⟩
theorem pq {o:Oper} {y:Nat→Option Bool} (h:o.guard=none):Region.wanted o y=true:=by simp[Region.wanted,h]
theorem MW {e:TypeId} {s:Nat} {rows:List DV} {t:Nat} {f:SF} {v:Value} (h:RV x (.sl rows (some t) f) v) (ht:x.S[t]? = some (.tail e s (rows.length*s))):v = .slice (some ⟨x.μ t,0,none⟩) rows.length (x.κ t):=by
 cases h with
 | sl _ _ _ _ _ _ h7 =>
  obtain⟨e',s',n,k1,k2,k3,k4⟩:=h7 t rfl
  rw[ht] at k1
  cases k1
  obtain⟨rfl,rfl⟩:=k4 rfl
  rfl
theorem GN {t:Nat} {f:SF} {v:Value} {qs:List Int} {cur:Array Value} (h:RV x (.sl (Go.Tv.rowsOf qs) (some t) f) v) (ht:x.S[t]? = some (.tail 3 1 (qs.length*1))) (hc:x.w.heap[x.μ t]? = some (.cells cur 3 (0,0))):cur.toList.take qs.length=qs.map (Value.int .i64):=by
 have hv:=MW h (e:=3) (s:=1) (by rw[fA]; exact ht)
 subst hv
 cases h with
 | @sl _ _ _ _ _ s vs h1 h2 _ _ _ _ _ =>
  apply List.ext_getElem?
  intro j
  by_cases hj:j<qs.length
  ·have hf:(flat (Go.Tv.rowsOf qs))[j]? = some (.val (.int .i64 (qs.getD j 0))):=by
    rw[lV,Go.Tv.rowsOf,List.getElem?_map,List.getD_eq_getElem?_getD,List.getElem?_eq_getElem hj]
    rfl
   obtain⟨-,b,o,q1,-,q3⟩:=h1.2 j _ hf
   cases q1
   have q4:=jS (h2 j _ hf)
   rw[q4] at q3
   simp only[World.cell?,hc,Nat.zero_add,Option.isSome_none,Bool.false_eq_true,if_false] at q3
   rw[List.getElem?_take_of_lt hj,Array.getElem?_toList,q3,List.getElem?_map,List.getD_eq_getElem?_getD,List.getElem?_eq_getElem hj]
   rfl
  ·rw[List.getElem?_take_eq_none (by omega),List.getElem?_eq_none (by simp; omega)]
theorem Et {env:List DV} {arr:Array Value} (h:dR x env arr) {j:Nat} {d:DV} (hd:RV x d (arr.getD j undef)):dR x (env.set j d) arr:=by
 refine⟨by simp[h.1],fun i c hi => ?_⟩
 rw[List.getElem?_set] at hi
 split at hi
 ·rename_i e
  subst e
  split at hi
  ·cases hi; exact hd
  ·cases hi
 ·exact h.2 i c hi
theorem WR {n w:Int} {u l q:List Int} {d:DV} (h:RT eD [] (.ee [.agg [.sl bX (bO n u l) .no,.sl bX (bP n u l) .no,bp w,.sl bX (kQ (eZ n q)) .no],bp 0]) d):U9 d=uT n u l q w:=by
 cases d<;>simp only[RT] at h
 obtain⟨d1,m,rfl,h1,h⟩:=aj h
 obtain⟨d2,m,rfl,h2,h⟩:=aj h
 cases aJ h
 cases tc h2
 cases d1<;>simp only[RT] at h1
 obtain⟨a1,m,rfl,k1,h1⟩:=aj h1
 obtain⟨a2,m,rfl,k2,h1⟩:=aj h1
 obtain⟨a3,m,rfl,k3,h1⟩:=aj h1
 obtain⟨a4,m,rfl,k4,h1⟩:=aj h1
 cases aJ h1
 obtain⟨_,_,_,rfl,r1,-⟩:=tf k1
 obtain⟨_,_,_,rfl,r2,-⟩:=tf k2
 obtain⟨_,_,_,rfl,r4,-⟩:=tf k4
 cases tc k3
 cases eT r1
 cases eT r2
 cases eT r4
 rfl
theorem Ss {tS:List TB} {vs:List TV} {a b:TV} {t1 t2:TT} (h:iJ (aX [some t1,some t2] (s5 tS vs)) = .ee [a,b]):s5 tS vs=vs:=by
 unfold s5 at h ⊢
 split at h
 ·split at h
  ·split at h
   ·cases t1<;>cases h
   ·cases t1<;>cases h
  ·cases t1<;>cases h
 ·rfl
set_option maxHeartbeats 2000000 in
set_option maxRecDepth 100000 in
theorem OO (tk:oF iI) (tr:F7 iI) (hR:Rel x) (hS:x.S=[]) {u l q:List Int} {w n:Int} {t1 t2 t3:Option Nat} {f1 f2 f3:SF} (gZ:Ok u l w q) (hn:0≤n∧n≤3) {vals:Array Value}
  (ha:dR x [.agg [.sl (Go.Tv.rowsOf u) t1 f1,.sl (Go.Tv.rowsOf l) t2 f2,.val (.int .i64 w),.sl (Go.Tv.rowsOf q) t3 f3],.val (.int .i64 n)] vals):cT Tryz.prog af x 52 vals fun y v=>Rel y∧bk x y∧RV y (uT n u l q w) v:=by
 have hP:=eS
 have hcy:=uc (af:=af) eS qn xV Cz (L:=LL) 5
 have gh:gq Tryz.prog af (jT iI 5):=hcy.1
 have hyf:tB Tryz.prog af (SJ iI 5):=hcy.2
 have VH:tD Tryz.prog af (rE iI 5):=Ci Cz hcy.1
 have gd:∀ id ops draw,oK Tryz.prog af Ty (rE iI 5) (jT iI 5) (SJ iI 5) id ops draw:=fun id ops draw=>Gj eS qn xV gh VH hyf id ops draw
 have hL:=lok tk tr
 have vG:=lS hL 0 0
 have W1:WT Tp Ty (rE iI 5) (jT iI 5) (SJ iI 5) [] LL 52 false (uK Zg .skip) (Ve u l q w n) [] (VW [] (LN q n) (Ln [.sl bX (bO n u l) .no,.sl bX (bP n u l) .no,bp w,.ei])):=jb (nI vG) (rK hL.1 0 vG) _ _ _ _ _ _ (xA1 u l q w n gZ hn).h
 refine⟨⟨Tryz.f52,y0,Tryz.func52,Ut⟩,fun fr cs hnx => ?_⟩
 rw[enter_at vals Tryz.func52 Ut,← Frame.atR_of_none (b:=base 52) rfl]
 generalize ig:[DV.agg [.sl (Go.Tv.rowsOf u) t1 f1,.sl (Go.Tv.rowsOf l) t2 f2,.val (.int .i64 w),.sl (Go.Tv.rowsOf q) t3 f3],.val (.int .i64 n)]=args at ha
 have hlen:args.length=2:=by rw[← ig]; rfl
 have he:dR x (args++List.replicate (Tryz.f52.ntmps-args.length) aP) (vals++Array.replicate (Tryz.f52.ntmps-vals.size) undef):=by
  refine iy ha ⟨by simp[ha.1],fun j c hc => ?_⟩
  rw[List.getElem?_replicate] at hc
  split at hc
  ·rename_i hj
   cases hc
   rw[JX]
   exact .val rfl
  ·cases hc
 have hRT:bK eD (Ve u l q w n) [] (args++List.replicate (Tryz.f52.ntmps-args.length) aP) []:=by
  refine⟨?_,fun k l hk=>(by simp at hk),fun k e s hk=>(by simp at hk),fun k k' hk=>(by cases hk),fun i j k' hi=>(by cases hi),fun k b hk=>(by simp at hk)⟩
  rw[hlen,Wx]
  refine dA ?_ (pV _ _)
  rw[← ig]
  refine aG ?_ (di (by simp only[RT]))
  simp only[RT]
  exact aG (by simp only[RT]; exact⟨fF _,trivial⟩) (aG (by simp only[RT]; exact⟨fF _,trivial⟩) (aG (by simp only[RT]) (di (by simp only[RT]; exact⟨fF _,trivial⟩))))
 obtain⟨e,jG,S1,ι1,jU,gM,h1,Le,Jj,-,-,hQ1⟩:=W1 eD _ [] hRT (fun k hk=>(by cases hk))
 cases e with
 | exit id=>exact hQ1.elim
 | ret=>exact hQ1.elim
 | normal =>
 have qG:=(xD hQ1).1
 obtain⟨ι1',Qz,-,-⟩:=oW Le qG.l qG.b qG.ok (pg qG.b Jj qG.base)
 obtain⟨ea,sa,h1a,h1b⟩:=wL (l:=[sK y0,sK (j8 y0),sK (j8 (j8 y0)),sK (j8 (j8 (j8 y0))),sK (j8 (j8 (j8 (j8 y0))))]) (m:=[sK (sK y5)]) h1
 rw[ZW]
 refine yZ (n0:=0) (ds:=[]) (b:=base 52) (cs:=fr::cs) hP gh gd (by simp[base]) rfl rfl [sK y0,sK (j8 y0),sK (j8 (j8 y0)),sK (j8 (j8 (j8 y0))),sK (j8 (j8 (j8 (j8 y0))))] _ (by rw[hS]; exact h1a) hR he (qu _ _) (Nat.zero_le _) fun ya aa dsa p1 p2 p3 p4 p5 => ?_
 refine cE hP (fun w=>⟨_,B9⟩) ?_
 refine yZ (n0:=0) (ds:=dsa) (b:=base 52) (cs:=fr::cs) hP gh gd (by simp[base]) rfl rfl [sK (sK y5)] xY (by rw[p1]; exact h1b) p2 p4 p5 (Nat.zero_le _) fun y1 a1 ds1 q1 q2 q3 q4 q5 => ?_
 have U7:=p3.trans q3
 clear p1 p2 p3 p4 p5 q3 h1a h1b h1 he hRT hQ1 qG Le Jj
 obtain⟨k3,dsv,i3,s3,r3⟩:=Qz.cells 12 [.sl bX (bO n u l) .no,.sl bX (bP n u l) .no,bp w,.ei] rfl
 obtain⟨dU,dsv,rfl,rU,r3⟩:=aj r3
 obtain⟨dL,dsv,rfl,rL,r3⟩:=aj r3
 obtain⟨dW,dsv,rfl,rW,r3⟩:=aj r3
 obtain⟨dZ,dsv,rfl,rZ,r3⟩:=aj r3
 cases aJ r3
 obtain⟨_,tU,fU,rfl,rU,-⟩:=tf rU
 obtain⟨_,tL,fL,rfl,rL,-⟩:=tf rL
 cases tc rW
 cases HT rZ
 cases eT rU
 cases eT rL
 obtain⟨adH,e3,g1,g2,g3⟩:=q2.cells k3 _ (by rw[q1]; exact s3)
 have v0:=g3 0 _ rfl
 have v1:=g3 1 _ rfl
 have v2:=g3 2 _ rfl
 have v3:=g3 3 _ rfl
 obtain⟨a0,c0,FN⟩:=Ev v0
 obtain⟨Li,c1,Ds⟩:=Ev v1
 rw[fA] at FN Ds
 have s3y:y1.S[k3]? = some (.cells [.sl (Go.Tv.rowsOf (bO n u l)) tU fU,.sl (Go.Tv.rowsOf (bP n u l)) tL fL,.val (.int .i64 w),zD]):=by rw[q1]; exact s3
 have Mt:=Bl (l':=[.val (.slice a0 (bO n u l).length c0),.val (.slice Li (bP n u l).length c1),.val (.int .i64 w),zD]) s3y
 have Rt:=Oa (l':=[.val (.slice a0 (bO n u l).length c0),.val (.slice Li (bP n u l).length c1),.val (.int .i64 w),zD]) q2 s3y rfl fun arr e uM j c hc=>by
  rw[g1] at uM
  cases uM
  match j,hc with
  | 0,hc=>cases hc; rw[FN]; exact .val rfl
  | 1,hc=>cases hc; rw[Ds]; exact .val rfl
  | 2,hc=>cases hc; exact v2.mono Mt
  | 3,hc=>cases hc; exact v3.mono Mt
  | j+4,hc=>simp at hc
 have rZ':RT ι1' (S1.set k3 (.cells [.val (.slice a0 (bO n u l).length c0),.val (.slice Li (bP n u l).length c1),.val (.int .i64 w),zD])) .ei zD:=by simp only[RT,and_self]
 have rZl:cA ι1' (S1.set k3 (.cells [.val (.slice a0 (bO n u l).length c0),.val (.slice Li (bP n u l).length c1),.val (.int .i64 w),zD])) [HN a0 (bO n u l).length c0,HN Li (bP n u l).length c1,bp w,.ei] [.val (.slice a0 (bO n u l).length c0),.val (.slice Li (bP n u l).length c1),.val (.int .i64 w),zD] :=
  aG (by simp only[HN,RT]) (aG (by simp only[HN,RT]) (aG (by simp only[RT]) (di rZ')))
 have hRt:=J2 Qz (k:=12) rfl i3 s3 rZl
 have VP:bK ι1' (LN q n) (Ln [HN a0 (bO n u l).length c0,HN Li (bP n u l).length c1,bp w,.ei]) jG (S1.set k3 (.cells [.val (.slice a0 (bO n u l).length c0),.val (.slice Li (bP n u l).length c1),.val (.int .i64 w),zD])):=hRt
 have hq:q.length≤1000:=(xW gZ).2.2
 have W2:WT Tp Ty (rE iI 5) (jT iI 5) (SJ iI 5) [1,12] LL 52 false xY (LN q n) _ _:=jb (nI vG) (rK hL.1 0 vG) _ _ _ _ _ _ (xA2 q w n a0 Li (bO n u l).length c0 (bP n u l).length c1 hq).h
 obtain⟨e,xR,S2,ι2,Yg,PR,h2,kR2,kB2,kF2,-,hQ2⟩:=W2 ι1' jG _ VP (fun k hk=>by
  simp only[List.mem_cons,List.not_mem_nil,or_false] at hk
  rcases hk with rfl | rfl<;>exact⟨_,rfl⟩)
 cases e with
 | exit id=>exact hQ2.elim
 | ret=>exact hQ2.elim
 | normal =>
 have D2:=(xD hQ2).1
 obtain⟨ι2',Ju,Zm,-⟩:=oW kR2 D2.l D2.b D2.ok (pg D2.b kB2 D2.base)
 have x6:=(kF2.trans Zm).base
 obtain⟨k1,dsz,i1,s1,r1⟩:=Qz.cells 1 zeroV rfl
 have i1':ι2' 1=some k1:=(x6 1 (by simp)).trans i1
 have i3':ι2' 12=some k3:=(x6 12 (by simp)).trans i3
 have hne:k1≠k3:=fun e=>absurd (Qz.inj 1 12 _ i1 (by rw[e]; exact i3)) (by decide)
 obtain⟨k1b,z1,j1,s1b,PV⟩:=Ju.cells 1 zeroV rfl
 rw[i1'] at j1
 cases j1
 obtain⟨k3b,z3,j3,s3b,PU⟩:=Ju.cells 12 [HN a0 (bO n u l).length c0,HN Li (bP n u l).length c1,bp w,.sl bX (eZ n q) (.qA 13)] rfl
 rw[i3'] at j3
 cases j3
 obtain⟨d0,z1,rfl,b0,PV⟩:=aj PV
 obtain⟨d1,z1,rfl,b1,PV⟩:=aj PV
 obtain⟨d2,z1,rfl,b2,PV⟩:=aj PV
 obtain⟨d3,z1,rfl,b3,PV⟩:=aj PV
 cases aJ PV
 cases HT b0
 cases HT b1
 cases tc b2
 cases HT b3
 obtain⟨d0,z3,rfl,b0,PU⟩:=aj PU
 obtain⟨d1,z3,rfl,b1,PU⟩:=aj PU
 obtain⟨d2,z3,rfl,b2,PU⟩:=aj PU
 obtain⟨d3,z3,rfl,b3,PU⟩:=aj PU
 cases aJ PU
 cases tc b0
 cases tc b1
 cases tc b2
 obtain⟨acm,tok,fQ,rfl,rQ,apQ⟩:=tf b3
 cases eT rQ
 have hxl:(eZ n q).length=q.length:=by simp[eZ]
 have hqp:0<q.length:=List.length_pos_iff.2 gZ.ne
 rcases apQ with ⟨-,-,h0⟩ | ⟨t,et,st,XX,rfl,htl⟩
 ·rw[fA] at h0; omega
 obtain⟨nt,Zq⟩:=Ju.own 13 3 1 rfl t XX
 rw[htl] at Zq
 cases Zq
 rw[fA] at htl
 have e8:xR.getD 8 aP = .ptr k3 0:=by
  obtain⟨id,h8,h9⟩:=To (show RT ι2' S2 (.ptr 12 0) (xR.getD 8 aP) from oU Ju.env 8)
  rw[i3'] at h9
  cases h9
  exact h8
 have e4:xR.getD 4 aP = .ptr k1 0:=by
  obtain⟨id,h8,h9⟩:=To (show RT ι2' S2 (.ptr 1 0) (xR.getD 4 aP) from oU Ju.env 4)
  rw[i1'] at h9
  cases h9
  exact h8
 have x5:xR.length=60:=ff Ju.env
 refine lB (n0:=0) (ds:=ds1) (b:=base 52) (cs:=fr::cs) (fC:=false) hP gh (by simp[base]) rfl (fun _=>rfl) xY (lq gd xY) (x:={ y1 with S:=y1.S.set k3 (.cells [.val (.slice a0 (bO n u l).length c0),.val (.slice Li (bP n u l).length c1),.val (.int .i64 w),zD]) }) (env:=jG) (k:=[.code (.seq DL F6)]) (by show bC _ _ _ _ _ _ _ _ xY jG (y1.S.set k3 _)=_; rw[q1]; exact h2) Rt (q4.mono Mt) (q5.mono Mt) (Nat.zero_le _) fun y2 a2 Y5 r1 r2 r3 r4 r5 => ?_
 show eY _ _ () (G ((base 52).atR a2 [.code (.seq DL F6)]) (fr::cs)) y2.w
 refine cE hP (fun w=>⟨_,B9⟩) ?_
 rw[NU]
 refine cE hP (fun w=>⟨_,Ba⟩) ?_
 rw[show List.range BW.size=[0,1,2] by rw[JN]; rfl]
 obtain⟨z25,abr⟩:=abc
 obtain⟨k23,z23,abt,abZ⟩:=abd
 refine DR (aD:=rE iI 5) (call:=jT iI 5) (yf:=SJ iI 5) hP xV gh VH hyf (aA:=y2.S.length) (by simp[base]) oY0.1 (pq oY0.2.2.2) r2 (xy _) r4 (d := .ptr k3 3) (S':=y2.S) (by simp only[ai,oY0.2.1,ga,e8,abr]; rfl) fun y3 v56 t1 t2 t3 t4 => ?_
 rw[oY0.2.2.1]
 have E3:=(nB (r4.mono t3) (dst:=some 56) t4).1
 refine DR (aD:=rE iI 5) (call:=jT iI 5) (yf:=SJ iI 5) hP xV gh VH hyf (aA:=y3.S.length) (by simp[base]) oY1.1 (pq oY1.2.2.2) t2 (xy _) E3 (d := .sl (Go.Tv.rowsOf (eZ n q)) (some t) fQ) (S':=y3.S) (by
  have e56:(eH xR (some 56) (.ptr k3 3)).getD 56 aP = .ptr k3 3:=by simp[eH,List.getD_eq_getElem?_getD,x5]
  simp only[ai,oY1.2.1,ga,e56,ic,abt,t1,r1,s3b,j4,abZ]; rfl) fun y4 v57 u1 u2 u3 u4 => ?_
 rw[oY1.2.2.1]
 have E4:=(nB (E3.mono u3) (dst:=some 57) u4).1
 have hS4:y4.S=S2:=u1.trans (t1.trans r1)
 have Pu:y4.S[t]? = some (.tail 3 1 ((eZ n q).length*1)):=by rw[hS4]; exact htl
 obtain⟨cur,DD,jW,zY,-⟩:=u2.cN t 3 1 _ Pu
 have MD:=GN u4 Pu DD
 have Zp:=MW u4 (e:=3) (s:=1) (by rw[fA]; exact Pu)
 rw[fA] at Zp
 have aar:((a2.put (some 56) v56).put (some 57) v57).tmps.size=60:=by rw[E4.1]; simp[eH,x5]
 have sM:(#[Operand.tmp 57]).map ((a2.put (some 56) v56).put (some 57) v57).eval=#[.slice (some ⟨y4.μ t,0,none⟩) (eZ n q).length (y4.κ t)]:=by
  rw[← Zp]
  have h57:((a2.put (some 56) v56).put (some 57) v57).eval (.tmp 57)=v57:=by
   have hs:57<(a2.put (some 56) v56).tmps.size:=by
    have:=aar
    simp only[Act.put,Array.size_setIfInBounds] at this ⊢
    omega
   show ((a2.put (some 56) v56).tmps.setIfInBounds 57 v57).getD 57 undef=v57
   rw[Array.getD_eq_getD_getElem?,Array.getElem?_setIfInBounds,if_pos rfl,if_pos hs]
   rfl
  simp[h57]
 have M14:bk y1 y4:=Mt.trans (r3.trans (t3.trans u3))
 have Qk:y4.S[k3]? = some (.cells [.val (.slice a0 (bO n u l).length c0),.val (.slice Li (bP n u l).length c1),.val (.int .i64 w),.sl (Go.Tv.rowsOf (eZ n q)) (some t) fQ]):=by rw[hS4]; exact s3b
 have XU:¬ Live y1.S t:=fun ht=>by
  obtain⟨b,HP,wP⟩:=ht
  rw[q1] at HP
  rcases (kF2.trans Zm).ours 13 t XX with ⟨j,hj⟩ | hj
  ·obtain⟨bj,m1,m2⟩:=VP.uE j t hj
   have HO:∃ c,bj = .cells c:=by
    have mc:=List.mem_of_getElem? m1
    simp only[Ln,List.replicate,List.set,List.mem_cons,List.not_mem_nil,or_false] at mc
    rcases mc with h | h | h | h | h | h | h | h | h | h | h | h | h<;>first | exact absurd h m2 | exact⟨_,h⟩
   obtain⟨c,rfl⟩:=HO
   obtain⟨t',dd,n1,n2,-⟩:=VP.cells j c m1
   rw[hj] at n1
   cases n1
   have hm:=(r3.trans (t3.trans u3)).cells t dd (by show (y1.S.set k3 _)[t]? = _; rw[q1]; exact n2)
   obtain⟨-,l',gF⟩:=hm
   rw[Pu] at gF
   cases gF
  ·refine hj ?_
   by_cases e:t=k3
   ·subst e; rw[Pu] at Qk; cases Qk
   ·exact⟨b,by rw[cI s3,if_neg e]; exact HP,wP⟩
 rw[Frame.atR_of_none (b:=base 52) rfl]
 refine wA hP (by simp[base]) oY2.1 (pq oY2.2.2) oY2.2.1 Tryz.func99 (mY (fn:=Tryz.f99) rfl) (R:=fun v w'=>v = .tuple #[]∧(w'.os=y4.w.os∧w'.output=y4.w.output∧y4.w.heap.size≤w'.heap.size∧(∀ k,k<y4.w.heap.size→k≠y4.μ t→w'.heap[k]? = y4.w.heap[k]?)∧w'.heap[y4.μ t]? = some (.cells (Sort.putCells (Value.int .i64) 0 (kQ (eZ n q)).toArray cur) 3 (0,0)))) (fun τ => ?_) fun v w' Yr τ d => ?_
 ·rw[sM]
  refine(Tryz.yA (w:=y4.w.re τ 0) DD MD (by rw[hxl]; exact hq)).mono ?_
  rintro e w' ⟨rfl,hg,hh⟩
  exact⟨_,rfl,rfl,hg.os,hg.output,hg.size,fun k hk pR=>hg.block k hk (fun e=>pR (by cases e; rfl)),hh⟩
 obtain⟨rfl,w1,w2,w3,w4,w5⟩:=Yr
 have SI:fe x y1 y4 (w'.re τ d) k1 k3 t (Go.Tv.rowsOf (bO n u l)) (Go.Tv.rowsOf (bP n u l)) w (eZ n q) cur _ _ :=
  { h0:=hS,U7:=U7,R1:=q2,M1:=M14,Ry:=u2,vH:=⟨_,s3y⟩,ow:=⟨_,by rw[q1]; exact s1⟩,hne:=hne,Yp:=⟨fQ,Qk⟩,Po:=by rw[hS4]; exact s1b,Pn:=Pu,XU:=XU,rU:=⟨tU,fU,FN▸v0⟩,rL:=⟨tL,fL,Ds▸v1⟩,DD:=DD,gos:=w1,ZM:=w2,gsz:=w3,ZN:=w4,UE:=w5,hsz:=by omega }
 have R3:=SI.rel
 have M03:=SI.mono
 generalize SS:oP y1 y4 (w'.re τ d) k1 k3 t (Go.Tv.rowsOf (bO n u l)) (Go.Tv.rowsOf (bP n u l)) w (eZ n q)=x3 at R3 M03
 have UE:w'.re τ d=x3.w:=by rw[← SS]; rfl
 have hμ3:x3.μ=y4.μ:=by rw[← SS]; rfl
 have YT:∀ i,x3.S[i]? = if i=k3 then some (.cells (FY (Go.Tv.rowsOf (bO n u l)) (Go.Tv.rowsOf (bP n u l)) w (eZ n q))) else if i=k1 then some (.cells vJ) else (y4.S[i]?).map AU:=fun i=>by rw[← SS]; exact SI.get i
 rw[← Frame.atR_of_none (b:=base 52) rfl,UE]
 refine cE hP (fun w=>⟨_,jC⟩) ?_
 have E5:=(nB (E4) (dst:=(oY 2).dst) (d:=aP) (v := .tuple #[]) (.val rfl)).1
 generalize ha5:((a2.put (some 56) v56).put (some 57) v57).put (oY 2).dst (.tuple #[])=a5 at E5
 obtain⟨VV,C5,hlc⟩:=SD (y:=x3) E5
 have aaw:VV.length=60:=by rw[hlc]; simp[eH,x5,d58]
 have P4:∀ i,i<56→((eH (eH (eH xR (some 56) (.ptr k3 3)) (some 57) (.sl (Go.Tv.rowsOf (eZ n q)) (some t) fQ)) (oY 2).dst aP))[i]? = some (xR.getD i aP):=fun i hi=>by
  simp only[eH,d58]
  rw[List.getElem?_set,if_neg (by omega),List.getElem?_set,if_neg (by omega),List.getElem?_set,if_neg (by omega),List.getD_eq_getElem?_getD,List.getElem?_eq_getElem (by omega)]
  rfl
 have p8:RV x3 (.ptr k3 0) (a5.tmps.getD 8 undef):=by
  have h8:=E5.2 8 _ (P4 8 (by omega))
  rw[e8] at h8
  generalize a5.tmps.getD 8 undef=v at h8
  cases h8
  rw[← hμ3]
  exact .ptr (l:=FY (Go.Tv.rowsOf (bO n u l)) (Go.Tv.rowsOf (bP n u l)) w (eZ n q)) (by rw[YT,if_pos rfl])
 have p4:RV x3 (.ptr k1 0) (a5.tmps.getD 4 undef):=by
  have h8:=E5.2 4 _ (P4 4 (by omega))
  rw[e4] at h8
  generalize a5.tmps.getD 4 undef=v at h8
  cases h8
  rw[← hμ3]
  exact .ptr (l:=vJ) (by rw[YT,if_neg hne,if_pos rfl])
 have C3:=Et (Et C5 p4) p8
 have hD5:lK 0 x3 Y5 a5.defers:=by
  have hd:a5.defers=a2.defers:=by
   rw[← ha5,d58]
   rfl
  obtain⟨z1,z2,z3⟩:=(r5.mono (t3.trans u3))
  rw[hd]
  refine⟨by rw[z1,hμ3],z2,fun id hid => ?_⟩
  obtain⟨y1',SK,y3'⟩:=z3 id hid
  have nk3:id≠k3:=by rintro rfl; rw[Qk] at SK; cases SK
  have abi:y4.S[k1]? = some (.cells vJ):=by rw[hS4]; exact s1b
  have nk1:id≠k1:=by rintro rfl; rw[abi] at SK; cases SK
  have nt:id≠t:=by rintro rfl; rw[Pu] at SK; cases SK
  refine⟨y1',by rw[YT,if_neg nk3,if_neg nk1,SK]; rfl,?_⟩
  rw[hμ3,← UE]
  refine(w4 _ (Array.getElem?_eq_some_iff.1 y3').1 (fun e=>nt (u2.inj id t (fK SK (by simp)) (fK Pu (by simp)) e))).trans y3'
 have W3:WT Tp Ty (rE iI 5) (jT iI 5) (SJ iI 5) [] LL 52 false F6 Qj _ _:=jb (nI vG) (rK hL.1 0 vG) _ _ _ _ _ _ (xA3 (bO n u l) (bP n u l) (kQ (eZ n q)) w).h
 have ab2:bK (fun i=>if i=1 then some k1 else if i=12 then some k3 else none) Qj (Ln [.sl bX (bO n u l) .no,.sl bX (bP n u l) .no,bp w,.sl bX (kQ (eZ n q)) .no]) ((VV.set 4 (.ptr k1 0)).set 8 (.ptr k3 0)) x3.S:=by
  refine⟨?_,fun k c hk => ?_,fun k e s hk => ?_,fun k k' hk => ?_,fun i j k' hi hj => ?_,fun k b hk => ?_⟩
  ·refine xo 8 (xo 4 ?_ ?_) ?_
   ·rw[← aaw]; exact Iy VV
   ·simp[RT]
   ·simp[RT]
  ·have bQ:(k=1∧c=zeroV)∨(k=12∧c=[.sl bX (bO n u l) .no,.sl bX (bP n u l) .no,bp w,.sl bX (kQ (eZ n q)) .no]):=by
    match k,hk with
    | 1,hk=>cases hk; exact .inl ⟨rfl,rfl⟩
    | 12,hk=>cases hk; exact .inr ⟨rfl,rfl⟩
    | 0,hk | 2,hk | 3,hk | 4,hk | 5,hk | 6,hk | 7,hk | 8,hk | 9,hk | 10,hk | 11,hk=>cases hk
    | k+13,hk=>simp[Ln] at hk
   rcases bQ with ⟨rfl,rfl⟩ | ⟨rfl,rfl⟩
   ·refine⟨k1,vJ,rfl,by rw[YT,if_neg hne,if_pos rfl],?_⟩
    exact aG (by simp only[RT,and_self]) (aG (by simp only[RT,and_self]) (aG (by simp only[RT]) (di (by simp only[RT,and_self]))))
   ·refine⟨k3,FY (Go.Tv.rowsOf (bO n u l)) (Go.Tv.rowsOf (bP n u l)) w (eZ n q),rfl,by rw[YT,if_pos rfl],?_⟩
    exact aG (by simp only[RT]; exact⟨fF _,trivial⟩) (aG (by simp only[RT]; exact⟨fF _,trivial⟩) (aG (by simp only[RT]) (di (by simp only[RT]; exact⟨fF _,trivial⟩))))
  ·exfalso
   match k,hk with
   | 1,hk | 12,hk | 0,hk | 2,hk | 3,hk | 4,hk | 5,hk | 6,hk | 7,hk | 8,hk | 9,hk | 10,hk | 11,hk=>cases hk
   | k+13,hk=>simp[Ln] at hk
  ·by_cases e1:k=1
   ·subst e1; exact⟨_,rfl,by simp⟩
   ·by_cases e2:k=12
    ·subst e2; exact⟨_,rfl,by simp⟩
    ·simp[e1,e2] at hk
  ·by_cases e1:i=1<;>by_cases e2:j=1
   ·omega
   ·subst e1
    by_cases e3:j=12
    ·subst e3; simp at hi hj; exact absurd (hi.trans hj.symm) hne
    ·simp[e2,e3] at hj
   ·subst e2
    by_cases e3:i=12
    ·subst e3; simp at hi hj; exact absurd (hj.trans hi.symm) hne
    ·simp[e1,e3] at hi
   ·by_cases e3:i=12<;>by_cases e4:j=12
    ·omega
    ·simp[e2,e4] at hj
    ·simp[e1,e3] at hi
    ·simp[e1,e3] at hi
  ·intro t ht
   match k,hk with
   | 1,hk | 12,hk | 0,hk | 2,hk | 3,hk | 4,hk | 5,hk | 6,hk | 7,hk | 8,hk | 9,hk | 10,hk | 11,hk=>cases hk; trivial
   | k+13,hk=>simp[Ln] at hk
 obtain⟨e,ab7,S4,ι4,te4,tS4,h4,zR,-,-,-,zQ⟩:=W3 _ _ _ ab2 (fun k hk=>(by cases hk))
 obtain⟨abD,vs,hv,hp,-,FQ⟩:=Ib (fun _ _=>Ur) zQ
 obtain⟨dsr,dr1,dr2⟩:=pY zR hv
 rw[Ss FQ.1] at hp FQ
 have hst:=Be (ts:=[some aU,some bX]) (ι':=eD) (S':=[]) hp dr2
 have LX:U9 (oneOf dsr).strip=uT n u l q w:=by
  obtain⟨hq1,-⟩:=FQ
  rw[hq1] at hst
  exact WR hst.2
 refine lB (n0:=0) (ds:=Y5) (b:=base 52) (cs:=fr::cs) (fC:=false) (k:=[]) hP gh (by simp[base]) rfl (fun _=>rfl) F6 (lq gd F6) h4 R3 C3 hD5 (Nat.zero_le _) fun z az dz v1 v2 v3 v4 v5 => ?_
 have fT:∀ todo,eY Tryz.prog af () (G { (base 52).at az todo with mode := .returning } (fr::cs)) z.w:=fun todo =>
  yK hP xV (x0:=x) (b:=base 52) (env:=ab7) (l:=dsr) (Sr:=S4) rfl Tryz.func52 dz v1 v2 (M03.trans v3) v4 (by rw[hS]; exact v5) dr1 fun z' uu m1 m2 m3 m4=>hnx z' uu ⟨m2,m3,by rw[← LX]; exact WK m4.strip⟩
 cases e with
 | normal =>
  show eY Tryz.prog af () (G ((base 52).atR az []) (fr::cs)) z.w
  rw[Frame.atR_of_none (b:=base 52) rfl]
  exact cE hP (fun w=>⟨_,stepG_end⟩) (fT _)
 | ret =>
  intro k'
  rw[Frame.atR_of_none (b:=base 52) rfl]
  exact cE hP (fun w=>⟨_,stepG_ret'⟩) (fT _)
 | exit id=>exact abD.elim
end Go.Tv
end
section
namespace Go.Tv
open Go Go.Di Go.Conc Go.Co Go.Proofs
variable {af:Machine→Trace→Prop} {x:Cx}
theorem CN:∀ l:List Int,mF (Go.Tv.rowsOf l)=some l
 | []=>rfl
 | n::l=>by
  have:=CN l
  simp only[Go.Tv.rowsOf,List.map_cons,mF] at this ⊢
  rw[this]; rfl
theorem qj:∀ {rows:List DV} {l:List Int},mF rows=some l→rows=Go.Tv.rowsOf l
 | [],l,h=>by cases h; rfl
 | d::rows,l,h=>by
  unfold mF at h
  split at h
  ·rename_i e; cases e
  ·rename_i n r e
   cases e
   simp only[Option.map_eq_some_iff] at h
   obtain⟨m,h1,rfl⟩:=h
   rw[qj h1]; rfl
  ·cases h
theorem Io:F7 iI where
 rev:=fun l d hl h=>by
  cases d<;>simp only[RT] at h
  rename_i rows tok f
  rw[eT h.1]
  refine⟨.sl (Go.Tv.rowsOf l.reverse) none ⟨false,none⟩,?_,rfl,by simp only[RT]; exact⟨fF _,trivial⟩⟩
  have e:mz 133 [.sl (Go.Tv.rowsOf l) tok f]=some (.sl (Go.Tv.rowsOf l.reverse) none ⟨false,none⟩):=by
   simp only[mz,Qm,CN,if_pos hl]; rfl
  simp[iI,more,e]
def LU:DV→DV→Option DV
 | .agg [.sl ru _ _,.sl rl _ _,.val (.int .i64 w),.sl rq _ _],.val (.int .i64 n)=>match mF ru,mF rl,mF rq with
  | some u,some l,some q=>if nY u l w q=0∧0≤n∧n≤3 then some (uT n u l q w) else none
  | _,_,_=>none
 | _,_=>none
theorem Ky {a b d:DV} (h:LU a b=some d) (hp:[a,b].all DV.pure=true) (hv:d.pure=true) {vals:Array Value} (hR:Rel x) (ha:dR x [a,b] vals):cT Tryz.prog af x 52 vals fun y u=>y.S=x.S∧Rel y∧bk x y∧RV y d u:=by
 unfold LU at h
 split at h
 ·rename_i ru t1 f1 rl t2 f2 w rq t3 f3 n
  split at h
  ·rename_i u l q h1 h2 h3
   split at h
   ·rename_i hc
    cases h
    cases qj h1
    cases qj h2
    cases qj h3
    have ha':dR x.bare _ vals:=⟨ha.1,fun j c hj=>(ha.2 j c hj).pure_mono (x:=x) (y:=x.bare) (fun b o h=>⟨h,rfl⟩) (List.all_eq_true.1 hp c (List.mem_of_getElem? hj))⟩
    obtain⟨h4,h5⟩:=OO (af:=af) Cw Io hR.bare rfl (yo.1 hc.1) hc.2 ha'
    refine⟨h4,fun fr cs hn=>h5 fr cs fun y u ⟨q2,q3,q4⟩ => ?_⟩
    exact hn (x.behind y) u ⟨rfl,hR.behind q3 q2,pG hR q3,q4.pure_mono (x:=y) (y:=x.behind y) (fun b o h=>⟨h,rfl⟩) hv⟩
   ·cases h
  ·cases h
 ·cases h
def Dw:bn:=fun f args=>match f,args with
 | 52,[a,b]=>LU a b
 | _,_=>iI f args
theorem Rc (a b:DV):Dw 52 [a,b]=LU a b:=by simp[Dw]
theorem Rb:oe Tryz.prog af Dw:=by
 intro f args v h hp hv x vals hR ha
 unfold Dw at h
 split at h
 ·exact Ky h hp hv hR ha
 ·exact Cz f args v h hp hv x vals hR ha
theorem Cv:oF Dw where
 other:=fun f a h1 h2 h3 h4 h5=>by
  unfold Dw
  split
  ·exact absurd rfl h5
  ·exact Cw.other f a h1 h2 h3 h4 h5
 fit:=Cw.fit
theorem Q5:F7 Dw where
 rev:=Io.rev
theorem Q7:QK Dw where
 lay:=fun u l q w n d1 d2 gZ hn h1 h2=>by
  cases tc h2
  cases d1<;>simp only[Uz,RT] at h1
  obtain⟨a1,m,rfl,k1,h1⟩:=aj h1
  obtain⟨a2,m,rfl,k2,h1⟩:=aj h1
  obtain⟨a3,m,rfl,k3,h1⟩:=aj h1
  obtain⟨a4,m,rfl,k4,h1⟩:=aj h1
  cases aJ h1
  obtain⟨_,_,_,rfl,r1,-⟩:=tf k1
  obtain⟨_,_,_,rfl,r2,-⟩:=tf k2
  obtain⟨_,_,_,rfl,r4,-⟩:=tf k4
  cases tc k3
  cases eT r1
  cases eT r2
  cases eT r4
  refine⟨uT n u l q w,?_,rfl,?_⟩
  ·simp only[Rc,LU,CN,M7 gZ,hn,and_self,if_true]
  ·rw[← JM gZ.Ad gZ.U5 hn]
   simp only[uT,RT]
   refine aG ?_ (di (by simp only[RT]))
   simp only[RT]
   exact aG (by simp only[RT]; exact⟨fF _,trivial⟩) (aG (by simp only[RT]; exact⟨fF _,trivial⟩) (aG (by simp only[RT]) (di (by simp only[RT]; exact⟨fF _,trivial⟩))))
end Go.Tv
end
section
namespace Go.Tv
open Go Go.Di Go.Proofs
theorem Kz {aZ:bn} (tk:oF aZ) {f:FuncId} {fn:Func} {D:List TV→Dn} {k d:Nat} {T:gN} (hT:lE aZ k T) (hne:f≠60∧f≠133∧f≠12∧f≠43∧f≠52) (hf:Tp.funcs[f]? = some fn) (hb:fn.body.isSome=true) {jV:List (Option TT)} (h:VI T fn jV D d) {a:List TV} {j:List (Nat×LA)} (hD:D a=some ([],.res (nu true) [] [],j)) (n:Nat):oM (rE aZ (n+(k+d+1))) f a (fun v=>v=nu true) :=
 (((wO tk hT hne hf hb h (T':=T) (by have:=kX hT (d+1); rwa [Nat.add_comm,← Nat.add_assoc] at this)).2 n).I f a [] (.res (nu true) [] []) (by simp only[gN.fR,if_true,hD]; rfl) trivial).mono fun v hv=>hv.1
section
variable {aZ:bn} (tk:oF aZ) (tr:F7 aZ) (tl:QK aZ)
include tk
theorem abp:lE aZ 6 K1:=De (kX (LM tk) 2) Tryz.func68 rfl v68 (Qg tk)
theorem abo:lE aZ 2 K3:=De (De (iM tk) Tryz.func116 rfl Va (gU (iM tk))) Tryz.func131 rfl v131 (gU (De (iM tk) Tryz.func116 rfl Va (gU (iM tk))))
include tr
theorem Zl:lE aZ 8 K4:=De (kX (abo tk) 5) Tryz.func113 rfl Zb (aa9 tk tr)
theorem Zk:lE aZ 9 K5:=wO tk (Zl tk tr) (by decide) Tryz.func77 rfl LK (gU (wO tk (kX (Qg tk) 1) (by decide) Tryz.func50 rfl abb (Zl tk tr)))
include tl
theorem abn:lE aZ 10 K7:=Z2 (De (kX (abp tk) 3) Tryz.func27 rfl BT (aa2 tl (wO tk (kX (Qg tk) 3) (by decide) Tryz.func55 rfl v55 (wO tk (Zk tk tr) (by decide) Tryz.func33 rfl v33 (gU (Zk tk tr)))))) Tryz.func26 rfl
end
end Go.Tv
namespace Go.Proofs.YtedcgbkilmlbhaaGreat
open Go Go.Di Go.Tv Go.Conc Go.Co Go.Proofs
open Go.ChangeShapes Go.WideShapes Go.ChangeAt Go.RowKit
set_option maxRecDepth 100000 in
theorem vD (os:Os) (started:os.Started) (H:Type) (enc:TypeId×Value→H) :
  ReturnsInLeavingWide {} Tryz.checked os 10 .any (Rows.cutBrokenSpec.pre6 enc Tryz.prog Tryz.f10 Rows.cutBrokenRow.domain false) (Rows.cutBrokenSpec.post enc Tryz.prog Tryz.f10 false true false false) :=
 RX (fun _=>Rb) Cv Tryz.func10 Tryz.params10 (by kernel_rfl) rfl (fun _ _=>rfl) (by decide) (by kernel_rfl) (n:=11) (fun fO=>Kz Cv (abn Cv Q5 Q7) (by decide) Tryz.func10 rfl v10 (a:=[.sl bX fO .no]) rfl 0) started
  (ChangeSpec.witness6 (enc:=enc) (C:=Tryz.checked) false ⟨#[],#[.slice none 0 0],[]⟩ 9 (by kernel_rfl) (by kernel_rfl) (by kernel_rfl) (by kernel_rfl))
set_option maxRecDepth 100000 in
theorem cutBroken_holds:Rows.CutBrokenSaid :=
 OpenClaim.holds_of_wide_leaving 10 Tryz.f10 rfl rfl rfl rfl rfl rfl rfl ⟨rfl,rfl,rfl,rfl,rfl⟩ rfl rfl rfl rfl rfl (by kernel_rfl) Tryz.func10 (by kernel_rfl)
  (of_decide_eq_true (by kernel_rfl)) (by unfold Func.isWrapper; first | (rw[if_pos (by decide +kernel)]; kernel_rfl) | (rw[if_neg (by decide +kernel)]; exact⟨rfl,rfl⟩))
  (fun os started H enc _=>vD os started H enc)
#print axioms cutBroken_holds
end Go.Proofs.YtedcgbkilmlbhaaGreat
end
