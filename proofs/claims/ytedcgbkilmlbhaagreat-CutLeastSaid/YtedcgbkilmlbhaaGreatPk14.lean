import Derived.Test.YtedcgbkilmlbhaaGreatPk13
section
namespace Go.Tv
open Go Go.Di Go.Proofs
section
variable {bF:bP} (tk:uS bF) (tu:Ob bF)
include tk
theorem acZ:ji bF 2 H1:=kL tk (ads tk) (by decide) Tryz.func48 rfl v26 (eT (ee tk) 2)
include tu
theorem acY:ji bF 1 H2:=kL tk (OS tu (ee tk)) (by decide) Tryz.func42 rfl v20 (eM (OS tu (ee tk)))
theorem acX:ji bF 6 H4:=JE (JE (kL tk (eT (OS tu (ee tk)) 5) (by decide) Tryz.func42 rfl v20 (SA tk)) Tryz.func26 rfl) Tryz.func16 rfl
end
end Go.Tv
end
section
namespace Go.Tv
open Go Go.Di Go.Proofs
section
variable {bF:bP} (tk:uS bF) (tr:Oc bF) (ts:XN bF) (tu:Ob bF)
theorem ab4 {T:gd} {k:Nat} (ts:XN bF) (hT:ji bF k T):ji bF k (T.cA 60 S60):=Fq hT fun n a p s hs hp=>by
 unfold S60 at hs
 split at hs
 ·cases hs
  obtain⟨o1,o2,rfl,rfl,rfl,rfl,rfl,rfl,rfl,rfl,rfl,rfl,rfl,rfl,rfl,rfl,rfl,rfl,-⟩:=hp
  intro cR hd
  obtain⟨d1,_,rfl,h1,h2⟩:=ak hd
  obtain⟨d2,_,rfl,h2,h3⟩:=ak h2
  rw[aW h3]
  obtain⟨r,k1,k2,k3⟩:=ts.VA _ _ _ _ _ _ _ _ d1 d2 o1 o2 h1 h2
  exact⟨r,_,by simp only[yB,j6,k1,k2,if_true],k2,k3,rfl,rfl,trivial⟩
 ·cases hs
theorem Zk {T T':gd} {k:Nat} (ZO:ji bF k (T'.cA 61 fun a=>dS (ZU a))) (hT:ji bF k T):ji bF k (T.cA 61 fun a=>dS (XW a)):=Fq hT fun n a p s hs hp=>by
 unfold XW at hs
 split at hs
 ·rename_i u l w q
  cases hs
  exact((ZO.2 n).I 61 [.agg [.sl (.int .i64) u .no,.sl (.int .i64) l .no,.val (.int .i64 w),.sl (.int .i64) q .no]] _ _ rfl hp).mono fun v hv=>⟨u,l,w,q,hv.1,rfl,rfl,rfl,rfl,trivial⟩
 ·cases hs
include tk
theorem Xe:ji bF 7 Q0:=kL tk (SA tk) (by decide) Tryz.func50 rfl acj (eM (SA tk))
theorem Xd:ji bF 4 Q1:=kL tk (SU tk) (by decide) Tryz.func51 rfl v51 (eM (SU tk))
theorem acA:ji bF 5 Q3:=kL tk (adt tk) (by decide) Tryz.func109 rfl v66 (kL tk (eT (NR tk) 3) (by decide) Tryz.func81 rfl v16 (eT (ee tk) 5))
theorem acz:ji bF 1 Q8:=kL tk (ee tk) (by decide) Tryz.func49 rfl v25 (eM (ee tk))
theorem acG:ji bF 3 P1:=kL tk (eT (ee tk) 2) (by decide) Tryz.func118 rfl v64 (kL tk (eT (ee tk) 2) (by decide) Tryz.func117 rfl v62 (kL tk (eT (NR tk) 1) (by decide) Tryz.func81 rfl v16 (eT (ee tk) 3)))
theorem acF:ji bF 5 P2:=kL tk (eM (acG tk)) (by decide) Tryz.func85 rfl v85 (kL tk (Xd tk) (by decide) Tryz.func62 rfl ach (eM (Xd tk)))
theorem acE:ji bF 6 P3:=kL tk (eT (ee tk) 5) (by decide) Tryz.func86 rfl v86 (kL tk (acA tk) (by decide) Tryz.func63 rfl uO (eT (Xd tk) 2))
include tr
theorem aad:ji bF 3 Q9:=kL tk (aac tk tr) (by decide) Tryz.func61 rfl v50 (eM (aac tk tr))
theorem acH:ji bF 8 P0:=JE (JE (kL tk (eT (ee tk) 7) (by decide) Tryz.func84 rfl v54 (kL tk (eT (ee tk) 7) (by decide) Tryz.func78 rfl v60 (kL tk (Xe tk) (by decide) Tryz.func59 rfl aci (Zk (eT (aad tk tr) 5) (eM (Xe tk)))))) Tryz.func82 rfl) Tryz.func83 rfl
include ts
theorem acD:ji bF 7 P4:=ab4 ts (kL tk (eT (aad tk tr) 3) (by decide) Tryz.func66 rfl acg (Xe tk))
include tu
theorem acC:ji bF 10 P5:=kL tk (eT (acD tk tr ts) 2) (by decide) Tryz.func37 rfl v37 (kL tk (eT (acF tk) 4) (by decide) Tryz.func36 rfl v36 (kL tk (acH tk tr) (by decide) Tryz.func35 rfl v35 (Le (eT (acX tk tu) 2) Tryz.func14 rfl v14 (kL tk (eT (acY tk tu) 8) (by decide) Tryz.func16 rfl NP (kL tk (eT (ee tk) 9) (by decide) Tryz.func11 rfl v18 (eT (SA tk) 4))))))
theorem acB:ji bF 10 P6:=kL tk (eT (acZ tk) 7) (by decide) Tryz.func25 rfl ack (kL tk (eT (acz tk) 8) (by decide) Tryz.func24 rfl acm (kL tk (eT (acE tk) 3) (by decide) Tryz.func38 rfl v38 (acC tk tr ts tu)))
end
end Go.Tv
end
