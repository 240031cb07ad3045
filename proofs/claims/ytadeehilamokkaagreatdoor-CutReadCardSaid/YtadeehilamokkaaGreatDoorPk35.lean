import Derived.Test.YtadeehilamokkaaGreatDoorPk34
import Derived.Test.YtadeehilamokkaaGreatDoorPk33
import Derived.Test.YtadeehilamokkaaGreatDoorPk32
import Derived.Test.YtadeehilamokkaaGreatDoorPk05
import Derived.Test.YtadeehilamokkaaGreatDoorPk12
import Derived.Test.YtadeehilamokkaaGreatDoorPk21
set_option maxHeartbeats 2000000
set_option maxRecDepth 1000000
namespace Go.Proofs
open Go.RowKit
def xJ:dk->Int
 |[]=>0
 |p::l=>if fU p=0 then xJ l else fU p
def gQ(ps:dk):Int:=if 4<ps.length then 6 else xJ ps
def Small(p:PM):Prop:=p.u.length<=1000000/\p.l.length<=1000000/\p.q.length<=1000000
theorem EZ{w w':World}{A:Option Addr}{ps:dk}(h:kK w A ps)(hb:Below w.heap.size w w'):kK w' A ps:=λhne=>by obtain⟨b,off,e,h1⟩:=h hne;refine⟨b,off,e,λj p hp=>?_⟩;obtain⟨A0,c0,A1,c1,A3,c3,⟨k0,k1,k2,k3⟩,i0,i1,i3⟩:=h1 j p hp;exact⟨A0,c0,A1,c1,A3,c3,⟨jE k0 hb,jE k1 hb,jE k2 hb,jE k3 hb⟩,eS i0 hb,eS i1 hb,eS i3 hb⟩
theorem Tryz.aaW (A:Option Addr)(cap:Nat)(ps:dk)(w:World)(hl:ps.length<=1000000)(hs:∀p∈ps,Small p)(hR:kK w A ps):
  Calls Tryz.prog 56 #[.slice A ps.length cap] w λe w'=>e=.returned (.int .i64 (xJ ps))/\Below w.heap.size w w':=by
 have jM:=Lib.hid hR;have Hf:=Lib.hid hs;clear hR hs;obtain⟨r,hr⟩:∃r,xJ ps=r:=⟨_,rfl⟩;rw[hr];have hr:=Lib.hid hr
 go_enter Tryz.func56,Tryz.ntmps56
 go_wp2
 go_loopw [8] (λi wr=>∃k:Nat,k<=ps.length/\i=.int .i64 (k:Int)/\xJ (ps.drop k)=r/\Below w.heap.size w wr) (λi _=>ps.length-(intOf i).toNat)
 case atStart=>exact⟨0,gU _,rfl,hr.out,Below.refl _ _⟩
 case round=>
  obtain⟨k,hk,rfl,hst,fB⟩:=hrel;by_cases xC:k<ps.length;obtain⟨b,off,rfl,hc⟩:=jM.out (λe=>by subst e;simp at xC);obtain⟨A0,c0,A1,c1,A3,c3,⟨k0,k1,k2,k3⟩,i0,i1,i3⟩:=hc k _ (bn xC);have hsm:=Hf.out _ (lp xC);rw[rS xC,xJ]at hst;generalize hp:ps[k]=p at k0 k1 k2 k3 i0 i1 i3 hsm hst;have Ys:=Tryz.gT k0;have g0:wr.cell? ⟨b,off+k*4,none⟩=some (.slice A0 p.u.length c0):=(fB.cell (p:=⟨b,off+k*4,none⟩) Ys).trans k0;have g1:wr.cell? ⟨b,off+k*4+1,none⟩=some (.slice A1 p.l.length c1):=(fB.cell (p:=⟨b,off+k*4+1,none⟩) Ys).trans k1;have g2:wr.cell? ⟨b,off+k*4+2,none⟩=some (.int .i64 p.w):=(fB.cell (p:=⟨b,off+k*4+2,none⟩) Ys).trans k2;have g3:wr.cell? ⟨b,off+k*4+3,none⟩=some (.slice A3 p.q.length c3):=(fB.cell (p:=⟨b,off+k*4+3,none⟩) Ys).trans k3;clear k0 k1 k2 k3 hc hp;have hst:=Lib.hid hst;have fB:=Lib.hid fB;have hbb:Below w.heap.size w (wr.alloc (.cells #[.slice A0 p.u.length c0,.slice A1 p.l.length c1,.int .i64 p.w,.slice A3 p.q.length c3] 42)):=fB.out.alloc fB.out.size _;have hP:=Tryz.RD p A0 A1 A3 c0 c1 c3 (wr.alloc (.cells #[.slice A0 p.u.length c0,.slice A1 p.l.length c1,.int .i64 p.w,.slice A3 p.q.length c3] 42)) hsm.1 hsm.2.1 hsm.2.2 (eS i0 hbb) (eS i1 hbb) (eS i3 hbb);have hbb:=Lib.hid hbb;clear i0 i1 i3
  go_wp2_with (go_at_call 57;refine hP.mono ?_)
  rintro e w1 rfl xD;have uC:=Lib.hid (hbb.out.trans (xD.mono (by have:=fB.out.size;omega)));clear xD hP g0 g1 g2 g3;generalize fU p=ep at hst
  go_wp2
  have h:=‹(ep !=0)=true›
  go_ret
  refine⟨?_,uC.out⟩;rw[<-hst.out,if_neg (by simpa using h)];rfl;have h:=‹(ep !=0)=false›;exact⟨⟨k+1,U,by go_num,by rw[<-hst.out,if_pos (by simpa using h)],uC.out⟩,by simp[intOf];omega⟩;have AU:k=ps.length:=U
  subst AU;rw[List.drop_length]at hst;have hst:=Lib.hid hst
  go_wp2
  go_ret
  refine⟨?_,fB⟩;rw[<-hst.out];rfl
theorem Tryz.GW (A:Option Addr)(cap:Nat)(ps:dk)(w:World)(hl:ps.length<=1000000)(hs:∀p∈ps,Small p)(hR:kK w A ps):
  Calls Tryz.prog 21 #[.slice A ps.length cap] w λe w'=>e=.returned (.int .i64 (gQ ps))/\Below w.heap.size w w':=by
 have hI:=Tryz.aaW A cap ps w hl hs hR;obtain⟨r,hr⟩:∃r,gQ ps=r:=⟨_,rfl⟩;rw[hr];have hr:=Lib.hid hr;clear hs hR;by_cases h4:4<ps.length
 go_enter Tryz.func21,Tryz.ntmps21
 go_wp2_with (go_at_call 56;refine hI.mono ?_)
 go_ret
 refine⟨?_,Below.refl _ _⟩;rw[<-hr.out,gQ,if_pos h4];rfl
 go_enter Tryz.func21,Tryz.ntmps21
 go_wp2_with (go_at_call 56;refine hI.mono ?_)
 rintro e w1 ⟨rfl,hb⟩;have hb:=Lib.hid hb
 go_wp2
 go_ret
 refine⟨?_,hb.out⟩;rw[<-hr.out,gQ,if_neg h4];rfl
end Go.Proofs
namespace Go.Proofs
open Go.RowKit
def iR(ps:dk):List UInt8×Int:=if gQ ps=0 then(eu ps,0)else([],gQ ps)
theorem uO:∀(q:br)(m:Option Int),lJ m q=0->∀n∈q,0<=n/\n<=9
 |[],_,_,n,h=>ao
 |x::q,m,h,n,hn=>by
  rw[oV]at h;by_cases h1:x<0\/3<x;rw[if_pos h1]at h;exact absurd h ae;rw[if_neg h1]at h;have h2:lJ (some x) q=0:=by
   cases m with
   |none=>simpa using h
   |some m=>by_cases hx:x<=m;simp[hx]at h;simpa [hx]using h
  rcases aX.1 hn with rfl|hn;omega;exact uO q _ h2 n hn
theorem DJ{p:PM}(hs:Small p)(h:fU p=0):(p.u.length<=8/\p.l.length<=8)/\(∀n∈p.u,0<=n/\n<=9)/\(∀n∈p.l,0<=n/\n<=9)/\(0<=p.w/\p.w<=9)/\(∀n∈p.q,0<=n/\n<=9):=by
 unfold fU at h;split at h;exact absurd h ae;split at h;exact absurd h ae;split at h;exact absurd h ae;split at h;exact absurd h ae;split at h;exact absurd h ae;rename_i h1 h2 h3 h4 h5;split at h;exact absurd h ae;have mo:∀l:br,l.all (AQ 9)=true->∀n∈l,0<=n/\n<=9:=λl hl n hn=>by have:=aR.1 hl n hn;simpa [AQ]using this
 refine⟨U,mo _ (by simp only[not_or]at h5;simpa using h5.1),mo _ (by simp only[not_or]at h5;simpa using h5.2.1),U,uO _ _ h⟩
theorem M7:∀{ps:dk},xJ ps=0->∀p∈ps,fU p=0
 |[],_,p,h=>ao
 |q::ps,h,p,hp=>by unfold xJ at h;split at h;rename_i h0;rcases aX.1 hp with rfl|hp;exact h0;exact M7 h p hp;contradiction
theorem Tryz.QO (A:Option Addr)(cap:Nat)(ps:dk)(w:World)(hs:∀p∈ps,Small p)(hl:ps.length<=1000)(hR:kK w A ps)(hq:∀p∈ps,p.q.length<=1000):
  Calls Tryz.prog 10 #[.slice A ps.length cap] w λe w'=>e=.returned (.tuple #[.string ⟨(iR ps).1.toArray⟩,.int .i64 (iR ps).2])/\Below w.heap.size w w':=by
 have hC:=Tryz.GW A cap ps w U hs hR;obtain⟨r,hr⟩:∃r,iR ps=r:=⟨_,rfl⟩;rw[hr];have hr:=Lib.hid hr;refine calls_of_wp (c:=Go.Di.y10) Tryz.func10 rfl ?_;rw[Go.Di.ac2];simp only[Go.Di.ab0,Go.Di.ade,iK,dA,j8,Nat.reduceAdd,Nat.reduceSub,Array.replicate_succ,Array.replicate_zero,List.push_toArray,List.append_toArray,gm,j9];apply wp_seq_k;intro K hK;simp only[Go.Di.lft,Go.Di.y10,Tryz.f10]
 go_wp2
 simp only[Go.Di.lft,Go.Di.Tu,Go.Di.y10,Tryz.f10];by_cases h0:gQ ps=0;rw[h0]at hC;have hd:∀p∈ps,p.Ok:=λp hp=>by
  have hE:xJ ps=0:=by unfold gQ at h0;split at h0;exact absurd h0 ae;exact h0
  obtain⟨⟨l1,l2⟩,q⟩:=DJ (hs p hp) (M7 hE p hp);exact⟨⟨U,U,hq p hp⟩,q⟩
 have hd:=Lib.hid hd;have jM:=Lib.hid hR;have Hf:=Lib.hid hs;have Mb:=Lib.hid hq;clear hR hs hq
 go_wp2_with (go_at_call 21;refine hC.mono ?_)
 rintro e w1 ⟨rfl,hb⟩;have hR2:=Lib.hid (EZ jM.out hb);have hb:=Lib.hid hb
 go_wp2
 refine Code.wp_mono ?_ (Tryz.M9 A cap ps w1 _ _ _ _ _ _ _ _ _ _ _ _ _ _ _ _ _ _ _ _ _ _ _ _ _ _ _ _ _ _ _ _ _ _ _ _ _ hl hd.out hR2.out);rintro e a' w' ⟨rfl,h2,h3,h4,h5⟩;refine bodyPost_ret (v:=.tuple #[.string ⟨(eu ps).toArray⟩,.int .i64 0]) ?_ h4 ⟨?_,hb.out.trans (h5.mono hb.out.size)⟩;rw[results_tmp2 rfl,h2,h3];rw[<-hr.out,iR,if_pos h0];have jM:=Lib.hid hR;have Hf:=Lib.hid hs;have Mb:=Lib.hid hq;clear hR hs hq
 go_wp2_with (go_at_call 21;refine hC.mono ?_)
 rintro e w1 ⟨rfl,hb⟩;have hb:=Lib.hid hb;obtain⟨c,hc⟩:∃c,gQ ps=c:=⟨_,rfl⟩;rw[hc]at h0⊢;have hc:=Lib.hid hc
 go_wp2
 go_ret2
 refine⟨?_,hb.out⟩;rw[<-hr.out,iR,hc.out,if_neg h0];rfl
end Go.Proofs
namespace Go.Proofs
open Go.RowKit
def jH(s:ByteArray):dk×Int×Int:=if 200<s.size then([],0,10)else match jW (s.size+1) s 1 []with
 |.inr n=>([],n,2)
 |.inl ps=>if gQ ps=0 then(ps,0,0)else([],0,gQ ps)
theorem DN(l:List UInt8):(fR l).1.length<=l.length:=by unfold fR;split;simp[zy];simp
theorem LJ{ps:List ByteArray}{p:PM}{n:Nat}(h:lI ps=some p)(hs:∀x∈ps,x.size<=n):p.u.length<=n/\p.l.length<=n/\p.q.length<=n:=by unfold lI at h;split at h;rename_i a b c d;split at h;cases h;have ha:=hs a ab;have hb:=hs b ab;have hd:=hs d ab;have ea:=DN a.data.toList;have eb:=DN b.data.toList;have ed:=DN d.data.toList;rw[show a.data.toList.length=a.size from eB]at ea;rw[show b.data.toList.length=b.size from eB]at eb;rw[show d.data.toList.length=d.size from eB]at ed;exact⟨bz ea ha,bz eb hb,bz ed hd⟩;cases h;cases h
theorem Bv:∀(f:Nat)(t:ByteArray)(n:Int)(acc ps:dk)(N:Nat),t.size<=N->jW f t n acc=.inl ps->(∀p∈acc,p.u.length<=N/\p.l.length<=N/\p.q.length<=N)->(∀p∈ps,p.u.length<=N/\p.l.length<=N/\p.q.length<=N)/\ps.length<=acc.length+t.size
 |0,t,n,acc,ps,N,_,h,ha=>by cases h;exact⟨ha,U⟩
 |f+1,t,n,acc,ps,N,hN,h,ha=>by
  rw[jW]at h;split at h;cases h;exact⟨ha,U⟩
  have hc:=CG t.data.toList;rw[show t.data.toList.length=t.size from eB]at hc;split at h;rename_i p _ hp hk;have hl:=LJ (n:=N) hp (λx hx=>bz (EC x hx) (by rw[size_mk];omega));have:=Bv f _ _ _ ps N (by rw[size_mk];have:=hc.2 hk;omega) h (λq hq=>by rcases gV.1 hq with hq|hq;exact ha q hq;simp only[bQ]at hq;subst hq;exact hl);refine⟨this.1,?_⟩;have h2:=this.2;rw[size_mk,dM]at h2;have:=hc.2 hk;simp at h2;omega;cases h
theorem DZ{w:World}{N:Nat}{v:Value}{l:br}(h:bY w N v l):∃A c,v=.slice A l.length c/\eZ w A l:=h.elim λA h=>h.elim λc h=>⟨A,c,h.1,h.2.2.1⟩
theorem Nz{w:World}{N:Nat}{v:Value}{ps:dk}(h:Fo w N v ps):∃A c,v=.slice A ps.length c/\kK w A ps:=by
 obtain⟨xs,ho,hx⟩:=h;rcases ho.2 with ⟨rfl,h0⟩|⟨g,cap,cur,rfl,hb,hg,hn,hc,nK,ht⟩;exact⟨none,0,by rw[h0],λhne=>absurd (List.length_eq_zero_iff.1 h0) hne⟩;refine⟨_,cap,rfl,λ_=>⟨g,0,rfl,λj p hp=>?_⟩⟩;obtain⟨v0,v1,v3,a0,a1,a2,a3,n0,n1,n3⟩:=hx j p hp;have aS:∀i u,xs[i]? =some u->w.cell? ⟨g,i,none⟩=some u:=by intro i u hu;rw[<-ht,pX]at hu;split at hu;rw[Lib.cell_of_heap hg];simpa using hu;cases hu
 obtain⟨A0,c0,rfl,i0⟩:=DZ n0;obtain⟨A1,c1,rfl,i1⟩:=DZ n1;obtain⟨A3,c3,rfl,i3⟩:=DZ n3;exact⟨A0,c0,A1,c1,A3,c3,⟨by rw[eN];exact aS _ _ a0,by rw[eN];exact aS _ _ a1,by rw[eN];exact aS _ _ a2,by rw[eN];exact aS _ _ a3⟩,i0,i1,i3⟩
def G3(w:World)(r:dk×Int×Int)(e:Ending)(w':World):Prop:=Below w.heap.size w w'/\∃v,e=.returned (.tuple #[v,.int .i64 r.2.1,.int .i64 r.2.2])/\Fo w' w.heap.size v r.1
theorem DL(w:World)(N:Nat):Fo w N (.slice none 0 0) []:=⟨[],World.ownsRow_nil _ _ _ _,λj p h=>by simp at h⟩
theorem Tryz.Rq (s:ByteArray) (m:Int) (w:World) (hl:s.size≤100000) (hm:w.cell? ⟨1,0,none⟩=some (.int .i64 m)) (hg:w.cell? ⟨0,0,none⟩=some (.iface 196 (.agg #[Uc]))) :
  Calls Tryz.prog 14 #[.string s] w (G3 w (jH s)):=by
 have hC:=Tryz.WJ s m w hl hm
 have hsm:=Bv (s.size+1) s 1 [] (N:=100000)
 obtain⟨r,hr⟩:∃ r,jH s=r:=⟨_,rfl⟩
 rw[hr]
 have hg0:=Tryz.gT hg
 by_cases h2:200<s.size
 ·rw[jH,if_pos h2] at hr
  subst hr
  clear hC hsm hm hg
  go_enter Tryz.func14,Tryz.ntmps14
  go_wp2
  go_ret3
  exact⟨Below.refl _ _,_,rfl,DL _ _⟩
 ·rw[jH,if_neg h2] at hr
  generalize jW (s.size+1) s 1 []=q at hC hr hsm
  clear hm
  have hg:=Lib.hid hg
  go_enter Tryz.func14,Tryz.ntmps14
  go_wp2_with (go_at_call 52; refine hC.mono ?_)
  rintro e w1 ⟨xD,hq⟩
  have X6:w1.cell? ⟨0,0,none⟩=some (.iface 196 (.agg #[Uc])):=(xD.cell hg0).trans hg.out
  have xD:=Lib.hid xD
  have X6:=Lib.hid X6
  cases q with
  | inl ps =>
   obtain⟨v,rfl,hP⟩:=hq
   have hba:Below w1.heap.size w1 (w1.alloc (.cells #[.int .i64 0] 102)):=(Below.refl _ _).alloc (ai _) _
   have hP2:=Ar hP hba
   obtain⟨A,c,rfl,hH⟩:=Nz hP2
   obtain⟨He,hs2⟩:=hsm ps hl rfl (fun p hp=>by cases hp)
   have aiG:ps.length≤s.size:=by simpa using hs2
   have hK:=Tryz.GW A c ps (w1.alloc (.cells #[.int .i64 0] 102)) (by omega) (fun p hp=>by obtain⟨x1,x2,x3⟩:=He p hp; exact⟨by omega,by omega,by omega⟩) hH
   obtain⟨ce,hce⟩:∃ ce,gQ ps=ce:=⟨_,rfl⟩
   simp only[hce] at hr hK
   clear hce
   have hP3:=Lib.hid (fun w' h=>Ar (w':=w') hP2 h)
   have hba:=Lib.hid (xD.out.trans (hba.mono xD.out.size))
   have hr:=Lib.hid hr
   clear hP hP2 hH He hs2 hC hsm
   go_wp2_with (go_at_call 53; refine(aec _ _).mono ?_)
   rintro e w2 ⟨rfl,rfl⟩
   go_wp2_with (go_at_call 21; refine hK.mono ?_)
   rintro e w3 ⟨rfl,E6⟩
   have hP4:=Lib.hid (hP3.out w3 E6)
   have On:=Lib.hid (hba.out.trans (E6.mono (by have:=xD.out.size; simp; omega)))
   clear E6
   go_wp2
   ·have h:=‹(ce !=0)=true›
    go_ret3
    rw[← hr.out,if_neg (by simpa using h)]
    exact⟨On.out,_,rfl,DL _ _⟩
   ·have h:=‹(ce !=0)=false›
    go_ret3
    rw[← hr.out,if_pos (by simpa using h)]
    exact⟨On.out,_,rfl,hP4.out⟩
  | inr n =>
   subst hq
   have ha:=aed n ⟨w1.heap.size,0,none⟩ (.int .i64 0) (w1.alloc (.cells #[.int .i64 0] 102)) ((World.cell?_alloc_past _ _ _ (Tryz.gT X6.out)).trans X6.out) qM (World.frozen?_alloc_at _ _ _ _ rfl)
   have hr:=Lib.hid hr
   clear hsm hC
   have hba:Below w1.heap.size w1 (((((w1.alloc (.cells #[.int .i64 0] 102)).alloc (Tw ⟨w1.heap.size,0,none⟩)).alloc (Jj (w1.alloc (.cells #[.int .i64 0] 102)))).alloc (Jj (w1.alloc (.cells #[.int .i64 0] 102)))).alloc (.cells #[.int .i64 n] 102)):=(((((Below.refl _ _).alloc (ai _) _).alloc (by simp) _).alloc (by simp; omega) _).alloc (by simp; omega) _).alloc (by simp; omega) _
   have X7:=hba.setCell (p:=⟨w1.heap.size,0,none⟩) (ai _) (.int .i64 n)
   have hcx:((((((w1.alloc (.cells #[.int .i64 0] 102)).alloc (Tw ⟨w1.heap.size,0,none⟩)).alloc (Jj (w1.alloc (.cells #[.int .i64 0] 102)))).alloc (Jj (w1.alloc (.cells #[.int .i64 0] 102)))).alloc (.cells #[.int .i64 n] 102)).setCell ⟨w1.heap.size,0,none⟩ (.int .i64 n)).cell? ⟨w1.heap.size,0,none⟩=some (.int .i64 n):=by
    exact World.cell?_setCell_same _ _ _ (show _=some (Value.int .i64 0) by
     rw[World.cell?_alloc_past _ _ _ (by simp; omega),World.cell?_alloc_past _ _ _ (by simp; omega),World.cell?_alloc_past _ _ _ (by simp; omega),World.cell?_alloc_past _ _ _ (by simp)]
     exact qM)
   generalize (((((w1.alloc (.cells #[.int .i64 0] 102)).alloc (Tw ⟨w1.heap.size,0,none⟩)).alloc (Jj (w1.alloc (.cells #[.int .i64 0] 102)))).alloc (Jj (w1.alloc (.cells #[.int .i64 0] 102)))).alloc (.cells #[.int .i64 n] 102)).setCell ⟨w1.heap.size,0,none⟩ (.int .i64 n)=W at ha X7 hcx
   have X7:=Lib.hid (xD.out.trans (X7.mono xD.out.size))
   clear hba
   go_wp2_with (go_at_call 53; refine ha.mono ?_)
   rintro e w2 ⟨rfl,rfl⟩
   go_wp2
   go_region
   all_goals go_wp2
   all_goals go_ret3
   all_goals rw[← hr.out]
   all_goals exact⟨X7.out.drew,_,rfl,DL _ _⟩
end Go.Proofs
namespace Go.Di
open Go Go.Conc Go.Co Go.Proofs Go.RowKit
variable {aa:Machine->Trace->Prop} {x:Cx} {w':World}
def Dc(ps:dk):Bool:=decide (ps.length<=1000)&&ps.all λp=>decide (p.u.length<=1000)&&decide (p.l.length<=1000)&&decide (p.q.length<=1000)
theorem Q8{ps:dk}(h:Dc ps=true):ps.length<=1000/\(∀p∈ps,Small p)/\∀p∈ps,p.q.length<=1000:=by simp only[Dc,aC,bP,aR]at h;exact⟨h.1,λp hp=>by obtain⟨⟨q1,q2⟩,q3⟩:=h.2 p hp;exact⟨U,U,U⟩,λp hp=>(h.2 p hp).2⟩
def Cn:DV->Option DV
 |.sl rows _ _=>match Mm rows with
  |some ps=>if Dc ps then some (.tup [sv (iR ps).1,.val (.int .i64 (iR ps).2)])else none
  |none=>none
 |_=>none
theorem Lg{a d:DV}(h:Cn a=some d){vals:Array Value}(hR:Rel x)(ha:fZ x [a] vals):eR Tryz.prog aa x 10 vals λy u=>y.S=x.S/\Rel y/\bE x y/\RV y d u:=by
 unfold Cn at h;split at h;split at h;rename_i ps hps;split at h;rename_i hs;cases h;obtain⟨u,rfl,h1⟩:=Pt ha;obtain⟨A,c,rfl,hH⟩:=RA h1 hps;obtain⟨s1,s2,s3⟩:=Q8 hs;refine uo (R:=λv w'=>v=.tuple #[.string ⟨(iR ps).1.toArray⟩,.int .i64 (iR ps).2]/\∃τ,Below (x.w.re τ 0).heap.size (x.w.re τ 0) w') jC Tryz.func10 rfl (λτ=>(Tryz.QO A c ps (x.w.re τ 0) s2 s1 hH s3).mono ?_) λv w' hp τ d=>?_;rintro e w' ⟨rfl,hb⟩;exact⟨_,rfl,rfl,τ,hb⟩;obtain⟨rfl,τ',hb⟩:=hp;have p1:x.w.heap.size<=(w'.re τ d).heap.size:=hb.size;have p2:(w'.re τ d).os=x.w.os/\(w'.re τ d).output=x.w.output:=⟨hb.os,hb.output⟩;have p3:∀b,b<x.w.heap.size->(w'.re τ d).heap[b]? =x.w.heap[b]? :=hb.block;refine⟨x.grow _,rfl,rfl,WG hR p1 p2 p3,Se hR p1 p2 p3,.tup rfl λj c hc=>?_⟩
 match j,hc with
 |0,hc=>cases hc;exact .val rfl
 |1,hc=>cases hc;exact .val rfl
 cases h;cases h;cases h
def Cy:DV->Option DV
 |.val (.string s)=>if s.size<=100000 then some (.tup [.sl ((jH s).1.map Ql) none ⟨false,none⟩,.val (.int .i64 (jH s).2.1),.val (.int .i64 (jH s).2.2)])else none
 |_=>none
theorem Ly{a d:DV}(h:Cy a=some d){vals:Array Value}(hR:Rel x)(ha:fZ x [a] vals):eR Tryz.prog aa x 14 vals λy u=>y.S=x.S/\Rel y/\bE x y/\RV y d u:=by
 unfold Cy at h;split at h;rename_i s;split at h;rename_i hs;cases h;obtain⟨u,rfl,h1⟩:=Pt ha;cases oM h1;obtain⟨m,hm⟩:=hR.glob.2.2;refine uo (R:=λv w'=>∃τ,G3 (x.w.re τ 0) (jH s) (.returned v) w') jC Tryz.func14 rfl (λτ=>(Tryz.Rq s m (x.w.re τ 0) hs hm hR.glob.1.2).mono ?_) λv w' hp τ d=>?_;intro e w' hp;obtain⟨v,rfl,-⟩:=hp.2;exact⟨_,rfl,τ,hp⟩;obtain⟨τ',hb,v',e,hP⟩:=hp;cases e;have p1:x.w.heap.size<=(w'.re τ d).heap.size:=hb.size;have p2:(w'.re τ d).os=x.w.os/\(w'.re τ d).output=x.w.output:=⟨hb.os,hb.output⟩;have p3:∀b,b<x.w.heap.size->(w'.re τ d).heap[b]? =x.w.heap[b]? :=hb.block;have hP':Fo (w'.re τ d) x.w.heap.size v' (jH s).1:=hP;refine⟨x.laid _,rfl,rfl,WE hR p1 p2 p3,Gx hR p1 p2 p3,.tup rfl λj c hc=>?_⟩
 match j,hc with
 |0,hc=>cases hc;exact Rb hP'
 |1,hc=>cases hc;exact .val rfl
 |2,hc=>cases hc;exact .val rfl
 cases h;cases h
end Go.Di
namespace Go.Di
open Go Go.Conc Go.Co Go.Proofs
variable {aa:Machine->Trace->Prop}
def qw:bR:=λf args=>match f,args with
 |10,[a]=>Cn a
 |14,[a]=>Cy a
 |64,[a,b]=>MF a b
 |124,[a]=>ab7 a
 |_,_=>none
theorem jq:xW Tryz.prog aa qw:=by intro f args v h _ _ x vals hR ha;unfold qw at h;split at h;exact Lg h hR ha;exact Ly h hR ha;exact Lp h hR ha;exact Rh h hR ha;cases h
end Go.Di
namespace Go.Di
open Go Go.Conc Go.Co Go.Proofs
variable {aa:Machine->Trace->Prop} {x:Cx}
theorem adb(P:Program)(g:Tmp->TypeId->Nat):jP P ⟨TW P,g⟩:=λ_ _ h=>h
theorem aa5:jP Tryz.prog TyH:=adb _ _
theorem Gz:Tryz.prog.follows .mixedOrders=true:=by kernel_rfl
mutual
def DV.eqb:DV->DV->Bool
 |.val (.int k n),.val (.int k' n')=>decide (k=k')&&decide (n=n')
 |.val (.bool b),.val (.bool b')=>b==b'
 |.agg l,.agg l'=>DV.Jv l l'
 |.tup l,.tup l'=>DV.Jv l l'
 |.sl l none ⟨f,i⟩,.sl l' none ⟨f',i'⟩=>f==f'&&decide (i=i')&&DV.Jv l l'
 |_,_=>false
def DV.Jv:cj->cj->Bool
 |[],[]=>true
 |d::l,d'::l'=>DV.eqb d d'&&DV.Jv l l'
 |_,_=>false
end
mutual
theorem VB:∀d d':DV,DV.eqb d d'=true->d=d':=by
 intro d d' h;unfold DV.eqb at h;split at h;simp at h;obtain⟨rfl,rfl⟩:=h;rfl
 simp at h;subst h;rfl
 rw[yj _ _ h];rw[yj _ _ h];simp at h;obtain⟨⟨rfl,rfl⟩,h⟩:=h;rw[yj _ _ h]
 cases h
theorem yj:∀l l':cj,DV.Jv l l'=true->l=l':=by
 intro l l' h;unfold DV.Jv at h;split at h;rfl;simp at h;rw[VB _ _ h.1,yj _ _ h.2]
 cases h
end
abbrev Row:=FuncId×cj×DV
def more(cE:bR)(rows:List Row):bR:=λf args=>match rows.find? (λr=>decide (r.1=f)&&DV.Jv r.2.1 args)with
 |some r=>some r.2.2
 |none=>cE f args
def Qj(P:Program)(aa:Machine->Trace->Prop)(r:Row):Prop:=
 ∀x vals,Rel x->fZ x r.2.1 vals->eR P aa x r.1 vals λy u=>y.S=x.S/\Rel y/\bE x y/\RV y r.2.2 u
theorem PA{P:Program}{cE:bR}{rows:List Row}(ht:xW P aa cE)(h:∀r∈rows,Qj P aa r):xW P aa (more cE rows):=by intro f args v h1 hp hv x vals hR ha;unfold more at h1;split at h1;rename_i r hr;cases h1;have h2:=List.find?_some hr;simp only[aC,bP]at h2;obtain⟨rfl,h3⟩:=h2;cases yj _ _ h3;exact h r (List.mem_of_find?_eq_some hr) x vals hR ha;exact ht f args v h1 hp hv x vals hR ha
noncomputable def Oh (cE:bR)(L n:Nat)(r:Row):Bool:=r.2.1.all DV.pure&&match lK cE (dU Tryz.prog TyH cE L n).1 r.1 r.2.1 with
 |some v=>DV.eqb r.2.2 v
 |none=>false
theorem er{cE:bR}{L n:Nat}{r:Row}(ht:xW Tryz.prog aa cE)(h:Oh cE L n r=true):Qj Tryz.prog aa r:=by unfold Oh at h;simp only[aC]at h;obtain⟨hp,h⟩:=h;split at h;rename_i v hv;cases VB _ _ h;exact(MT ht (Ea jC Gz aa5 ht n).1 r.1 r.2.1 _ hv hp).2;cases h
abbrev ii(n:Int):DV:=.val (.int .i64 n)
abbrev bb(b:Bool):DV:=.val (.bool b)
abbrev sn:SF:=⟨false,some false⟩
abbrev su:SF:=⟨false,none⟩
abbrev va:DV:=(.agg [(.sl [(ii (0)),(ii (0)),(ii (0)),(ii (0))] none sn),(.sl [(ii (1)),(ii (2)),(ii (1)),(ii (3))] none sn),(ii (0)),(.sl [(ii (0))] none sn)])
abbrev vb:DV:=(.agg [(.sl [(ii (4)),(ii (3)),(ii (4)),(ii (2))] none sn),(.sl [(ii (0)),(ii (1)),(ii (0)),(ii (0))] none sn),(ii (0)),(.sl [(ii (0)),(ii (1)),(ii (2)),(ii (3))] none sn)])
abbrev abc:Row:=(17,[],va)
abbrev abb:Row:=(18,[],vb)
abbrev abh:Row:=(24,[va,vb,(ii (0))],(.tup [(.agg [(ii (5)),(ii (5))]),(ii (0))]))
abbrev abi:Row:=(26,[(.sl [va,vb] none sn),(ii (0)),(ii (1))],(.tup [(.sl [(.agg [(ii (0)),(ii (0)),(ii (0))]),(.agg [(ii (0)),(ii (2)),(ii (-1))])] none su),(ii (0))]))
abbrev abj:Row:=(27,[(.sl [va,vb] none sn),(ii (0)),(ii (1))],(.tup [(ii (2)),(ii (0))]))
abbrev abg:Row:=(32,[(.sl [va,vb] none sn)],(.tup [(.sl [(.agg [(ii (0)),(ii (0)),(ii (0))]),(.agg [(ii (1)),(ii (0)),(ii (0))])] none su),(ii (0))]))
abbrev abd:Row:=(33,[(.sl [va,vb] none sn),(.sl [(.agg [(ii (0)),(ii (0)),(ii (0))]),(.agg [(ii (1)),(ii (0)),(ii (1))])] none sn)],(.tup [(ii (1)),(ii (0))]))
abbrev abf:Row:=(39,[(.sl [va,vb] none sn)],(.tup [(.sl [(.sl [(ii (0)),(ii (0))] none sn),(.sl [(ii (1)),(ii (1))] none sn)] none su),(ii (0))]))
abbrev aba:Row:=(40,[(.sl [(.agg [(ii (0)),(ii (0)),(ii (0))]),(.agg [(ii (0)),(ii (2)),(ii (-1))])] none su),(.sl [(.agg [(ii (0)),(ii (0)),(ii (0))]),(.agg [(ii (0)),(ii (2)),(ii (-1))])] none sn)],(bb true))
abbrev abe:Row:=(34,[(.sl [(.agg [(ii (0)),(ii (0)),(ii (0))]),(.agg [(ii (1)),(ii (0)),(ii (0))])] none su),(.sl [(.agg [(ii (0)),(ii (0)),(ii (0))]),(.agg [(ii (1)),(ii (0)),(ii (0))])] none sn)],(bb true))
abbrev aa9:Row:=(30,[(.sl [(.sl [(ii (0)),(ii (0))] none sn),(.sl [(ii (1)),(ii (1))] none sn)] none su),(.sl [(.sl [(ii (0)),(ii (0))] none sn),(.sl [(ii (1)),(ii (1))] none sn)] none sn)],(bb true))
theorem afh:Oh qw 100 40 abc=true:=by decide+kernel
theorem afg:Oh qw 100 40 abb=true:=by decide+kernel
theorem afm:Oh qw 100 40 abh=true:=by decide+kernel
theorem afo:Oh qw 100 40 abi=true:=by decide+kernel
theorem afp:Oh qw 100 40 abj=true:=by decide+kernel
theorem afl:Oh qw 100 40 abg=true:=by decide+kernel
theorem afi:Oh qw 100 40 abd=true:=by decide+kernel
theorem afk:Oh qw 100 40 abf=true:=by decide+kernel
theorem aff:Oh qw 100 40 aba=true:=by decide+kernel
theorem afj:Oh qw 100 40 abe=true:=by decide+kernel
theorem afe:Oh qw 100 40 aa9=true:=by decide+kernel
abbrev MI:List Row:=[abc,abb,abh,abi,abj,abg,abd,abf,aba,abe,aa9]
theorem afn:Oh (more qw MI) 100 2 (7,[],bb true)=true:=by decide+kernel
theorem V3:xW Tryz.prog aa (more qw MI):=PA jq (by intro r hr;simp only[MI,aX,ez,or_false]at hr;rcases hr with rfl|rfl|rfl|rfl|rfl|rfl|rfl|rfl|rfl|rfl|rfl;exact er jq afh;exact er jq afg;exact er jq afm;exact er jq afo;exact er jq afp;exact er jq afl;exact er jq afi;exact er jq afk;exact er jq aff;exact er jq afj;exact er jq afe)
def Hq:bR:=more qw [(7,[],bb true)]
theorem ZL:xW Tryz.prog aa Hq:=PA jq (by intro r hr;simp only[aX,ez,or_false]at hr;subst hr;exact er V3 afn)
end Go.Di
namespace Go.Proofs
open Go.RowKit
theorem IC{n:Int}(h:0<=n/\n<=9):((UInt8.ofNat (48+n.toNat)).toNat:Int)=48+n:=by rw[UInt8.toNat_ofNat'];omega
theorem yL{l:br}(h:∀n∈l,0<=n/\n<=9):fR (kS l)=(l,!l.isEmpty):=by
 have h1:(kS l).all LZ=true:=by rw[aR];intro b hb;obtain⟨n,hn,rfl⟩:=eO.1 hb;have:=IC (h n hn);have h2:=h n hn;simp only[LZ,aC,bP];omega
 have h2:zy (kS l)=l:=by
  unfold zy kS;rw[nV]
  conv=>rhs;rw[<-List.map_id l]
  refine List.map_congr_left λn hn=>?_;have:=IC (h n hn);simp only[oa,id];omega
 rw[KD h1,h2];cases l<;>rfl
theorem index_one:∀(a b:List UInt8)(c:UInt8),c∉a->Lib.index (a++c::b) [c]=a.length
 |[],b,c,_=>by simp[Lib.index,List.isPrefixOf]
 |x::a,b,c,h=>by have hx:c≠x:=λe=>h (by simp[e]);have ha:c∉a:=λe=>h (by simp[e]);have:=index_one a b c ha;rw[j9];unfold Lib.index;rw[if_neg (by simp[List.isPrefixOf,hx]),this,if_neg ab];simp
theorem ad1{a b:List UInt8}{c:UInt8}(h:c∉a):Lib.cut (a++c::b) [c]=(a,b,true):=by unfold Lib.cut;rw[index_one a b c h,if_pos U];simp
theorem pQ{l:br}(h:∀n∈l,0<=n/\n<=9){c:UInt8}(hc:c.toNat<48):c∉kS l:=λhm=>by obtain⟨n,hn,rfl⟩:=eO.1 hm;have:=IC (h n hn);have:=(h n hn).1;omega
end Go.Proofs
namespace Go.Proofs
open Go.RowKit
theorem extract_mk(l:List UInt8)(i j:Nat):(⟨l.toArray⟩:ByteArray).extract i j=⟨((l.take j).drop i).toArray⟩:=by apply Go.WideShapes.bytes_inj;rw[ByteArray.data_extract];simp[Array.toList_extract,List.extract_eq_take_drop,List.drop_take]
theorem wO{a b:List UInt8}(h:(47:UInt8)∉a)(k:Nat):Lib.splitB ⟨#[47]⟩ 0 (k+1) ⟨(a++47::b).toArray⟩=⟨a.toArray⟩::Lib.splitB ⟨#[47]⟩ 0 k ⟨b.toArray⟩:=by
 have hi:Lib.indexB ⟨(a++47::b).toArray⟩ ⟨#[47]⟩=a.length:=by show Lib.index (a++47::b) [47]=a.length;exact index_one a b 47 h
 rw[Lib.splitB_hit _ _ _ _ _ hi,extract_mk,extract_mk];congr 2;simp;congr 1;rw[size_mk];show(((a++47::b).take (a++47::b).length).drop (a.length+1)).toArray=_;rw[mF];simp
theorem NF{a b c d:List UInt8}(ha:(47:UInt8)∉a)(hb:(47:UInt8)∉b)(hc:(47:UInt8)∉c)(hd:(47:UInt8)∉d):
  jS ⟨(a++47::(b++47::(c++47::d))).toArray⟩=[⟨a.toArray⟩,⟨b.toArray⟩,⟨c.toArray⟩,⟨d.toArray⟩]:=by
 unfold jS;have hn:Lib.countB ⟨(a++47::(b++47::(c++47::d))).toArray⟩ ⟨#[47]⟩=3:=by show Lib.count (a++47::(b++47::(c++47::d))) [47]=3;rw[Lib.count_one];simp[List.count_append,List.count_cons,List.count_eq_zero_of_not_mem ha,List.count_eq_zero_of_not_mem hb,List.count_eq_zero_of_not_mem hc,List.count_eq_zero_of_not_mem hd]
 rw[hn,wO ha,wO hb,wO hc];rfl
theorem yO(p:PM):kD p=kS p.u++47::(kS p.l++47::(kS [p.w]++47::kS p.q)):=by simp[kD]
theorem Sn{p:PM}(hu:∀n∈p.u,0<=n/\n<=9)(hl:∀n∈p.l,0<=n/\n<=9)(hw:0<=p.w/\p.w<=9)(hq:∀n∈p.q,0<=n/\n<=9)(h1:p.u≠[])(h2:p.l≠[])(h3:p.q≠[]):lI (jS ⟨(kD p).toArray⟩)=some p:=by
 have SR:∀n∈[p.w],0<=n/\n<=9:=λn hn=>by simp only[bQ]at hn;subst hn;exact hw
 rw[yO,NF (pQ hu ae) (pQ hl ae) (pQ SR ae) (pQ hq ae)];have e:∀l:List UInt8,(⟨l.toArray⟩:ByteArray).data.toList=l:=λl=>rfl;simp only[lI,e,yL hu,yL hl,yL SR,yL hq];cases hu':p.u with
 |nil=>exact absurd hu' h1
 |cons a u=>
  cases jm:p.l with
  |nil=>exact absurd jm h2
  |cons b l=>
   cases Mb:p.q with
   |nil=>exact absurd Mb h3
   |cons c q=>cases p;simp_all
end Go.Proofs
namespace Go.Proofs
open Go.RowKit
theorem Xp{p:PM}(hu:∀n∈p.u,0<=n/\n<=9)(hl:∀n∈p.l,0<=n/\n<=9)(hw:0<=p.w/\p.w<=9)(hq:∀n∈p.q,0<=n/\n<=9):(10:UInt8)∉kD p:=by
 have SR:∀n∈[p.w],0<=n/\n<=9:=λn hn=>by simp only[bQ]at hn;subst hn;exact hw
 rw[yO];simp only[gV,aX,not_or];exact⟨pQ hu ae,ae,pQ hl ae,ae,pQ SR ae,ae,pQ hq ae⟩
theorem mZ(p:PM)(ps:dk):eu (p::ps)=kD p++10::eu ps:=by simp[eu]
def Good(p:PM):Prop:=(p.u≠[]/\p.l≠[]/\p.q≠[])/\(∀n∈p.u,0<=n/\n<=9)/\(∀n∈p.l,0<=n/\n<=9)/\(0<=p.w/\p.w<=9)/\(∀n∈p.q,0<=n/\n<=9)
theorem EL:∀(ps:dk)(acc:dk)(n:Int)(f:Nat),(eu ps).length<f->(∀p∈ps,Good p)->jW f ⟨(eu ps).toArray⟩ n acc=.inl (acc++ps)
 |_,_,_,0,h,_=>absurd h (Nat.not_lt_zero _)
 |[],acc,n,f+1,h,_=>by rw[jW,if_pos (by rfl)];simp
 |p::ps,acc,n,f+1,h,hg=>by
  obtain⟨⟨g1,g2,g3⟩,q1,q2,q3,q4⟩:=hg p ab;have hc:Lib.cut (⟨(eu (p::ps)).toArray⟩:ByteArray).data.toList [10]=(kD p,eu ps,true):=by show Lib.cut (eu (p::ps)) [10]=_;rw[mZ];exact ad1 (Xp q1 q2 q3 q4)
  rw[jW,if_neg (by rw[size_mk,mZ];simp),hc];simp only[Sn q1 q2 q3 q4 g1 g2 g3];rw[mZ]at h;rw[EL ps (acc++[p]) (n+1) f (by simp at h;omega) λq hq=>hg q (by simp[hq])];simp
theorem KV:∀(q:br)(m:Int),lJ (some m) q=0->(q.length:Int)<=max 0 (3-m)
 |[],m,_=>by simp;omega
 |x::q,m,h=>by
  rw[oV]at h;by_cases h1:x<0\/3<x;rw[if_pos h1]at h;exact absurd h ae;rw[if_neg h1]at h;by_cases hx:x<=m;simp[hx]at h;have h2:lJ (some x) q=0:=by simpa [hx]using h
  have:=KV q x h2;simp only[dA];omega
theorem Sv{q:br}(h:lJ none q=0):q.length<=4:=by
 cases q with
 |nil=>simp
 |cons x q=>
  rw[oV]at h;by_cases h1:x<0\/3<x;rw[if_pos h1]at h;exact absurd h ae;rw[if_neg h1]at h;have h2:lJ (some x) q=0:=by simpa using h
  have:=KV q x h2;simp only[dA];omega
end Go.Proofs
namespace Go.Proofs
open Go.RowKit
theorem EB{p:PM}(h:fU p=0):Good p/\(kD p).length<=24:=by
 unfold fU at h;split at h;exact absurd h ae;split at h;exact absurd h ae;split at h;exact absurd h ae;split at h;exact absurd h ae;split at h;exact absurd h ae;rename_i h1 h2 h3 h4 h5;split at h;exact absurd h ae;rename_i h6;have mo:∀l:br,l.all (AQ 9)=true->∀n∈l,0<=n/\n<=9:=λl hl n hn=>by have:=aR.1 hl n hn;simpa [AQ]using this
 have hq:=Sv h;refine⟨⟨⟨λe=>by rw[e]at h1;simp at h1,λe=>by rw[e]at h3;simp at h3,λe=>by rw[e]at h6;simp at h6⟩,mo _ (by simp only[not_or]at h5;simpa using h5.1),mo _ (by simp only[not_or]at h5;simpa using h5.2.1),U,uO _ _ h⟩,?_⟩;rw[yO];simp[kS];omega
theorem EK:∀{ps:dk},(∀p∈ps,(kD p).length<=24)->(eu ps).length<=25*ps.length
 |[],_=>by simp[eu]
 |p::ps,h=>by have:=EK (ps:=ps) λq hq=>h q (by simp[hq]);have h0:=h p ab;rw[mZ];simp;omega
theorem Na{ps:dk}(h:gQ ps=0):iR ps=(eu ps,0)/\jH ⟨(eu ps).toArray⟩=(ps,0,0):=by
 refine⟨by rw[iR,if_pos h],?_⟩;have h4:ps.length<=4/\xJ ps=0:=by unfold gQ at h;split at h;exact absurd h ae;exact⟨U,h⟩
 have hg:∀p∈ps,Good p/\(kD p).length<=24:=λp hp=>EB (M7 h4.2 p hp);have hs:=EK λp hp=>(hg p hp).2;rw[jH,if_neg (by rw[size_mk];omega),EL ps [] 1 _ (by rw[size_mk];omega) λp hp=>(hg p hp).1];simp only[gm,if_pos h]
end Go.Proofs
namespace Go.Proofs
open Go.RowKit
theorem index_spec:∀(l:List UInt8)(c:UInt8),0<=Lib.index l [c]->l=l.take (Lib.index l [c]).toNat++c::l.drop ((Lib.index l [c]).toNat+1)
 |[],c,h=>by simp[Lib.index]at h
 |x::l,c,h=>by
  unfold Lib.index at h⊢;by_cases hx:[c].isPrefixOf (x::l)=true;have e:c=x:=by simpa [List.isPrefixOf]using hx
  rw[if_pos hx];simp[e];rw[if_neg hx]at h⊢;have Hi:=Lib.index_ge l [c];by_cases hm:(Lib.index l [c]==-1)=true;rw[if_pos hm]at h;exact absurd h ae;rw[if_neg hm]at h⊢;have hne:Lib.index l [c]≠-1:=by simpa using hm
  have h0:0<=Lib.index l [c]:=U
  have ih:=index_spec l c h0;rw[show(Lib.index l [c]+1).toNat=(Lib.index l [c]).toNat+1 by omega];simp only[List.take_succ_cons,List.drop_succ_cons,j9];rw[<-ih]
theorem XJ{t:List UInt8}{c:UInt8}(h:(Lib.cut t [c]).2.2=true):t=(Lib.cut t [c]).1++c::(Lib.cut t [c]).2.1:=by unfold Lib.cut at h⊢;split;rename_i h0;exact index_spec t c h0;rename_i h0;rw[if_neg h0]at h;cases h
def J:List (List UInt8)->List UInt8
 |[]=>[]
 |[a]=>a
 |a::b::r=>a++47::J (b::r)
theorem Wb(k:Nat)(s:ByteArray):∃b r,Lib.splitB ⟨#[47]⟩ 0 k s=b::r:=by
 cases k with
 |zero=>exact⟨_,_,rfl⟩
 |succ k=>unfold Lib.splitB;split;exact⟨_,_,rfl⟩;exact⟨_,_,rfl⟩
theorem Em:∀(k:Nat)(s:ByteArray),J ((Lib.splitB ⟨#[47]⟩ 0 k s).map (·.data.toList))=s.data.toList
 |0,s=>rfl
 |k+1,s=>by
  by_cases h:Lib.indexB s ⟨#[47]⟩=-1;rw[Lib.splitB_miss _ _ _ _ h];rfl;have h0:0<=Lib.index s.data.toList [47]:=by have:=Lib.index_ge s.data.toList [47];have h':Lib.index s.data.toList [47]≠-1:=h;omega
  have hi:Lib.indexB s ⟨#[47]⟩=((Lib.index s.data.toList [47]).toNat:Int):=by show Lib.index s.data.toList [47]=_;omega
  have hsp:=index_spec _ _ h0;have hs:s=⟨s.data.toList.toArray⟩:=rfl;rw[Lib.splitB_hit _ _ _ _ _ hi];generalize(Lib.index s.data.toList [47]).toNat=i at hsp;have e1:(s.extract 0 (i+0)).data.toList=s.data.toList.take i:=by rw[hs,extract_mk];simp
  have e2:(s.extract (i+(⟨#[47]⟩:ByteArray).size) s.size).data.toList=s.data.toList.drop (i+1):=by have:s.size=s.data.toList.length:=eB.symm;rw[this];rw[hs,extract_mk];show((s.data.toList.take s.data.toList.length).drop (i+1))=_;rw[mF]
  obtain⟨b,r,hb⟩:=Wb k (s.extract (i+(⟨#[47]⟩:ByteArray).size) s.size);have ih:=Em k (s.extract (i+(⟨#[47]⟩:ByteArray).size) s.size);rw[hb]at ih⊢;simp only[bg,J]at ih⊢;rw[ih,e1,e2];exact hsp.symm
theorem ve{l:List UInt8}(h:(fR l).2=true):kS (fR l).1=l/\∀n∈(fR l).1,0<=n/\n<=9:=by
 unfold fR at h⊢;split
 .rename_i ha;rw[aR]at ha;refine⟨?_,λn hn=>?_⟩
  .show(zy l).map _=l;unfold zy;rw[nV]
   conv=>rhs;rw[<-List.map_id l]
   refine List.map_congr_left λb hb=>?_;have:=ha b hb;simp only[LZ,aC,bP]at this;simp only[oa,id];apply UInt8.toNat_inj.1;rw[UInt8.toNat_ofNat'];omega
  obtain⟨b,hb,rfl⟩:=eO.1 hn;have:=ha b hb;simp only[LZ,aC,bP]at this;omega
 rename_i ha;rw[if_neg ha]at h;cases h
end Go.Proofs
namespace Go.Proofs
open Go.RowKit
theorem NP{s:ByteArray}{p:PM}(h:lI (jS s)=some p):kD p=s.data.toList:=by
 have hj:J ((jS s).map (·.data.toList))=s.data.toList:=Em _ _;generalize jS s=ps at h hj;unfold lI at h;split at h;rename_i a b c d;split at h;rename_i hc;cases h;simp only[aC,dL]at hc;obtain⟨⟨⟨⟨ha,hb⟩,hcc⟩,hlen⟩,hd⟩:=hc;have e:[(fR c.data.toList).1.getD 0 0]=(fR c.data.toList).1:=by
  match(fR c.data.toList).1,hlen with
  |[z],_=>rfl
 rw[yO];simp only[e,(ve ha).1,(ve hb).1,(ve hcc).1,(ve hd).1];simpa [J]using hj;cases h;cases h
theorem Eh:∀(f:Nat)(t:ByteArray)(n:Int)(acc ps:dk),t.size<f->jW f t n acc=.inl ps->∃qs,ps=acc++qs/\eu qs=t.data.toList
 |0,_,_,_,_,h,_=>absurd h (Nat.not_lt_zero _)
 |f+1,t,n,acc,ps,hf,h=>by rw[jW]at h;split at h;rename_i h0;cases h;have:t.data.toList=[]:=List.length_eq_zero_iff.1 (by rw[eB];exact h0);exact⟨[],ab,by rw[this];rfl⟩;have hc:=CG t.data.toList;rw[show t.data.toList.length=t.size from eB]at hc;split at h;rename_i _ p hp hk;obtain⟨qs,e1,e2⟩:=Eh f _ _ _ ps (by rw[size_mk];have:=hc.2 hk;omega) h;refine⟨p::qs,by rw[e1];simp,?_⟩;rw[mZ,e2,NP hp];exact(XJ hk).symm;cases h
theorem Nt{t:ByteArray}{ps:dk}{n:Int}(h:jH t=(ps,n,0)):iR ps=(t.data.toList,0)/\gQ ps=0:=by unfold jH at h;split at h;simp at h;split at h;simp at h;rename_i qs hq;split at h;rename_i hc;simp only[ay]at h;obtain⟨rfl,-,-⟩:=h;obtain⟨rs,e1,e2⟩:=Eh _ _ _ _ _ U hq;simp only[gm]at e1;subst e1;exact⟨by rw[iR,if_pos hc,e2],hc⟩;rename_i hc;simp only[ay]at h;exact absurd h.2.2 hc
end Go.Proofs
namespace Go.Tv
open Go Go.Di Go.Conc Go.Co Go.Proofs
variable {aa:Machine->Trace->Prop} {x:Cx}
theorem OU:QJ Hq where
 other:=λf a h1 h2 h3 h4 h5=>by
  have:qw f a=none:=by unfold qw;split;exact absurd rfl h4;exact absurd rfl h5;exact absurd rfl h1;exact absurd rfl h2;rfl
  simp[Hq,more,Ne.symm h3,this]
 fit:=by simp[Hq,more,DV.Jv,bb]
def rowsOf(wC:br):cj:=wC.map λn=>.val (.int .i64 n)
theorem yF:∀wC:br,dZ (CR nC) nC.agg wC (rowsOf wC)
 |[]=>trivial
 |n::l=>⟨⟨rfl,λl h=>ao⟩,yF l⟩
theorem vg:∀{l:br}{rows:cj},dZ (CR nC) nC.agg l rows->rows=rowsOf l
 |[],[],_=>rfl
 |[],_::_,h=>h.elim
 |_::_,[],h=>h.elim
 |n::l,r::rows,h=>by
  obtain⟨⟨h1,h2⟩,h3⟩:=h;rw[vg h3];have h1:r.cells=[.val (.int .i64 n)]:=h1;have:r=.val (.int .i64 n):=by
   cases r<;>simp only[DV.cells]at h1<;>first|(cases h1;rfl)|(cases h1;done)|exact(h2 rfl _ rfl).elim|skip
   all_goals exact(h2 _ rfl).elim
  rw[this];rfl
def ru(p:PD):PM:=⟨p.1,p.2.1,p.2.2.1,p.2.2.2.1⟩
def T4(p:PM):PD:=(p.u,p.l,p.w,p.q,())
theorem aaa(ps:dk):(ps.map T4).map ru=ps:=by rw[nV];exact List.map_id _
theorem aad(l:cJ):(l.map ru).map T4=l:=by rw[nV];exact List.map_id _
def W10(l:cJ):ByteArray×Int:=(⟨(iR (l.map ru)).1.toArray⟩,(iR (l.map ru)).2)
def R14(s:ByteArray):cJ×Int×Int:=((jH s).1.map T4,(jH s).2.1,(jH s).2.2)
theorem We{l:cJ}(h:zJ l):Dc (l.map ru)=true:=by simp only[Dc,List.length_map,aC,bP,List.all_map,aR];refine⟨h.1,λp hp=>?_⟩;obtain⟨a,b,c⟩:=h.2 p hp;simp[ru,a,b,c]
theorem PN:∀l:br,tg (rowsOf l)=some l
 |[]=>rfl
 |n::l=>by have:=PN l;simp only[rowsOf,bg,tg]at this⊢;rw[this];rfl
theorem afq{p:PD}{r:DV}(h:CR eG p r.cells)(ha:vR eG.agg r):T3 r=some (ru p):=by
 obtain⟨c1,c2,e1,⟨r1,f1,rfl,k1⟩,d1,d2,rfl,⟨r2,f2,rfl,k2⟩,d3,d4,rfl,rfl,d5,d6,rfl,⟨r3,f3,rfl,k3⟩,rfl⟩:=h;obtain⟨m,rfl⟩:∃m,r=.agg m:=by cases r<;>first|exact⟨_,rfl⟩|(simp[DV.cells]at e1)
 have e1:m=_:=e1;rw[e1,vg k1,vg k2,vg k3];simp only[j9,gm,T3,PN];rfl
theorem Vg:∀{l:cJ}{rows:cj},dZ (CR eG) eG.agg l rows->Mm rows=some (l.map ru)
 |[],[],_=>rfl
 |[],_::_,h=>h.elim
 |_::_,[],h=>h.elim
 |p::l,r::rows,h=>by rw[Mm,afq h.1.1 h.1.2,Vg h.2];rfl
theorem O7:∀ps:dk,dZ (CR eG) eG.agg (ps.map T4) (ps.map Ql)
 |[]=>trivial
 |p::ps=>⟨⟨⟨[lM p.u],[lM p.l,.val (.int .i64 p.w),lM p.q],rfl,⟨_,_,rfl,yF p.u⟩,[lM p.l],[.val (.int .i64 p.w),lM p.q],rfl,⟨_,_,rfl,yF p.l⟩,[.val (.int .i64 p.w)],[lM p.q],rfl,rfl,[lM p.q],[],rfl,⟨_,_,rfl,yF p.q⟩,rfl⟩,⟨_,rfl⟩⟩,O7 ps⟩
theorem uO:∀{q:br}{p:Option Int},(∀n∈q,0<=n/\n<=3)->q.Pairwise (·<·)->(∀m,p=some m->∀n∈q,m<n)->lJ p q=0
 |[],p,_,_,_=>by cases p<;>rfl
 |n::q,p,h1,h2,h3=>by
  have r:=uO (p:=some n) (q:=q) (λk hk=>h1 k (by simp[hk])) (List.pairwise_cons.1 h2).2 λm hm k hk=>by cases hm;exact(List.pairwise_cons.1 h2).1 k hk
  have h0:=h1 n ab;rw[oV,if_neg U];cases p with
  |none=>simpa using r
  |some m=>have:=h3 m rfl n ab;simp only[bP];rw[if_neg U];exact r
theorem RB{p:PD}(h:YM p):fU (ru p)=0:=by
 obtain⟨n3,n8,len,hu,hl,w0,w2,ne,lie,asc⟩:=h;have e1:p.1.all (AQ 9)=true:=aR.2 λx hx=>by have:=hu x hx;simp[AQ];omega
 have e2:p.2.1.all (AQ 9)=true:=aR.2 λx hx=>by have:=hl x hx;simp[AQ];omega
 have e3:p.2.2.2.1.length≠0:=λh=>ne (List.length_eq_zero_iff.1 h);unfold fU ru;simp only[e1,e2];rw[if_neg U,if_neg U,if_neg U,if_neg U,if_neg (by simp;omega),if_neg e3];exact uO lie asc λm hm=>by cases hm
theorem Qe:∀{l:cJ},(∀p∈l,YM p)->xJ (l.map ru)=0
 |[],_=>rfl
 |p::l,h=>by rw[bg,xJ,if_pos (RB (h p ab))];exact Qe λq hq=>h q (by simp[hq])
theorem G1:∀{ps:dk},xJ ps=0->∀p∈ps,p.u.length<=24/\p.l.length<=24/\p.q.length<=24
 |[],_,_,hp=>by cases hp
 |q::ps,h,p,hp=>by rw[xJ]at h;split at h;rename_i h1;rcases aX.1 hp with rfl|hp;have:=(EB h1).2;simp[kD,kS]at this;exact⟨U,U,U⟩;exact G1 h p hp;rename_i h1;exact absurd h h1
theorem LU{ps:dk}(h:gQ ps=0):ps.length<=4/\∀p∈ps,p.u.length<=24/\p.l.length<=24/\p.q.length<=24:=by unfold gQ at h;split at h;exact absurd h ae;exact⟨U,G1 h⟩
theorem ZG:Uj Hq W10 R14 where
 w:=λl d hl h=>by cases d<;>simp only[RT]at h;rename_i rows tok f;refine⟨.tup [sv (iR (l.map ru)).1,.val (.int .i64 (iR (l.map ru)).2)],?_,rfl,?_⟩;simp[Hq,more,qw,Cn,Vg h.1,We hl];simp only[RT,cz];exact⟨rfl,rfl,trivial⟩
 r:=λs hs=>by refine⟨.tup [.sl ((jH s).1.map Ql) none ⟨false,none⟩,.val (.int .i64 (jH s).2.1),.val (.int .i64 (jH s).2.2)],?_,?_,?_⟩;simp[Hq,more,qw,Cy,hs];rfl;simp only[RT,cz];exact⟨⟨O7 _,trivial⟩,rfl,rfl,trivial⟩
 wr:=λl h4 hl=>by
  have hc:gQ (l.map ru)=0:=by rw[gQ,if_neg (by simp;omega)];exact Qe hl
  obtain⟨e1,e2⟩:=Na hc;have e3:jH (W10 l).1=(l.map ru,0,0):=by rw[W10,e1];exact e2
  refine⟨by rw[W10,e1],?_,by rw[R14,e3];show(List.map T4 (List.map ru l),(0:Int),(0:Int))=_;rw[aad]⟩;refine Classical.byContradiction λhn=>?_;rw[jH,if_pos U]at e3;exact absurd (congrArg (λx=>x.2.2) e3) (show¬((10:Int)=0)by decide)
 rw:=λs l n h=>by
  have e:jH s=(l.map ru,n,0):=by simp only[R14,ay]at h;obtain⟨rfl,rfl,h3⟩:=h;rw[aaa,<-h3]
  obtain⟨e1,e2⟩:=Nt e;refine⟨by rw[W10,e1],?_⟩;obtain⟨k1,k2⟩:=LU e2;rw[List.length_map]at k1;refine⟨U,λp hp=>?_⟩;obtain⟨a,b,c⟩:=k2 (ru p) (List.mem_map_of_mem hp);simp only[ru]at a b c;exact⟨U,U,U⟩
end Go.Tv
namespace Go.Di
open Go Go.Conc Go.Co Go.Proofs
variable {P:Program} {ty:fo} {x:Cx} {aD:bR} {call:aY} {yf:di}
structure tC (W w:World):Prop where
 os:w.os=W.os
 output:w.output=W.output
 block:∀k,k<W.heap.size->w.heap[k]? =W.heap[k]?
theorem V9{x y:Cx}(M:bE x y)(hS:x.S=[]):tC x.w y.w:=
 ⟨M.env.1,M.env.2,λk hk=>M.old k hk λi hi=>absurd (hS▸hi) (gv i)⟩
theorem tC.at {W w:World}(h:tC W w)(d:Nat):tC W (w.at d):=⟨h.os,h.output,h.block⟩
theorem ze{Post:Value->World->Prop}(hP:Plain P)(eV:jP P ty){x0:Cx}{b:Frame}{todo:List Item}{fn:Func}{env:cj}{l:cj}(hb:b.kind=.normal)(hf:P.funcs[b.fn]? =some fn)(hi:P.inits.idxOf? b.fn=none){Sr:aj}{u:Value}:
  ∀(ds:cx){a:Act}{x:Cx},x.S=Sr->Rel x->bE x0 x->fZ x env a.tmps->tF x0.S.length x ds a.defers->sQ ty env Sr fn.results.toList=some l->
   (∀y v,y.S=Sr->Rel y->bE x0 y->RV y (oneOf l) v->v=u/\Post u y.w)->iB P (B4 P Post) () (G {b.at a todo with mode:=.returning} []) x.w
 |[],a,x,hS,hR,hM,he,hd,hr,hn=>by
  have Mg:a.defers=[]:=hd.1;have key:∀n,(results fn a.tmps).run P (x.w.at n)=.ok u (x.w.at n)/\Post u (x.w.at n):=λn=>by obtain⟨v,h1,h2⟩:=Ev (x:=x.dr n) eV (hR.dr n) (he.mono (eM x n)) (l:=l) (by show sQ ty env x.S _=_;rw[hS];exact hr);obtain⟨rfl,h3⟩:=hn (x.dr n) v hS (hR.dr n) (hM.trans (eM x n)) h2;exact⟨h1,h3⟩
  exact adL (v:=u) (λd=>⟨rfl,Mg,hb,fn,hf,(key d).1⟩) hi λd=>(key d).2
 |id::ds,a,x,hS,hR,hM,he,hd,hr,hn=>by
  obtain⟨q1,q2,q3⟩:=hd;obtain⟨r1,r2,r3⟩:=q3 id ab;refine iG hP λn=>?_;have jM:=hR.dr n;have hM':=hM.trans (eM x n);obtain⟨t1,t2,t3⟩:=OX (x:=x.dr n) hM' jM r1 r2;have hg:=ja (P:=P) (w:=x.w.at n) (show(x.w.at n).heap[x.μ id]? =_ from r3) ab;have hs:=kA (P:=P) (w:=x.w.at n) (o:=.deferred none) (show(x.w.at n).heap[x.μ id]? =_ from r3) ab;have OA:(Instr.takeDeferred (x.μ id)).run P (x.w.at n)=.ok [] (cg (x.w.at n) (x.μ id) (.deferred none)):=by simp only[Instr.takeDeferred,Sem.run_bind,hg,Result.andThen_ok,hs,Sem.run_pure]
  obtain⟨es,hst⟩:=Pg (P:=P) (b:=b) (a:=a) (todo:=todo) (cs:=[]) (ds:=ds.map λid=>{target:=.collected (x.μ id),args:=#[]}) (by rw[q1];rfl) OA;refine⟨_,_,_,es,hst,?_⟩;have CN:=List.nodup_cons.1 q2;exact ze hP eV hb hf hi ds (x:={x.dr n with w:=cg (x.w.at n) (x.μ id) (.deferred none)}) (a:={a with defers:=ds.map λid=>{target:=.collected (x.μ id),args:=#[]}}) hS t1 t2 ⟨he.1,λj c hc=>t3 _ _ (RV.mono (eM x n) (he.2 j c hc))⟩
   ⟨rfl,CN.2,λi hi=>by obtain⟨u1,u2,u3⟩:=q3 i (by simp[hi]);have hne:x.μ i≠x.μ id:=λe=>CN.1 (hR.inj i id (aZ u2 ab) (aZ r2 ab) e▸hi);exact⟨u1,u2,(gB _ _ _ hne).trans u3⟩⟩ hr hn
theorem XT{Post:Value->World->Prop}(hP:Plain P)(eV:jP P ty)(hc:gJ P (B4 P Post) call)(lH:∀id ops draw,xX P (B4 P Post) ty aD call yf id ops draw){L:Nat}{f:FuncId}{fn:Func}(hf:P.funcs[f]? =some fn)(hi:P.inits.idxOf? f=none)
  {args:cj} {S S':aj} {v:DV} (h:vP P ty aD call yf L f fn args S=some (v,S'))
  {vals:Array Value} (hR:Rel x) (hS:x.S=S) (ha:fZ x args vals) {u:Value} (hu:∀y u',y.S=S'->Rel y->bE x y->RV y v u'->u'=u/\Post u y.w):iB P (B4 P Post) () (G (Frame.enter P f vals .normal) []) x.w:=by
 subst hS;unfold vP at h;split at h;rename_i c hb;rw[enter_at vals hf hb,<-Frame.atR_of_none (b:=base f) rfl];have he:fZ x (args++List.replicate (fn.ntmps-args.length) bD) (vals++Array.replicate (fn.ntmps-vals.size) undef):=by
  refine lZ ha ⟨by simp[ha.1],λj c hc=>?_⟩;rw[CL]at hc;split at hc;rename_i hj;cases hc;have:j<fn.ntmps-vals.size:=by rw[ha.1];exact hj
  have e:(Array.replicate (fn.ntmps-vals.size) undef).getD j undef=undef:=by simp[aU,this]
  rw[e];exact .val rfl;cases hc
 have key:∀e aK S1,cD P ty aD call yf L f false c (args++List.replicate (fn.ntmps-args.length) bD) x.S=some (e,aK,S1)->(e=.normal\/e=.ret)->(sQ ty aK S1 fn.results.toList).map (λl=>(oneOf l,S1))=some (v,S')->
   iB P (B4 P Post) () (G ((base f).atR {tmps:=vals++Array.replicate (fn.ntmps-vals.size) undef,defers:=[]} [.code c]) []) x.w:=by
  intro e aK S1 h1 he1 h2;simp only[af,ay]at h2;obtain⟨l,h3,rfl,rfl⟩:=h2;refine yT (n0:=x.S.length) (ds:=[]) (b:=base f) (cs:=[]) (iA:=false) hP hc (by simp[base]) rfl (λ_=>rfl) c (yI lH c) h1 hR he (AG _ _) (ai _) λy a' hU q1 q2 q3 q4 q5=>?_;have kz:∀todo,iB P (B4 P Post) () (G {(base f).at a' todo with mode:=.returning} []) y.w:=λtodo=>
   ze hP eV (x0:=x) (b:=base f) (env:=aK) (l:=l) (Sr:=S1) rfl hf hi hU q1 q2 q3 q4 q5 h3 λz u r1 r2 r3 r4=>hu z u r1 r2 r3 r4
  rcases he1 with rfl|rfl;show iB P (B4 P Post) () (G ((base f).atR a' []) []) y.w;rw[Frame.atR_of_none (b:=base f) rfl];exact fI hP (λw=>⟨_,stepG_end⟩) (kz _);intro k';rw[Frame.atR_of_none (b:=base f) rfl];exact fI hP (λw=>⟨_,stepG_ret'⟩) (kz _)
 split at h
 grind
 grind
 cases h;cases h
theorem Sk{S:aj}{v:DV}{b:Bool}(h:(iD S v).strip=.val (.bool b)):v=.val (.bool b):=by unfold iD at h;split at h;split at h;split at h<;>simp[DV.strip,DV.cT]at h;simp[DV.strip,DV.cT]at h;cases v<;>simp_all [DV.strip,DV.cT]
theorem NK{S:aj}{v:DV}{b:Bool}(h:(tf S v).strip=.val (.bool b)):v=.val (.bool b):=by
 have e:(∀l,v≠.agg l)->(∀l,v≠.tup l)->tf S v=iD S v:=λa b=>by cases v<;>first|rfl|exact(a _ rfl).elim|exact(b _ rfl).elim
 by_cases ha:∃l,v=.agg l;obtain⟨l,rfl⟩:=ha;simp[tf,sK,DV.strip,DV.cT]at h;by_cases ht:∃l,v=.tup l;obtain⟨l,rfl⟩:=ht;simp[tf,DV.strip]at h;rw[e (λl h=>ha ⟨l,h⟩) (λl h=>ht ⟨l,h⟩)]at h;exact Sk h
theorem VZ(hP:Plain P)(hm:P.follows .mixedOrders=true)(eV:jP P ty){cE:bR}(ht:∀aa,xW P aa cE){L n:Nat}{f:FuncId}{args:cj}{b:Bool}(h0:cE f args=none)(hi:P.inits.idxOf? f=none)
  (h:lK cE (dU P ty cE L (n+1)).1 f args=some (.val (.bool b))) {vals:Array Value} (hR:Rel x) (hS:x.S=[]) (ha:fZ x args vals):
  iB P (B4 P λv w=>v=.bool b/\tC x.w w) () (G (Frame.enter P f vals .normal) []) x.w:=by
 unfold lK at h;rw[h0]at h;simp only at h;split at h;rename_i v S' h1;split at h;simp only[aF]at h;have hv:v=.val (.bool b):=NK h;subst hv;simp only[dU]at h1;split at h1;rename_i fn hf;obtain⟨ihc,ihy⟩:=Ea (aa:=B4 P λv w=>v=.bool b/\tC x.w w) hP hm eV (ht _) (L:=L) n;have X5:=MT (ht _) ihc;have lH:∀id ops draw,xX P (B4 P λv w=>v=.bool b/\tC x.w w) ty (lK cE (dU P ty cE L n).1) (dU P ty cE L n).1 (dU P ty cE L n).2 id ops draw:=λid ops draw=>Ve hP hm eV ihc X5 ihy id ops draw;refine XT (u:=.bool b) hP eV ihc lH hf hi h1 hR hS ha λy u' q1 q2 q3 q4=>?_;cases q4;exact⟨rfl,rfl,V9 q3 hS⟩;cases h1;cases h;cases h
end Go.Di
