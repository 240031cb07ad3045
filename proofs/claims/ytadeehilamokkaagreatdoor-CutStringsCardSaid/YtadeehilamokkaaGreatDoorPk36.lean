import Derived.Test.YtadeehilamokkaaGreatDoorPk35
import Derived.Test.YtadeehilamokkaaGreatDoorPk34
import Derived.Test.YtadeehilamokkaaGreatDoorPk33
import Derived.Test.YtadeehilamokkaaGreatDoorPk05
import Derived.Test.YtadeehilamokkaaGreatDoorPk13
import Derived.Test.YtadeehilamokkaaGreatDoorPk22
set_option maxHeartbeats 2000000
set_option maxRecDepth 1000000
namespace Go.Proofs
open Go.RowKit
def Dv:dp->Int
 |[]=>0
 |p::l=>if gF p=0 then Dv l else gF p
def kA(ps:dp):Int:=if 4<ps.length then 6 else Dv ps
def Small(p:PM):Prop:=p.u.length<=1000000/\p.l.length<=1000000/\p.q.length<=1000000
theorem Fv{w w':World}{A:Option Addr}{ps:dp}(h:lz w A ps)(hb:Below w.heap.size w w'):lz w' A ps:=λhne=>by obtain⟨b,off,e,h1⟩:=h hne;refine⟨b,off,e,λj p hp=>?_⟩;obtain⟨A0,c0,A1,c1,A3,c3,⟨k0,k1,k2,k3⟩,i0,i1,i3⟩:=h1 j p hp;exact⟨A0,c0,A1,c1,A3,c3,⟨jR k0 hb,jR k1 hb,jR k2 hb,jR k3 hb⟩,eR i0 hb,eR i1 hb,eR i3 hb⟩
theorem Tryz.acv (A:Option Addr)(cap:Nat)(ps:dp)(w:World)(hl:ps.length<=1000000)(hs:∀p∈ps,Small p)(hR:lz w A ps):
  Calls Tryz.prog 56 #[.slice A ps.length cap] w λe w'=>e=.returned (.int .i64 (Dv ps))/\Below w.heap.size w w':=by
 have j3:=Lib.hid hR;have HX:=Lib.hid hs;clear hR hs;obtain⟨r,hr⟩:∃r,Dv ps=r:=⟨_,rfl⟩;rw[hr];have hr:=Lib.hid hr
 go_enter Tryz.func56,Tryz.ntmps56
 go_wp2
 go_loopw [8] (λi wr=>∃k:Nat,k<=ps.length/\i=.int .i64 (k:Int)/\Dv (ps.drop k)=r/\Below w.heap.size w wr) (λi _=>ps.length-(intOf i).toNat)
 case atStart=>exact⟨0,gm _,rfl,hr.out,Below.refl _ _⟩
 case round=>
  obtain⟨k,hk,rfl,hst,fB⟩:=hrel;by_cases ya:k<ps.length;obtain⟨b,off,rfl,hc⟩:=j3.out (λe=>by subst e;simp at ya);obtain⟨A0,c0,A1,c1,A3,c3,⟨k0,k1,k2,k3⟩,i0,i1,i3⟩:=hc k _ (aT ya);have hsm:=HX.out _ (iS ya);rw[jM ya,Dv]at hst;generalize hp:ps[k]=p at k0 k1 k2 k3 i0 i1 i3 hsm hst;have ZL:=Tryz.gZ k0;have g0:wr.cell? ⟨b,off+k*4,none⟩=some (.slice A0 p.u.length c0):=(fB.cell (p:=⟨b,off+k*4,none⟩) ZL).trans k0;have g1:wr.cell? ⟨b,off+k*4+1,none⟩=some (.slice A1 p.l.length c1):=(fB.cell (p:=⟨b,off+k*4+1,none⟩) ZL).trans k1;have g2:wr.cell? ⟨b,off+k*4+2,none⟩=some (.int .i64 p.w):=(fB.cell (p:=⟨b,off+k*4+2,none⟩) ZL).trans k2;have g3:wr.cell? ⟨b,off+k*4+3,none⟩=some (.slice A3 p.q.length c3):=(fB.cell (p:=⟨b,off+k*4+3,none⟩) ZL).trans k3;clear k0 k1 k2 k3 hc hp;have hst:=Lib.hid hst;have fB:=Lib.hid fB;have hbb:Below w.heap.size w (wr.alloc (.cells #[.slice A0 p.u.length c0,.slice A1 p.l.length c1,.int .i64 p.w,.slice A3 p.q.length c3] 42)):=fB.out.alloc fB.out.size _;have hP:=Tryz.Ta p A0 A1 A3 c0 c1 c3 (wr.alloc (.cells #[.slice A0 p.u.length c0,.slice A1 p.l.length c1,.int .i64 p.w,.slice A3 p.q.length c3] 42)) hsm.1 hsm.2.1 hsm.2.2 (eR i0 hbb) (eR i1 hbb) (eR i3 hbb);have hbb:=Lib.hid hbb;clear i0 i1 i3
  go_wp2_with (go_at_call 57;refine hP.mono ?_)
  rintro e w1 rfl yb;have uZ:=Lib.hid (hbb.out.trans (yb.mono (by have:=fB.out.size;omega)));clear yb hP g0 g1 g2 g3;generalize gF p=ep at hst
  go_wp2
  have h:=‹(ep !=0)=true›
  go_ret
  refine⟨?_,uZ.out⟩;rw[<-hst.out,if_neg (by simpa using h)];rfl;have h:=‹(ep !=0)=false›;exact⟨⟨k+1,ab,by go_num,by rw[<-hst.out,if_pos (by simpa using h)],uZ.out⟩,by simp[intOf];omega⟩;have Bt:k=ps.length:=ab
  subst Bt;rw[List.drop_length]at hst;have hst:=Lib.hid hst
  go_wp2
  go_ret
  refine⟨?_,fB⟩;rw[<-hst.out];rfl
theorem Tryz.HJ (A:Option Addr)(cap:Nat)(ps:dp)(w:World)(hl:ps.length<=1000000)(hs:∀p∈ps,Small p)(hR:lz w A ps):
  Calls Tryz.prog 21 #[.slice A ps.length cap] w λe w'=>e=.returned (.int .i64 (kA ps))/\Below w.heap.size w w':=by
 have hI:=Tryz.acv A cap ps w hl hs hR;obtain⟨r,hr⟩:∃r,kA ps=r:=⟨_,rfl⟩;rw[hr];have hr:=Lib.hid hr;clear hs hR;by_cases h4:4<ps.length
 go_enter Tryz.func21,Tryz.ntmps21
 go_wp2_with (go_at_call 56;refine hI.mono ?_)
 go_ret
 refine⟨?_,Below.refl _ _⟩;rw[<-hr.out,kA,if_pos h4];rfl
 go_enter Tryz.func21,Tryz.ntmps21
 go_wp2_with (go_at_call 56;refine hI.mono ?_)
 rintro e w1 ⟨rfl,hb⟩;have hb:=Lib.hid hb
 go_wp2
 go_ret
 refine⟨?_,hb.out⟩;rw[<-hr.out,kA,if_neg h4];rfl
end Go.Proofs
namespace Go.Proofs
open Go.RowKit
def lN(ps:dp):List UInt8×Int:=if kA ps=0 then(jf ps,0)else([],kA ps)
theorem QT:∀(q:cj)(m:Option Int),qg m q=0->∀n∈q,0<=n/\n<=9
 |[],_,_,n,h=>ar
 |x::q,m,h,n,hn=>by
  rw[Fe]at h;by_cases h1:x<0\/3<x;rw[if_pos h1]at h;exact absurd h ao;rw[if_neg h1]at h;have h2:qg (some x) q=0:=by
   cases m with
   |none=>simpa using h
   |some m=>by_cases hx:x<=m;simp[hx]at h;simpa [hx]using h
  rcases aV.1 hn with rfl|hn;omega;exact QT q _ h2 n hn
theorem Ei{p:PM}(hs:Small p)(h:gF p=0):(p.u.length<=8/\p.l.length<=8)/\(∀n∈p.u,0<=n/\n<=9)/\(∀n∈p.l,0<=n/\n<=9)/\(0<=p.w/\p.w<=9)/\(∀n∈p.q,0<=n/\n<=9):=by
 unfold gF at h;split at h;exact absurd h ao;split at h;exact absurd h ao;split at h;exact absurd h ao;split at h;exact absurd h ao;split at h;exact absurd h ao;rename_i h1 h2 h3 h4 h5;split at h;exact absurd h ao;have nQ:∀l:cj,l.all (FB 9)=true->∀n∈l,0<=n/\n<=9:=λl hl n hn=>by have:=aU.1 hl n hn;simpa [FB]using this
 refine⟨ab,nQ _ (by simp only[not_or]at h5;simpa using h5.1),nQ _ (by simp only[not_or]at h5;simpa using h5.2.1),ab,QT _ _ h⟩
theorem Xd:∀{ps:dp},Dv ps=0->∀p∈ps,gF p=0
 |[],_,p,h=>ar
 |q::ps,h,p,hp=>by unfold Dv at h;split at h;rename_i h0;rcases aV.1 hp with rfl|hp;exact h0;exact Xd h p hp;contradiction
theorem Tryz.Sc (A:Option Addr)(cap:Nat)(ps:dp)(w:World)(hs:∀p∈ps,Small p)(hl:ps.length<=1000)(hR:lz w A ps)(hq:∀p∈ps,p.q.length<=1000):
  Calls Tryz.prog 10 #[.slice A ps.length cap] w λe w'=>e=.returned (.tuple #[.string ⟨(lN ps).1.toArray⟩,.int .i64 (lN ps).2])/\Below w.heap.size w w':=by
 have hC:=Tryz.HJ A cap ps w ab hs hR;obtain⟨r,hr⟩:∃r,lN ps=r:=⟨_,rfl⟩;rw[hr];have hr:=Lib.hid hr;refine calls_of_wp (c:=Go.Di.y10) Tryz.func10 rfl ?_;rw[Go.Di.aez];simp only[Go.Di.adA,Go.Di.aeK,iT,cT,gr,Nat.reduceAdd,Nat.reduceSub,Array.replicate_succ,Array.replicate_zero,List.push_toArray,List.append_toArray,gu,gM];apply wp_seq_k;intro K hK;simp only[Go.Di.lft,Go.Di.y10,Tryz.f10]
 go_wp2
 simp only[Go.Di.lft,Go.Di.UJ,Go.Di.y10,Tryz.f10];by_cases h0:kA ps=0;rw[h0]at hC;have hd:∀p∈ps,p.Ok:=λp hp=>by
  have hE:Dv ps=0:=by unfold kA at h0;split at h0;exact absurd h0 ao;exact h0
  obtain⟨⟨l1,l2⟩,q⟩:=Ei (hs p hp) (Xd hE p hp);exact⟨⟨ab,ab,hq p hp⟩,q⟩
 have hd:=Lib.hid hd;have j3:=Lib.hid hR;have HX:=Lib.hid hs;have Rx:=Lib.hid hq;clear hR hs hq
 go_wp2_with (go_at_call 21;refine hC.mono ?_)
 rintro e w1 ⟨rfl,hb⟩;have hR2:=Lib.hid (Fv j3.out hb);have hb:=Lib.hid hb
 go_wp2
 refine Code.wp_mono ?_ (Tryz.N7 A cap ps w1 _ _ _ _ _ _ _ _ _ _ _ _ _ _ _ _ _ _ _ _ _ _ _ _ _ _ _ _ _ _ _ _ _ _ _ _ _ hl hd.out hR2.out);rintro e a' w' ⟨rfl,h2,h3,h4,h5⟩;refine bodyPost_ret (v:=.tuple #[.string ⟨(jf ps).toArray⟩,.int .i64 0]) ?_ h4 ⟨?_,hb.out.trans (h5.mono hb.out.size)⟩;rw[results_tmp2 rfl,h2,h3];rw[<-hr.out,lN,if_pos h0];have j3:=Lib.hid hR;have HX:=Lib.hid hs;have Rx:=Lib.hid hq;clear hR hs hq
 go_wp2_with (go_at_call 21;refine hC.mono ?_)
 rintro e w1 ⟨rfl,hb⟩;have hb:=Lib.hid hb;obtain⟨c,hc⟩:∃c,kA ps=c:=⟨_,rfl⟩;rw[hc]at h0⊢;have hc:=Lib.hid hc
 go_wp2
 go_ret2
 refine⟨?_,hb.out⟩;rw[<-hr.out,lN,hc.out,if_neg h0];rfl
end Go.Proofs
namespace Go.Proofs
open Go.RowKit
def oe(s:ByteArray):dp×Int×Int:=if 200<s.size then([],0,10)else match lI (s.size+1) s 1 []with
 |.inr n=>([],n,2)
 |.inl ps=>if kA ps=0 then(ps,0,0)else([],0,kA ps)
theorem En(l:List UInt8):(gh l).1.length<=l.length:=by unfold gh;split;simp[Ic];simp
theorem MA{ps:List ByteArray}{p:PM}{n:Nat}(h:mm ps=some p)(hs:∀x∈ps,x.size<=n):p.u.length<=n/\p.l.length<=n/\p.q.length<=n:=by unfold mm at h;split at h;rename_i a b c d;split at h;cases h;have ha:=hs a ae;have hb:=hs b ae;have hd:=hs d ae;have ea:=En a.data.toList;have eb:=En b.data.toList;have ed:=En d.data.toList;rw[show a.data.toList.length=a.size from eZ]at ea;rw[show b.data.toList.length=b.size from eZ]at eb;rw[show d.data.toList.length=d.size from eZ]at ed;exact⟨bt ea ha,bt eb hb,bt ed hd⟩;cases h;cases h
theorem BX:∀(f:Nat)(t:ByteArray)(n:Int)(acc ps:dp)(N:Nat),t.size<=N->lI f t n acc=.inl ps->(∀p∈acc,p.u.length<=N/\p.l.length<=N/\p.q.length<=N)->(∀p∈ps,p.u.length<=N/\p.l.length<=N/\p.q.length<=N)/\ps.length<=acc.length+t.size
 |0,t,n,acc,ps,N,_,h,ha=>by cases h;exact⟨ha,ab⟩
 |f+1,t,n,acc,ps,N,hN,h,ha=>by
  rw[lI]at h;split at h;cases h;exact⟨ha,ab⟩
  have hc:=Jn t.data.toList;rw[show t.data.toList.length=t.size from eZ]at hc;split at h;rename_i p _ hp hk;have hl:=MA (n:=N) hp (λx hx=>bt (E4 x hx) (by rw[size_mk];omega));have:=BX f _ _ _ ps N (by rw[size_mk];have:=hc.2 hk;omega) h (λq hq=>by rcases iQ.1 hq with hq|hq;exact ha q hq;simp only[bX]at hq;subst hq;exact hl);refine⟨this.1,?_⟩;have h2:=this.2;rw[size_mk,cL]at h2;have:=hc.2 hk;simp at h2;omega;cases h
theorem Ev{w:World}{N:Nat}{v:Value}{l:cj}(h:b9 w N v l):∃A c,v=.slice A l.length c/\fe w A l:=h.elim λA h=>h.elim λc h=>⟨A,c,h.1,h.2.2.1⟩
theorem Oz{w:World}{N:Nat}{v:Value}{ps:dp}(h:FU w N v ps):∃A c,v=.slice A ps.length c/\lz w A ps:=by
 obtain⟨xs,ho,hx⟩:=h;rcases ho.2 with ⟨rfl,h0⟩|⟨g,cap,cur,rfl,hb,hg,hn,hc,nR,ht⟩;exact⟨none,0,by rw[h0],λhne=>absurd (List.length_eq_zero_iff.1 h0) hne⟩;refine⟨_,cap,rfl,λ_=>⟨g,0,rfl,λj p hp=>?_⟩⟩;obtain⟨v0,v1,v3,a0,a1,a2,a3,n0,n1,n3⟩:=hx j p hp;have aR:∀i u,xs[i]? =some u->w.cell? ⟨g,i,none⟩=some u:=by intro i u hu;rw[<-ht,qB]at hu;split at hu;rw[Lib.cell_of_heap hg];simpa using hu;cases hu
 obtain⟨A0,c0,rfl,i0⟩:=Ev n0;obtain⟨A1,c1,rfl,i1⟩:=Ev n1;obtain⟨A3,c3,rfl,i3⟩:=Ev n3;exact⟨A0,c0,A1,c1,A3,c3,⟨by rw[eO];exact aR _ _ a0,by rw[eO];exact aR _ _ a1,by rw[eO];exact aR _ _ a2,by rw[eO];exact aR _ _ a3⟩,i0,i1,i3⟩
def HP(w:World)(r:dp×Int×Int)(e:Ending)(w':World):Prop:=Below w.heap.size w w'/\∃v,e=.returned (.tuple #[v,.int .i64 r.2.1,.int .i64 r.2.2])/\FU w' w.heap.size v r.1
theorem Ek(w:World)(N:Nat):FU w N (.slice none 0 0) []:=⟨[],World.ownsRow_nil _ _ _ _,λj p h=>by simp at h⟩
theorem Tryz.SR (s:ByteArray) (m:Int) (w:World) (hm:w.cell? ⟨1,0,none⟩=some (.int .i64 m)) (hg:w.cell? ⟨0,0,none⟩=some (.iface 196 (.agg #[Vm]))) :
  Calls Tryz.prog 14 #[.string s] w (HP w (oe s)):=by
 obtain⟨r,hr⟩:∃ r,oe s=r:=⟨_,rfl⟩
 rw[hr]
 have hg0:=Tryz.gZ hg
 by_cases h2:200<s.size
 ·rw[oe,if_pos h2] at hr
  subst hr
  clear hm hg
  go_enter Tryz.func14,Tryz.ntmps14
  go_wp2
  go_ret3
  exact⟨Below.refl _ _,_,rfl,Ek _ _⟩
 ·have hl:s.size≤100000:=by omega
  have hC:=Tryz.X8 s m w hl hm
  have hsm:=BX (s.size+1) s 1 [] (N:=100000)
  rw[oe,if_neg h2] at hr
  generalize lI (s.size+1) s 1 []=q at hC hr hsm
  clear hm
  have hg:=Lib.hid hg
  go_enter Tryz.func14,Tryz.ntmps14
  go_wp2_with (go_at_call 52; refine hC.mono ?_)
  rintro e w1 ⟨yb,hq⟩
  have Zr:w1.cell? ⟨0,0,none⟩=some (.iface 196 (.agg #[Vm])):=(yb.cell hg0).trans hg.out
  have yb:=Lib.hid yb
  have Zr:=Lib.hid Zr
  cases q with
  | inl ps =>
   obtain⟨v,rfl,hP⟩:=hq
   have hba:Below w1.heap.size w1 (w1.alloc (.cells #[.int .i64 0] 102)):=(Below.refl _ _).alloc (ai _) _
   have hP2:=A7 hP hba
   obtain⟨A,c,rfl,hH⟩:=Oz hP2
   obtain⟨HW,hs2⟩:=hsm ps hl rfl (fun p hp=>by cases hp)
   have akq:ps.length≤s.size:=by simpa using hs2
   have hK:=Tryz.HJ A c ps (w1.alloc (.cells #[.int .i64 0] 102)) (by omega) (fun p hp=>by obtain⟨x1,x2,x3⟩:=HW p hp; exact⟨by omega,by omega,by omega⟩) hH
   obtain⟨ce,hce⟩:∃ ce,kA ps=ce:=⟨_,rfl⟩
   simp only[hce] at hr hK
   clear hce
   have hP3:=Lib.hid (fun w' h=>A7 (w':=w') hP2 h)
   have hba:=Lib.hid (yb.out.trans (hba.mono yb.out.size))
   have hr:=Lib.hid hr
   clear hP hP2 hH HW hs2 hC hsm
   go_wp2_with (go_at_call 53; refine(afO _ _).mono ?_)
   rintro e w2 ⟨rfl,rfl⟩
   go_wp2_with (go_at_call 21; refine hK.mono ?_)
   rintro e w3 ⟨rfl,FG⟩
   have hP4:=Lib.hid (hP3.out w3 FG)
   have Pv:=Lib.hid (hba.out.trans (FG.mono (by have:=yb.out.size; simp; omega)))
   clear FG
   go_wp2
   ·have h:=‹(ce !=0)=true›
    go_ret3
    rw[← hr.out,if_neg (by simpa using h)]
    exact⟨Pv.out,_,rfl,Ek _ _⟩
   ·have h:=‹(ce !=0)=false›
    go_ret3
    rw[← hr.out,if_pos (by simpa using h)]
    exact⟨Pv.out,_,rfl,hP4.out⟩
  | inr n =>
   subst hq
   have ha:=afP n ⟨w1.heap.size,0,none⟩ (.int .i64 0) (w1.alloc (.cells #[.int .i64 0] 102)) ((World.cell?_alloc_past _ _ _ (Tryz.gZ Zr.out)).trans Zr.out) rE (World.frozen?_alloc_at _ _ _ _ rfl)
   have hr:=Lib.hid hr
   clear hsm hC
   have hba:Below w1.heap.size w1 (((((w1.alloc (.cells #[.int .i64 0] 102)).alloc (UK ⟨w1.heap.size,0,none⟩)).alloc (JZ (w1.alloc (.cells #[.int .i64 0] 102)))).alloc (JZ (w1.alloc (.cells #[.int .i64 0] 102)))).alloc (.cells #[.int .i64 n] 102)):=(((((Below.refl _ _).alloc (ai _) _).alloc (by simp) _).alloc (by simp; omega) _).alloc (by simp; omega) _).alloc (by simp; omega) _
   have Zs:=hba.setCell (p:=⟨w1.heap.size,0,none⟩) (ai _) (.int .i64 n)
   have hcx:((((((w1.alloc (.cells #[.int .i64 0] 102)).alloc (UK ⟨w1.heap.size,0,none⟩)).alloc (JZ (w1.alloc (.cells #[.int .i64 0] 102)))).alloc (JZ (w1.alloc (.cells #[.int .i64 0] 102)))).alloc (.cells #[.int .i64 n] 102)).setCell ⟨w1.heap.size,0,none⟩ (.int .i64 n)).cell? ⟨w1.heap.size,0,none⟩=some (.int .i64 n):=by
    exact World.cell?_setCell_same _ _ _ (show _=some (Value.int .i64 0) by
     rw[World.cell?_alloc_past _ _ _ (by simp; omega),World.cell?_alloc_past _ _ _ (by simp; omega),World.cell?_alloc_past _ _ _ (by simp; omega),World.cell?_alloc_past _ _ _ (by simp)]
     exact rE)
   generalize (((((w1.alloc (.cells #[.int .i64 0] 102)).alloc (UK ⟨w1.heap.size,0,none⟩)).alloc (JZ (w1.alloc (.cells #[.int .i64 0] 102)))).alloc (JZ (w1.alloc (.cells #[.int .i64 0] 102)))).alloc (.cells #[.int .i64 n] 102)).setCell ⟨w1.heap.size,0,none⟩ (.int .i64 n)=W at ha Zs hcx
   have Zs:=Lib.hid (yb.out.trans (Zs.mono yb.out.size))
   clear hba
   go_wp2_with (go_at_call 53; refine ha.mono ?_)
   rintro e w2 ⟨rfl,rfl⟩
   go_wp2
   go_region
   all_goals go_wp2
   all_goals go_ret3
   all_goals rw[← hr.out]
   all_goals exact⟨Zs.out.drew,_,rfl,Ek _ _⟩
end Go.Proofs
namespace Go.Di
open Go Go.Conc Go.Co Go.Proofs Go.RowKit
variable {aa:Machine->Trace->Prop} {x:Cx} {w':World}
def DL(ps:dp):Bool:=decide (ps.length<=1000)&&ps.all λp=>decide (p.u.length<=1000)&&decide (p.l.length<=1000)&&decide (p.q.length<=1000)
theorem SB{ps:dp}(h:DL ps=true):ps.length<=1000/\(∀p∈ps,Small p)/\∀p∈ps,p.q.length<=1000:=by simp only[DL,aC,bR,aU]at h;exact⟨h.1,λp hp=>by obtain⟨⟨q1,q2⟩,q3⟩:=h.2 p hp;exact⟨ab,ab,ab⟩,λp hp=>(h.2 p hp).2⟩
def CU:DV->Option DV
 |.sl rows _ _=>match Nf rows with
  |some ps=>if DL ps then some (.tup [sv (lN ps).1,.val (.int .i64 (lN ps).2)])else none
  |none=>none
 |_=>none
theorem Ma{a d:DV}(h:CU a=some d){vals:Array Value}(hR:Rel x)(ha:gb x [a] vals):eP Tryz.prog aa x 10 vals λy u=>y.S=x.S/\Rel y/\bE x y/\RV y d u:=by
 unfold CU at h;split at h;split at h;rename_i ps hps;split at h;rename_i hs;cases h;obtain⟨u,rfl,h1⟩:=QB ha;obtain⟨A,c,rfl,hH⟩:=S9 h1 hps;obtain⟨s1,s2,s3⟩:=SB hs;refine uQ (R:=λv w'=>v=.tuple #[.string ⟨(lN ps).1.toArray⟩,.int .i64 (lN ps).2]/\∃τ,Below (x.w.re τ 0).heap.size (x.w.re τ 0) w') jP Tryz.func10 rfl (λτ=>(Tryz.Sc A c ps (x.w.re τ 0) s2 s1 hH s3).mono ?_) λv w' hp τ d=>?_;rintro e w' ⟨rfl,hb⟩;exact⟨_,rfl,rfl,τ,hb⟩;obtain⟨rfl,τ',hb⟩:=hp;have p1:x.w.heap.size<=(w'.re τ d).heap.size:=hb.size;have p2:(w'.re τ d).os=x.w.os/\(w'.re τ d).output=x.w.output:=⟨hb.os,hb.output⟩;have p3:∀b,b<x.w.heap.size->(w'.re τ d).heap[b]? =x.w.heap[b]? :=hb.block;refine⟨x.grow _,rfl,rfl,X6 hR p1 p2 p3,TJ hR p1 p2 p3,.tup rfl λj c hc=>?_⟩
 match j,hc with
 |0,hc=>cases hc;exact .val rfl
 |1,hc=>cases hc;exact .val rfl
 cases h;cases h;cases h
def C3:DV->Option DV
 |.val (.string s)=>some (.tup [.sl ((oe s).1.map Rt) none ⟨false,none⟩,.val (.int .i64 (oe s).2.1),.val (.int .i64 (oe s).2.2)])
 |_=>none
theorem Mo{a d:DV}(h:C3 a=some d){vals:Array Value}(hR:Rel x)(ha:gb x [a] vals):eP Tryz.prog aa x 14 vals λy u=>y.S=x.S/\Rel y/\bE x y/\RV y d u:=by
 unfold C3 at h;split at h;rename_i s;cases h;obtain⟨u,rfl,h1⟩:=QB ha;cases nX h1;obtain⟨m,hm⟩:=hR.glob.2.2;refine uQ (R:=λv w'=>∃τ,HP (x.w.re τ 0) (oe s) (.returned v) w') jP Tryz.func14 rfl (λτ=>(Tryz.SR s m (x.w.re τ 0) hm hR.glob.1.2).mono ?_) λv w' hp τ d=>?_;intro e w' hp;obtain⟨v,rfl,-⟩:=hp.2;exact⟨_,rfl,τ,hp⟩;obtain⟨τ',hb,v',e,hP⟩:=hp;cases e;have p1:x.w.heap.size<=(w'.re τ d).heap.size:=hb.size;have p2:(w'.re τ d).os=x.w.os/\(w'.re τ d).output=x.w.output:=⟨hb.os,hb.output⟩;have p3:∀b,b<x.w.heap.size->(w'.re τ d).heap[b]? =x.w.heap[b]? :=hb.block;have hP':FU (w'.re τ d) x.w.heap.size v' (oe s).1:=hP;refine⟨x.laid _,rfl,rfl,X5 hR p1 p2 p3,G8 hR p1 p2 p3,.tup rfl λj c hc=>?_⟩
 match j,hc with
 |0,hc=>cases hc;exact SE hP'
 |1,hc=>cases hc;exact .val rfl
 |2,hc=>cases hc;exact .val rfl
 cases h
end Go.Di
namespace Go.Di
open Go Go.Conc Go.Co Go.Proofs
variable {aa:Machine->Trace->Prop}
def qU:bT:=λf args=>match f,args with
 |10,[a]=>CU a
 |14,[a]=>C3 a
 |64,[a,b]=>NF a b
 |124,[a]=>adH a
 |_,_=>none
theorem jG:yC Tryz.prog aa qU:=by intro f args v h _ _ x vals hR ha;unfold qU at h;split at h;exact Ma h hR ha;exact Mo h hR ha;exact Mh h hR ha;exact SK h hR ha;cases h
end Go.Di
namespace Go.Di
open Go Go.Conc Go.Co Go.Proofs
variable {aa:Machine->Trace->Prop} {x:Cx}
theorem aeJ(P:Program)(g:Tmp->TypeId->Nat):j6 P ⟨Va P,g⟩:=λ_ _ h=>h
theorem acE:j6 Tryz.prog TyH:=aeJ _ _
theorem He:Tryz.prog.follows .mixedOrders=true:=by kernel_rfl
mutual
def DV.eqb:DV->DV->Bool
 |.val (.int k n),.val (.int k' n')=>decide (k=k')&&decide (n=n')
 |.val (.bool b),.val (.bool b')=>b==b'
 |.agg l,.agg l'=>DV.Ke l l'
 |.tup l,.tup l'=>DV.Ke l l'
 |.sl l none ⟨f,i⟩,.sl l' none ⟨f',i'⟩=>f==f'&&decide (i=i')&&DV.Ke l l'
 |_,_=>false
def DV.Ke:cn->cn->Bool
 |[],[]=>true
 |d::l,d'::l'=>DV.eqb d d'&&DV.Ke l l'
 |_,_=>false
end
mutual
theorem W7:∀d d':DV,DV.eqb d d'=true->d=d':=by
 intro d d' h;unfold DV.eqb at h;split at h;simp at h;obtain⟨rfl,rfl⟩:=h;rfl
 simp at h;subst h;rfl
 rw[yT _ _ h];rw[yT _ _ h];simp at h;obtain⟨⟨rfl,rfl⟩,h⟩:=h;rw[yT _ _ h]
 cases h
theorem yT:∀l l':cn,DV.Ke l l'=true->l=l':=by
 intro l l' h;unfold DV.Ke at h;split at h;rfl;simp at h;rw[W7 _ _ h.1,yT _ _ h.2]
 cases h
end
abbrev Row:=FuncId×cn×DV
def more(cF:bT)(rows:List Row):bT:=λf args=>match rows.find? (λr=>decide (r.1=f)&&DV.Ke r.2.1 args)with
 |some r=>some r.2.2
 |none=>cF f args
def Rr(P:Program)(aa:Machine->Trace->Prop)(r:Row):Prop:=
 ∀x vals,Rel x->gb x r.2.1 vals->eP P aa x r.1 vals λy u=>y.S=x.S/\Rel y/\bE x y/\RV y r.2.2 u
theorem QJ{P:Program}{cF:bT}{rows:List Row}(ht:yC P aa cF)(h:∀r∈rows,Rr P aa r):yC P aa (more cF rows):=by intro f args v h1 hp hv x vals hR ha;unfold more at h1;split at h1;rename_i r hr;cases h1;have h2:=List.find?_some hr;simp only[aC,bR]at h2;obtain⟨rfl,h3⟩:=h2;cases yT _ _ h3;exact h r (List.mem_of_find?_eq_some hr) x vals hR ha;exact ht f args v h1 hp hv x vals hR ha
noncomputable def Pn (cF:bT)(L n:Nat)(r:Row):Bool:=r.2.1.all DV.pure&&match mo cF (dZ Tryz.prog TyH cF L n).1 r.1 r.2.1 with
 |some v=>DV.eqb r.2.2 v
 |none=>false
theorem eA{cF:bT}{L n:Nat}{r:Row}(ht:yC Tryz.prog aa cF)(h:Pn cF L n r=true):Rr Tryz.prog aa r:=by unfold Pn at h;simp only[aC]at h;obtain⟨hp,h⟩:=h;split at h;rename_i v hv;cases W7 _ _ h;exact(NV ht (EE jP He acE ht n).1 r.1 r.2.1 _ hv hp).2;cases h
abbrev ii(n:Int):DV:=.val (.int .i64 n)
abbrev bb(b:Bool):DV:=.val (.bool b)
abbrev sn:SF:=⟨false,some false⟩
abbrev su:SF:=⟨false,none⟩
abbrev va:DV:=(.agg [(.sl [(ii (0)),(ii (0)),(ii (0)),(ii (0))] none sn),(.sl [(ii (1)),(ii (2)),(ii (1)),(ii (3))] none sn),(ii (0)),(.sl [(ii (0))] none sn)])
abbrev vb:DV:=(.agg [(.sl [(ii (4)),(ii (3)),(ii (4)),(ii (2))] none sn),(.sl [(ii (0)),(ii (1)),(ii (0)),(ii (0))] none sn),(ii (0)),(.sl [(ii (0)),(ii (1)),(ii (2)),(ii (3))] none sn)])
abbrev acL:Row:=(17,[],va)
abbrev acK:Row:=(18,[],vb)
abbrev acQ:Row:=(24,[va,vb,(ii (0))],(.tup [(.agg [(ii (5)),(ii (5))]),(ii (0))]))
abbrev acR:Row:=(26,[(.sl [va,vb] none sn),(ii (0)),(ii (1))],(.tup [(.sl [(.agg [(ii (0)),(ii (0)),(ii (0))]),(.agg [(ii (0)),(ii (2)),(ii (-1))])] none su),(ii (0))]))
abbrev acS:Row:=(27,[(.sl [va,vb] none sn),(ii (0)),(ii (1))],(.tup [(ii (2)),(ii (0))]))
abbrev acP:Row:=(32,[(.sl [va,vb] none sn)],(.tup [(.sl [(.agg [(ii (0)),(ii (0)),(ii (0))]),(.agg [(ii (1)),(ii (0)),(ii (0))])] none su),(ii (0))]))
abbrev acM:Row:=(33,[(.sl [va,vb] none sn),(.sl [(.agg [(ii (0)),(ii (0)),(ii (0))]),(.agg [(ii (1)),(ii (0)),(ii (1))])] none sn)],(.tup [(ii (1)),(ii (0))]))
abbrev acO:Row:=(39,[(.sl [va,vb] none sn)],(.tup [(.sl [(.sl [(ii (0)),(ii (0))] none sn),(.sl [(ii (1)),(ii (1))] none sn)] none su),(ii (0))]))
abbrev acJ:Row:=(40,[(.sl [(.agg [(ii (0)),(ii (0)),(ii (0))]),(.agg [(ii (0)),(ii (2)),(ii (-1))])] none su),(.sl [(.agg [(ii (0)),(ii (0)),(ii (0))]),(.agg [(ii (0)),(ii (2)),(ii (-1))])] none sn)],(bb true))
abbrev acN:Row:=(34,[(.sl [(.agg [(ii (0)),(ii (0)),(ii (0))]),(.agg [(ii (1)),(ii (0)),(ii (0))])] none su),(.sl [(.agg [(ii (0)),(ii (0)),(ii (0))]),(.agg [(ii (1)),(ii (0)),(ii (0))])] none sn)],(bb true))
abbrev acI:Row:=(30,[(.sl [(.sl [(ii (0)),(ii (0))] none sn),(.sl [(ii (1)),(ii (1))] none sn)] none su),(.sl [(.sl [(ii (0)),(ii (0))] none sn),(.sl [(ii (1)),(ii (1))] none sn)] none sn)],(bb true))
theorem ag0:Pn qU 100 40 acL=true:=by decide+kernel
theorem agZ:Pn qU 100 40 acK=true:=by decide+kernel
theorem ag5:Pn qU 100 40 acQ=true:=by decide+kernel
theorem ag7:Pn qU 100 40 acR=true:=by decide+kernel
theorem ag8:Pn qU 100 40 acS=true:=by decide+kernel
theorem ag4:Pn qU 100 40 acP=true:=by decide+kernel
theorem ag1:Pn qU 100 40 acM=true:=by decide+kernel
theorem ag3:Pn qU 100 40 acO=true:=by decide+kernel
theorem agY:Pn qU 100 40 acJ=true:=by decide+kernel
theorem ag2:Pn qU 100 40 acN=true:=by decide+kernel
theorem agX:Pn qU 100 40 acI=true:=by decide+kernel
abbrev NJ:List Row:=[acL,acK,acQ,acR,acS,acP,acM,acO,acJ,acN,acI]
theorem ag6:Pn (more qU NJ) 100 2 (7,[],bb true)=true:=by decide+kernel
theorem Xx:yC Tryz.prog aa (more qU NJ):=QJ jG (by intro r hr;simp only[NJ,aV,ek,or_false]at hr;rcases hr with rfl|rfl|rfl|rfl|rfl|rfl|rfl|rfl|rfl|rfl|rfl;exact eA jG ag0;exact eA jG agZ;exact eA jG ag5;exact eA jG ag7;exact eA jG ag8;exact eA jG ag4;exact eA jG ag1;exact eA jG ag3;exact eA jG agY;exact eA jG ag2;exact eA jG agX)
def H9:bT:=more qU [(7,[],bb true)]
theorem aa8:yC Tryz.prog aa H9:=QJ jG (by intro r hr;simp only[aV,ek,or_false]at hr;subst hr;exact eA Xx ag6)
end Go.Di
namespace Go.Proofs
open Go.RowKit
theorem index_one:∀(a b:List UInt8)(c:UInt8),c∉a->Lib.index (a++c::b) [c]=a.length
 |[],b,c,_=>by simp[Lib.index,List.isPrefixOf]
 |x::a,b,c,h=>by have hx:c≠x:=λe=>h (by simp[e]);have ha:c∉a:=λe=>h (by simp[e]);have:=index_one a b c ha;rw[gM];unfold Lib.index;rw[if_neg (by simp[List.isPrefixOf,hx]),this,if_neg ae];simp
theorem index_none:∀(a:List UInt8)(c:UInt8),c∉a->Lib.index a [c]=-1
 |[],c,_=>rfl
 |x::a,c,h=>by have hx:c≠x:=λe=>h (by simp[e]);have ha:c∉a:=λe=>h (by simp[e]);unfold Lib.index;rw[if_neg (by simp[List.isPrefixOf,hx]),index_none a c ha];rfl
theorem Xc{a b:List UInt8}{c:UInt8}(h:c∉a):Lib.cut (a++c::b) [c]=(a,b,true):=by unfold Lib.cut;rw[index_one a b c h,if_pos ab];simp
theorem afC{a:List UInt8}{c:UInt8}(h:c∉a):Lib.cut a [c]=(a,[],false):=by unfold Lib.cut;rw[index_none a c h,if_neg ao]
end Go.Proofs
namespace Go.Proofs
open Go.RowKit
theorem extract_mk(l:List UInt8)(i j:Nat):(⟨l.toArray⟩:ByteArray).extract i j=⟨((l.take j).drop i).toArray⟩:=by apply Go.WideShapes.bytes_inj;rw[ByteArray.data_extract];simp[Array.toList_extract,List.extract_eq_take_drop,List.drop_take]
theorem Of{a b:List UInt8}(h:(47:UInt8)∉a)(k:Nat):Lib.splitB ⟨#[47]⟩ 0 (k+1) ⟨(a++47::b).toArray⟩=⟨a.toArray⟩::Lib.splitB ⟨#[47]⟩ 0 k ⟨b.toArray⟩:=by
 have hi:Lib.indexB ⟨(a++47::b).toArray⟩ ⟨#[47]⟩=a.length:=by show Lib.index (a++47::b) [47]=a.length;exact index_one a b 47 h
 rw[Lib.splitB_hit _ _ _ _ _ hi,extract_mk,extract_mk];congr 2;simp;congr 1;rw[size_mk];show(((a++47::b).take (a++47::b).length).drop (a.length+1)).toArray=_;rw[gN];simp
end Go.Proofs
namespace Go.Proofs
open Go.RowKit
def Good(p:PM):Prop:=(p.u≠[]/\p.l≠[]/\p.q≠[])/\(∀n∈p.u,0<=n/\n<=9)/\(∀n∈p.l,0<=n/\n<=9)/\(0<=p.w/\p.w<=9)/\(∀n∈p.q,0<=n/\n<=9)
end Go.Proofs
namespace Go.Proofs
open Go.RowKit
end Go.Proofs
namespace Go.Proofs
open Go.RowKit
def J:List (List UInt8)->List UInt8
 |[]=>[]
 |[a]=>a
 |a::b::r=>a++47::J (b::r)
end Go.Proofs
namespace Go.Proofs
open Go.RowKit
end Go.Proofs
namespace Go.Tv
open Go Go.Di Go.Conc Go.Co Go.Proofs
def vZ(p:PD):PM:=⟨p.1,p.2.1,p.2.2.1,p.2.2.2.1⟩
def Ng(p:PM):PD:=(p.u,p.l,p.w,p.q,())
theorem aby(ps:dp):(ps.map Ng).map vZ=ps:=by rw[vA];exact List.map_id _
theorem Lr(l:List UInt8):nU l=gh l:=rfl
theorem Hl(q:cj):∀(n k:Nat),q.length-k=n->qg (ko q k) (q.drop k)=oV q k
 |0,k,h=>by rw[hU ab,VW ab];cases ko q k<;>rfl
 |n+1,k,h=>by
  have hk:k<q.length:=ab
  have ih:=Hl q n (k+1) ab;rw[Hj hk,ih];by_cases h1:q.getD k 0<0\/3<q.getD k 0;rw[if_pos h1,VU hk h1];rw[if_neg h1];by_cases h2:0<k/\q.getD k 0<=q.getD (k-1) 0;rw[VV hk h1 h2];have e:ko q k=some (q.getD (k-1) 0):=by rw[ko,if_neg ab]
  rw[e,if_pos (by simpa using h2.2)];rw[zB hk h1 h2];by_cases h3:k=0;subst h3;rw[if_neg (by simp[ko])];have e:ko q k=some (q.getD (k-1) 0):=by rw[ko,if_neg h3]
  rw[e,if_neg (by simp only[bR];intro h4;exact h2 ⟨ab,h4⟩)]
theorem ab0(m:Int):Cj m=FB m:=by funext x;simp only[Cj,FB,Bool.decide_and]
theorem OA(p:PD):Nv p=gF (vZ p):=by have hl:=Hl p.2.2.2.1 _ 0 rfl;unfold Nv Af gF vZ;simp only[ab0];by_cases h1:p.1.length<3;rw[if_pos h1,if_pos h1];rw[if_neg h1,if_neg h1];by_cases h2:8<p.1.length;rw[if_pos h2,if_pos h2];rw[if_neg h2,if_neg h2];by_cases h3:p.2.1.length<p.1.length;rw[if_pos h3,if_pos (.inr h3)];rw[if_neg h3,if_neg (show¬(p.2.1.length<3\/p.2.1.length<p.1.length)by omega)];by_cases h4:p.1.length<p.2.1.length;rw[if_pos h4,if_pos (.inr h4)];rw[if_neg h4,if_neg (show¬(8<p.2.1.length\/p.1.length<p.2.1.length)by omega)];split;rfl;split;rfl;exact hl.symm
theorem L5:∀l:cP,rX l=Dv (l.map vZ)
 |[]=>rfl
 |p::l=>by rw[rX,aZ,Dv,OA,L5 l];by_cases h:gF (vZ p)=0;rw[if_pos h,if_neg (λk=>k h)];rw[if_neg h,if_pos h]
theorem LS(l:cP):qa l=kA (l.map vZ):=by rw[qa,kA,List.length_map,L5]
theorem OQ(l:cP):je l=jf (l.map vZ):=by rw[je,jf,List.flatMap_map];congr 1;funext p;simp[Gn,wJ,rW,tC,vZ]
theorem N6(l:cP):j7 l=(⟨(lN (l.map vZ)).1.toArray⟩,(lN (l.map vZ)).2):=by rw[j7,lN,LS,OQ];split<;>rfl
theorem K1{c:UInt8}{t:List UInt8}(h:c∉t):kB c.toNat t=[t]:=by
 induction t with
 |nil=>rfl
 |cons b r ih=>simp only[aV,not_or]at h;rw[kB,if_neg (λe=>h.1 (UInt8.toNat_inj.1 ab)),ih h.2]
theorem K0{c:UInt8}{a b:List UInt8}(h:c∉a):kB c.toNat (a++c::b)=a::kB c.toNat b:=by
 induction a with
 |nil=>rw[gu,kB,if_pos rfl]
 |cons x r ih=>simp only[aV,not_or]at h;rw[gM,kB,if_neg (λe=>h.1 (UInt8.toNat_inj.1 ab)),ih h.2]
theorem E5:∀(n:Nat)(t:List UInt8),t.length<=n->(Lib.splitB ⟨#[47]⟩ 0 (t.count 47) ⟨t.toArray⟩).map (·.data.toList)=kB 47 t
 |n,t,hn=>by
  by_cases h:(47:UInt8)∈t;obtain⟨a,b,rfl,ha⟩:=List.eq_append_cons_of_mem h;have e:(a++47::b).count 47=b.count 47+1:=by simp[List.count_append,List.count_eq_zero_of_not_mem ha]
  rw[e,Of ha,show(47:Int)=((47:UInt8).toNat:Int)from rfl,K0 ha,aZ]
  match n,hn with
  |0,hn=>simp at hn
  |n+1,hn=>
   have:=E5 n b (by simp at hn;omega);rw[this];rfl
  rw[List.count_eq_zero_of_not_mem h,show(47:Int)=((47:UInt8).toNat:Int)from rfl,K1 h];rfl
theorem Mv(t:List UInt8):(kT ⟨t.toArray⟩).map (·.data.toList)=kB 47 t:=by rw[<-E5 _ t (ai _),kT];congr 2;show Lib.count t [47]=_;rw[Lib.count_one]
theorem OS(bs:List ByteArray):(mm bs).map Ng=pq (bs.map (·.data.toList)):=by
 match bs with
 |[]|[_]|[_,_]|[_,_,_]=>rfl
 |[a,b,c,d]=>
  simp only[mm,pq,aZ,dR];by_cases h:((gh a.data.toList).2&&(gh b.data.toList).2&&(gh c.data.toList).2&&((gh c.data.toList).1.length==1)&&(gh d.data.toList).2)=true;rw[if_pos h,if_pos (by simp only[Lr,aC]at h⊢;exact⟨⟨h.1.1,h.2⟩,h.1.2⟩)];rfl;rw[if_neg h,if_neg (by simp only[Lr,aC]at h⊢;exactλk=>h ⟨⟨k.1.1,k.2⟩,k.1.2⟩)];rfl
 |_::_::_::_::_::_=>rfl
def sumOf:dp⊕Int->cP⊕Int
 |.inl ps=>.inl (ps.map Ng)
 |.inr n=>.inr n
theorem GV:∀(f:Nat)(t:List UInt8)(n:Int)(acc:dp),t.length<f->sumOf (lI f ⟨t.toArray⟩ n acc)=Pm (kB 10 t) n (acc.map Ng)
 |0,_,_,_,h=>absurd h (Nat.not_lt_zero _)
 |f+1,t,n,acc,hf=>by
  rw[lI];by_cases h0:t=[];subst h0;rfl;rw[if_neg (by rw[size_mk];intro h;exact h0 (List.length_eq_zero_iff.1 h))];by_cases h:(10:UInt8)∈t;obtain⟨a,b,rfl,ha⟩:=List.eq_append_cons_of_mem h;have hc:Lib.cut (⟨(a++10::b).toArray⟩:ByteArray).data.toList [10]=(a,b,true):=Go.Proofs.Xc ha;rw[hc,show(10:Int)=((10:UInt8).toNat:Int)from rfl,K0 ha];have hl:=OS (kT ⟨a.toArray⟩);rw[Mv]at hl;have ih:=λp=>GV f b (n+1) (acc++[p]) (by simp at hf;omega);obtain⟨y,r,hy⟩:∃y r,kB ((10:UInt8).toNat:Int) b=y::r:=by
   cases hq:kB ((10:UInt8).toNat:Int) b with
   |nil=>exact absurd hq (NC _ _)
   |cons y r=>exact⟨y,r,rfl⟩
  have Zm:kB 10 b=y::r:=hy;rw[hy,Pm,<-hl];cases hp:mm (kT ⟨a.toArray⟩)with
  |none=>rfl
  |some p=>simp only[ay];rw[ih p,Zm,eY];rfl
  have hc:Lib.cut (⟨t.toArray⟩:ByteArray).data.toList [10]=(t,[],false):=afC h;rw[hc,show(10:Int)=((10:UInt8).toNat:Int)from rfl,K1 h,Pm,if_neg h0];cases mm (kT ⟨t.toArray⟩)<;>rfl
theorem Oo(s:ByteArray):lH s=((oe s).1.map Ng,(oe s).2.1,(oe s).2.2):=by
 unfold lH oe;split;rfl;have h:=GV (s.size+1) s.data.toList 1 [] (by rw[vg];omega);have e:(⟨s.data.toList.toArray⟩:ByteArray)=s:=Iz s;rw[e,dR]at h;rw[<-h];cases lI (s.size+1) s 1 []with
 |inr n=>rfl
 |inl ps=>
  have hk:qa (ps.map Ng)=kA ps:=by rw[LS,aby]
  simp only[sumOf,hk];by_cases hc:kA ps=0;simp only[hc,if_true];simp only[hc,if_false,dR]
end Go.Tv
namespace Go.Tv
open Go Go.Di Go.Conc Go.Co Go.Proofs
theorem P5:RX H9 where
 other:=λf a h1 h2 h3 h4 h5=>by
  have:qU f a=none:=by unfold qU;split;exact absurd rfl h4;exact absurd rfl h5;exact absurd rfl h1;exact absurd rfl h2;rfl
  simp[H9,more,Ne.symm h3,this]
 fit:=by simp[H9,more,DV.Ke,bb]
def rowsOf(yd:cj):cn:=yd.map λn=>.val (.int .i64 n)
theorem zg:∀yd:cj,ei (CR kP) kP.agg yd (rowsOf yd)
 |[]=>trivial
 |n::l=>⟨⟨rfl,λl h=>ar⟩,zg l⟩
theorem vO:∀{l:cj}{rows:cn},ei (CR kP) kP.agg l rows->rows=rowsOf l
 |[],[],_=>rfl
 |[],_::_,h=>h.elim
 |_::_,[],h=>h.elim
 |n::l,r::rows,h=>by
  obtain⟨⟨h1,h2⟩,h3⟩:=h;rw[vO h3];have h1:r.cells=[.val (.int .i64 n)]:=h1;have:r=.val (.int .i64 n):=by
   cases r<;>simp only[DV.cells]at h1<;>first|(cases h1;rfl)|(cases h1;done)|exact(h2 rfl _ rfl).elim|skip
   all_goals exact(h2 _ rfl).elim
  rw[this];rfl
theorem XJ{l:cP}(h:DK l):DL (l.map vZ)=true:=by simp only[DL,List.length_map,aC,bR,List.all_map,aU];refine⟨h.1,λp hp=>?_⟩;obtain⟨a,b,c⟩:=h.2 p hp;simp[vZ,a,b,c]
theorem QX:∀l:cj,tV (rowsOf l)=some l
 |[]=>rfl
 |n::l=>by have:=QX l;simp only[rowsOf,aZ,tV]at this⊢;rw[this];rfl
theorem ag9{p:PD}{r:DV}(h:CR cE p r.cells)(ha:wQ cE.agg r):Ve r=some (vZ p):=by
 obtain⟨c1,c2,e1,⟨r1,f1,rfl,k1⟩,d1,d2,rfl,⟨r2,f2,rfl,k2⟩,d3,d4,rfl,rfl,d5,d6,rfl,⟨r3,f3,rfl,k3⟩,rfl⟩:=h;obtain⟨m,rfl⟩:∃m,r=.agg m:=by cases r<;>first|exact⟨_,rfl⟩|(simp[DV.cells]at e1)
 have e1:m=_:=e1;rw[e1,vO k1,vO k2,vO k3];simp only[gM,gu,Ve,QX];rfl
theorem WC:∀{l:cP}{rows:cn},ei (CR cE) cE.agg l rows->Nf rows=some (l.map vZ)
 |[],[],_=>rfl
 |[],_::_,h=>h.elim
 |_::_,[],h=>h.elim
 |p::l,r::rows,h=>by rw[Nf,ag9 h.1.1 h.1.2,WC h.2];rfl
theorem Ql:∀ps:dp,ei (CR cE) cE.agg (ps.map Ng) (ps.map Rt)
 |[]=>trivial
 |p::ps=>⟨⟨⟨[mq p.u],[mq p.l,.val (.int .i64 p.w),mq p.q],rfl,⟨_,_,rfl,zg p.u⟩,[mq p.l],[.val (.int .i64 p.w),mq p.q],rfl,⟨_,_,rfl,zg p.l⟩,[.val (.int .i64 p.w)],[mq p.q],rfl,rfl,[mq p.q],[],rfl,⟨_,_,rfl,zg p.q⟩,rfl⟩,⟨_,rfl⟩⟩,Ql ps⟩
theorem aa3:aaI H9 where
 w:=λl d hl h=>by cases d<;>simp only[RT]at h;rename_i rows tok f;refine⟨.tup [sv (lN (l.map vZ)).1,.val (.int .i64 (lN (l.map vZ)).2)],?_,rfl,?_⟩;simp[H9,more,qU,CU,WC h.1,XJ hl];rw[N6];simp only[RT,cq];exact⟨by first|rfl|trivial,by first|rfl|trivial,trivial⟩
 r:=λs=>by refine⟨.tup [.sl ((oe s).1.map Rt) none ⟨false,none⟩,.val (.int .i64 (oe s).2.1),.val (.int .i64 (oe s).2.2)],?_,rfl,?_⟩;simp[H9,more,qU,C3];rw[Oo];simp only[RT,cq];exact⟨⟨Ql _,trivial⟩,by first|rfl|trivial,by first|rfl|trivial,trivial⟩
end Go.Tv
namespace Go.Di
open Go Go.Conc Go.Co Go.Proofs
variable {P:Program} {ty:fo} {x:Cx} {aD:bT} {call:bg} {yf:dx}
structure ue (W w:World):Prop where
 os:w.os=W.os
 output:w.output=W.output
 block:∀k,k<W.heap.size->w.heap[k]? =W.heap[k]?
theorem XF{x y:Cx}(M:bE x y)(hS:x.S=[]):ue x.w y.w:=
 ⟨M.env.1,M.env.2,λk hk=>M.old k hk λi hi=>absurd (hS▸hi) (gB i)⟩
theorem ue.at {W w:World}(h:ue W w)(d:Nat):ue W (w.at d):=⟨h.os,h.output,h.block⟩
theorem z7{Post:Value->World->Prop}(hP:Plain P)(eV:j6 P ty){x0:Cx}{b:Frame}{todo:List Item}{fn:Func}{env:cn}{l:cn}(hb:b.kind=.normal)(hf:P.funcs[b.fn]? =some fn)(hi:P.inits.idxOf? b.fn=none){Sr:aj}{u:Value}:
  ∀(ds:cy){a:Act}{x:Cx},x.S=Sr->Rel x->bE x0 x->gb x env a.tmps->uh x0.S.length x ds a.defers->tr ty env Sr fn.results.toList=some l->
   (∀y v,y.S=Sr->Rel y->bE x0 y->RV y (oneOf l) v->v=u/\Post u y.w)->iI P (CC P Post) () (G {b.at a todo with mode:=.returning} []) x.w
 |[],a,x,hS,hR,hM,he,hd,hr,hn=>by
  have M6:a.defers=[]:=hd.1;have key:∀n,(results fn a.tmps).run P (x.w.at n)=.ok u (x.w.at n)/\Post u (x.w.at n):=λn=>by obtain⟨v,h1,h2⟩:=EX (x:=x.dr n) eV (hR.dr n) (he.mono (eN x n)) (l:=l) (by show tr ty env x.S _=_;rw[hS];exact hr);obtain⟨rfl,h3⟩:=hn (x.dr n) v hS (hR.dr n) (hM.trans (eN x n)) h2;exact⟨h1,h3⟩
  exact afl (v:=u) (λd=>⟨rfl,M6,hb,fn,hf,(key d).1⟩) hi λd=>(key d).2
 |id::ds,a,x,hS,hR,hM,he,hd,hr,hn=>by
  obtain⟨q1,q2,q3⟩:=hd;obtain⟨r1,r2,r3⟩:=q3 id ae;refine iN hP λn=>?_;have j3:=hR.dr n;have hM':=hM.trans (eN x n);obtain⟨t1,t2,t3⟩:=P8 (x:=x.dr n) hM' j3 r1 r2;have hg:=jm (P:=P) (w:=x.w.at n) (show(x.w.at n).heap[x.μ id]? =_ from r3) ae;have hs:=kV (P:=P) (w:=x.w.at n) (o:=.deferred none) (show(x.w.at n).heap[x.μ id]? =_ from r3) ae;have PF:(Instr.takeDeferred (x.μ id)).run P (x.w.at n)=.ok [] (cz (x.w.at n) (x.μ id) (.deferred none)):=by simp only[Instr.takeDeferred,Sem.run_bind,hg,Result.andThen_ok,hs,Sem.run_pure]
  obtain⟨es,hst⟩:=Qs (P:=P) (b:=b) (a:=a) (todo:=todo) (cs:=[]) (ds:=ds.map λid=>{target:=.collected (x.μ id),args:=#[]}) (by rw[q1];rfl) PF;refine⟨_,_,_,es,hst,?_⟩;have Dh:=List.nodup_cons.1 q2;exact z7 hP eV hb hf hi ds (x:={x.dr n with w:=cz (x.w.at n) (x.μ id) (.deferred none)}) (a:={a with defers:=ds.map λid=>{target:=.collected (x.μ id),args:=#[]}}) hS t1 t2 ⟨he.1,λj c hc=>t3 _ _ (RV.mono (eN x n) (he.2 j c hc))⟩
   ⟨rfl,Dh.2,λi hi=>by obtain⟨u1,u2,u3⟩:=q3 i (by simp[hi]);have hne:x.μ i≠x.μ id:=λe=>Dh.1 (hR.inj i id (bh u2 ae) (bh r2 ae) e▸hi);exact⟨u1,u2,(gH _ _ _ hne).trans u3⟩⟩ hr hn
theorem Ze{Post:Value->World->Prop}(hP:Plain P)(eV:j6 P ty)(hc:gR P (CC P Post) call)(mj:∀id ops draw,yD P (CC P Post) ty aD call yf id ops draw){L:Nat}{f:FuncId}{fn:Func}(hf:P.funcs[f]? =some fn)(hi:P.inits.idxOf? f=none)
  {args:cn} {S S':aj} {v:DV} (h:wO P ty aD call yf L f fn args S=some (v,S'))
  {vals:Array Value} (hR:Rel x) (hS:x.S=S) (ha:gb x args vals) {u:Value} (hu:∀y u',y.S=S'->Rel y->bE x y->RV y v u'->u'=u/\Post u y.w):iI P (CC P Post) () (G (Frame.enter P f vals .normal) []) x.w:=by
 subst hS;unfold wO at h;split at h;rename_i c hb;rw[enter_at vals hf hb,<-Frame.atR_of_none (b:=base f) rfl];have he:gb x (args++List.replicate (fn.ntmps-args.length) bD) (vals++Array.replicate (fn.ntmps-vals.size) undef):=by
  refine mN ha ⟨by simp[ha.1],λj c hc=>?_⟩;rw[Df]at hc;split at hc;rename_i hj;cases hc;have:j<fn.ntmps-vals.size:=by rw[ha.1];exact hj
  have e:(Array.replicate (fn.ntmps-vals.size) undef).getD j undef=undef:=by simp[aW,this]
  rw[e];exact .val rfl;cases hc
 have key:∀e aL S1,cI P ty aD call yf L f false c (args++List.replicate (fn.ntmps-args.length) bD) x.S=some (e,aL,S1)->(e=.normal\/e=.ret)->(tr ty aL S1 fn.results.toList).map (λl=>(oneOf l,S1))=some (v,S')->
   iI P (CC P Post) () (G ((base f).atR {tmps:=vals++Array.replicate (fn.ntmps-vals.size) undef,defers:=[]} [.code c]) []) x.w:=by
  intro e aL S1 h1 he1 h2;simp only[af,az]at h2;obtain⟨l,h3,rfl,rfl⟩:=h2;refine zH (n0:=x.S.length) (ds:=[]) (b:=base f) (cs:=[]) (iH:=false) hP hc (by simp[base]) rfl (λ_=>rfl) c (zn mj c) h1 hR he (Bj _ _) (ai _) λy a' iu q1 q2 q3 q4 q5=>?_;have kU:∀todo,iI P (CC P Post) () (G {(base f).at a' todo with mode:=.returning} []) y.w:=λtodo=>
   z7 hP eV (x0:=x) (b:=base f) (env:=aL) (l:=l) (Sr:=S1) rfl hf hi iu q1 q2 q3 q4 q5 h3 λz u r1 r2 r3 r4=>hu z u r1 r2 r3 r4
  rcases he1 with rfl|rfl;show iI P (CC P Post) () (G ((base f).atR a' []) []) y.w;rw[Frame.atR_of_none (b:=base f) rfl];exact fL hP (λw=>⟨_,stepG_end⟩) (kU _);intro k';rw[Frame.atR_of_none (b:=base f) rfl];exact fL hP (λw=>⟨_,stepG_ret'⟩) (kU _)
 split at h
 grind
 grind
 cases h;cases h
theorem TS{S:aj}{v:DV}{b:Bool}(h:(iK S v).strip=.val (.bool b)):v=.val (.bool b):=by unfold iK at h;split at h;split at h;split at h<;>simp[DV.strip,DV.cZ]at h;simp[DV.strip,DV.cZ]at h;cases v<;>simp_all [DV.strip,DV.cZ]
theorem OL{S:aj}{v:DV}{b:Bool}(h:(tT S v).strip=.val (.bool b)):v=.val (.bool b):=by
 have e:(∀l,v≠.agg l)->(∀l,v≠.tup l)->tT S v=iK S v:=λa b=>by cases v<;>first|rfl|exact(a _ rfl).elim|exact(b _ rfl).elim
 by_cases ha:∃l,v=.agg l;obtain⟨l,rfl⟩:=ha;simp[tT,s9,DV.strip,DV.cZ]at h;by_cases ht:∃l,v=.tup l;obtain⟨l,rfl⟩:=ht;simp[tT,DV.strip]at h;rw[e (λl h=>ha ⟨l,h⟩) (λl h=>ht ⟨l,h⟩)]at h;exact TS h
theorem Xr(hP:Plain P)(hm:P.follows .mixedOrders=true)(eV:j6 P ty){cF:bT}(ht:∀aa,yC P aa cF){L n:Nat}{f:FuncId}{args:cn}{b:Bool}(h0:cF f args=none)(hi:P.inits.idxOf? f=none)
  (h:mo cF (dZ P ty cF L (n+1)).1 f args=some (.val (.bool b))) {vals:Array Value} (hR:Rel x) (hS:x.S=[]) (ha:gb x args vals):
  iI P (CC P λv w=>v=.bool b/\ue x.w w) () (G (Frame.enter P f vals .normal) []) x.w:=by
 unfold mo at h;rw[h0]at h;simp only at h;split at h;rename_i v S' h1;split at h;simp only[aF]at h;have hv:v=.val (.bool b):=OL h;subst hv;simp only[dZ]at h1;split at h1;rename_i fn hf;obtain⟨ihc,ihy⟩:=EE (aa:=CC P λv w=>v=.bool b/\ue x.w w) hP hm eV (ht _) (L:=L) n;have RA:=NV (ht _) ihc;have mj:∀id ops draw,yD P (CC P λv w=>v=.bool b/\ue x.w w) ty (mo cF (dZ P ty cF L n).1) (dZ P ty cF L n).1 (dZ P ty cF L n).2 id ops draw:=λid ops draw=>WA hP hm eV ihc RA ihy id ops draw;refine Ze (u:=.bool b) hP eV ihc mj hf hi h1 hR hS ha λy u' q1 q2 q3 q4=>?_;cases q4;exact⟨rfl,rfl,XF q3 hS⟩;cases h1;cases h;cases h
end Go.Di
