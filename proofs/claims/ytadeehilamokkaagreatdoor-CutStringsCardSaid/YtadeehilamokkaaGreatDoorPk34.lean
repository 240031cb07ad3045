import Derived.Test.YtadeehilamokkaaGreatDoorPk33
import Derived.WalkKit
import Derived.OwnWalk
import Derived.Lib.Hide
import Derived.Deep.RegionHeld3
import Derived.LaidEql
import Derived.Stop.Asserts
import Derived.RowKitTokens
import Derived.Lib.ConvBytes
set_option maxHeartbeats 4000000
set_option maxRecDepth 100000
namespace Go.Proofs
open Go.RowKit
def tC(l:cj):List UInt8:=l.map λn=>UInt8.ofNat (48+n.toNat)
theorem T8{l:cj}{k:Nat}(h:k<l.length):tC (l.take (k+1))=tC (l.take k)++[UInt8.ofNat (48+(l.getD k 0).toNat)]:=by rw[tC,List.take_add_one,eY,aK,aT h];rfl
theorem Tryz.gZ {w:World}{a:Addr}{v:Value}(h:w.cell? a=some v):a.block<w.heap.size:=by by_cases hb:a.block<w.heap.size;exact hb;simp[World.cell?,vF (yX hb)]at h
theorem aco{n:Int}(h0:0<=n)(h9:n<=9):(Value.int .u8 (48+n))=.int .u8 ((UInt8.ofNat (48+n.toNat)).toNat:Int):=by
 have:(UInt8.ofNat (48+n.toNat)).toNat=48+n.toNat:=by rw[UInt8.toNat_ofNat'];omega
 rw[this];congr 1;omega
theorem Lib.ou (b:UInt8):Lib.byteCells [b]=[Value.int .u8 b.toNat]:=rfl
def fe(w:World)(A:Option Addr)(l:cj):Prop:=l≠[]->∃b off,A=some ⟨b,off,none⟩/\∀j,j<l.length->w.cell? ⟨b,off+j,none⟩=some (.int .i64 (l.getD j 0))
theorem Tryz.Pd (A:Option Addr) (cap:Nat) (l:List Int) (w:World) (hl:l.length≤1000) (hd:∀ n∈l,0≤n∧n≤9) (hR:fe w A l) :
  Calls Tryz.prog 47 #[.slice A l.length cap] w fun e w'=>e = .returned (.string ⟨(tC l).toArray⟩)∧Below w.heap.size w w':=by
 have j3:=Lib.hid hR
 have hD:=Lib.hid hd
 clear hR hd
 go_enter Tryz.func47,Tryz.ntmps47
 go_wp2
 go_loopw [8] (fun i wr=>∃ k:Nat,k≤l.length∧i = .int .i64 (k:Int)∧Lib.IsBuilderF 89 5 w.heap.size w.heap.size (Lib.byteCells (tC (l.take k))) wr∧Below w.heap.size w wr) (fun i _=>l.length-(intOf i).toNat)
 ·refine⟨0,gm _,rfl,?_,?_⟩
  ·exact Lib.IsBuilderF.of (Lib.fresh_isBuilder 89 5 w)
  ·exact(Below.refl _ _).alloc (ai _) _
 ·obtain⟨k,hk,rfl,tw,fB⟩:=hrel
  by_cases ya:k<l.length
  ·obtain⟨b,off,rfl,hc⟩:=j3.out (fun e=>by subst e; simp at ya)
   have dB:wr.cell? ⟨b,off+k,none⟩=some (.int .i64 (l.getD k 0)):=(fB.cell (p:=⟨b,off+k,none⟩) (Tryz.gZ (hc k ya))).trans (hc k ya)
   have lF:l.getD k 0∈l:=by rw[aK,aT ya]; exact iS ya
   obtain⟨h0,h9⟩:=hD.out _ lF
   have hlen:(Lib.byteCells (tC (l.take k))).length=k:=by simp[Lib.byteCells,tC]; omega
   have hs:=fB.size
   generalize hn:l.getD k 0=n at dB h0 h9 lF
   clear lF hc j3 hD
   go_wp2_with (go_at_call 48; refine(Tryz.Builder_WriteByte w.heap.size w.heap.size _ (48+n) _ tw (by rw[hlen]; omega) hs).mono ?_)
   rintro e w1 ⟨rfl,hb,hw,-⟩
   rw[aco h0 h9,← Lib.ou,← Lib.byteCells_append,← hn,← T8 ya] at hb
   clear tw dB
   have rQ:=Lib.hid hb
   have hw':=Lib.hid (fB.trans hw)
   clear hb hw fB
   go_wp2
   exact⟨⟨k+1,by omega,by go_num,.inr rQ.out,hw'.out⟩,by simp[intOf]; omega⟩
  ·have Bt:k=l.length:=by omega
   subst Bt
   rw[gN] at tw
   have hs:=fB.size
   go_wp2_with (go_at_call 49; refine(Tryz.Builder_String_any w.heap.size w.heap.size _ _ tw hs).mono ?_)
   rintro e w' ⟨rfl,-,hb,-⟩
   go_wp2
   go_ret
   exact⟨rfl,fB.trans hb⟩
end Go.Proofs
namespace Go.Proofs
open Go.RowKit
structure PM where
 u:cj
 l:cj
 w:Int
 q:cj
abbrev dp:=List PM
def PM.Ok (p:PM):Prop:=(p.u.length<=1000/\p.l.length<=1000/\p.q.length<=1000)/\(∀n∈p.u,0<=n/\n<=9)/\(∀n∈p.l,0<=n/\n<=9)/\(0<=p.w/\p.w<=9)/\(∀n∈p.q,0<=n/\n<=9)
def L9(w:World)(b o:Nat)(p:PM):Prop:=∃A0 c0 A1 c1 A3 c3,(w.cell? ⟨b,o,none⟩=some (.slice A0 p.u.length c0)/\w.cell? ⟨b,o+1,none⟩=some (.slice A1 p.l.length c1)/\w.cell? ⟨b,o+2,none⟩=some (.int .i64 p.w)/\w.cell? ⟨b,o+3,none⟩=some (.slice A3 p.q.length c3))/\fe w A0 p.u/\fe w A1 p.l/\fe w A3 p.q
def lz(w:World)(A:Option Addr)(ps:dp):Prop:=ps≠[]->∃b off,A=some ⟨b,off,none⟩/\∀j p,ps[j]? =some p->L9 w b (off+j*4) p
def wJ(p:PM):List UInt8:=tC p.u++(47::tC p.l)++(47::tC [p.w])++(47::tC p.q)
def jf(ps:dp):List UInt8:=ps.flatMap λp=>wJ p++[10]
theorem uX{B b:Nat}{q:Value}{bs:List Value}{w w':World}(h:Lib.BuilderAtF 89 5 B b q bs w)(hb:Below w.heap.size w w'):Lib.BuilderAtF 89 5 B b q bs w':=by have hlt:=h.lt;obtain⟨h1,v,h2,h3,h4⟩:=h;exact⟨h1,v,(hb.block b hlt).trans h2,h3.kept (row:=none) ⟨hb.os,hb.tape,hb.output,hb.size,λk hk _=>hb.block k hk⟩ (by cases v.ownBlock<;>simp),h4⟩
theorem sX{B b:Nat}{bs:List Value}{w w':World}(h:Lib.IsBuilderF 89 5 B b bs w)(hb:Below w.heap.size w w'):Lib.IsBuilderF 89 5 B b bs w':=
 h.imp (λh=>uX h hb) (λh=>uX h hb)
theorem JM{B b:Nat}{bs:List Value}{w:World}(h:Lib.IsBuilderF 89 5 B b bs w):Lib.IsBuilderF 89 5 B b bs w.drew:=sX h (Below.refl _ _).drew
theorem xb{B b:Nat}{bs:List Value}{w:World}{o:Obj}(h:Lib.IsBuilderF 89 5 B b bs w):Lib.IsBuilderF 89 5 B b bs (w.alloc o):=sX h ((Below.refl _ _).alloc (ai _) o)
structure Xf (B N:Nat) (w0:World) (vs:Array Value) (w:World):Prop where
 at_:w.heap[N]? =some (.cells vs 42 (0,0))
 below:Below B w0 w
 le:B<=w.heap.size
abbrev ym(B N:Nat)(w0:World)(v0 v1 v2 v3:Value)(w:World):Prop:=
 (w.cell? ⟨N,0,none⟩=some v0/\w.cell? ⟨N,1,none⟩=some v1/\w.cell? ⟨N,2,none⟩=some v2/\w.cell? ⟨N,3,none⟩=some v3)/\Xf B N w0 #[v0,v1,v2,v3] w
theorem Vy{B N:Nat}{w0 w:World}{v0 v1 v2 v3:Value}(k:Xf B N w0 #[v0,v1,v2,v3] w):ym B N w0 v0 v1 v2 v3 w:=by refine⟨⟨?_,?_,?_,?_⟩,k⟩<;>(rw[Lib.cell_of_heap k.at_];rfl)
theorem CY{B N:Nat}{w0 w w':World}{v0 v1 v2 v3:Value}(h:ym B N w0 v0 v1 v2 v3 w)(hb:Below w.heap.size w w'):ym B N w0 v0 v1 v2 v3 w':=by obtain⟨-,k⟩:=h;exact Vy ⟨(hb.block N (aG.1 k.at_).1).trans k.at_,k.below.trans (hb.mono k.le),bt k.le hb.size⟩
theorem KV{B N:Nat}{w0 w w':World}{v0 v1 v2 v3:Value}(h:ym B N w0 v0 v1 v2 v3 w)(hb:Below B w w')(ho:Lib.OthersKept 5 (some B) w w')(hn:N≠B):ym B N w0 v0 v1 v2 v3 w':=by obtain⟨-,k⟩:=h;exact Vy ⟨ho N _ k.at_ (by simpa using hn) ae,k.below.trans hb,bt k.le hb.size⟩
theorem Xy{B N:Nat}{w0 w:World}{v0 v1 v2 v3:Value}{o:Obj}(h:ym B N w0 v0 v1 v2 v3 w):ym B N w0 v0 v1 v2 v3 (w.alloc o):=CY h ((Below.refl _ _).alloc (ai _) o)
theorem CX{B N:Nat}{w0 w:World}{v0 v1 v2 v3:Value}(h:ym B N w0 v0 v1 v2 v3 w):ym B N w0 v0 v1 v2 v3 w.drew:=CY h ((Below.refl _ _).drew)
theorem pI{B N:Nat}{w0 w:World}{v0 v1 v2 v3:Value}(h:ym B N w0 v0 v1 v2 v3 w):Below B w0 w:=h.2.below
theorem Vz{B N:Nat}{w0 w:World}{v0 v1 v2 v3:Value}(h:ym B N w0 v0 v1 v2 v3 w):B<=w.heap.size:=h.2.le
theorem jR{w w':World}{a:Addr}{v:Value}(h:w.cell? a=some v)(hb:Below w.heap.size w w'):w'.cell? a=some v:=(hb.cell (p:=a) (Tryz.gZ h)).trans h
theorem rE{w:World}{v:Value}{t:TypeId}:(w.alloc (.cells #[v] t)).cell? ⟨w.heap.size,0,none⟩=some v:=by rw[Lib.cell_of_heap (heap_alloc_new w _)];rfl
theorem Ud{w:World}{v:Value}{t:TypeId}{n:Nat}(h:n=w.heap.size):(w.alloc (.cells #[v] t)).cell? ⟨n,0,none⟩=some v:=by subst h;exact rE
theorem acm{w:World}{a:Addr}{v:Value}(h:w.cell? a=some v):w.drew.cell? a=some v:=h
theorem Tryz.zG (A:Option Addr)(n cap:Nat)(l:cj)(hn:n=l.length)(w:World)(hl:l.length<=1000)(hd:∀n∈l,0<=n/\n<=9)(hR:fe w A l):
  Calls Tryz.prog 47 #[.slice A n cap] w λe w'=>e=.returned (.string ⟨(tC l).toArray⟩)/\Below w.heap.size w w':=by
 subst hn;exact Tryz.Pd A cap l w hl hd hR
theorem vP{w0 w:World}{A:Option Addr}{l:cj}(h:fe w0 A l)(hb:Below w0.heap.size w0 w):fe w A l:=λhne=>by obtain⟨b,off,h1,h2⟩:=h hne;exact⟨b,off,h1,λj hj=>(hb.cell (p:=⟨b,off+j,none⟩) (Tryz.gZ (h2 j hj))).trans (h2 j hj)⟩
theorem YQ{w:World}{N:Nat}{n:Int}(h:w.cell? ⟨N,0,none⟩=some (.int .i64 n)):fe w (some ⟨N,0,none⟩) [n]:=λ_=>⟨N,0,rfl,λj hj=>by
 have:j=0:=by simpa using hj
 subst this;exact h⟩
theorem Xz{w:World}{a b c d:ByteArray}{t:TypeId}(j:Nat)(x:ByteArray)(h:[a,b,c,d][j]? =some x):(w.alloc (.cells #[.string a,.string b,.string c,.string d] t)).cell? ⟨w.heap.size,0+j,none⟩=some (.string x):=by
 match j,h with
 |0,h=>cases h;rw[Lib.cell_of_heap (heap_alloc_new w _)];rfl
 |1,h=>cases h;rw[Lib.cell_of_heap (heap_alloc_new w _)];rfl
 |2,h=>cases h;rw[Lib.cell_of_heap (heap_alloc_new w _)];rfl
 |3,h=>cases h;rw[Lib.cell_of_heap (heap_alloc_new w _)];rfl
abbrev VT(p:PM):List ByteArray:=[⟨(tC p.u).toArray⟩,⟨(tC p.l).toArray⟩,⟨(tC [p.w]).toArray⟩,⟨(tC p.q).toArray⟩]
theorem Hs(p:PM):Lib.join ((VT p).map (·.data.toList)) [47]=wJ p:=by simp[Lib.join,wJ]
theorem Tryz.afm (bk n c:Nat)(xs:List ByteArray)(hn:n=xs.length)(w:World)(kz:∀(j:Nat) x,xs[j]? =some x->w.cell? ⟨bk,0+j,none⟩=some (.string x))(Z1:bk<w.heap.size)(hN:xs.length<=140737488355328)(Cz:xs.length<=c)(hlen:(Lib.join (xs.map (·.data.toList)) [47]).length<=140737488355328):
  Calls Tryz.prog 46 #[.slice (some ⟨bk,0,none⟩) n c,.string ⟨#[47]⟩] w λe w'=>e=.returned (.string ⟨(Lib.join (xs.map (·.data.toList)) [47]).toArray⟩)/\Below w.heap.size w w':=by
 subst hn;exact Tryz.strings_Join bk 0 c xs ⟨#[47]⟩ w kz Z1 hN Cz hlen
theorem ahi{p:PM}{w:World}{bk:Nat}(kz:∀(j:Nat) x,(VT p)[j]? =some x->w.cell? ⟨bk,0+j,none⟩=some (.string x))(hlen:(wJ p).length<=140737488355328):
  Calls Tryz.prog 46 #[.slice (some ⟨bk,0,none⟩) 4 4,.string ⟨#[47]⟩] w λe w'=>e=.returned (.string ⟨(wJ p).toArray⟩)/\Below w.heap.size w w':=by
 have h:=Tryz.afm bk 4 4 (VT p) rfl w kz (Tryz.gZ (kz 0 _ rfl)) ae ae (by rw[Hs];exact hlen);rw[Hs]at h;exact h
theorem Mf(l:List UInt8):Lib.strCells ⟨l.toArray⟩=Lib.byteCells l:=by simp[Lib.strCells,Lib.byteCells]
theorem aaT{B:Nat}{l r:List UInt8}{w:World}(h:Lib.IsBuilderF 89 5 B B (Lib.byteCells l) w)(hl:l.length<=5000000)(hr:r.length<=5000000)(hB:B<=w.heap.size):
  Calls Tryz.prog 45 #[.pointer (some ⟨B,0,none⟩),.string ⟨r.toArray⟩] w λe w'=>e=.returned (.tuple #[.int .i64 (⟨r.toArray⟩:ByteArray).size,.nilIface])/\Lib.IsBuilderF 89 5 B B (Lib.byteCells (l++r)) w'/\Below B w w'/\Lib.OthersKept 5 (some B) w w':=by
 refine(Tryz.Builder_WriteString B B _ _ w h (by have e:(⟨r.toArray⟩:ByteArray).size=r.length:=iT;rw[Lib.byteCells_length,e];omega) hB).mono ?_;rintro e w' ⟨rfl,h1,h2⟩;rw[Mf,<-Lib.byteCells_append]at h1;exact⟨rfl,.inr h1,h2⟩
theorem zA{p:PM}(h:p.Ok):(wJ p).length<=4000:=by obtain⟨⟨o1,o2,o3⟩,-⟩:=h;simp[wJ,tC];omega
theorem Hi:∀{ps:dp},(∀p∈ps,p.Ok)->(jf ps).length<=4001*ps.length
 |[],_=>by simp[jf]
 |p::ps,h=>by have h1:=zA (h p ae);have h2:=Hi λq hq=>h q (nt _ hq);simp only[jf,dm,cL,cT,gr]at h2⊢;omega
theorem OP{ps:dp}{k:Nat}(h:k<ps.length):jf (ps.take (k+1))=jf (ps.take k)++wJ ps[k]++[10]:=by rw[jf,List.take_add_one,List.flatMap_append,aT h];simp[jf]
noncomputable def NK:Code:=match Tryz.f10.body with
 |some (.seq _ (.seq _ r))=>r
 |_=>.skip
theorem Tryz.N7 (A:Option Addr)(cap:Nat)(ps:dp)(w:World)(t1 t2 t3 t4 t5 t6 t7 t8 t9 t10 t11 t12 t13 t14 t15 t16 t17 t18 t19 t20 t21 t22 t23 t24 t25 t26 t27 t28 t29 t30 t31 t32 t33 t34 t35 t36 t37:Value)(hl:ps.length<=1000)(hd:∀p∈ps,p.Ok)(hR:lz w A ps):
  Code.wp Tryz.prog NK (λe a w'=>e=.ret/\a.tmps.getD 2 undef=.string ⟨(jf ps).toArray⟩/\a.tmps.getD 3 undef=.int .i64 0/\a.defers=[]/\Below w.heap.size w w')
   ⟨#[.slice A ps.length cap,t1,t2,t3,t4,t5,t6,t7,t8,t9,t10,t11,t12,t13,t14,t15,t16,t17,t18,t19,t20,t21,t22,t23,t24,t25,t26,t27,t28,t29,t30,t31,t32,t33,t34,t35,t36,t37],[]⟩ w:=by
 have j3:=Lib.hid hR;have hD:=Lib.hid hd;clear hR hd;simp only[NK,Tryz.f10]
 go_wp2
 go_loopw [15] (λi wr=>∃k:Nat,k<=ps.length/\i=.int .i64 (k:Int)/\Lib.IsBuilderF 89 5 w.heap.size w.heap.size (Lib.byteCells (jf (ps.take k))) wr/\Below w.heap.size w wr) (λi _=>ps.length-(intOf i).toNat)
 refine⟨0,gm _,rfl,?_,?_⟩;exact Lib.IsBuilderF.of (Lib.fresh_isBuilder 89 5 w);exact(Below.refl _ _).alloc (ai _) _;obtain⟨k,hk,rfl,tw,fB⟩:=hrel;by_cases ya:k<ps.length
 .obtain⟨b,off,rfl,hc⟩:=j3.out (λe=>by subst e;simp at ya);obtain⟨A0,c0,A1,c1,A3,c3,⟨k0,k1,k2,k3⟩,i0,i1,i3⟩:=hc k _ (aT ya);have jU:=hD.out _ (iS ya);generalize hp:ps[k]=p at k0 k1 k2 k3 i0 i1 i3 jU;have ZL:=Tryz.gZ k0;have g0:wr.cell? ⟨b,off+k*4,none⟩=some (.slice A0 p.u.length c0):=(fB.cell (p:=⟨b,off+k*4,none⟩) ZL).trans k0;have g1:wr.cell? ⟨b,off+k*4+1,none⟩=some (.slice A1 p.l.length c1):=(fB.cell (p:=⟨b,off+k*4+1,none⟩) ZL).trans k1;have g2:wr.cell? ⟨b,off+k*4+2,none⟩=some (.int .i64 p.w):=(fB.cell (p:=⟨b,off+k*4+2,none⟩) ZL).trans k2;have g3:wr.cell? ⟨b,off+k*4+3,none⟩=some (.slice A3 p.q.length c3):=(fB.cell (p:=⟨b,off+k*4+3,none⟩) ZL).trans k3;clear k0 k1 k2 k3
  go_wp2
  have hll:=zA jU;have hLn:(jf (ps.take k)).length<=5000000:=by have:=Hi (ps:=ps.take k) λq hq=>hD.out q (vC hq);rw[List.length_take]at this;omega
  clear hc j3 hD;obtain⟨⟨o1,o2,o3⟩,q1,q2,q4,q3⟩:=jU;have hs:=fB.size;generalize wq:p.u.length=n0 at*;generalize hn1:p.l.length=n1 at*;generalize hn3:p.q.length=n3 at*;have hS:ym w.heap.size wr.heap.size w (.slice A0 n0 c0) (.slice A1 n1 c1) (.int .i64 p.w) (.slice A3 n3 c3) (wr.alloc (.cells #[.slice A0 n0 c0,.slice A1 n1 c1,.int .i64 p.w,.slice A3 n3 c3] 42)):=Vy ⟨heap_alloc_new wr _,fB.alloc hs _,by simp;omega⟩;have hN:wr.heap.size≠w.heap.size:=by have:=tw.elim (·.lt) (·.lt);omega
  have RF:Lib.IsBuilderF 89 5 w.heap.size w.heap.size (Lib.byteCells (jf (ps.take k))) (wr.alloc (.cells #[.slice A0 n0 c0,.slice A1 n1 c1,.int .i64 p.w,.slice A3 n3 c3] 42)):=xb tw;clear tw g0 g1 g2 g3
  go_region_held3 (λw'=>ym w.heap.size wr.heap.size w (.slice A0 n0 c0) (.slice A1 n1 c1) (.int .i64 p.w) (.slice A3 n3 c3) w') (first|exact hS|exact CX (by assumption)|exact Xy (by assumption)|exact CY (by assumption) (by assumption)|exact CY (CX (by assumption)) (by assumption)|exact KV (by assumption) (by assumption) (by assumption) hN|exact KV (CX (by assumption)) (by assumption) (by assumption) hN) (first
   |(go_at_call 47;with_reducible refine(Tryz.zG A0 n0 c0 p.u wq.symm _ (wq▸o1) q1 (vP i0 ?_)).mono ?_;(first|exact pI (by assumption)|exact(pI (by assumption)).drew);rintro e w' ⟨rfl,hb⟩)
   |(go_at_call 47;with_reducible refine(Tryz.zG A1 n1 c1 p.l hn1.symm _ (hn1▸o2) q2 (vP i1 ?_)).mono ?_;(first|exact pI (by assumption)|exact(pI (by assumption)).drew);rintro e w' ⟨rfl,hb⟩)
   |(go_at_call 47;with_reducible refine(Tryz.zG A3 n3 c3 p.q hn3.symm _ (hn3▸o3) q3 (vP i3 ?_)).mono ?_;(first|exact pI (by assumption)|exact(pI (by assumption)).drew);rintro e w' ⟨rfl,hb⟩)
   |(go_at_call 47;with_reducible refine(Tryz.zG _ 1 1 [p.w] rfl _ ae (by simpa using q4) (YQ ?_)).mono ?_;(first|exact rE|exact jR rE (by assumption)|exact jR (jR rE (by assumption)) (by assumption)|(refine jR ?_ (by assumption);refine jR ?_ (by assumption);exact acm (Ud ae)));rintro e w' ⟨rfl,hb⟩)
   |(go_at_call 45;with_reducible refine(aaT ?_ hLn (bt hll ab) ?_).mono ?_;(repeat' first|exact RF|(with_reducible refine JM ?_)|(with_reducible refine xb ?_)|(refine sX ?_ (by assumption)));(first|exact Vz (by assumption)|exact Vz (CX (by assumption)));rintro e w' ⟨rfl,hbw,hb,FN⟩)
   |(go_at_call 46;with_reducible refine(ahi (p:=p) ?_ ?_).mono ?_;exact Xz;omega;rintro e w' ⟨rfl,hb⟩))
  all_goals (
   clear RF hS;have hle:=Vz (by assumption:ym w.heap.size wr.heap.size w (.slice A0 n0 c0) (.slice A1 n1 c1) (.int .i64 p.w) (.slice A3 n3 c3) _)
   go_wp2_with (go_at_call 48;refine(Tryz.Builder_WriteByte w.heap.size w.heap.size _ 10 _ hbw (by rw[Lib.byteCells_length,cL];omega) hle).mono ?_)
   rintro e w2 ⟨rfl,aat,uZ,-⟩;have CN:=Lib.hid ((pI (by assumption)).trans uZ);rw[show(Value.int .u8 10)=.int .u8 ((10:UInt8).toNat:Int)from rfl,<-Lib.ou,<-Lib.byteCells_append]at aat;have e3:jf (ps.take k)++wJ p++[10]=jf (ps.take (k+1)):=by rw[OP ya,hp]
   rw[e3]at aat;have ajB:=Lib.hid aat;clear hbw aat uZ hle
   go_wp2
   exact⟨⟨k+1,ab,by go_num,.inr ajB.out,CN.out⟩,by simp[intOf];omega⟩)
 have Bt:k=ps.length:=ab
 subst Bt;rw[gN]at tw;have hs:=fB.size
 go_wp2_with (go_at_call 49;refine(Tryz.Builder_String_any w.heap.size w.heap.size _ _ tw hs).mono ?_)
 rintro e w' ⟨rfl,-,hb,-⟩
 go_wp2
 exact fB.trans hb
end Go.Proofs
namespace Go.Di
open Go Go.Conc Go.Co Go.Proofs Go.RowKit
variable {aa:Machine->Trace->Prop} {x:Cx} {w':World}
def Cx.grow (x:Cx)(w':World):Cx:=x.Bx w' (.slice none 0 0) (0*1)
theorem X6(hR:Rel x)(hs:x.w.heap.size<=w'.heap.size)(he:w'.os=x.w.os/\w'.output=x.w.output)(ho:∀b,b<x.w.heap.size->w'.heap[b]? =x.w.heap[b]?):Rel (x.grow w'):=AZ (e:=0) hR hs he ho (World.ownsRow_nil _ _ _ _)
theorem TJ(hR:Rel x)(hs:x.w.heap.size<=w'.heap.size)(he:w'.os=x.w.os/\w'.output=x.w.output)(ho:∀b,b<x.w.heap.size->w'.heap[b]? =x.w.heap[b]?):bE x (x.grow w'):=sM (e:=0) hR hs he ho (World.ownsRow_nil _ _ _ _)
def sv(l:List UInt8):DV:=.val (.string ⟨l.toArray⟩)
def ake:DV->DV->Option DV
 |.val (.string s),.val (.string sep)=>if s.size<4294967281 then
  some (.tup [sv (Lib.cut s.data.toList sep.data.toList).1,sv (Lib.cut s.data.toList sep.data.toList).2.1,.val (.bool (Lib.cut s.data.toList sep.data.toList).2.2)])else none
 |_,_=>none
def aiE:DV->DV->Option DV
 |.val (.string s),.val (.string sep)=>if s.size<4294967281/\1<=sep.size then
  some (.sl ((Lib.splitB sep 0 (Lib.countB s sep) s).map λb=>.val (.string b)) none ⟨false,none⟩)else none
 |_,_=>none
end Go.Di
namespace Go.Di
open Go Go.Conc Go.Co Go.Proofs Go.RowKit
variable {P:Program} {aa:Machine->Trace->Prop} {ty:fo} {aD:bT} {call:bg} {yf:dx} {x:Cx}
def lft:Code->Code
 |.seq a _=>a
 |_=>.skip
def UJ:Code->Code
 |.seq _ b=>b
 |_=>.skip
def adA:List Code->Code->Code
 |[],r=>r
 |c::l,r=>.seq c (adA l r)
def Ve:DV->Option PM
 |.agg [.sl u _ _,.sl l _ _,.val (.int .i64 w),.sl q _ _]=>match tV u,tV l,tV q with
  |some u,some l,some q=>some ⟨u,l,w,q⟩
  |_,_,_=>none
 |_=>none
def Nf:cn->Option dp
 |[]=>some []
 |d::l=>match Ve d,Nf l with
  |some p,some r=>some (p::r)
  |_,_=>none
theorem Lg:∀{l:cn}{ps:dp},Nf l=some ps->ps.length=l.length/\∀(j:Nat)(p:PM),ps[j]? =some p->∃d,l[j]? =some d/\Ve d=some p
 |[],ps,h=>by cases h;simp
 |d::l,ps,h=>by
  unfold Nf at h;split at h;rename_i p r h1 h2;cases h;obtain⟨h3,h4⟩:=Lg h2;refine⟨by simp[h3],λj q hq=>?_⟩;cases j with
  |zero=>simp only[dH,aF]at hq;subst hq;exact⟨d,rfl,h1⟩
  |succ j=>simpa using h4 j q (by simpa using hq)
  cases h
theorem Jk{r:cn}{t:Option Nat}{f:SF}{v:Value}{l:cj}(h:RV x (.sl r t f) v)(hl:tV r=some l):∃A c,v=.slice A l.length c/\fe x.w A l:=by
 obtain⟨h1,h2,h3⟩:=vQ hl;cases h with
 |@sl _ _ _ A cap s vs hv hr k1 k2 k3 k4 k5=>
  refine⟨A,cap,by rw[h1],λhne=>?_⟩;have FM:0<l.length:=List.length_pos_iff.2 hne;have hc:∀j,j<l.length->(flat r)[j]? =some (.val (.int .i64 (l.getD j 0))):=λj hj=>by rw[h3];refine h2 j _ ?_;simp[aK,hj]
  obtain⟨-,b,o,q1,-,-⟩:=hv.2 0 _ (hc 0 FM);refine⟨b,o,q1,λj hj=>?_⟩;obtain⟨-,b',o',q2,q3,q4⟩:=hv.2 j _ (hc j hj);rw[q1]at q2;cases q2;have:=hr j _ (hc j hj);generalize vs j=u at*;cases this with
  |val _=>exact q4
theorem S9{r:cn}{t:Option Nat}{f:SF}{v:Value}{ps:dp}(h:RV x (.sl r t f) v)(hl:Nf r=some ps):∃A c,v=.slice A ps.length c/\lz x.w A ps:=by
 obtain⟨h1,h2⟩:=Lg hl;cases h with
 |@sl _ _ _ A cap s vs hv hr k1 k2 k3 k4 k5=>
  refine⟨A,cap,by rw[h1],λhne=>?_⟩;have key:∀j p,ps[j]? =some p->∃b o,A=some ⟨b,o,none⟩/\L9 x.w b (o+j*4) p:=λj p hp=>by
   obtain⟨d,hd,Uq⟩:=h2 j p hp;unfold Ve at Uq;split at Uq;rename_i u tu fu l tl fl w q tq fq;split at Uq;rename_i u' l' q' hu jZ hq;cases Uq;have hs:s=4:=by have:=hv.1 _ (bY hd);simpa [DV.cells]using this.symm
   subst hs;have hg:∀i,i<4->(flat r)[j*4+i]? =[.sl u tu fu,.sl l tl fl,.val (.int .i64 w),.sl q tq fq][i]? :=λi hi=>uF hv.1 hd hi;obtain⟨-,b,o,a0,-,m0⟩:=hv.2 _ _ (hg 0 ab);obtain⟨-,b1,o1,a1,-,m1⟩:=hv.2 _ _ (hg 1 ab);obtain⟨-,b2,o2,a2,-,m2⟩:=hv.2 _ _ (hg 2 ab);obtain⟨-,b3,o3,a3,-,m3⟩:=hv.2 _ _ (hg 3 ab);rw[a0]at a1 a2 a3;cases a1;cases a2;cases a3
   obtain⟨A0,c0,e0,i0⟩:=Jk (hr _ _ (hg 0 ab)) hu;obtain⟨A1,c1,e1,i1⟩:=Jk (hr _ _ (hg 1 ab)) jZ;obtain⟨A3,c3,e3,i3⟩:=Jk (hr _ _ (hg 3 ab)) hq;have e2:=nX (hr _ _ (hg 2 ab));rw[e0]at m0;rw[e1]at m1;rw[e2]at m2;rw[e3]at m3
   exact⟨b,o,a0,A0,c0,A1,c1,A3,c3,⟨m0,by rw[fS];exact m1,by rw[fS];exact m2,by rw[fS];exact m3⟩,i0,i1,i3⟩;cases Uq;cases Uq
  obtain⟨b,o,a0,-⟩:=key 0 _ (aT (List.length_pos_iff.2 hne));refine⟨b,o,a0,λj p hp=>?_⟩;obtain⟨b',o',a1,h3⟩:=key j p hp;rw[a0]at a1;cases a1;exact h3
noncomputable def y10:Code:=match Tryz.f10.body with
 |some c=>c
 |none=>.skip
theorem aez:y10=adA [lft y10,lft (UJ y10)] NK:=by kernel_rfl
theorem aeK:Tryz.f10.ntmps=38:=by kernel_rfl
def Behind(y:Cx)(w:World):Prop:=y.w.heap.size<=w.heap.size/\(w.os=y.w.os/\w.output=y.w.output)/\∀b,b<y.w.heap.size->w.heap[b]? =y.w.heap[b]?
end Go.Di
namespace Go.Proofs
open Go.RowKit Go.Extern.Stop Go.Stop Go.Extern
abbrev Io:Value:=.pointer (some ⟨4,104,none⟩)
abbrev Am:Value:=.pointer (some ⟨4,102,none⟩)
abbrev Vm:Value:=.pointer (some ⟨4,91,none⟩)
theorem afO(t:Value)(w:World):
  Calls Tryz.prog 53 #[.nilIface,t] w λe w'=>e=.returned (.bool false)/\w'=w:=by
 go_enter Tryz.func53,Tryz.ntmps53
 go_wp2
 go_ret
 exact⟨rfl,rfl⟩
theorem Tryz.aiI (t:Addr)(w:World):(ReflectliteValue.unpack (.iface 104 (.pointer (some t)))).run Tryz.prog w
 =.ok (.agg #[Io,.pointer (some ⟨w.heap.size,0,none⟩),.int .u64 150]) (w.alloc (.cells #[.pointer (some t)] 104)):=by kernel_rfl
theorem Tryz.tyP (a:Addr)(w:World):(ReflectliteValue.methodAny (ReflectliteValue.valueError "reflectlite.Value.Type" 0) (λt _ _ _=>ReflectliteType.toType t) #[.agg #[Io,.pointer (some a),.int .u64 150]]).run Tryz.prog w
 =.ok (.iface 196 (.agg #[Io])) w:=by kernel_rfl
theorem Tryz.OJ (h:Value)(w:World):(Go.method 380 196 (.agg #[h]) "Kind").run Tryz.prog w=.ok (189,h) w:=by kernel_rfl
theorem Tryz.kdP (w:World):((ReflectliteType.abiMethod λt=>(λa:Nat=>Value.int IntKind.u8 (a:Int))<$>Rtype.kind t) #[Io]).run Tryz.prog w=.ok (.int .u8 22) w:=by kernel_rfl
theorem Tryz.kdT (w:World):((ReflectliteType.abiMethod λt=>(λa:Nat=>Value.int IntKind.u8 (a:Int))<$>Rtype.kind t) #[Am]).run Tryz.prog w=.ok (.int .u8 25) w:=by kernel_rfl
theorem acZ(z:Sem Value)(f:TypeId->Addr->Nat->Nat->Sem Value)(v:Value):
 ReflectliteValue.method z f #[v]=(do match<-ReflectliteValue.parts v with|none=>z|some (t,a,fl)=>f t a fl (fl % 32)):=rfl
theorem Tryz.ptP (a:Addr)(w:World):(ReflectliteValue.parts (.agg #[Io,.pointer (some a),.int .u64 150])).run Tryz.prog w=.ok (some (104,a,150)) w:=by kernel_rfl
theorem Tryz.inP (a p:Addr)(W:World)(ha:W.cell? a=some (.pointer (some p))):
  (ReflectliteValue.method (ReflectliteValue.valueError "reflectlite.Value.IsNil" 0) ReflectliteValue.isNil #[.agg #[Io,.pointer (some a),.int .u64 150]]).run Tryz.prog W=.ok (.bool false) W:=by
 rw[acZ];simp only[Sem.run_bind,Tryz.ptP,Result.andThen];simp[ReflectliteValue.isNil,loadVar,isAgg,underlying,Tryz.underlying104,ha,Result.andThen]
theorem Tryz.OK (h:Value)(w:World):(Go.method 380 196 (.agg #[h]) "Elem").run Tryz.prog w=.ok (201,.agg #[h]) w:=by kernel_rfl
theorem Tryz.Bq (h:Value)(w:World):(Go.method 380 196 (.agg #[h]) "Implements").run Tryz.prog w=.ok (202,.agg #[h]) w:=by kernel_rfl
theorem Tryz.x4 (h:Value)(w:World):(Go.method 380 196 (.agg #[h]) "AssignableTo").run Tryz.prog w=.ok (199,.agg #[h]) w:=by kernel_rfl
theorem Tryz.elP (w:World):(ReflectliteType.method ReflectliteType.elem #[.agg #[Io]]).run Tryz.prog w=.ok (.iface 196 (.agg #[Am])) w:=by kernel_rfl
theorem Tryz.imT (w:World):(ReflectliteType.relation "Implements" ReflectliteType.implements_ #[.agg #[Am],.iface 196 (.agg #[Vm])]).run Tryz.prog w=.ok (.bool true) w:=by kernel_rfl
theorem Tryz.toT (v:Value)(w:World):(ReflectliteType.typeOf #[.iface 102 v]).run Tryz.prog w=.ok (.iface 196 (.agg #[Am])) w:=by kernel_rfl
theorem Tryz.asT (w:World):(ReflectliteType.relation "AssignableTo" ReflectliteType.assignableTo #[.agg #[Am],.iface 196 (.agg #[Am])]).run Tryz.prog w=.ok (.bool true) w:=by kernel_rfl
theorem Tryz.aiH (n:Int)(w:World):(ReflectliteValue.unpack (.iface 102 (.agg #[.int .i64 n]))).run Tryz.prog w
 =.ok (.agg #[Am,.pointer (some ⟨w.heap.size,0,none⟩),.int .u64 153]) (w.alloc (.cells #[.int .i64 n] 102)):=by kernel_rfl
theorem Tryz.eoP (w:World):(Rtype.elem? 104).run Tryz.prog w=.ok (some 102) w:=by kernel_rfl
theorem Tryz.mkT (p:Addr)(w:World):(ReflectliteValue.mk 102 p ReflectliteValue.flagAddr).run Tryz.prog w=.ok (.agg #[Am,.pointer (some p),.int .u64 409]) w:=by kernel_rfl
theorem Tryz.evP (a p:Addr)(W:World)(ha:W.cell? a=some (.pointer (some p))):
  (ReflectliteValue.method (ReflectliteValue.valueError "reflectlite.Value.Elem" 0) ReflectliteValue.elem #[.agg #[Io,.pointer (some a),.int .u64 150]]).run Tryz.prog W
   =.ok (.agg #[Am,.pointer (some p),.int .u64 409]) W:=by
 rw[acZ];simp only[Sem.run_bind,Tryz.ptP,Result.andThen];simp[ReflectliteValue.elem,loadVar,isAgg,underlying,Tryz.underlying104,ha,Result.andThen,Tryz.eoP,Tryz.mkT]
theorem ahg(v x:Value):ReflectliteValue.set #[v,x]=(do
 let (some (dst,a,fl),some (src,b,_)):=(<-ReflectliteValue.parts v,<-ReflectliteValue.parts x)
  |unsupported (.noEntry "extern/(internal/reflectlite.Value).Set.zeroValue")
 if fl/ReflectliteValue.flagAddr % 2==0 then unsupported (.noEntry "extern/(internal/reflectlite.Value).Set.unaddressable")
 let val<-loadVar src b
 if<-Rtype.directlyAssignable dst src then storeVar dst a val
 else if<-Rtype.implements dst src then
  if(<-Rtype.kind src)==20 then
   match val with
   |.nilIface=>unsupported (.noEntry "extern/reflectlite: a nil value of one interface type handed on as a value of another")
   |_=>storeVar dst a val
  else storeVar dst a (.iface src val)
 else panicString ("reflectlite.Set: value of type "++(<-Rtype.spelt src)++" is not assignable to type "++(<-Rtype.spelt dst))
 pure (.tuple #[])):=rfl
theorem Tryz.aiV (a:Addr)(w:World):(ReflectliteValue.parts (.agg #[Am,.pointer (some a),.int .u64 409])).run Tryz.prog w=.ok (some (102,a,409)) w:=by kernel_rfl
theorem Tryz.ptT (a:Addr)(w:World):(ReflectliteValue.parts (.agg #[Am,.pointer (some a),.int .u64 153])).run Tryz.prog w=.ok (some (102,a,153)) w:=by kernel_rfl
theorem Tryz.drT (w:World):(Rtype.directlyAssignable 102 102).run Tryz.prog w=.ok true w:=by kernel_rfl
theorem Tryz.ldT (b:Addr)(n:Int)(W:World)(hb:W.cell? b=some (.int .i64 n)):(loadVar 102 b).run Tryz.prog W=.ok (.agg #[.int .i64 n]) W:=by simp[loadVar,Tryz.isAgg102,Tryz.sizeOf102,loadCells,loadCellsFrom,Addr.add,hb,Result.andThen]
theorem Tryz.stV (a:Addr)(n:Int)(old:Value)(W:World)(ht:W.cell? a=some old)(hf:W.frozen? a=false):(storeVar 102 a (.agg #[.int .i64 n])).run Tryz.prog W=.ok () (W.setCell a (.int .i64 n)):=by simp[storeVar,Value.cells,Tryz.sizeOf102,storeCells,Addr.add,Result.andThen];rw[run_store Tryz.prog W a _ _ (by rfl)];simp[ht,hf]
theorem Tryz.stT (ta b:Addr)(n:Int)(old:Value)(W:World)(hb:W.cell? b=some (.int .i64 n))(ht:W.cell? ta=some old)(hf:W.frozen? ta=false):
  (ReflectliteValue.set #[.agg #[Am,.pointer (some ta),.int .u64 409],.agg #[Am,.pointer (some b),.int .u64 153]]).run Tryz.prog W
   =.ok (.tuple #[]) (W.setCell ta (.int .i64 n)):=by
 rw[ahg];simp only[Sem.run_bind,Tryz.aiV,Tryz.ptT,Result.andThen];simp[ReflectliteValue.flagAddr,Tryz.ldT b n W hb,Result.andThen,Tryz.drT,Tryz.stV ta n old W ht hf]
abbrev UK(t:Addr):Obj:=.cells #[.pointer (some t)] 104
abbrev JZ(w:World):Obj:=.cells #[Io,.pointer (some ⟨w.heap.size,0,none⟩),.int .u64 150] 155
theorem afP(n:Int)(t:Addr)(old:Value)(w:World)(hg:w.cell? ⟨0,0,none⟩=some (.iface 196 (.agg #[Vm])))(FC:w.cell? t=some old)(hf0:w.frozen? t=false):
  Calls Tryz.prog 53 #[.iface 102 (.agg #[.int .i64 n]),.iface 104 (.pointer (some t))] w λev w'=>ev=.returned (.bool true)/\w'=((((w.alloc (UK t)).alloc (JZ w)).alloc (JZ w)).alloc (.cells #[.int .i64 n] 102)).setCell t (.int .i64 n):=by
 have h6:=@run_callFunc_extern Tryz.prog 89 _ (λargs=>ReflectliteValue.unpack (args.getD 0 (.tuple #[]))) Tryz.func89 (by kernel_rfl) (by kernel_rfl) (by kernel_rfl) (by kernel_rfl);have h7:=@run_callFunc_extern Tryz.prog 90 _ (ReflectliteValue.methodAny (ReflectliteValue.valueError "reflectlite.Value.Type" 0) (λt _ _ _=>ReflectliteType.toType t)) Tryz.func90 (by kernel_rfl) (by kernel_rfl) (by kernel_rfl) (by kernel_rfl);have h8:=@run_callFunc_extern Tryz.prog 91 _ (ReflectliteValue.method (ReflectliteValue.valueError "reflectlite.Value.IsNil" 0) ReflectliteValue.isNil) Tryz.func91 (by kernel_rfl) (by kernel_rfl) (by kernel_rfl) (by kernel_rfl);have h27:=@run_callFunc_extern Tryz.prog 189 _ (ReflectliteType.abiMethod λt=>do pure (.int .u8 (<-Rtype.kind t))) Tryz.func189 (by kernel_rfl) (by kernel_rfl) (by kernel_rfl) (by kernel_rfl);have h37:=@run_callFunc_extern Tryz.prog 201 _ (ReflectliteType.method ReflectliteType.elem) Tryz.func201 (by kernel_rfl) (by kernel_rfl) (by kernel_rfl) (by kernel_rfl);have h38:=@run_callFunc_extern Tryz.prog 202 _ (ReflectliteType.relation "Implements" ReflectliteType.implements_) Tryz.func202 (by kernel_rfl) (by kernel_rfl) (by kernel_rfl) (by kernel_rfl);have wz:=@run_callFunc_extern Tryz.prog 121 _ ReflectliteType.typeOf Tryz.func121 (by kernel_rfl) (by kernel_rfl) (by kernel_rfl) (by kernel_rfl);have h35:=@run_callFunc_extern Tryz.prog 199 _ (ReflectliteType.relation "AssignableTo" ReflectliteType.assignableTo) Tryz.func199 (by kernel_rfl) (by kernel_rfl) (by kernel_rfl) (by kernel_rfl);have Ge:=@run_callFunc_extern Tryz.prog 122 _ (ReflectliteValue.method (ReflectliteValue.valueError "reflectlite.Value.Elem" 0) ReflectliteValue.elem) Tryz.func122 (by kernel_rfl) (by kernel_rfl) (by kernel_rfl) (by kernel_rfl);have U0:=@run_callFunc_extern Tryz.prog 123 _ ReflectliteValue.set Tryz.func123 (by kernel_rfl) (by kernel_rfl) (by kernel_rfl) (by kernel_rfl);have tO:=Tryz.toT;have mA:=Tryz.x4;have a25:=Tryz.asT;have v25:=Tryz.aiH;have f6:=Tryz.aiI;have f7:=Tryz.tyP;have mK:=Tryz.OJ;have mE:=Tryz.OK;have mI:=Tryz.Bq;have k27:=Tryz.kdP;have k25:=Tryz.kdT;have e27:=Tryz.elP;have i25:=Tryz.imT;have n8:=Tryz.inP ⟨w.heap.size,0,none⟩ t ((w.alloc (UK t)).alloc (JZ w)) ae;have hlt:0<w.heap.size:=by rcases nk w.heap.size with h0|h;simp[World.cell?,h0]at hg;exact h
 have hg2:((w.alloc (UK t)).alloc (JZ w)).cell? ⟨0,0,none⟩=some (.iface 196 (.agg #[Vm])):=by rw[World.cell?_alloc_lt _ _ ⟨0,0,none⟩ ae,World.cell?_alloc_lt _ _ ⟨0,0,none⟩ hlt];exact hg
 have htl:t.block<w.heap.size:=by rcases qw t.block w.heap.size with h|h;exact h;simp[World.cell?,vF h]at FC
 have el:=Tryz.evP ⟨w.heap.size,0,none⟩ t (((w.alloc (UK t)).alloc (JZ w)).alloc (JZ w)) (by rw[World.cell?_alloc_lt _ _ ⟨w.heap.size,0,none⟩ (by simp;omega)];simp);have st:=Tryz.stT t ⟨w.heap.size+1+1+1,0,none⟩ n old ((((w.alloc (UK t)).alloc (JZ w)).alloc (JZ w)).alloc (.cells #[.int .i64 n] 102))
  (by rw[World.cell?_alloc_at _ _ _ _ ae];rfl)
  (by rw[World.cell?_alloc_lt _ _ t (by simp;omega),World.cell?_alloc_lt _ _ t (by simp;omega),World.cell?_alloc_lt _ _ t (by simp;omega),World.cell?_alloc_lt _ _ t htl];exact FC)
  (by rw[World.frozen?_alloc_old _ _ t (by simp;omega),World.frozen?_alloc_old _ _ t (by simp;omega),World.frozen?_alloc_old _ _ t (by simp;omega),World.frozen?_alloc_old _ _ t (Nat.ne_of_lt htl)];exact hf0)
 go_enter Tryz.func53,Tryz.ntmps53
 go_wp2
 refine wp_loop_rounds 1 ?_;rw[rounds_succ]
 go_wp2
 go_ret
 exact⟨rfl,rfl⟩
end Go.Proofs
namespace Go.Proofs
open Go.RowKit
noncomputable def rR5:Code:=match Tryz.f14.body with
 |some (.seq _ (.seq _ (.seq _ (.seq (.seq _ (.seq r _)) _))))=>r
 |_=>.skip
end Go.Proofs
namespace Go.Di
open Go Go.Conc Go.Co Go.Proofs Go.RowKit
variable {aa:Machine->Trace->Prop} {ty:fo} {aD:bT} {call:bg} {yf:dx} {x:Cx}
noncomputable def y14:Code:=match Tryz.f14.body with
 |some c=>c
 |none=>.skip
noncomputable def x14:Code:=lft (UJ (UJ (UJ y14)))
noncomputable def z14:Code:=UJ (UJ (UJ (UJ y14)))
noncomputable def c14:Code:=UJ (UJ x14)
structure aj6 (ty:fo) (aD:bT) (call:bg) (yf:dx) (L:Nat) (e2:cn) (S3:aj) (d5:DV) (hit:Bool) (l:cn):Prop where
 run:∀v:Value,∃e4 S4,(cI Tryz.prog ty aD call yf L 14 false c14 (((e2.set 17 d5).set 18 (.val (.iface 104 v))).set 19 (.val (.bool hit))) S3=some (.ret,e4,S4)\/
  ∃e5 S5,cI Tryz.prog ty aD call yf L 14 false c14 (((e2.set 17 d5).set 18 (.val (.iface 104 v))).set 19 (.val (.bool hit))) S3=some (.normal,e5,S5)/\cI Tryz.prog ty aD call yf L 14 false z14 e5 S5=some (.ret,e4,S4))/\
  tr ty e4 S4 Tryz.f14.results.toList=some l
variable {L:Nat}
end Go.Di
namespace Go.Proofs
open Go.RowKit
def Uj(b:UInt8):Bool:=decide (48<=b.toNat)&&decide (b.toNat<=57)
def Ic(l:List UInt8):cj:=l.map λb=>(b.toNat:Int)-48
def gh(l:List UInt8):cj×Bool:=if l.all Uj then(Ic l,!l.isEmpty)else([],false)
theorem TA{l:List UInt8}{k:Nat}(h:k<l.length):Ic (l.take (k+1))=Ic (l.take k)++[((l.getD k 0).toNat:Int)-48]:=by rw[Ic,List.take_add_one,eY,aK,aT h];rfl
theorem Xu{l:List UInt8}{k:Nat}(h:k<l.length)(h1:(l.take k).all Uj=true)(h2:Uj (l.getD k 0)=true):(l.take (k+1)).all Uj=true:=by rw[List.take_add_one,lU,h1,aT h];simpa [aK,aT h]using h2
theorem abF{l:List UInt8}{k:Nat}(h:k<l.length)(h2:Uj (l.getD k 0)=false):l.all Uj=false:=by rw[aK,aT h]at h2;exact List.all_eq_false.2 ⟨l[k],iS h,by simpa using h2⟩
theorem Tryz.PE:(Tryz.prog.info? 3).map (λi=>(i.zero,i.size,i.bytes))=some (some (.int .i64 0),1,8):=by kernel_rfl
theorem Tryz.u9:Tryz.prog.underlying 9=some .string:=by kernel_rfl
theorem Tryz.u5:Tryz.prog.underlying 5=some (.int .u8):=by kernel_rfl
theorem Tryz.u33:Tryz.prog.underlying 33=some (.slice 5):=by kernel_rfl
theorem Tryz.u23:Tryz.prog.underlying 23=some (.slice 3):=by kernel_rfl
theorem ML(w:World)(e:TypeId)(s:ByteArray):Below w.heap.size w (Lib.bytesWorld w e s):=
 ⟨rfl,rfl,rfl,by rw[Lib.bytesWorld_size];omega,λj hj=>Lib.bytesWorld_at_old w e s j hj⟩
theorem GY{w:World}{b:Nat}{e:TypeId}{s:Nat}{v:Value}{n:Nat}{xs:List Value}(h:w.ownsRow b e s v n xs):∃A c,v=.slice A n c:=by rcases h.2 with ⟨h1,h2⟩|⟨g,c,cur,h1,-⟩;exact⟨none,0,by rw[h1,h2]⟩;exact⟨_,c,h1⟩
theorem Ls{l:List UInt8}{k:Nat}{c:UInt8}(h:k<l.length)(hc:l.getD k 0=c)(hb:c.toNat<48\/57<c.toNat):gh l=([],false):=by
 have:Uj (l.getD k 0)=false:=by rw[hc];simp only[Uj,Bool.and_eq_false_iff,decide_eq_false_iff_not];omega
 simp[gh,abF h this]
theorem Yx{l:List UInt8}(h:l.all Uj=true):gh l=(Ic l,!l.isEmpty):=by simp[gh,h]
theorem Tryz.Mw (s:ByteArray)(w:World)(hl:s.size<=1000000):
  Calls Tryz.prog 120 #[.string s] w λe w'=>∃v,e=.returned (.tuple #[v,.bool (gh s.data.toList).2])/\w'.ownsRow (w.heap.size+1) 3 1 v (gh s.data.toList).1.length ((gh s.data.toList).1.map (Value.int .i64))/\Below w.heap.size w w':=by
 obtain⟨i0,hi,HU,Pp,hz2⟩:=info_parts Tryz.PE;have ahv:=Lib.run_convert_string_bytes (P:=Tryz.prog) w 9 33 5 s Tryz.u9 Tryz.u33 Tryz.u5;have dB:=λj hj=>Lib.bytesWorld_cell w 5 s j hj;have hW:=ML w 5 s;have hsz:=Lib.bytesWorld_size w 5 s;generalize Lib.bytesWorld w 5 s=W at ahv dB hW hsz;have hW:=Lib.hid hW;have hsz:=Lib.hid hsz;have dB:=Lib.hid dB;have hl:=Lib.hid hl
 go_enter Tryz.func120,Tryz.ntmps120
 go_wp2
 go_loopw [4,10] (λv i wr=>∃k:Nat,k<=s.size/\i=.int .i64 (k:Int)/\(s.data.toList.take k).all Uj=true/\wr.ownsRow (w.heap.size+1) 3 1 v k ((Ic (s.data.toList.take k)).map (Value.int .i64))/\Below (w.heap.size+1) W wr)
  (λ_ i _=>s.size-(intOf i).toNat)
 case atStart=>exact⟨0,gm _,rfl,rfl,World.ownsRow_nil _ _ _ _,Below.refl _ _⟩
 case round=>
  obtain⟨k,hk,rfl,dX,dW,Bs⟩:=hrel;have hcx:k<s.size->wr.cell? ⟨w.heap.size,k,none⟩=some (.int .u8 (s.data.toList.getD k 0).toNat):=λh=>(Bs.cell ae).trans (dB.out k h);obtain⟨A,cc,rfl⟩:=GY dW;have Bs:=Lib.hid Bs;have dX:=Lib.hid dX;generalize hcv:s.data.toList.getD k 0=c at hcx;have hcv:=Lib.hid hcv
  go_wp2_with (first
   |(at_builtin;refine wpList_append_own _ rfl _ _ 23 rfl (w.heap.size+1) 3 i0 (.int .i64 0) 1 8 Tryz.u23 hi HU Pp hz2 rfl ao _ _ _ rfl (dW.alloc _) ⟨wr.heap.size,0,none⟩ 1 1 [.int .i64 ((c.toNat:Int)-48)] rfl rfl ?c1 ?c2 ?c3 ?c4 ?c5 ?_)
   |go_in)
  case c1=>
   intro j u hj
   match j,hj with
   |0,hj=>simp at hj;subst hj;simp[Addr.add]
  case c2=>intro u hu;simp at hu;subst hu;rfl
  case c3=>have:=hl.out;unfold maxLen;omega
  case c4=>have:=hl.out;omega
  case c5=>have:=Bs.out.size;have:=hsz.out;simp;omega
  have oT:k<s.size:=by assumption
  rw[Ls (k:=k) (by rw[eZ];exact oT) hcv.out (.inr ab)]
  go_ret2
  exact⟨_,rfl,World.ownsRow_nil _ _ _ _,hW.out.trans (Bs.out.mono ab)⟩
  .intro v' w1 Ks ahr _;have oT:k<s.size:=by assumption
   have hd:Uj c=true:=by simp only[Uj,aC,bR];omega
   have hle:=Bs.out.size;have hz:=hsz.out;have hlt:=dW.lt
   go_wp2
   go_roundw
   case rel=>
    refine⟨k+1,ab,by go_num,Xu (by rw[eZ];exact oT) dX.out (by rw[hcv.out];exact hd),?_,?_⟩;rw[TA (by rw[eZ];exact oT),hcv.out];simpa using Ks;exact(Bs.out.alloc ab _).grown ahr (by simp;omega) (λj hj=>(hlt j hj).1)
   case measure=>simp[intOf];omega
  have oT:k<s.size:=by assumption
  rw[Ls (k:=k) (by rw[eZ];exact oT) hcv.out (.inl ab)]
  go_ret2
  exact⟨_,rfl,World.ownsRow_nil _ _ _ _,hW.out.trans (Bs.out.mono ab)⟩;have Bt:k=s.size:=ab
  subst Bt;have ht:s.data.toList.take s.size=s.data.toList:=List.take_of_length_le (by rw[eZ];exact ai _);have h1:=dX.out;rw[ht]at h1;rw[ht]at dW;rw[Yx h1]
  go_ret2
  have e:(Ic s.data.toList).length=s.size:=by simp[Ic]
  have e2:decide (0<s.size)=!s.data.toList.isEmpty:=by rw[show s.size=s.data.toList.length from eZ.symm];cases s.data.toList<;>rfl
  exact⟨.slice A s.size cc,by rw[<-e2];rfl,by simp only[e];exact dW,hW.out.trans (Bs.out.mono ab)⟩
end Go.Proofs
