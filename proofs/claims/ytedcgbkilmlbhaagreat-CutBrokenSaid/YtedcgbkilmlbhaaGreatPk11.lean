import Derived.Test.YtedcgbkilmlbhaaGreatPk10
import Derived.Test.YtedcgbkilmlbhaaGreatPk09
section
namespace Go.Tv
open Go Go.Di Go.Proofs
set_option maxRecDepth 100000
set_option maxHeartbeats 1000000
theorem EN:∀ (l:List Int) (c:Int),(∀ x∈l,c≤x∧x≤3)→l.Pairwise (· < ·)→(l.length:Int)≤max 0 (4-c)
 | [],c,_,_=>by simp; omega
 | x::l,c,h,hp=>by
  have h1:=h x (by simp)
  rw[List.pairwise_cons] at hp
  have h2:=EN l (x+1) (fun y hy=>⟨hp.1 y hy,(h y (by simp[hy])).2⟩) hp.2
  rw[List.length_cons]
  omega
theorem q_len4 {u l q:List Int} {w:Int} (h:Ok u l w q):q.length≤4:=by
 have:=EN q 0 h.Ad h.U5
 omega
def AH (p:aU.den):Prop:=Ok p.1 p.2.1 p.2.2.1 p.2.2.2.1
def K1:gN:=T6.mD 68 fun a c=>dS (D68 a c)
structure Ah (ps:List aU.den) (o:List Int) (s:List bY.den):Prop where
 nd:(s.map (·.1)).Nodup
 fr:∀ x∈s,x.1∈o
 ix:∀ x∈s,0≤x.1∧x.1<(ps.length:Int)
 Ad:∀ x∈s,x.2.1∈(ps.getD x.1.toNat ([],[],0,[],())).2.2.2.1
 sh:∀ x∈s,-2≤x.2.2.1∧x.2.2.1≤2
 z:(s.getD 0 (0,0,0,())).2.2.1=0
section
variable {ps:List aU.den} {o o':List Int} {s:List bY.den}
theorem Ah.nil:Ah ps o []:=⟨by simp,by simp,by simp,by simp,by simp,rfl⟩
theorem Ah.aba (h:Ah ps o s) (hs:∀ x∈s,x.1∈o'):Ah ps o' s:={ h with fr:=hs }
theorem Ah.add {i l v:Int} (h:Ah ps o s) (hi:i ∉ o) (hb:0≤i∧i<(ps.length:Int)) (hl:l∈(ps.getD i.toNat ([],[],0,[],())).2.2.2.1) (hv : -2≤v∧v≤2) (hz:s=[]→v=0):Ah ps (i::o) (s++[(i,l,v,())]) where
 nd:=by
  rw[List.map_append,List.nodup_append]
  refine⟨h.nd,by simp,fun a ha b jP e => ?_⟩
  simp only[List.map_cons,List.map_nil,List.mem_singleton] at jP
  subst jP e
  obtain⟨x,hx,e⟩:=List.mem_map.1 ha
  exact hi (e▸h.fr x hx)
 fr:=fun x hx=>by
  rcases List.mem_append.1 hx with hx | hx
  ·exact List.mem_cons_of_mem _ (h.fr x hx)
  ·rw[List.mem_singleton.1 hx]; exact List.mem_cons_self
 ix:=fun x hx=>by
  rcases List.mem_append.1 hx with hx | hx
  ·exact h.ix x hx
  ·rw[List.mem_singleton.1 hx]; exact hb
 Ad:=fun x hx=>by
  rcases List.mem_append.1 hx with hx | hx
  ·exact h.Ad x hx
  ·rw[List.mem_singleton.1 hx]; exact hl
 sh:=fun x hx=>by
  rcases List.mem_append.1 hx with hx | hx
  ·exact h.sh x hx
  ·rw[List.mem_singleton.1 hx]; exact hv
 z:=by
  cases s with
  | nil=>exact hz rfl
  | cons a s=>exact h.z
end
def ZX (te:List TV) (k:List Int→LA):LA :=
 match te.getD 6 .unk with
 | .sl (.int .i64) l _=>k l
 | _ => .un 0
def Wa:List TV→List TV→Dn
 | [.ptr 0 0,.sl (.pair (.sl (.int .i64)) (.pair (.sl (.int .i64)) (.pair (.int .i64) (.pair (.sl (.int .i64)) .unit)))) ps .no],[.sl (.int .i64) _ .no,.val (.int .u64 _)]=>some ([1≤ps.length,ps.length≤4,∀ p∈ps,AH p],.ex (List bY.den) fun s => .ex (List Int) fun r => .ex Int fun z => .res (.sl bY s .no) (rI r z) [1≤s.length,s.length≤ps.length,Ah ps (s.map (·.1)) s],
  [(5,.dep fun te tS=>ZX te fun o=>DJ te 7 fun k => .ex Nat fun m => .ex (List bY.den) fun s => .ex (List Int) fun r => .ex Int fun z => .st { sl:=[(5,.sl bY s (.qA tS.length)),(7,bp ((m:Int)-1))],pl:=[(0,rI r z)],own:=[(81,3)],dX:=[(m:Int)≤k+1,(s.length+m:Int)=k+1,Ah ps (o.drop m) s],m:=m })])
 | _,_=>none
def BT.q1 (p0:List bY.den) (p1:Nat) (p2:List (aU).den) (p3:List Int) (p4:Int) (p5:List Int) (p6 p7 p8:Int):Prop:=p0.length+(1:Nat)≤(1000000000:Nat)∧dg ((↑p1:Int)-(1:Int)-(1:Int))∧∃ (a:Nat),∃ (a_1:List bY.den),∃ (a_2:List Int),∃ (a_3:Int),p2=p2∧rD bY.den∧p0++[(p3.getD ((↑p1:Int)-(1:Int)).toNat (0:Int),List.getD (p2.getD (Int.toNat (p3.getD ((↑p1:Int)-(1:Int)).toNat (0:Int))) ([],[],(0:Int),[],())).snd.snd.snd.fst p4.toNat (0:Int),p8,())]=a_1∧p3=p3∧(↑p1:Int)-(1:Int)-(1:Int)=(↑a:Int)-(1:Int)∧p5=a_2∧p6=a_3∧(↑a:Int)≤p7+(1:Int)∧(↑a_1.length:Int)+(↑a:Int)=p7+(1:Int)∧Ah p2 (List.drop a p3) a_1∧a<p1
def BT.q2 (p0:Nat) (p1:Prop):Prop:=dg ((↑p0:Int)-(1:Int))∧(↑p0:Int)-(1:Int)≤(1000:Int)∧(-10000:Int)≤(↑p0:Int)-(1:Int)∧p1
theorem BT:VC K1 Tryz.f27 [some (.sl bY)] [some cB,some (.int .u64)] Wa:=by
 refine DK fun a cs => ?_
 unfold Wa
 split
 rotate_left
 ·trivial
 rename_i ps r z
 intro hp
 obtain⟨h1,h2,h3,-⟩:=hp
 refine Dl (A:=(1:Int)≤(↑ps.length:Int)∧(↑ps.length:Int)≤(1000:Int)∧∀ (a a_1:List Int) (a_2:Int),(↑a.length:Int)=(↑ps.length:Int)→a.Nodup→(∀ (x:Int),x∈a→(0:Int)≤x∧x<(↑ps.length:Int))→BT.q2 ps.length (∀ (a_3:Int) (a_4:List Int) (a_5:Int),(0:Int)≤a_3→a_3≤(↑ps.length:Int)-(1:Int)∨a_3=(0:Int)→(∃ (a_6:Nat),∃ (a_7:List bY.den),∃ (a_8:List Int),∃ (a_9:Int),[]=a_7∧a_3=(↑a_6:Int)-(1:Int)∧a_4=a_8∧a_5=a_9∧(↑a_6:Int)≤a_3+(1:Int)∧(↑a_7.length:Int)+(↑a_6:Int)=a_3+(1:Int)∧Ah ps (List.drop a_6 a) a_7∧a_6<(1000000:Nat))∧∀ (a_6:Nat) (a_7:List bY.den) (a_8:List Int) (a_9:Int),(↑a_6:Int)≤a_3+(1:Int)→(↑a_7.length:Int)+(↑a_6:Int)=a_3+(1:Int)→Ah ps (List.drop a_6 a) a_7→aM (decide ((↑a_6:Int)-(1:Int)≥(0:Int))) (((0:Int)≤(↑a_6:Int)-(1:Int)∧(↑a_6:Int)-(1:Int)<(↑a.length:Int))∧((0:Int)≤a.getD ((↑a_6:Int)-(1:Int)).toNat (0:Int)∧a.getD ((↑a_6:Int)-(1:Int)).toNat (0:Int)<(↑ps.length:Int))∧((0:Int)≤(↑a_6:Int)-(1:Int)∧(↑a_6:Int)-(1:Int)<(↑a.length:Int))∧BT.q2 (List.length (ps.getD (Int.toNat (a.getD ((↑a_6:Int)-(1:Int)).toNat (0:Int))) ([],[],(0:Int),[],())).snd.snd.snd.fst) (∀ (a_10:Int) (a_11:List Int) (a_12:Int),(0:Int)≤a_10→a_10≤(↑(List.length (ps.getD (Int.toNat (a.getD ((↑a_6:Int)-(1:Int)).toNat (0:Int))) ([],[],(0:Int),[],())).snd.snd.snd.fst):Int)-(1:Int)∨a_10=(0:Int)→((0:Int)≤a_10∧a_10<(↑(List.length (ps.getD (Int.toNat (a.getD ((↑a_6:Int)-(1:Int)).toNat (0:Int))) ([],[],(0:Int),[],())).snd.snd.snd.fst):Int))∧(-1000:Int)≤(-2:Int)∧(-2:Int)≤(1000:Int)∧(-1000:Int)≤(2:Int)∧(2:Int)≤(998:Int)∧(2:Int)≤(5000:Int)∧∀ (a_13:Int) (a_14:List Int) (a_15:Int),(-2:Int)≤a_13→a_13≤(2:Int)∨a_13=(-2:Int)→(0:Nat)<(3:Nat)∧(3:Nat)≤(1000:Nat)∧∀ (a_16:Int) (a_17:List Int) (a_18:Int),a_16∈[(0:Int),(0:Int),a_13]→aM ((↑a_7.length:Int)==(0:Int)) (BT.q1 a_7 a_6 ps a a_10 a_17 a_18 a_3 (0:Int)) (BT.q1 a_7 a_6 ps a a_10 a_17 a_18 a_3 a_16))) (∃ (a:List bY.den),∃ (a_10:List Int),∃ (a_11:Int),a_7=a∧a_8=a_10∧a_9=a_11∧(1:Nat)≤a.length∧a.length≤ps.length∧Ah ps (List.map (fun(x:bY.den)=>x.fst) a) a∧True))) (by kernel_rfl) ?_
 unfold BT.q2 BT.q1
 simp only[bU,cV,gR,and_true,true_and,eq_self,dg]
 refine⟨by omega,by omega,fun o r1 z1 hl hd hb=>⟨by omega,by omega,by omega,fun k r2 z2 k1 k2=>⟨⟨(k+1).toNat,[],r2,z2,rfl,by omega,rfl,rfl,by omega,by simp only[List.length_nil]; omega,Ah.nil,by first | omega | (dsimp only; omega)⟩,fun m s r3 z3 m1 m2 hs=>⟨fun hm => ?_,fun hm => ?_⟩⟩⟩⟩
 ·have e1:((m:Int)-1).toNat=m-1:=by omega
  have hlt:m-1<o.length:=by omega
  have ho:o.getD (m-1) 0∈o:=iU hlt
  have ed:o.drop (m-1)=o.getD (m-1) 0::o.drop m:=by
   rw[List.drop_eq_getElem_cons hlt,List.getD_eq_getElem?_getD,List.getElem?_eq_getElem hlt,Nat.sub_add_cancel (by omega)]; rfl
  have hn:o.getD (m-1) 0 ∉ o.drop m:=by
   have:=hd.sublist (List.drop_sublist (m-1) o)
   rw[ed] at this
   exact(List.nodup_cons.1 this).1
  rw[e1]
  have hbi:=hb _ ho
  revert hn ed hbi
  generalize o.getD (m-1) 0=i
  intro ed hn hbi
  have hi:i.toNat<ps.length:=by omega
  have hp:AH (ps.getD i.toNat ([],[],0,[],())):=h3 _ (by
   rw[List.getD_eq_getElem?_getD,List.getElem?_eq_getElem hi]; exact List.getElem_mem hi)
  have hq:=q_len4 hp
  have hne:=List.length_pos_iff.2 hp.ne
  refine⟨⟨by omega,by omega⟩,⟨by omega,by omega⟩,⟨by omega,by omega⟩,⟨by omega,by omega⟩,by omega,by omega,fun k2 r4 z4 h4 h5=>⟨⟨by omega,by omega⟩,by omega,by omega,by omega,by omega,by omega,fun k3 r5 z5 h6 h7=>⟨by omega,by omega,fun v r6 z6 h8 => ?_⟩⟩⟩
  have hv : -2≤v∧v≤2:=by simp at h8; omega
  have key:∀ v,(-2≤v∧v≤2)→(s=[]→v=0)→Ah ps (o.drop (m-1)) (s++[(i,(ps.getD i.toNat ([],[],0,[],())).2.2.2.1.getD k2.toNat 0,v,())]):=fun v hv hz=>by
   rw[ed]
   exact hs.add hn hbi (iU (by omega)) hv hz
  refine⟨fun h9=>⟨by omega,by omega,m-1,_,_,_,rfl,by omega,rfl,rfl,by omega,?_,key 0 ⟨by decide,by decide⟩ (fun _=>rfl),by omega⟩,fun h9=>⟨by omega,by omega,m-1,_,_,_,rfl,by omega,rfl,rfl,by omega,?_,key v hv (fun e=>by subst e; simp at h9),by omega⟩⟩
  ·rw[List.length_append,List.length_singleton]; omega
  ·rw[List.length_append,List.length_singleton]; omega
 ·exact⟨s,r3,z3,rfl,rfl,rfl,by omega,by omega,hs.aba fun x hx=>List.mem_map.2 ⟨x,hx,rfl⟩⟩
end Go.Tv
end
section
namespace Go.Tv
open Go Go.Di Go.Proofs
end Go.Tv
end
section
namespace Go.Tv
open Go Go.Di Go.Proofs
def Ws (la ub:List Int) (nb k:Nat):List Int:=((List.range k).map fun(j:Nat)=>(j:Int)-(nb:Int)).filterMap fun s=>if 3≤(stA la ub s).2.2 then some ((stA la ub s).2.1-(stA la ub s).1) else none
def Wp (ua la:List Int) (x:Int) (ub lb:List Int) (y:Int):List Int:=Ws (bP x ua la) (bO y ub lb) ub.length (ub.length+ua.length+1)
def Wq (ua la ub lb ys:List Int) (x:Int):List Int:=ys.flatMap (Wp ua la x ub lb)
def ack (ua la HA ub lb Hy:List Int):List Int:=HA.flatMap (Wq ua la ub lb Hy)
theorem R9 {l:List Int} (h:kG l):kG l.reverse:=fun x hx=>h x (List.mem_reverse.1 hx)
theorem M9 {n:Int} {u l:List Int} (h1:kG u) (h2:kG l):kG (bO n u l)∧kG (bP n u l):=by
 unfold bO bP
 constructor<;>(repeat' split)<;>first | assumption | exact R9 (by assumption)
theorem fI {l:List Int} {f:Int→List Int} {c:Nat} (h:∀ x,(f x).length≤c):(l.flatMap f).length≤l.length*c:=by
 induction l with
 | nil=>simp
 | cons x l ih =>
  rw[List.flatMap_cons,List.length_append,List.length_cons,Nat.succ_mul]
  have:=h x
  omega
end Go.Tv
end
section
namespace Go.Tv
open Go Go.Di Go.Proofs
set_option maxRecDepth 100000
structure F7 (aZ:bn):Prop where
 rev:∀ (l:List Int) d,l.length≤1000000→RT eD [] (.sl bX l .no) d→∃ r,aZ 133 [d]=some r∧r.pure=true∧RT eD [] (.sl bX l.reverse .no) r
def V2:List TV→Sp
 | [.sl (.int .i64) l .no]=>some ([l.length≤1000000],.res (.sl bX l.reverse .no) [] [])
 | _=>none
def D79:List TV→Dn
 | [.sl (.int .i64) l .no]=>some ([l≠[],l.length≤1000],.res (.sl bX l .no) [] [],[])
 | _=>none
theorem v79:VI T0 Tryz.f91 [some cB] D79:=by
 intro a p s j h hp
 unfold D79 at h
 split at h<;>cases h
 rename_i l
 change List Int at l
 obtain⟨h1,h2,-⟩:=hp
 refine sP (A:=l≠[]∧(0:Nat)+l.length≤(1000000000:Nat)∧l=l∧True) (by kernel_rfl) ?_
 exact⟨h1,by omega,rfl,trivial⟩
def D98:List TV→Dn
 | [.sl (.int .i64) l .no,.val (.int .i64 x)]=>some ([l.length≤1000],.res (bp (oQ l x)) [] [],[(3,.ex Nat fun i => .st { sl:=[(8,bp i)],dX:=[i≤l.length,x ∉ l.take i],m:=l.length-i })])
 | _=>none
theorem v98:VI T0 Tryz.f122 [some bX] D98:=by
 intro a p s j h hp
 unfold D98 at h
 split at h<;>cases h
 rename_i l x
 change List Int at l
 have h1:=hp.1
 refine sP (A:=(∃ (a:Nat),(0:Int)=(↑a:Int)∧a≤l.length∧¬x∈List.take a l∧l.length-a<(1000000:Nat))∧∀ (a:Nat),a≤l.length→¬x∈List.take a l→aM (decide ((↑a:Int)<(↑l.length:Int))) (((0:Int)≤(↑a:Int)∧(↑a:Int)<(↑l.length:Int))∧aM (x==l.getD a (0:Int)) ((↑a:Int)=oQ l x∧True) (dg ((↑a:Int)+(1:Int))∧∃ (a_3:Nat),l=l∧x=x∧(↑l.length:Int)=(↑l.length:Int)∧(↑a:Int)+(1:Int)=(↑a_3:Int)∧a_3≤l.length∧¬x∈List.take a_3 l∧l.length-a_3<l.length-a)) ((-1:Int)=oQ l x∧True)) (by kernel_rfl) ?_
 simp only[bU,cV,dI,eM,gR,dg,and_true,true_and,eq_self]
 refine⟨⟨0,by omega,by omega,by simp,by omega⟩,fun i h2 h3=>⟨fun h4=>⟨by omega,fun h5 => ?_,fun h5=>⟨by omega,i+1,by omega,by omega,?_,by omega⟩⟩,fun h4 => ?_⟩⟩
 ·rw[KD (by omega) h3 h5.symm]
 ·rw[take_one (by omega)]; simp only[List.mem_append,List.mem_singleton,not_or]; exact⟨h3,h5⟩
 ·rw[show i=l.length by omega,List.take_length] at h3; rw[oQ,if_neg h3]
def D99:List TV→Dn
 | [.agg [.sl (.int .i64) u .no,.sl (.int .i64) l .no]]=>some ([],.res (Y4 u l) [] [],[])
 | _=>none
theorem v99:VI T0 Tryz.f123 [some (.pair cB (.pair cB .unit))] D99:=by
 intro a p s j h hp
 unfold D99 at h
 split at h<;>cases h
 rename_i u l
 refine sP (A:=u=u∧l=l∧True) (by kernel_rfl) ?_
 exact⟨rfl,rfl,trivial⟩
def T0r:gN:=T0.fR 133 V2
def Wj:List TV→Dn
 | [.agg [.sl (.int .i64) u .no,.sl (.int .i64) l .no]]=>some ([u.length≤1000,l.length≤1000],.res (Y4 l.reverse u.reverse) [] [],[])
 | _=>none
theorem Ze:VI T0r Tryz.f124 [some (.pair cB (.pair cB .unit))] Wj:=by
 intro a p s j h hp
 unfold Wj at h
 split at h<;>cases h
 rename_i u l
 obtain⟨h1,h2,-⟩:=hp
 refine sP (A:=l.length≤(1000000:Nat)∧u.length≤(1000000:Nat)∧l.reverse=l.reverse∧u.reverse=u.reverse∧True) (by kernel_rfl) ?_
 exact⟨by omega,by omega,rfl,rfl,trivial⟩
def Wi:List TV→Dn
 | [.agg [.sl (.int .i64) u .no,.sl (.int .i64) l .no]]=>some ([u.length≤1000,l.length≤1000],.res (Y4 u.reverse l.reverse) [] [],[])
 | _=>none
theorem Zd:VI T0r Tryz.f125 [some (.pair cB (.pair cB .unit))] Wi:=by
 intro a p s j h hp
 unfold Wi at h
 split at h<;>cases h
 rename_i u l
 obtain⟨h1,h2,-⟩:=hp
 refine sP (A:=u.length≤(1000000:Nat)∧l.length≤(1000000:Nat)∧u.reverse=u.reverse∧l.reverse=l.reverse∧True) (by kernel_rfl) ?_
 exact⟨by omega,by omega,rfl,rfl,trivial⟩
def Wh:List TV→Dn
 | [.agg [.sl (.int .i64) u .no,.sl (.int .i64) l .no]]=>some ([],.res (Y4 l u) [] [],[])
 | _=>none
theorem Zc:VI T0 Tryz.f126 [some (.pair cB (.pair cB .unit))] Wh:=by
 intro a p s j h hp
 unfold Wh at h
 split at h<;>cases h
 rename_i u l
 refine sP (A:=l=l∧u=u∧True) (by kernel_rfl) ?_
 exact⟨rfl,rfl,trivial⟩
def U1:gN:=(((((T0r.fR 91 fun a=>dS (D79 a)).fR 122 fun a=>dS (D98 a)).fR 123 fun a=>dS (D99 a)).fR 124 fun a=>dS (Wj a)).fR 125 fun a=>dS (Wi a)).fR 126 fun a=>dS (Wh a)
def D80:List TV→Dn
 | [.sl (.int .i64) l .no,.val (.int .i64 x)]=>some ([l.length≤1000],.res (nu (decide (x∈l))) [] [],[])
 | _=>none
theorem v80:VI U1 Tryz.f95 [some .bool] D80:=by
 intro a p s j h hp
 unfold D80 at h
 split at h<;>cases h
 rename_i l x
 change List Int at l
 have h1:=hp.1
 refine sP (A:=l.length≤(1000:Nat)∧decide (oQ l x≥(0:Int))=decide (x∈l)∧True) (by kernel_rfl) ?_
 refine⟨h1,?_,trivial⟩
 rw[decide_eq_decide,oQ]
 split<;>simp_all
def D83:List TV→Dn
 | [.val (.int .i64 n),.agg [.sl (.int .i64) u .no,.sl (.int .i64) l .no]]=>some ([u.length≤1000,l.length≤1000,0≤n,n≤3],.res (Y4 (bO n u l) (bP n u l)) [] [],[])
 | _=>none
theorem v83:VI U1 Tryz.f98 [some (.pair cB (.pair cB .unit))] D83:=by
 intro a p s j h hp
 unfold D83 at h
 split at h<;>cases h
 rename_i n u l
 obtain⟨h1,h2,h3,h4,-⟩:=hp
 refine sP (A:=aM (decide (n=(0:Int))) (u=bO n u l∧l=bP n u l∧True) (aM (decide (n=(1:Int))) (u.length≤(1000:Nat)∧l.length≤(1000:Nat)∧l.reverse=bO n u l∧u.reverse=bP n u l∧True) (aM (decide (n=(2:Int))) (u.length≤(1000:Nat)∧l.length≤(1000:Nat)∧u.reverse=bO n u l∧l.reverse=bP n u l∧True) (aM (decide (n=(3:Int))) (l=bO n u l∧u=bP n u l∧True) False)))) (by kernel_rfl) ?_
 have e:n=0∨n=1∨n=2∨n=3:=by omega
 rcases e with rfl | rfl | rfl | rfl
 ·exact⟨rfl,rfl,trivial⟩
 ·exact⟨h1,h2,rfl,rfl,trivial⟩
 ·exact⟨h1,h2,rfl,rfl,trivial⟩
 ·exact⟨rfl,rfl,trivial⟩
def U2:gN:=(U1.fR 95 fun a=>dS (D80 a)).fR 98 fun a=>dS (D83 a)
abbrev wkV (u l:List Int) (w:Int) (ls:List Int):TV := .agg [.sl bX u .no,.sl bX l .no,bp w,.sl bX ls .no,.sl bX u .no,.sl bX l .no,.sl bX l.reverse .no,.sl bX u.reverse .no,.sl bX u.reverse .no,.sl bX l.reverse .no,.sl bX l .no,.sl bX u .no]
def D50:List TV→Dn
 | [.agg [.sl (.int .i64) u .no,.sl (.int .i64) l .no,.val (.int .i64 w),.sl (.int .i64) ls .no]]=>some ([u.length≤1000,l.length≤1000],.res (wkV u l w ls) [] [],[(4,.un 5)])
 | _=>none
theorem v50:VI U2 Tryz.f61 [none] D50:=by
 refine s8 fun a => ?_
 unfold D50
 split
 rotate_left
 ·trivial
 rename_i u l w ls
 intro hp
 refine Dl (A:=u.length≤(1000:Nat)∧l.length≤(1000:Nat)∧(0:Int)≤(0:Int)∧(0:Int)≤(3:Int)∧True∧dg (1:Int)∧u.length≤(1000:Nat)∧l.length≤(1000:Nat)∧(0:Int)≤(1:Int)∧(1:Int)≤(3:Int)∧True∧dg (2:Int)∧u.length≤(1000:Nat)∧l.length≤(1000:Nat)∧(0:Int)≤(2:Int)∧(2:Int)≤(3:Int)∧True∧dg (3:Int)∧u.length≤(1000:Nat)∧l.length≤(1000:Nat)∧(0:Int)≤(3:Int)∧(3:Int)≤(3:Int)∧True∧dg (4:Int)∧u=u∧l=l∧w=w∧ls=ls∧bO (0:Int) u l=u∧bP (0:Int) u l=l∧bO (1:Int) u l=l.reverse∧bP (1:Int) u l=u.reverse∧bO (2:Int) u l=u.reverse∧bP (2:Int) u l=l.reverse∧bO (3:Int) u l=l∧bP (3:Int) u l=u∧True) (by kernel_rfl) ?_
 obtain⟨h1,h2,-⟩:=hp
 simp only[dg]
 repeat' (first | exact h1 | exact h2 | omega | rfl | trivial | apply And.intro)
section
variable {aZ:bn} (tk:oF aZ) (tr:F7 aZ)
theorem kX {k:Nat} {T:gN} (h:lE aZ k T):∀ m,lE aZ (m+k) T
 | 0=>by rwa [Nat.zero_add]
 | m+1=>by have:=gU (kX h m); rwa [Nat.add_right_comm] at this
theorem Gz {T:gN} {k:Nat} (tr:F7 aZ) (hT:lE aZ k T):lE aZ k (T.fR 133 V2):=Md hT fun n a p s hs hp=>by
 unfold V2 at hs
 split at hs
 ·rename_i l
  cases hs
  intro cn hd
  obtain⟨d,_,rfl,h1,h2⟩:=aj hd
  rw[aJ h2]
  obtain⟨r,k1,k2,k3⟩:=tr.rev l d hp.1 h1
  exact⟨r,_,by simp only[xM,je,k1,k2,if_true],k2,k3,rfl,rfl,trivial⟩
 ·cases hs
include tk tr
theorem Qe:lE aZ 1 U1:=wO tk (iM tk) (by decide) Tryz.func126 rfl Zc (wO tk (Gz tr (iM tk)) (by decide) Tryz.func125 rfl Zd (wO tk (Gz tr (iM tk)) (by decide) Tryz.func124 rfl Ze (wO tk (iM tk) (by decide) Tryz.func123 rfl v99 (wO tk (iM tk) (by decide) Tryz.func122 rfl v98 (wO tk (iM tk) (by decide) Tryz.func91 rfl v79 (gU (Gz tr (iM tk))))))))
theorem Zf:lE aZ 2 U2:=wO tk (Qe tk tr) (by decide) Tryz.func98 rfl v83 (wO tk (Qe tk tr) (by decide) Tryz.func95 rfl v80 (gU (Qe tk tr)))
def W8:gN:=((T8.fR 91 fun a=>dS (D79 a)).fR 95 fun a=>dS (D80 a)).fR 61 fun a=>dS (D50 a)
theorem aa9:lE aZ 8 W8:=wO tk (kX (Zf tk tr) 5) (by decide) Tryz.func61 rfl v50 (wO tk (kX (Qe tk tr) 6) (by decide) Tryz.func95 rfl v80 (wO tk (kX (iM tk) 7) (by decide) Tryz.func91 rfl v79 (abe tk)))
end
end Go.Tv
end
section
namespace Go.Tv
open Go Go.Di Go.Proofs
set_option maxRecDepth 100000
def V9 : List TV → Dn
 | [.sl (.pair (.sl (.int .i64)) (.pair (.sl (.int .i64)) (.pair (.int .i64) (.pair (.sl (.int .i64)) .unit)))) l .no] => some ([l.length ≤ 1000, ∀ p ∈ l, ny p], .res (bp (if 4 < l.length then 6 else fP l)) [] [], [])
 | _ => none
theorem abb : VI T6 Tryz.f50 [some bX] V9 := by
 refine s8 fun a => ?_
 unfold V9
 split
 rotate_left
 ·trivial
 rename_i l
 intro hp
 refine Dl (A := aM (decide ((↑l.length : Int) > (4 : Int))) (((6 : Int) = if (4 : Nat) < l.length then (6 : Int) else fP l) ∧ True) (l.length ≤ (1000 : Nat) ∧ (∀ (p : (aU).den), p ∈ l → ny p) ∧ (fP l = if (4 : Nat) < l.length then (6 : Int) else fP l) ∧ True)) (by kernel_rfl) ?_
 obtain ⟨h1, h2, -⟩ := hp
 simp only [bU, and_true]
 exact ⟨fun h => by rw [if_pos (by omega)], fun h => ⟨by omega, h2, by rw [if_neg (by omega)]⟩⟩
def Wc : List TV → List TV → Dn
 | [.agg [.val (.int .i64 a), .val (.int .i64 _), .val (.int .i64 _)], .ptr 0 0], [.val (.int .i64 x), .val (.int .i64 y), .val (.int .i64 z)] => some ([], .res (nu (a == x)) [bp x, bp y, bp z] [], [])
 | _, _ => none
theorem Va : VC T0 Tryz.f116 [some .bool] [some bX, some bX, some bX] Wc := by
 refine DK fun a cs => ?_
 unfold Wc
 split
 rotate_left
 ·trivial
 rename_i a b c x y z
 intro hp
 refine Dl (A := (a == x) = (a == x) ∧ x = x ∧ y = y ∧ z = z ∧ True) (by kernel_rfl) ?_
 exact ⟨rfl, rfl, rfl, rfl, trivial⟩
def K2 : gN := T0.mD 116 fun a c => dS (Wc a c)
def Wb : List TV → List TV → Dn
 | [.sl (.pair (.int .i64) (.pair (.int .i64) (.pair (.int .i64) .unit))) l .no, .fn 116 [] [.ptr 0 0]], [.val (.int .i64 x), .val (.int .i64 y), .val (.int .i64 z)] => some ([l.length ≤ 1000, ∀ e ∈ l, e.1 ≠ x], .res (bp (-1)) [bp x, bp y, bp z] [], [(3, .ex Nat fun i => .st { sl := [(8, bp i)], dX := [i ≤ l.length], m := l.length - i })])
 | _, _ => none
theorem v131 : VC K2 Tryz.f131 [some bX] [some bX, some bX, some bX] Wb := by
 refine DK fun a cs => ?_
 unfold Wb
 split
 rotate_left
 ·trivial
 rename_i l x y z
 intro hp
 obtain ⟨h1, h2, -⟩ := hp
 refine Dl (A := (∃ (a : Nat), (0 : Int) = (↑a : Int) ∧ a ≤ l.length ∧ l.length - a < (1000000 : Nat)) ∧ ∀ (a : Nat), a ≤ l.length → aM (decide ((↑a : Int) < (↑l.length : Int))) (((0 : Int) ≤ (↑a : Int) ∧ (↑a : Int) < (↑l.length : Int)) ∧ aM ((l.getD a ((0 : Int), (0 : Int), (0 : Int), ())).fst == x) ((↑a : Int) = (-1 : Int) ∧ x = x ∧ y = y ∧ z = z ∧ True) (dg ((↑a : Int) + (1 : Int)) ∧ ∃ (a_1 : Nat), l = l ∧ (↑l.length : Int) = (↑l.length : Int) ∧ (↑a : Int) + (1 : Int) = (↑a_1 : Int) ∧ x = x ∧ y = y ∧ z = z ∧ a_1 ≤ l.length ∧ l.length - a_1 < l.length - a)) ((-1 : Int) = (-1 : Int) ∧ x = x ∧ y = y ∧ z = z ∧ True)) (by kernel_rfl) ?_
 simp only [bU, cV, eq_self, and_true, true_and, dg]
 refine ⟨⟨0, rfl, by omega, by first | omega | (dsimp only; omega)⟩, fun i hi => ⟨fun h => ⟨⟨by omega, by omega⟩, fun e => ?_, fun _ => ⟨⟨by omega, by omega⟩, i + 1, by omega, by omega, by omega⟩⟩, fun _ => trivial⟩⟩
 refine (h2 _ ?_ e).elim
 have hi : i < l.length := by omega
 rw [List.getD_eq_getElem?_getD, List.getElem?_eq_getElem hi]
 exact List.getElem_mem hi
def K3 : gN := K2.mD 131 fun a c => dS (Wb a c)
def Wd : List TV → List TV → Dn
 | [.sl (.pair (.int .i64) (.pair (.int .i64) (.pair (.int .i64) .unit))) l .no, .fn 116 [] [.ptr 0 0]], [.val (.int .i64 x), .val (.int .i64 y), .val (.int .i64 z)] => some ([l.length ≤ 1000, ∀ e ∈ l, e.1 ≠ x], .res (nu false) [bp x, bp y, bp z] [], [])
 | _, _ => none
theorem Zb : VC K3 Tryz.f113 [some .bool] [some bX, some bX, some bX] Wd := by
 refine DK fun a cs => ?_
 unfold Wd
 split
 rotate_left
 ·trivial
 rename_i l x y z
 intro hp
 obtain ⟨h1, h2, -⟩ := hp
 refine Dl (A := l.length ≤ (1000 : Nat) ∧ (∀ (e : (bY).den), e ∈ l → e.fst ≠ x) ∧ false = false ∧ x = x ∧ y = y ∧ z = z ∧ True) (by kernel_rfl) ?_
 exact ⟨h1, h2, rfl, rfl, rfl, rfl, trivial⟩
def K4 : gN := W8.mD 113 fun a c => dS (Wd a c)
def V8 : List TV → Dn
 | [.sl (.pair (.sl (.int .i64)) (.pair (.sl (.int .i64)) (.pair (.int .i64) (.pair (.sl (.int .i64)) .unit)))) ps .no, .sl (.pair (.int .i64) (.pair (.int .i64) (.pair (.int .i64) .unit))) s .no] => some ([1 ≤ s.length, s.length ≤ 4, ∀ p ∈ ps, AH p, Ah ps (s.map (·.1)) s], .res (bp 0) [] [],
  [(8, .ex Nat fun i => .st { sl := [(17, bp i)], dX := [i ≤ s.length], m := s.length - i })])
 | _ => none
def LK.q1 (p0 : Nat) (p1 : List (aU).den) (p2 : List (bY).den) : Prop := dg ((↑p0 : Int) + (1 : Int)) ∧ ∃ (a : Nat), p1 = p1 ∧ p2 = p2 ∧ p2 = p2 ∧ (↑p2.length : Int) = (↑p2.length : Int) ∧ (↑p0 : Int) + (1 : Int) = (↑a : Int) ∧ a ≤ p2.length ∧ p2.length - a < p2.length - p0
theorem LK : VI K4 Tryz.f77 [some bX] V8 := by
 refine s8 fun a => ?_
 unfold V8
 split
 rotate_left
 ·trivial
 rename_i ps s
 intro hp
 obtain ⟨h1, h2, h3, h4, -⟩ := hp
 refine Dl (A := aM ((↑s.length : Int) == (0 : Int)) ((7 : Int) = (0 : Int) ∧ True) (aM (decide ((↑s.length : Int) > (4 : Int))) ((6 : Int) = (0 : Int) ∧ True) ((∃ (a : Nat), (0 : Int) = (↑a : Int) ∧ a ≤ s.length ∧ s.length - a < (1000000 : Nat)) ∧ ∀ (a : Nat), a ≤ s.length → aM (decide ((↑a : Int) < (↑s.length : Int))) (((0 : Int) ≤ (↑a : Int) ∧ (↑a : Int) < (↑s.length : Int)) ∧ aM (decide ((s.getD a ((0 : Int), (0 : Int), (0 : Int), ())).fst < (0 : Int))) ((3 : Int) = (0 : Int) ∧ True) (aM (decide ((s.getD a ((0 : Int), (0 : Int), (0 : Int), ())).fst ≥ (↑ps.length : Int))) ((3 : Int) = (0 : Int) ∧ True) (((0 : Int) ≤ (↑a : Int) ∧ (↑a : Int) ≤ (↑s.length : Int)) ∧ (List.take a s).length ≤ (1000 : Nat) ∧ (∀ (e : (bY).den), e ∈ List.take a s → e.fst ≠ (s.getD a ((0 : Int), (0 : Int), (0 : Int), ())).fst) ∧ aM (decide ((s.getD a ((0 : Int), (0 : Int), (0 : Int), ())).snd.fst < (0 : Int))) ((8 : Int) = (0 : Int) ∧ True) (aM (decide ((s.getD a ((0 : Int), (0 : Int), (0 : Int), ())).snd.fst > (3 : Int))) ((8 : Int) = (0 : Int) ∧ True) (((0 : Int) ≤ (s.getD a ((0 : Int), (0 : Int), (0 : Int), ())).fst ∧ (s.getD a ((0 : Int), (0 : Int), (0 : Int), ())).fst < (↑ps.length : Int)) ∧ List.length (ps.getD (Int.toNat (s.getD a ((0 : Int), (0 : Int), (0 : Int), ())).fst) ([], [], (0 : Int), [], ())).snd.snd.snd.fst ≤ (1000 : Nat) ∧ aM (!decide ((s.getD a ((0 : Int), (0 : Int), (0 : Int), ())).snd.fst ∈ (ps.getD (Int.toNat (s.getD a ((0 : Int), (0 : Int), (0 : Int), ())).fst) ([], [], (0 : Int), [], ())).snd.snd.snd.fst)) ((12 : Int) = (0 : Int) ∧ True) (aM ((↑a : Int) == (0 : Int)) (aM ((s.getD a ((0 : Int), (0 : Int), (0 : Int), ())).snd.snd.fst != (0 : Int)) ((1 : Int) = (0 : Int) ∧ True) (LK.q1 a ps s)) (LK.q1 a ps s))))))) ((0 : Int) = (0 : Int) ∧ True)))) (by kernel_rfl) ?_
 unfold LK.q1
 simp only [bU, cV, dI, eM, eq_self, and_true, true_and, dg]
 refine ⟨fun h => absurd h (by omega), fun _ => ⟨fun h => absurd h (by omega), fun _ => ⟨⟨0, rfl, by omega, by first | omega | (dsimp only; omega)⟩, fun i hi => ⟨fun Lb => ?_, fun _ => trivial⟩⟩⟩⟩
 have hlt : i < s.length := by omega
 have e0 : s.getD i (0, 0, 0, ()) = s[i] := by rw [List.getD_eq_getElem?_getD, List.getElem?_eq_getElem hlt]; rfl
 have hm : s.getD i (0, 0, 0, ()) ∈ s := by rw [e0]; exact List.getElem_mem hlt
 have b1 := h4.ix _ hm
 have b2 := h4.Ad _ hm
 have YH : (s.getD i (0, 0, 0, ())).1.toNat < ps.length := (Int.toNat_lt b1.1).2 b1.2
 have hp : AH (ps.getD (s.getD i (0, 0, 0, ())).1.toNat ([], [], 0, [], ())) := h3 _ (by
  rw [List.getD_eq_getElem?_getD, List.getElem?_eq_getElem YH]; exact List.getElem_mem YH)
 have b3 := hp.Ad _ b2
 have b4 := q_len4 hp
 have hne : ∀ e ∈ s.take i, e.1 ≠ (s.getD i (0, 0, 0, ())).1 := fun e he hee => by
  have hd := h4.nd
  rw [← List.take_append_drop i s, List.map_append, List.nodup_append] at hd
  refine hd.2.2 _ (List.mem_map.2 ⟨e, he, rfl⟩) _ (List.mem_map.2 ⟨s[i], ?_, rfl⟩) (by rw [hee, e0])
  rw [List.drop_eq_getElem_cons hlt]
  exact List.mem_cons_self
 have hz : (i : Int) = 0 → (s.getD i (0, 0, 0, ())).2.2.1 = 0 := fun e => by
  obtain rfl : i = 0 := by omega
  exact h4.z
 have tl : (-9223372036854775808 ≤ (i : Int) + 1 ∧ (i : Int) + 1 ≤ 9223372036854775807) ∧ ∃ a : Nat, (i : Int) + 1 = a ∧ a ≤ s.length ∧ s.length - a < s.length - i := ⟨⟨by omega, by omega⟩, i + 1, by omega, by omega, by omega⟩
 exact ⟨⟨by omega, by omega⟩, fun h => absurd b1.1 (Int.not_le.2 h), fun _ => ⟨fun h => absurd b1.2 (Int.not_lt.2 h), fun _ => ⟨⟨by omega, by omega⟩, by rw [List.length_take]; omega, hne, fun h => absurd b3.1 (Int.not_le.2 h), fun _ => ⟨fun h => absurd b3.2 (Int.not_le.2 h), fun _ => ⟨b1, Nat.le_trans b4 (by decide), fun _ => ⟨fun h0 => ⟨fun _ => tl, fun h => (h (hz h0)).elim⟩, fun _ => tl⟩, fun h => (h b2).elim⟩⟩⟩⟩⟩
end Go.Tv
end
section
namespace Go.Tv
open Go Go.Di Go.Proofs
set_option maxRecDepth 100000
abbrev oD (ps:List aU.den) (x:bY.den):aU.den:=ps.getD x.1.toNat ([],[],0,[],())
def sL (ps:List aU.den) (x y:bY.den):Int×Int×Int:=stA (bP x.2.1 (oD ps x).1 (oD ps x).2.1) (bO y.2.1 (oD ps y).1 (oD ps y).2.1) y.2.2.1
def FF (ps:List aU.den) (x y:bY.den):Prop:=3≤(sL ps x y).2.2∧(sL ps x y).2.1-(sL ps x y).1≤((oD ps x).2.2.1:Int)+((oD ps y).2.2.1:Int)
def eU (s:List bY.den) (i:Nat):bY.den:=s.getD i (0,0,0,())
def Tj (ps:List aU.den) (s:List bY.den) (k:Int):Prop :=
  (k = -1∧∀ j,j+1<s.length→FF ps (eU s j) (eU s (j+1))) ∨
  ∃ n:Nat,k=(n:Int)+1∧n+1<s.length∧(∀ j,j<n→FF ps (eU s j) (eU s (j+1)))∧¬FF ps (eU s n) (eU s (n+1))
def D33:List TV→Dn
  | [.sl (.pair (.sl (.int .i64)) (.pair (.sl (.int .i64)) (.pair (.int .i64) (.pair (.sl (.int .i64)) .unit)))) ps .no,.sl (.pair (.int .i64) (.pair (.int .i64) (.pair (.int .i64) .unit))) s .no]=>some ([ps.length≤4,1≤s.length,s.length≤4,∀ p∈ps,AH p,Ah ps (s.map (·.1)) s],.ex Int fun k => .res (.ee [bp k,bp 0]) [] [Tj ps s k],
    [(9,.ex Nat fun n => .st { sl:=[(7,bp ((n:Int)+1))],dX:=[n+1≤s.length,∀ j,j<n→FF ps (eU s j) (eU s (j+1))],m:=s.length-n }),
     (15,.dep fun te _=>DJ te 7 fun i => .st { sl:=[(12,bp (sL ps (eU s (i-1).toNat) (eU s i.toNat)).1),(13,bp (sL ps (eU s (i-1).toNat) (eU s i.toNat)).2.1),(14,bp (sL ps (eU s (i-1).toNat) (eU s i.toNat)).2.2)] })])
  | _=>none
def K5:gN:=(K4.fR 50 fun a=>dS (V9 a)).fR 77 fun a=>dS (V8 a)
theorem I4:∀ {l:List aU.den},(∀ p∈l,AH p)→fP l=0
  | [],_=>rfl
  | p::l,h=>by
    have e:DG p=0:=yo.2 (h p (by simp))
    rw[fP,if_neg (by rw[e]; simp)]
    exact I4 fun q hq=>h q (by simp[hq])
theorem Up {n:Int} (h:0≤n∧n≤3):n=0∨n=1∨n=2∨n=3:=by omega
def v33.q1 (p0:List (bY).den) (p1:Nat) (p2:List (aU).den) (p3 p4:cB.den) (p5:Prop):Prop:=True∧(List.reverse p3).length≤(1000:Nat)∧(List.reverse p4).length≤(1000:Nat)∧kG (List.reverse p3)∧kG (List.reverse p4)∧(stA (List.reverse p3) (List.reverse p4) (p0.getD ((↑p1:Int)+(1:Int)).toNat ((0:Int),(0:Int),(0:Int),())).snd.snd.fst).fst=(sL p2 (eU p0 ((↑p1:Int)+(1:Int)-(1:Int)).toNat) (eU p0 ((↑p1:Int)+(1:Int)).toNat)).fst∧(stA (List.reverse p3) (List.reverse p4) (p0.getD ((↑p1:Int)+(1:Int)).toNat ((0:Int),(0:Int),(0:Int),())).snd.snd.fst).snd.fst=(sL p2 (eU p0 ((↑p1:Int)+(1:Int)-(1:Int)).toNat) (eU p0 ((↑p1:Int)+(1:Int)).toNat)).snd.fst∧(stA (List.reverse p3) (List.reverse p4) (p0.getD ((↑p1:Int)+(1:Int)).toNat ((0:Int),(0:Int),(0:Int),())).snd.snd.fst).snd.snd=(sL p2 (eU p0 ((↑p1:Int)+(1:Int)-(1:Int)).toNat) (eU p0 ((↑p1:Int)+(1:Int)).toNat)).snd.snd∧p5
def v33.q2 (p0:cB.den) (p1:List (bY).den) (p2:Nat) (p3:List (aU).den) (p4:cB.den) (p5:Prop):Prop:=True∧List.length p0≤(1000:Nat)∧(List.reverse p4).length≤(1000:Nat)∧kG p0∧kG (List.reverse p4)∧(stA p0 (List.reverse p4) (p1.getD ((↑p2:Int)+(1:Int)).toNat ((0:Int),(0:Int),(0:Int),())).snd.snd.fst).fst=(sL p3 (eU p1 ((↑p2:Int)+(1:Int)-(1:Int)).toNat) (eU p1 ((↑p2:Int)+(1:Int)).toNat)).fst∧(stA p0 (List.reverse p4) (p1.getD ((↑p2:Int)+(1:Int)).toNat ((0:Int),(0:Int),(0:Int),())).snd.snd.fst).snd.fst=(sL p3 (eU p1 ((↑p2:Int)+(1:Int)-(1:Int)).toNat) (eU p1 ((↑p2:Int)+(1:Int)).toNat)).snd.fst∧(stA p0 (List.reverse p4) (p1.getD ((↑p2:Int)+(1:Int)).toNat ((0:Int),(0:Int),(0:Int),())).snd.snd.fst).snd.snd=(sL p3 (eU p1 ((↑p2:Int)+(1:Int)-(1:Int)).toNat) (eU p1 ((↑p2:Int)+(1:Int)).toNat)).snd.snd∧p5
def v33.q3 (p0:cB.den) (p1:List (bY).den) (p2:Nat) (p3:List (aU).den) (p4:cB.den):Prop:=True∧List.length p0≤(1000:Nat)∧List.length p4≤(1000:Nat)∧kG p0∧kG p4∧(stA p0 p4 (p1.getD ((↑p2:Int)+(1:Int)).toNat ((0:Int),(0:Int),(0:Int),())).snd.snd.fst).fst=(sL p3 (eU p1 ((↑p2:Int)+(1:Int)-(1:Int)).toNat) (eU p1 ((↑p2:Int)+(1:Int)).toNat)).fst∧(stA p0 p4 (p1.getD ((↑p2:Int)+(1:Int)).toNat ((0:Int),(0:Int),(0:Int),())).snd.snd.fst).snd.fst=(sL p3 (eU p1 ((↑p2:Int)+(1:Int)-(1:Int)).toNat) (eU p1 ((↑p2:Int)+(1:Int)).toNat)).snd.fst∧(stA p0 p4 (p1.getD ((↑p2:Int)+(1:Int)).toNat ((0:Int),(0:Int),(0:Int),())).snd.snd.fst).snd.snd=(sL p3 (eU p1 ((↑p2:Int)+(1:Int)-(1:Int)).toNat) (eU p1 ((↑p2:Int)+(1:Int)).toNat)).snd.snd∧True
def v33.q4 (p0:List (bY).den) (p1:Nat) (p2:List (aU).den) (p3:cB.den):Prop:=True∧aM (decide ((p0.getD ((↑p1:Int)+(1:Int)).toNat ((0:Int),(0:Int),(0:Int),())).snd.fst=(0:Int))) (v33.q3 p3 p0 p1 p2 (p2.getD (Int.toNat (p0.getD ((↑p1:Int)+(1:Int)).toNat ((0:Int),(0:Int),(0:Int),())).fst) ([],[],(0:Int),[],())).fst) (aM (decide ((p0.getD ((↑p1:Int)+(1:Int)).toNat ((0:Int),(0:Int),(0:Int),())).snd.fst=(1:Int))) (v33.q2 p3 p0 p1 p2 (p2.getD (Int.toNat (p0.getD ((↑p1:Int)+(1:Int)).toNat ((0:Int),(0:Int),(0:Int),())).fst) ([],[],(0:Int),[],())).snd.fst True) (aM (decide ((p0.getD ((↑p1:Int)+(1:Int)).toNat ((0:Int),(0:Int),(0:Int),())).snd.fst=(2:Int))) (v33.q2 p3 p0 p1 p2 (p2.getD (Int.toNat (p0.getD ((↑p1:Int)+(1:Int)).toNat ((0:Int),(0:Int),(0:Int),())).fst) ([],[],(0:Int),[],())).fst True) (aM (decide ((p0.getD ((↑p1:Int)+(1:Int)).toNat ((0:Int),(0:Int),(0:Int),())).snd.fst=(3:Int))) (v33.q3 p3 p0 p1 p2 (p2.getD (Int.toNat (p0.getD ((↑p1:Int)+(1:Int)).toNat ((0:Int),(0:Int),(0:Int),())).fst) ([],[],(0:Int),[],())).snd.fst) False)))
def v33.q5 (p0:List (bY).den) (p1:Nat) (p2:List (aU).den) (p3 p4:cB.den):Prop:=True∧(List.reverse p3).length≤(1000:Nat)∧List.length p4≤(1000:Nat)∧kG (List.reverse p3)∧kG p4∧(stA (List.reverse p3) p4 (p0.getD ((↑p1:Int)+(1:Int)).toNat ((0:Int),(0:Int),(0:Int),())).snd.snd.fst).fst=(sL p2 (eU p0 ((↑p1:Int)+(1:Int)-(1:Int)).toNat) (eU p0 ((↑p1:Int)+(1:Int)).toNat)).fst∧(stA (List.reverse p3) p4 (p0.getD ((↑p1:Int)+(1:Int)).toNat ((0:Int),(0:Int),(0:Int),())).snd.snd.fst).snd.fst=(sL p2 (eU p0 ((↑p1:Int)+(1:Int)-(1:Int)).toNat) (eU p0 ((↑p1:Int)+(1:Int)).toNat)).snd.fst∧(stA (List.reverse p3) p4 (p0.getD ((↑p1:Int)+(1:Int)).toNat ((0:Int),(0:Int),(0:Int),())).snd.snd.fst).snd.snd=(sL p2 (eU p0 ((↑p1:Int)+(1:Int)-(1:Int)).toNat) (eU p0 ((↑p1:Int)+(1:Int)).toNat)).snd.snd∧True
def v33.q6 (p0:List (bY).den) (p1:Nat) (p2:List (aU).den) (p3:cB.den):Prop:=True∧aM (decide ((p0.getD ((↑p1:Int)+(1:Int)).toNat ((0:Int),(0:Int),(0:Int),())).snd.fst=(0:Int))) (v33.q5 p0 p1 p2 p3 (p2.getD (Int.toNat (p0.getD ((↑p1:Int)+(1:Int)).toNat ((0:Int),(0:Int),(0:Int),())).fst) ([],[],(0:Int),[],())).fst) (aM (decide ((p0.getD ((↑p1:Int)+(1:Int)).toNat ((0:Int),(0:Int),(0:Int),())).snd.fst=(1:Int))) (v33.q1 p0 p1 p2 p3 (p2.getD (Int.toNat (p0.getD ((↑p1:Int)+(1:Int)).toNat ((0:Int),(0:Int),(0:Int),())).fst) ([],[],(0:Int),[],())).snd.fst True) (aM (decide ((p0.getD ((↑p1:Int)+(1:Int)).toNat ((0:Int),(0:Int),(0:Int),())).snd.fst=(2:Int))) (v33.q1 p0 p1 p2 p3 (p2.getD (Int.toNat (p0.getD ((↑p1:Int)+(1:Int)).toNat ((0:Int),(0:Int),(0:Int),())).fst) ([],[],(0:Int),[],())).fst True) (aM (decide ((p0.getD ((↑p1:Int)+(1:Int)).toNat ((0:Int),(0:Int),(0:Int),())).snd.fst=(3:Int))) (v33.q5 p0 p1 p2 p3 (p2.getD (Int.toNat (p0.getD ((↑p1:Int)+(1:Int)).toNat ((0:Int),(0:Int),(0:Int),())).fst) ([],[],(0:Int),[],())).snd.fst) False)))
def v33.q7 (p0:List (bY).den) (p1:List (aU).den) (p2:Int) (p3:Prop):Prop:=((0:Int)≤(p0.getD p2.toNat ((0:Int),(0:Int),(0:Int),())).fst∧(p0.getD p2.toNat ((0:Int),(0:Int),(0:Int),())).fst<(↑p1.length:Int))∧List.length (p1.getD (Int.toNat (p0.getD p2.toNat ((0:Int),(0:Int),(0:Int),())).fst) ([],[],(0:Int),[],())).fst≤(1000:Nat)∧List.length (p1.getD (Int.toNat (p0.getD p2.toNat ((0:Int),(0:Int),(0:Int),())).fst) ([],[],(0:Int),[],())).snd.fst≤(1000:Nat)∧p3
def v33.q8 (p0:List (bY).den) (p1:List (aU).den):Prop:=(∃ (a:Nat),(1:Int)=(↑a:Int)+(1:Int)∧a+(1:Nat)≤p0.length∧(∀ (j:Nat),j<a→FF p1 (eU p0 j) (eU p0 (j+(1:Nat))))∧p0.length-a<(1000000:Nat))∧∀ (a:Nat),a+(1:Nat)≤p0.length→(∀ (j:Nat),j<a→FF p1 (eU p0 j) (eU p0 (j+(1:Nat))))→aM (decide ((↑a:Int)+(1:Int)<(↑p0.length:Int))) (dg ((↑a:Int)+(1:Int)-(1:Int))∧((0:Int)≤(↑a:Int)+(1:Int)-(1:Int)∧(↑a:Int)+(1:Int)-(1:Int)<(↑p0.length:Int))∧((0:Int)≤(↑a:Int)+(1:Int)∧(↑a:Int)+(1:Int)<(↑p0.length:Int))∧v33.q7 p0 p1 ((↑a:Int)+(1:Int)-(1:Int)) (v33.q7 p0 p1 ((↑a:Int)+(1:Int)) (aM (decide ((p0.getD ((↑a:Int)+(1:Int)-(1:Int)).toNat ((0:Int),(0:Int),(0:Int),())).snd.fst=(0:Int))) (v33.q4 p0 a p1 (p1.getD (Int.toNat (p0.getD ((↑a:Int)+(1:Int)-(1:Int)).toNat ((0:Int),(0:Int),(0:Int),())).fst) ([],[],(0:Int),[],())).snd.fst) (aM (decide ((p0.getD ((↑a:Int)+(1:Int)-(1:Int)).toNat ((0:Int),(0:Int),(0:Int),())).snd.fst=(1:Int))) (v33.q6 p0 a p1 (p1.getD (Int.toNat (p0.getD ((↑a:Int)+(1:Int)-(1:Int)).toNat ((0:Int),(0:Int),(0:Int),())).fst) ([],[],(0:Int),[],())).fst) (aM (decide ((p0.getD ((↑a:Int)+(1:Int)-(1:Int)).toNat ((0:Int),(0:Int),(0:Int),())).snd.fst=(2:Int))) (v33.q6 p0 a p1 (p1.getD (Int.toNat (p0.getD ((↑a:Int)+(1:Int)-(1:Int)).toNat ((0:Int),(0:Int),(0:Int),())).fst) ([],[],(0:Int),[],())).snd.fst) (aM (decide ((p0.getD ((↑a:Int)+(1:Int)-(1:Int)).toNat ((0:Int),(0:Int),(0:Int),())).snd.fst=(3:Int))) (v33.q4 p0 a p1 (p1.getD (Int.toNat (p0.getD ((↑a:Int)+(1:Int)-(1:Int)).toNat ((0:Int),(0:Int),(0:Int),())).fst) ([],[],(0:Int),[],())).fst) False)))∧aM (decide ((sL p1 (eU p0 ((↑a:Int)+(1:Int)-(1:Int)).toNat) (eU p0 ((↑a:Int)+(1:Int)).toNat)).snd.snd<(3:Int))) (∃ (a_1:Int),(↑a:Int)+(1:Int)=a_1∧(0:Int)=(0:Int)∧Tj p1 p0 a_1∧True) (dg ((sL p1 (eU p0 ((↑a:Int)+(1:Int)-(1:Int)).toNat) (eU p0 ((↑a:Int)+(1:Int)).toNat)).snd.fst-(sL p1 (eU p0 ((↑a:Int)+(1:Int)-(1:Int)).toNat) (eU p0 ((↑a:Int)+(1:Int)).toNat)).fst)∧dg ((p1.getD (Int.toNat (p0.getD ((↑a:Int)+(1:Int)-(1:Int)).toNat ((0:Int),(0:Int),(0:Int),())).fst) ([],[],(0:Int),[],())).snd.snd.fst+(p1.getD (Int.toNat (p0.getD ((↑a:Int)+(1:Int)).toNat ((0:Int),(0:Int),(0:Int),())).fst) ([],[],(0:Int),[],())).snd.snd.fst)∧aM (decide ((sL p1 (eU p0 ((↑a:Int)+(1:Int)-(1:Int)).toNat) (eU p0 ((↑a:Int)+(1:Int)).toNat)).snd.fst-(sL p1 (eU p0 ((↑a:Int)+(1:Int)-(1:Int)).toNat) (eU p0 ((↑a:Int)+(1:Int)).toNat)).fst>(p1.getD (Int.toNat (p0.getD ((↑a:Int)+(1:Int)-(1:Int)).toNat ((0:Int),(0:Int),(0:Int),())).fst) ([],[],(0:Int),[],())).snd.snd.fst+(p1.getD (Int.toNat (p0.getD ((↑a:Int)+(1:Int)).toNat ((0:Int),(0:Int),(0:Int),())).fst) ([],[],(0:Int),[],())).snd.snd.fst)) (∃ (a_1:Int),(↑a:Int)+(1:Int)=a_1∧(0:Int)=(0:Int)∧Tj p1 p0 a_1∧True) (dg ((↑a:Int)+(1:Int)+(1:Int))∧∃ (a_1:Nat),p1=p1∧p0=p0∧(↑a:Int)+(1:Int)+(1:Int)=(↑a_1:Int)+(1:Int)∧a_1+(1:Nat)≤p0.length∧(∀ (j:Nat),j<a_1→FF p1 (eU p0 j) (eU p0 (j+(1:Nat))))∧p0.length-a_1<p0.length-a))))) (∃ (a:Int),(-1:Int)=a∧(0:Int)=(0:Int)∧Tj p1 p0 a∧True)
theorem v33:VI K5 Tryz.f33 [some bX,some bX] D33:=by
  refine s8 fun a => ?_
  unfold D33
  split
  rotate_left
  · trivial
  rename_i ps s
  intro hp
  obtain⟨h1,h2,h3,h4,h5,-⟩:=hp
  refine Dl (A:=ps.length≤(1000:Nat)∧(∀ (p:(aU).den),p∈ps→ny p)∧aM ((if (4:Nat)<ps.length then (6:Int) else fP ps)==(0:Int)) ((1:Nat)≤s.length∧s.length≤(4:Nat)∧(∀ (p:(aU).den),p∈ps→AH p)∧Ah ps (List.map (fun(x:(bY).den)=>x.fst) s) s∧v33.q8 s ps) (aM ((if (4:Nat)<ps.length then (6:Int) else fP ps)!=(0:Int)) (∃ (a:Int),(0:Int)=a∧(if (4:Nat)<ps.length then (6:Int) else fP ps)=(0:Int)∧Tj ps s a∧True) (v33.q8 s ps))) (by kernel_rfl) ?_
  unfold v33.q8 v33.q7 v33.q6 v33.q5 v33.q4 v33.q3 v33.q2 v33.q1
  have e0:(if 4<ps.length then (6:Int) else fP ps)=0:=by rw[if_neg (by omega),I4 h4]
  refine⟨by omega,fun p hp=>xW (h4 p hp),cV.2 ⟨fun _=>⟨h2,h3,h4,h5,?_⟩,fun h=>absurd e0 h⟩⟩
  simp only[bU,eq_self,and_true,true_and,dg,eU]
  refine⟨⟨0,by omega,by omega,fun j hj=>absurd hj (by omega),by first | omega | (dsimp only; omega)⟩,fun n hn hold=>⟨fun hlt => ?_,fun hlt=>⟨-1,rfl,.inl ⟨rfl,fun j hj=>hold j (by omega)⟩⟩⟩⟩
  have e1:((n:Int)+1-1).toNat=n:=by omega
  have e2:((n:Int)+1).toNat=n+1:=by omega
  rw[e1,e2]
  have mem:∀ k,k<s.length→s.getD k (0,0,0,())∈s:=fun k hk=>by
    rw[List.getD_eq_getElem?_getD,List.getElem?_eq_getElem hk]; exact List.getElem_mem hk
  have m1:=mem n (by omega)
  have m2:=mem (n+1) (by omega)
  have b1:=h5.ix _ m1
  have b2:=h5.ix _ m2
  have c1:=h5.Ad _ m1
  have c2:=h5.Ad _ m2
  have LR:∀ k:Nat,k<ps.length→AH (ps.getD k ([],[],0,[],())):=fun k hk=>h4 _ (by
    rw[List.getD_eq_getElem?_getD,List.getElem?_eq_getElem hk]; exact List.getElem_mem hk)
  have o1:=LR _ ((Int.toNat_lt b1.1).2 b1.2)
  have o2:=LR _ ((Int.toNat_lt b2.1).2 b2.2)
  have hx:=o1.Ad _ c1
  have hy:=o2.Ad _ c2
  have s1:=xW o1
  have s2:=xW o2
  have st:=Gb (s.getD (n+1) (0,0,0,())).2.2.1 (M9 (n:=(s.getD n (0,0,0,())).2.1) o1.hu o1.hl).2 (M9 (n:=(s.getD (n+1) (0,0,0,())).2.1) o2.hu o2.hl).1
  have w1:=o1.num.1.2.2.2
  have w2:=o2.num.1.2.2.2
  refine⟨⟨by omega,by omega⟩,⟨by omega,by omega⟩,⟨by omega,by omega⟩,b1,s1.1,s1.2.1,b2,s2.1,s2.2.1,?_,?_⟩
  · have i1:kG (oD ps (s.getD n (0,0,0,()))).1:=o1.hu
    have i2:kG (oD ps (s.getD n (0,0,0,()))).2.1:=o1.hl
    have i3:kG (oD ps (s.getD (n+1) (0,0,0,()))).1:=o2.hu
    have i4:kG (oD ps (s.getD (n+1) (0,0,0,()))).2.1:=o2.hl
    have t1:(oD ps (s.getD n (0,0,0,()))).1.length≤1000:=s1.1
    have t2:(oD ps (s.getD n (0,0,0,()))).2.1.length≤1000:=s1.2.1
    have t3:(oD ps (s.getD (n+1) (0,0,0,()))).1.length≤1000:=s2.1
    have t4:(oD ps (s.getD (n+1) (0,0,0,()))).2.1.length≤1000:=s2.2.1
    clear st
    unfold sL
    simp only[oD] at i1 i2 i3 i4 t1 t2 t3 t4 ⊢
    clear c1 c2
    revert hx hy i1 i2 i3 i4 t1 t2 t3 t4
    generalize ps.getD (Int.toNat (s.getD n (0,0,0,())).1) ([],[],0,[],())=p
    generalize ps.getD (Int.toNat (s.getD (n+1) (0,0,0,())).1) ([],[],0,[],())=q
    generalize (s.getD n (0,0,0,())).2.1=lx
    generalize (s.getD (n+1) (0,0,0,())).2.1=ly
    intro hx hy i1 i2 i3 i4 t1 t2 t3 t4
    have i5:kG p.1.reverse:=fun x hx=>i1 x (by simpa using hx)
    have i6:kG p.2.1.reverse:=fun x hx=>i2 x (by simpa using hx)
    have i7:kG q.1.reverse:=fun x hx=>i3 x (by simpa using hx)
    have i8:kG q.2.1.reverse:=fun x hx=>i4 x (by simpa using hx)
    rcases Up hx with rfl | rfl | rfl | rfl<;>rcases Up hy with rfl | rfl | rfl | rfl<;>simp[bP,bO,i1,i2,i3,i4,i5,i6,i7,i8,t1,t2,t3,t4]
  · have st:0≤(sL ps (s.getD n (0,0,0,())) (s.getD (n+1) (0,0,0,()))).1∧(sL ps (s.getD n (0,0,0,())) (s.getD (n+1) (0,0,0,()))).1≤18∧0≤(sL ps (s.getD n (0,0,0,())) (s.getD (n+1) (0,0,0,()))).2.1∧(sL ps (s.getD n (0,0,0,())) (s.getD (n+1) (0,0,0,()))).2.1≤18∧0≤(sL ps (s.getD n (0,0,0,())) (s.getD (n+1) (0,0,0,()))).2.2:=st
    refine bU.2 ⟨fun h=>⟨_,rfl,.inr ⟨n,rfl,by omega,hold,fun hj=>absurd hj.1 (Int.not_le.2 h)⟩⟩,fun h=>⟨⟨by omega,by omega⟩,⟨?_,?_⟩,bU.2 ⟨fun h'=>⟨_,rfl,.inr ⟨n,rfl,by omega,hold,fun hj=>absurd hj.2 (Int.not_le.2 h')⟩⟩,fun h'=>⟨⟨by omega,by omega⟩,n+1,by omega,by omega,fun j hj => ?_,by omega⟩⟩⟩⟩
    · exact Int.le_trans (by decide) (Int.add_nonneg w1.1 w2.1)
    · exact Int.le_trans (Int.add_le_add w1.2 w2.2) (by decide)
    · rcases Nat.lt_succ_iff_lt_or_eq.1 hj with hj | rfl
      · exact hold j hj
      · exact⟨Int.not_lt.1 h,Int.not_lt.1 h'⟩
end Go.Tv
end
section
namespace Go.Tv
open Go Go.Di Go.Proofs
set_option maxRecDepth 100000
def D25:List TV→Dn
 | [.sl (.int .i64) l .no,.sl (.int .i64) m .no]=>some ([l.length≤1000,m.length≤1000],.res (nu (decide (l=m))) [] [],[(4,.ex Nat fun i => .ex Bool fun b => .st { sl:=[(5,nu b),(6,bp i)],dX:=[i≤l.length,b=decide (l.length=m.length∧l.take i=m.take i)],m:=l.length-i })])
 | _=>none
theorem v25:VI T0 Tryz.f49 [some .bool] D25:=by
 refine s8 fun a => ?_
 unfold D25
 split
 rotate_left
 ·trivial
 rename_i l m
 intro hp
 refine Dl (A:=(∃ (a:Nat),∃ (a_1:Bool),((↑l.length:Int)==(↑m.length:Int))=a_1∧(0:Int)=(↑a:Int)∧a≤l.length∧a_1=decide (l.length=m.length∧List.take a l=List.take a m)∧l.length-a<(1000000:Nat))∧∀ (a:Nat) (a_1:Bool),a≤l.length→a_1=decide (l.length=m.length∧List.take a l=List.take a m)→aM a_1 (aM (decide ((↑a:Int)<(↑l.length:Int))) (((0:Int)≤(↑a:Int)∧(↑a:Int)<(↑l.length:Int))∧((0:Int)≤(↑a:Int)∧(↑a:Int)<(↑m.length:Int))∧dg ((↑a:Int)+(1:Int))∧∃ (a_4:Nat),∃ (a_5:Bool),l=l∧m=m∧false=false∧(l.getD a (0:Int)==m.getD a (0:Int))=a_5∧(↑a:Int)+(1:Int)=(↑a_4:Int)∧a_4≤l.length∧a_5=decide (l.length=m.length∧List.take a_4 l=List.take a_4 m)∧l.length-a_4<l.length-a) (a_1=decide (l=m)∧True)) (a_1=decide (l=m)∧True)) (by kernel_rfl) ?_
 obtain⟨h1,h2,-⟩:=hp
 simp only[bU,cV,dg,and_true,true_and,eq_self]
 refine⟨⟨0,_,rfl,rfl,by omega,?_,by omega⟩,fun i b h3 h4 => ?_⟩
 ·rw[Bool.eq_iff_iff]; simp; omega
 rw[nv]
 subst h4
 simp only[decide_eq_true_eq,decide_eq_false_iff_not]
 refine⟨fun h5=>⟨fun h6=>⟨by omega,by omega,by omega,i+1,_,rfl,by omega,by omega,?_,by omega⟩,fun h6 => ?_⟩,fun h5 => ?_⟩
 ·rw[Bool.eq_iff_iff,decide_eq_true_eq,take_one (by omega),take_one (by omega),beq_iff_eq]
  refine⟨fun h=>⟨h5.1,by rw[h5.2,h]⟩,fun h => ?_⟩
  have:=List.append_inj_right' h.2 rfl
  simpa using this
 ·rw[decide_eq_decide]
  have e1:=h5.2
  rw[List.take_of_length_le (by omega),List.take_of_length_le (by omega)] at e1
  exact⟨fun _=>e1,fun h=>h5⟩
 ·rw[decide_eq_decide]
  exact⟨fun h=>absurd h h5,fun h=>by subst h; exact absurd ⟨rfl,rfl⟩ h5⟩
def G7:gN:=T0.fR 49 fun a=>dS (D25 a)
def D26:List TV→Dn
 | [.agg [.sl (.int .i64) au .no,.sl (.int .i64) al .no,.val (.int .i64 aw),.sl (.int .i64) aq .no],.agg [.sl (.int .i64) bu .no,.sl (.int .i64) bl .no,.val (.int .i64 bw),.sl (.int .i64) bq .no]]=>some ([Sh au al aq,Sh bu bl bq],.res (nu (decide (au=bu∧al=bl∧aw=bw∧aq=bq))) [] [],[])
 | _=>none
theorem v26:VI G7 Tryz.f48 [some .bool] D26:=by
 refine s8 fun a => ?_
 unfold D26
 split
 rotate_left
 ·trivial
 rename_i u l w ls u2 l2 w2 XI
 intro hp
 refine Dl (A:=u.length≤(1000:Nat)∧u2.length≤(1000:Nat)∧aM (decide (u=u2)) (l.length≤(1000:Nat)∧l2.length≤(1000:Nat)∧aM (decide (l=l2)) (aM (w==w2) (ls.length≤(1000:Nat)∧XI.length≤(1000:Nat)∧decide (ls=XI)=decide (u=u2∧l=l2∧w=w2∧ls=XI)∧True) (false=decide (u=u2∧l=l2∧w=w2∧ls=XI)∧True)) (false=decide (u=u2∧l=l2∧w=w2∧ls=XI)∧True)) (false=decide (u=u2∧l=l2∧w=w2∧ls=XI)∧True)) (by kernel_rfl) ?_
 obtain⟨⟨a1,a2,a3⟩,⟨b1,b2,b3⟩,-⟩:=hp
 simp only[bU,cV,and_true]
 refine⟨a1,b1,fun h1=>⟨a2,b2,fun h2=>⟨fun h3=>⟨a3,b3,?_⟩,fun h3 => ?_⟩,fun h2 => ?_⟩,fun h1 => ?_⟩
 ·rw[decide_eq_decide]; exact⟨fun h=>⟨h1,h2,h3,h⟩,fun h=>h.2.2.2⟩
 ·rw[decide_eq_false fun h=>h3 h.2.2.1]
 ·rw[decide_eq_false fun h=>h2 h.2.1]
 ·rw[decide_eq_false fun h=>h1 h.1]
def D42:List TV→Dn
 | [.sl (.pair (.sl (.int .i64)) (.pair (.sl (.int .i64)) (.pair (.int .i64) (.pair (.sl (.int .i64)) .unit)))) l .no]=>some ([l.length≤1000,∀ p∈l,ny p],.res (bp (if 4<l.length then 6 else fP l)) [] [],[])
 | _=>none
theorem v42:VI T6 Tryz.f50 [some bX] D42:=by
 refine s8 fun a => ?_
 unfold D42
 split
 rotate_left
 ·trivial
 rename_i l
 intro hp
 refine Dl (A:=aM (decide ((↑l.length:Int)>(4:Int))) (((6:Int)=if (4:Nat)<l.length then (6:Int) else fP l)∧True) (l.length≤(1000:Nat)∧(∀ (p:(aU).den),p∈l→ny p)∧(fP l=if (4:Nat)<l.length then (6:Int) else fP l)∧True)) (by kernel_rfl) ?_
 obtain⟨h1,h2,-⟩:=hp
 simp only[bU,and_true]
 exact⟨fun h=>by rw[if_pos (by omega)],fun h=>⟨by omega,h2,by rw[if_neg (by omega)]⟩⟩
def E1:gN:=((T8.fR 50 fun a=>dS (D42 a)).fR 49 fun a=>dS (D25 a)).fR 48 fun a=>dS (D26 a)
section
variable {aZ:bn} (tk:oF aZ)
include tk
end
end Go.Tv
end
section
namespace Go.Tv
open Go Go.Di Go.Proofs
def eZ (n:Int) (q:List Int):List Int:=q.map fun x=>uJ x n
def kQ (l:List Int):List Int:=l.mergeSort fun x y=>decide (x≤y)
theorem four {x:Int} (h:0≤x∧x≤3):x=0∨x=1∨x=2∨x=3:=by omega
theorem yb {x n:Int} (hx:0≤x∧x≤3) (hn:0≤n∧n≤3):(0≤uJ x n∧uJ x n≤3)∧uJ (uJ x n) n=x:=by
 rcases four hx with rfl | rfl | rfl | rfl<;>rcases four hn with rfl | rfl | rfl | rfl<;>decide
theorem Bi {l:List Int} (h:l.Pairwise (· < ·)):l.Nodup:=h.imp fun h=>by omega
theorem yL {n x:Int} {q:List Int}:x∈ej n q 4↔(0≤x∧x≤3)∧uJ x n∈q:=by
 simp only[ej,List.mem_filter,List.mem_map,List.mem_range,decide_eq_true_eq]
 constructor
 ·rintro⟨⟨k,hk,rfl⟩,h⟩
  exact⟨by simp only[Int.ofNat_eq_natCast]; omega,h⟩
 ·rintro⟨h1,h2⟩
  exact⟨⟨x.toNat,by omega,by simp only[Int.ofNat_eq_natCast]; omega⟩,h2⟩
theorem JM {q:List Int} {n:Int} (hl:∀ x∈q,0≤x∧x≤3) (ha:q.Pairwise (· < ·)) (hn:0≤n∧n≤3):kQ (eZ n q)=ej n q 4:=by
 have h1:(eZ n q).Nodup:=by
  have:=Bi ha
  unfold eZ
  rw[List.Nodup,List.pairwise_map]
  refine this.imp_of_mem fun {a b} ha hb lX e=>lX ?_
  rw[← (yb (hl a ha) hn).2,← (yb (hl b hb) hn).2,e]
 have h2:=Br n q 4
 have hp:(eZ n q).Perm (ej n q 4):=(List.perm_ext_iff_of_nodup h1 (Bi h2)).2 fun x=>by
  rw[yL,eZ,List.mem_map]
  constructor
  ·rintro⟨y,hy,rfl⟩
   have:=yb (hl y hy) hn
   exact⟨this.1,by rw[this.2]; exact hy⟩
  ·rintro⟨hx,h⟩
   exact⟨_,h,(yb hx hn).2⟩
 refine List.Perm.eq_of_pairwise (le:=fun a b:Int=>a≤b) (fun a b _ _ h1 h2=>by omega) ?_ (h2.imp fun h=>by omega) ((List.mergeSort_perm _ _).trans hp)
 have:=List.pairwise_mergeSort (le:=fun x y:Int=>decide (x≤y)) (fun a b c h1 h2=>by simp at *; omega) (fun a b=>by simp; omega) (eZ n q)
 exact this.imp fun h=>by simpa using h
end Go.Tv
end
