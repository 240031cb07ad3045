import Derived.Test.YtadeehilamokkaaGreatDoorPk34
import Derived.Laws.ResultCell
set_option maxHeartbeats 4000000
set_option maxRecDepth 100000
namespace Go.Proofs
open Go.RowKit
def kT(s:ByteArray):List ByteArray:=Lib.splitB ⟨#[47]⟩ 0 (Lib.countB s ⟨#[47]⟩) s
theorem EN(sep:ByteArray):∀(k:Nat)(s x:ByteArray),x∈Lib.splitB sep 0 k s->x.size<=s.size
 |0,s,x,h=>by simp only[Lib.splitB,bX]at h;subst h;exact ai _
 |k+1,s,x,h=>by
  unfold Lib.splitB at h;split at h;simp only[bX]at h;subst h;exact ai _
  rcases aV.1 h with rfl|h;rw[ByteArray.size_extract];omega
  have:=EN sep k _ x h;rw[ByteArray.size_extract]at this;omega
theorem E4{s:ByteArray}(x:ByteArray)(h:x∈kT s):x.size<=s.size:=EN _ _ _ _ h
def mm:List ByteArray->Option PM
 |[a,b,c,d]=>if(gh a.data.toList).2&&(gh b.data.toList).2&&(gh c.data.toList).2&&((gh c.data.toList).1.length==1)&&(gh d.data.toList).2 then
  some ⟨(gh a.data.toList).1,(gh b.data.toList).1,(gh c.data.toList).1.getD 0 0,(gh d.data.toList).1⟩else none
 |_=>none
def b9(w:World)(N:Nat)(v:Value)(l:cj):Prop:=∃A c,v=.slice A l.length c/\(l.length<=c/\(A=none->c=0))/\fe w A l/\∀ad,A=some ad->N<=ad.block/\ad.spot=none/\∃cur,w.heap[ad.block]? =some (.cells cur 3 (0,0))
theorem wV{w w':World}{N:Nat}{v:Value}{l:cj}(h:b9 w N v l)(hb:∀b cur,N<=b->w.heap[b]? =some (.cells cur 3 (0,0))->w'.heap[b]? =w.heap[b]?):b9 w' N v l:=by obtain⟨A,c,h1,h0,h2,h3⟩:=h;refine⟨A,c,h1,h0,λhne=>?_,λad ha=>?_⟩;obtain⟨b,off,rfl,h4⟩:=h2 hne;refine⟨b,off,rfl,λj hj=>?_⟩;obtain⟨q1,-,cur,q2⟩:=h3 _ rfl;exact(World.cell?_of_block (hb b cur q1 q2)).trans (h4 j hj);obtain⟨q1,q3,cur,q2⟩:=h3 ad ha;exact⟨q1,q3,cur,(hb _ cur q1 q2).trans q2⟩
theorem oL{w w':World}{N:Nat}{v:Value}{l:cj}(h:b9 w N v l)(hb:∀b,N<=b->b<w.heap.size->w'.heap[b]? =w.heap[b]?):b9 w' N v l:=
 wV h λb cur q1 q2=>hb b q1 (aG.1 q2).1
theorem oK{w:World}{N N':Nat}{v:Value}{l:cj}(h:b9 w N v l)(hb:N'<=N):b9 w N' v l:=by obtain⟨A,c,h1,h0,h2,h3⟩:=h;exact⟨A,c,h1,h0,h2,λad ha=>⟨bt hb (h3 ad ha).1,(h3 ad ha).2⟩⟩
theorem Mx{w:World}{N:Nat}{v:Value}{l:cj}(h:w.ownsRow N 3 1 v l.length (l.map (Value.int .i64))):b9 w N v l:=by
 rcases h.2 with ⟨h1,h2⟩|⟨g,c,cur,h1,h3,h4,h5,h6,h7,h8⟩;exact⟨none,0,by rw[h1,h2],⟨ab,λ_=>rfl⟩,λhne=>absurd (List.length_eq_zero_iff.1 h2) hne,λad e=>aE⟩;refine⟨_,c,h1,⟨h5,λe=>aE⟩,λ_=>⟨g,0,rfl,λj hj=>?_⟩,λad e=>by cases e;exact⟨h3,rfl,cur,h4⟩⟩;have:=h.cells (g:=g) (by rw[h1];rfl) j (.int .i64 (l.getD j 0)) (by simp[aK,hj]);have e:(⟨g,0,none⟩:Addr).add j=⟨g,j,none⟩:=by unfold Addr.add;split<;>simp_all
 rw[e]at this;rw[eO];exact this
def Zi(w:World)(r:Option PM)(e:Ending)(w':World):Prop:=Below w.heap.size w w'/\match r with
 |some p=>∃v0 v1 v3,e=.returned (.tuple #[.agg #[v0,v1,.int .i64 p.w,v3],.bool true])/\b9 w' w.heap.size v0 p.u/\b9 w' w.heap.size v1 p.l/\b9 w' w.heap.size v3 p.q
 |none=>e=.returned (.tuple #[.agg #[.slice none 0 0,.slice none 0 0,.int .i64 0,.slice none 0 0],.bool false])
theorem TW{ps:List ByteArray}(h:ps.length≠4):mm ps=none:=by
 match ps,h with
 |[],_=>rfl
 |[_],_=>rfl
 |[_,_],_=>rfl
 |[_,_,_],_=>rfl
 |[a,b,c,d],h=>exact absurd rfl h
 |_::_::_::_::_::_,_=>rfl
abbrev Kj:Array Value:=#[.slice none 0 0,.slice none 0 0,.int .i64 0,.slice none 0 0]
structure oJ (w:World) (ps:List ByteArray) (k:Nat) (wr:World):Prop where
 bel:Below w.heap.size w wr
 res:wr.heap[w.heap.size]? =some (.cells Kj 42 (0,0))
 parts:wr.heap[w.heap.size+1]? =some (.cells (ps.map Value.string).toArray 9 (0,0))
 arr:∃cs T,wr.heap[w.heap.size+2]? =some (.cells cs T (0,0))/\cs.size=4/\∀j,j<k->b9 wr (w.heap.size+3) (cs.getD j undef) (gh (ps.getD j ⟨#[]⟩).data.toList).1
 gV:∀j,j<k->(gh (ps.getD j ⟨#[]⟩).data.toList).2=true
 one:2<k->(gh (ps.getD 2 ⟨#[]⟩).data.toList).1.length=1
theorem oJ.cell {w wr:World}{ps:List ByteArray}{k:Nat}(h:oJ w ps k wr)(hk:k<ps.length):wr.cell? ⟨w.heap.size+1,k,none⟩=some (.string (ps.getD k ⟨#[]⟩)):=by rw[Lib.cell_of_heap h.parts];simp[aK,hk]
theorem oJ.lt {w wr:World}{ps:List ByteArray}{k:Nat}(h:oJ w ps k wr):w.heap.size+3<=wr.heap.size:=by obtain⟨cs,T,h1,-⟩:=h.arr;have:=(aG.1 h1).1;omega
structure sI (w:World) (ps:List ByteArray) (k:Nat) (v:Value) (W:World):Prop where
 bel:Below w.heap.size w W
 res:W.heap[w.heap.size]? =some (.cells Kj 42 (0,0))
 parts:W.heap[w.heap.size+1]? =some (.cells (ps.map Value.string).toArray 9 (0,0))
 arr:∃cs T,W.heap[w.heap.size+2]? =some (.cells cs T (0,0))/\cs.size=4/\cs.getD k undef=v/\∀j,j<=k->b9 W (w.heap.size+3) (cs.getD j undef) (gh (ps.getD j ⟨#[]⟩).data.toList).1
theorem oJ.mid {w wr w1:World}{ps:List ByteArray}{k:Nat}(h:oJ w ps k wr)(hk:k<4)(hb:Below wr.heap.size wr w1){v:Value}{l:cj}{ok:Bool}(hr:gh (ps.getD k ⟨#[]⟩).data.toList=(l,ok))
  (dW:w1.ownsRow (wr.heap.size+1) 3 1 v l.length (l.map (Value.int .i64))):sI w ps k v (w1.setCell ⟨w.heap.size+1+1,k,none⟩ v):=by
 have hlt:=h.lt;obtain⟨cs,T,h1,h2,h3⟩:=h.arr;have kb:∀b,b<wr.heap.size->w1.heap[b]? =wr.heap[b]? :=hb.block;have MQ:w1.heap[w.heap.size+1+1]? =some (.cells cs T (0,0)):=(kb _ ab).trans h1;have ho:∀b,b≠w.heap.size+1+1->(w1.setCell ⟨w.heap.size+1+1,k,none⟩ v).heap[b]? =w1.heap[b]? :=λb hb=>heap_setCell_other _ _ _ _ hb;refine⟨?_,(ho _ ab).trans ((kb _ ab).trans h.res),(ho _ ab).trans ((kb _ ab).trans h.parts),cs.setIfInBounds k v,T,heap_setCell_same _ _ _ _ _ _ MQ,by simp[h2],by simp[aW,h2,hk],λj hj=>?_⟩;exact(h.bel.trans (hb.mono (by omega:w.heap.size<=wr.heap.size))).setCell (by show _<=w.heap.size+1+1;omega) _;by_cases e:j=k;subst e;rw[show(cs.setIfInBounds j v).getD j undef=v by simp[aW,h2,hk],hr];have hn:=Mx dW;have JR:b9 w1 (w.heap.size+3) v l:=by obtain⟨A,c,e1,e0,e2,e3⟩:=hn;exact⟨A,c,e1,e0,e2,λad ha=>⟨by have:=(e3 ad ha).1;omega,(e3 ad ha).2⟩⟩
 exact oL JR λb hb _=>ho b ab;have CM:j<k:=ab
 rw[show(cs.setIfInBounds k v).getD j undef=cs.getD j undef by simp[aW,Ne.symm e]];exact oL (h3 j CM) λb hb rQ=>(ho b ab).trans (kb b rQ)
theorem sI.inv {w W:World}{ps:List ByteArray}{k:Nat}{v:Value}(h:sI w ps k v W){wr:World}(h0:oJ w ps k wr)(jU:(gh (ps.getD k ⟨#[]⟩).data.toList).2=true)(h2:k=2->(gh (ps.getD k ⟨#[]⟩).data.toList).1.length=1):oJ w ps (k+1) W:=by
 obtain⟨cs,T,a1,a2,a3,a4⟩:=h.arr;refine⟨h.bel,h.res,h.parts,⟨cs,T,a1,a2,λj hj=>a4 j ab⟩,λj hj=>?_,λh3=>?_⟩;by_cases e:j=k;subst e;exact jU
 exact h0.gV j ab;by_cases e:k=2;subst e;exact h2 rfl
 exact h0.one ab
theorem sI.acD {w W:World}{ps:List ByteArray}{k:Nat}{v:Value}(h:sI w ps k v W):∃W3,W3=(((W.setCell ⟨w.heap.size,0,none⟩ (.slice none 0 0)).setCell ⟨w.heap.size,1,none⟩ (.slice none 0 0)).setCell ⟨w.heap.size,2,none⟩ (.int .i64 0)).setCell ⟨w.heap.size,3,none⟩ (.slice none 0 0)/\
  Below w.heap.size w W3/\W3.heap[w.heap.size]? =some (.cells Kj 42 (0,0)):=by
 have h0:=heap_setCell_same _ _ 0 _ _ (.slice none 0 0) h.res;have h1:=heap_setCell_same _ _ 1 _ _ (.slice none 0 0) h0;have h2:=heap_setCell_same _ _ 2 _ _ (.int .i64 0) h1;have h3:=heap_setCell_same _ _ 3 _ _ (.slice none 0 0) h2;exact⟨_,rfl,(((h.bel.setCell (ai _) _).setCell (ai _) _).setCell (ai _) _).setCell (ai _) _,h3⟩
theorem OB{W:World}{n:Nat}{v0 v1 v2 v3:Value}(h:W.heap[n]? =some (.cells #[v0,v1,v2,v3] 42 (0,0))):(loadVar 42 ⟨n,0,none⟩).run Tryz.prog W=.ok (.agg #[v0,v1,v2,v3]) W:=by
 have h0:W.cell? ⟨n,0,none⟩=some v0:=by rw[Lib.cell_of_heap h];rfl
 have h1:W.cell? ⟨n,1,none⟩=some v1:=by rw[Lib.cell_of_heap h];rfl
 have h2:W.cell? ⟨n,2,none⟩=some v2:=by rw[Lib.cell_of_heap h];rfl
 have h3:W.cell? ⟨n,3,none⟩=some v3:=by rw[Lib.cell_of_heap h];rfl
 clear h
 go_simp
theorem A5{W:World}{n:Nat}{v0 v1 v2 v3 u:Value}(h:W.heap[n]? =some (.cells #[v0,v1,v2,v3] 42 (0,0))):((asAddr (.pointer (some ⟨n,0,none⟩))).run Tryz.prog W).andThen (λa w1=>((loadVar 42 a).run Tryz.prog w1).andThen λv w2=>Result.ok (Value.tuple #[v,u]) w2)=Result.ok (Value.tuple #[.agg #[v0,v1,v2,v3],u]) W:=by have e:(asAddr (.pointer (some ⟨n,0,none⟩))).run Tryz.prog W=.ok ⟨n,0,none⟩ W:=rfl;rw[e];simp only[Result.andThen];rw[OB h]
theorem TX{ps:List ByteArray}{k:Nat}(hN:ps.length=4)(hk:k<4)(h:(gh (ps.getD k ⟨#[]⟩).data.toList).2=false\/k=2/\(gh (ps.getD k ⟨#[]⟩).data.toList).1.length≠1):mm ps=none:=by
 match ps,hN with
 |[a,b,c,d],_=>
  match k,hk with
  |0,_=>simp at h;simp[mm,h]
  |1,_=>simp at h;simp[mm,h]
  |2,_=>rcases h with h|⟨-,h⟩<;>simp at h<;>simp[mm,h]
  |3,_=>simp at h;simp[mm,h]
theorem OT{ps:List ByteArray}(hN:ps.length=4)(h:∀j,j<4->(gh (ps.getD j ⟨#[]⟩).data.toList).2=true)(h2:(gh (ps.getD 2 ⟨#[]⟩).data.toList).1.length=1):
  mm ps=some ⟨(gh (ps.getD 0 ⟨#[]⟩).data.toList).1,(gh (ps.getD 1 ⟨#[]⟩).data.toList).1,(gh (ps.getD 2 ⟨#[]⟩).data.toList).1.getD 0 0,(gh (ps.getD 3 ⟨#[]⟩).data.toList).1⟩:=by
 match ps,hN with
 |[a,b,c,d],_=>
  have e0:=h 0 ab;have e1:=h 1 ab;have e2:=h 2 ab;have e3:=h 3 ab;simp at e0 e1 e2 e3 h2;simp[mm,e0,e1,e2,e3,h2]
theorem Tryz.YK (s:ByteArray) (m:Int) (w:World) (hl:s.size≤1000000) (hm:w.cell? ⟨1,0,none⟩=some (.int .i64 m)) :
  Calls Tryz.prog 88 #[.string s] w (Zi w (mm (kT s))):=by
 have hmb:=Tryz.gZ hm
 have hm1:(w.alloc (.cells #[.slice none 0 0,.slice none 0 0,.int .i64 0,.slice none 0 0] 42)).cell? ⟨1,0,none⟩=some (.int .i64 m):=(World.cell?_alloc_past _ _ _ hmb).trans hm
 have hN:=Lib.splitB_all ⟨#[47]⟩ (by decide) 0 _ s rfl
 have hP:kT s=Lib.splitB ⟨#[47]⟩ 0 (Lib.countB s ⟨#[47]⟩) s:=rfl
 have hS:=Tryz.strings_Split s ⟨#[47]⟩ m (w.alloc (.cells #[.slice none 0 0,.slice none 0 0,.int .i64 0,.slice none 0 0] 42)) (by omega) hm1 (by decide)
 have Kb:∀ k,k<4→((kT s).getD k ⟨#[]⟩).size≤1000000:=fun k _=>by
  by_cases hk:k<(kT s).length
  ·have:=E4 (s:=s) ((kT s).getD k ⟨#[]⟩) (by rw[aK,aT hk]; exact iS hk)
   omega
  ·rw[aK,qD (by omega)]; exact gm _
 rw[← hP] at hN hS
 generalize Lib.countB s ⟨#[47]⟩=c at hN hS
 generalize kT s=ps at hN hS Kb
 clear hm1 hP
 by_cases h4:c=3
 ·subst h4
  have Kb:=Lib.hid Kb
  go_enter Tryz.func88,Tryz.ntmps88
  go_wp2_with (go_at_call 119; refine hS.mono ?_)
  clear hS
  go_loopw [17] (fun i wr=>∃ k:Nat,k≤4∧i = .int .i64 (k:Int)∧oJ w ps k wr) (fun i _=>4-(intOf i).toNat)
  case atStart =>
   refine⟨0,by omega,rfl,(((Below.refl _ _).alloc (ai _) _).alloc (by simp) _).alloc (by simp; omega) _,?_,?_,⟨#[.slice none 0 0,.slice none 0 0,.slice none 0 0,.slice none 0 0],180,?_,rfl,fun j hj=>by omega⟩,fun j hj=>by omega,fun hj=>by omega⟩
   ·rw[Below.heap_alloc _ _ _ (by simp; omega),Below.heap_alloc _ _ _ (by simp)]
    exact heap_alloc_new w _
   ·rw[Below.heap_alloc _ _ _ (by simp)]
    have:=heap_alloc_new (w.alloc (.cells #[.slice none 0 0,.slice none 0 0,.int .i64 0,.slice none 0 0] 42)) (.cells (ps.map Value.string).toArray 9)
    simpa using this
   ·have:=heap_alloc_new ((w.alloc (.cells #[.slice none 0 0,.slice none 0 0,.int .i64 0,.slice none 0 0] 42)).alloc (.cells (ps.map Value.string).toArray 9)) (.cells #[.slice none 0 0,.slice none 0 0,.slice none 0 0,.slice none 0 0] 180)
    simpa using this
  case round =>
   obtain⟨k,hk,rfl,hI⟩:=hrel
   by_cases MX:k<4
   ·have dB:=hI.cell (by omega:k<ps.length)
    have hpn:=Kb.out k MX
    have hlt:=hI.lt
    have hA:=hI.arr
    have hI:=Lib.hid hI
    have pX:=Lib.hid (fun h=>TX (k:=k) hN MX h)
    have hgo:=Lib.hid (fun W v (h:sI w ps k v W)=>h.inv hI.out)
    generalize hp:ps.getD k ⟨#[]⟩=p at dB hpn pX hgo
    have hp:=Lib.hid hp
    go_wp2_with (go_at_call 120; refine(Tryz.Mw p _ hpn).mono ?_)
    rintro e w1 ⟨v,rfl,dW,yb⟩
    obtain⟨A,cc,rfl⟩:=GY dW
    generalize hr:gh p.data.toList=r at dW pX hgo
    obtain⟨l,ok⟩:=r
    simp only at dW pX hgo
    obtain⟨cs,T,a1,a2,-⟩:=hA
    have a1':w1.heap[w.heap.size+1+1]? = some (.cells cs T (0,0)):=(yb.block _ (by omega)).trans a1
    have xq:sI w ps k (.slice A l.length cc) (w1.setCell ⟨w.heap.size+1+1,k,none⟩ (.slice A l.length cc)):=hI.out.mid MX yb (by rw[hp.out]; exact hr) dW
    have hold:w1.cell? ⟨w.heap.size+1+1,k,none⟩=some (cs.getD k undef):=by
     rw[Lib.cell_of_heap a1']
     simp[aW,a2,MX]
    have ZX:w1.frozen? ⟨w.heap.size+1+1,k,none⟩=false:=Lib.frozen_of_heap a1' k
    have hc:(w1.setCell ⟨w.heap.size+1+1,k,none⟩ (.slice A l.length cc)).cell? ⟨w.heap.size+1+1,k,none⟩=some (.slice A l.length cc):=World.cell?_setCell_same _ _ _ hold
    clear yb a1 a1' dW
    have hr:=Lib.hid hr
    generalize hW2:w1.setCell ⟨w.heap.size+1+1,k,none⟩ (.slice A l.length cc)=W2 at xq hc
    have z0:W2.cell? ⟨w.heap.size,0,none⟩=some (.slice none 0 0):=by rw[Lib.cell_of_heap xq.res]; rfl
    have z1:W2.cell? ⟨w.heap.size,1,none⟩=some (.slice none 0 0):=by rw[Lib.cell_of_heap xq.res]; rfl
    have z2:W2.cell? ⟨w.heap.size,2,none⟩=some (.int .i64 0):=by rw[Lib.cell_of_heap xq.res]; rfl
    have z3:W2.cell? ⟨w.heap.size,3,none⟩=some (.slice none 0 0):=by rw[Lib.cell_of_heap xq.res]; rfl
    have y0:W2.frozen? ⟨w.heap.size,0,none⟩=false:=Lib.frozen_of_heap xq.res 0
    have y1:W2.frozen? ⟨w.heap.size,1,none⟩=false:=Lib.frozen_of_heap xq.res 1
    have y2:W2.frozen? ⟨w.heap.size,2,none⟩=false:=Lib.frozen_of_heap xq.res 2
    have y3:W2.frozen? ⟨w.heap.size,3,none⟩=false:=Lib.frozen_of_heap xq.res 3
    have xq:=Lib.hid xq
    cases ok
    ·go_wp2
     obtain⟨W3,e3,b3,r3⟩:=xq.out.acD
     rw[pX.out (by simp),← e3]
     (try simp only[Exit.inBlock,Exit.then])
     refine bodyPost_ret (v := .tuple #[.agg #[.slice none 0 0,.slice none 0 0,.int .i64 0,.slice none 0 0],.bool false]) ?_ rfl ⟨b3,rfl⟩
     rw[results_cell_tmp rfl]
     exact A5 r3
    ·by_cases Ga:k=2
     ·subst Ga
      go_wp2
      ·obtain⟨W3,e3,b3,r3⟩:=xq.out.acD
       rw[pX.out (.inr ⟨trivial,by have h:=‹((l.length:Int) !=1)=true›; simp at h; omega⟩),← e3]
       (try simp only[Exit.inBlock,Exit.then])
       refine bodyPost_ret (v := .tuple #[.agg #[.slice none 0 0,.slice none 0 0,.int .i64 0,.slice none 0 0],.bool false]) ?_ rfl ⟨b3,rfl⟩
       rw[results_cell_tmp rfl]
       exact A5 r3
      ·exact⟨⟨3,by omega,rfl,hgo.out W2 _ xq.out trivial fun _=>by have h:=‹((l.length:Int) !=1)=false›; simp at h; omega⟩,by decide⟩
     ·go_wp2
      exact⟨⟨k+1,by omega,by go_num,hgo.out W2 _ xq.out trivial fun e=>absurd e Ga⟩,by simp[intOf]; omega⟩
   ·have oT:k=4:=by omega
    subst oT
    have h1:=hI.one (by omega)
    have tW:=OT hN hI.gV h1
    obtain⟨cs,T,a1,a2,a3⟩:=hI.arr
    have n0:=a3 0 (by omega)
    have n1:=a3 1 (by omega)
    have n2:=a3 2 (by omega)
    have n3:=a3 3 (by omega)
    have nR:∀ j,j<4→wr.cell? ⟨w.heap.size+1+1,j,none⟩=some (cs.getD j undef):=fun j hj=>by
     rw[Lib.cell_of_heap a1]
     simp[aW,a2,hj]
    have d0:=nR 0 (by omega)
    have d1:=nR 1 (by omega)
    have d2:=nR 2 (by omega)
    have d3:=nR 3 (by omega)
    generalize cs.getD 0 undef=v0 at n0 d0
    generalize cs.getD 1 undef=v1 at n1 d1
    generalize cs.getD 2 undef=v2 at n2 d2
    generalize cs.getD 3 undef=v3 at n3 d3
    generalize (gh (ps.getD 0 ⟨#[]⟩).data.toList).1=l0 at n0 tW
    generalize (gh (ps.getD 1 ⟨#[]⟩).data.toList).1=l1 at n1 tW
    generalize (gh (ps.getD 2 ⟨#[]⟩).data.toList).1=l2 at n2 h1 tW
    generalize (gh (ps.getD 3 ⟨#[]⟩).data.toList).1=l3 at n3 tW
    obtain⟨A2,c2,rfl,q2,i2,m2⟩:=n2
    rw[h1] at d2
    obtain⟨b2,o2,rfl,g2⟩:=i2 (fun e=>by subst e; simp at h1)
    have g2:=g2 0 (by omega)
    generalize l2.getD 0 0=z at g2 tW
    have tW:=Lib.hid tW
    rw[Nat.add_zero] at g2
    have z0:wr.cell? ⟨w.heap.size,0,none⟩=some (.slice none 0 0):=by rw[Lib.cell_of_heap hI.res]; rfl
    have z1:wr.cell? ⟨w.heap.size,1,none⟩=some (.slice none 0 0):=by rw[Lib.cell_of_heap hI.res]; rfl
    have z2:wr.cell? ⟨w.heap.size,2,none⟩=some (.int .i64 0):=by rw[Lib.cell_of_heap hI.res]; rfl
    have z3:wr.cell? ⟨w.heap.size,3,none⟩=some (.slice none 0 0):=by rw[Lib.cell_of_heap hI.res]; rfl
    have y0:wr.frozen? ⟨w.heap.size,0,none⟩=false:=Lib.frozen_of_heap hI.res 0
    have y1:wr.frozen? ⟨w.heap.size,1,none⟩=false:=Lib.frozen_of_heap hI.res 1
    have y2:wr.frozen? ⟨w.heap.size,2,none⟩=false:=Lib.frozen_of_heap hI.res 2
    have y3:wr.frozen? ⟨w.heap.size,3,none⟩=false:=Lib.frozen_of_heap hI.res 3
    have hI:=Lib.hid hI
    obtain⟨A0,c0,rfl,q0,i0,m0⟩:=n0
    obtain⟨A1,c1,rfl,q1,i1,m1⟩:=n1
    obtain⟨A3,c3,rfl,q3,i3,m3⟩:=n3
    have n0:Hid (b9 wr (w.heap.size+3) (.slice A0 l0.length c0) l0):=Lib.hid ⟨A0,c0,rfl,q0,i0,m0⟩
    have n1:Hid (b9 wr (w.heap.size+3) (.slice A1 l1.length c1) l1):=Lib.hid ⟨A1,c1,rfl,q1,i1,m1⟩
    have n3:Hid (b9 wr (w.heap.size+3) (.slice A3 l3.length c3) l3):=Lib.hid ⟨A3,c3,rfl,q3,i3,m3⟩
    clear i0 m0 i1 m1 i3 m3 i2 m2 q0 q1 q2 q3
    clear nR a3 a1 a2 Kb
    go_wp2
    go_region
    all_goals go_wp2
    all_goals (try simp only[Exit.inBlock,Exit.then])
    all_goals rw[tW.out]
    all_goals (
     have h0:=heap_setCell_same _ _ 0 _ _ (.slice A0 l0.length c0) hI.out.res
     have h1:=heap_setCell_same _ _ 1 _ _ (.slice A1 l1.length c1) h0
     have h2:=heap_setCell_same _ _ 2 _ _ (.int .i64 z) h1
     have h3:=heap_setCell_same _ _ 3 _ _ (.slice A3 l3.length c3) h2
     have hk:∀ b,w.heap.size+3≤b→(((((wr.setCell ⟨w.heap.size,0,none⟩ (.slice A0 l0.length c0)).setCell ⟨w.heap.size,1,none⟩ (.slice A1 l1.length c1)).setCell ⟨w.heap.size,2,none⟩ (.int .i64 z)).setCell ⟨w.heap.size,3,none⟩ (.slice A3 l3.length c3)).drew).heap[b]? = wr.heap[b]? := fun b hb=>by
      show ((((wr.setCell ⟨w.heap.size,0,none⟩ (.slice A0 l0.length c0)).setCell ⟨w.heap.size,1,none⟩ (.slice A1 l1.length c1)).setCell ⟨w.heap.size,2,none⟩ (.int .i64 z)).setCell ⟨w.heap.size,3,none⟩ (.slice A3 l3.length c3)).heap[b]? = _
      rw[heap_setCell_other _ _ _ _ (by show b≠w.heap.size; omega),heap_setCell_other _ _ _ _ (by show b≠w.heap.size; omega),heap_setCell_other _ _ _ _ (by show b≠w.heap.size; omega),heap_setCell_other _ _ _ _ (by show b≠w.heap.size; omega)]
     have hN:∀ {v l},b9 wr (w.heap.size+3) v l→b9 ((((wr.setCell ⟨w.heap.size,0,none⟩ (.slice A0 l0.length c0)).setCell ⟨w.heap.size,1,none⟩ (.slice A1 l1.length c1)).setCell ⟨w.heap.size,2,none⟩ (.int .i64 z)).setCell ⟨w.heap.size,3,none⟩ (.slice A3 l3.length c3)).drew w.heap.size v l:=fun h=>oK (oL h fun b hb _=>hk b hb) (by omega)
     refine bodyPost_ret (v := .tuple #[.agg #[.slice A0 l0.length c0,.slice A1 l1.length c1,.int .i64 z,.slice A3 l3.length c3],.bool true]) ?_ rfl ⟨((((hI.out.bel.setCell (ai _) _).setCell (ai _) _).setCell (ai _) _).setCell (ai _) _).drew,_,_,_,rfl,hN n0.out,hN n1.out,hN n3.out⟩
     rw[results_cell_tmp rfl]
     exact A5 h3)
 ·have e4:((c:Int)+1 !=4)=true:=by simp; omega
  rw[TW (by omega)]
  go_enter Tryz.func88,Tryz.ntmps88
  go_wp2_with (go_at_call 119; refine hS.mono ?_)
  (try simp only[Exit.inBlock,Exit.then])
  refine bodyPost_ret (v := .tuple #[.agg #[.slice none 0 0,.slice none 0 0,.int .i64 0,.slice none 0 0],.bool false]) ?_ rfl ⟨?_,rfl⟩
  ·rw[results_cell_tmp rfl]
   go_simp
  ·exact((Below.refl _ _).alloc (ai _) _).alloc (by simp) _
end Go.Proofs
namespace Go.Proofs
open Go.RowKit
def lI:Nat->ByteArray->Int->dp->dp⊕Int
 |0,_,_,acc=>.inl acc
 |f+1,t,n,acc=>if t.size=0 then .inl acc else
  match mm (kT ⟨(Lib.cut t.data.toList [10]).1.toArray⟩),(Lib.cut t.data.toList [10]).2.2 with
  |some p,true=>lI f ⟨(Lib.cut t.data.toList [10]).2.1.toArray⟩ (n+1) (acc++[p])
  |_,_=>.inr n
theorem size_mk(l:List UInt8):(⟨l.toArray⟩:ByteArray).size=l.length:=iT
theorem LM:∀(l:List UInt8)(_:0<=Lib.index l [10]),(Lib.index l [10]).toNat<l.length
 |[],h=>by simp[Lib.index]at h
 |b::l,h=>by
  unfold Lib.index at h⊢;split;simp;split;simp_all;rename_i h1 h2;have JS:=Lib.index_ge l [10];have hne:Lib.index l [10]≠-1:=by simpa using h2
  have:=LM l ab;simp only[cT];omega
theorem Jn(t:List UInt8):(Lib.cut t [10]).1.length<=t.length/\((Lib.cut t [10]).2.2=true->(Lib.cut t [10]).2.1.length<t.length):=by unfold Lib.cut;split;rename_i h;have:=LM t h;exact⟨by simp;omega,λ_=>by simp;omega⟩;exact⟨ai _,λh=>ar⟩
theorem EZ:∀(f g:Nat)(t:ByteArray)(n:Int)(acc:dp),t.size<f->t.size<g->lI f t n acc=lI g t n acc
 |0,_,_,_,_,h,_=>absurd h (Nat.not_lt_zero _)
 |_,0,_,_,_,_,h=>absurd h (Nat.not_lt_zero _)
 |f+1,g+1,t,n,acc,h1,h2=>by rw[lI,lI];split;rfl;have hc:=(Jn t.data.toList).2;rw[show t.data.toList.length=t.size from eZ]at hc;split;rename_i p _ h;exact EZ f g _ _ _ (by rw[size_mk];have:=hc h;omega) (by rw[size_mk];have:=hc h;omega);rfl
def FU(w:World)(N:Nat)(v:Value)(ps:dp):Prop:=∃xs,w.ownsRow N 42 4 v ps.length xs/\∀j p,ps[j]? =some p->∃v0 v1 v3,xs[j*4]? =some v0/\xs[j*4+1]? =some v1/\xs[j*4+2]? =some (.int .i64 p.w)/\xs[j*4+3]? =some v3/\b9 w N v0 p.u/\b9 w N v1 p.l/\b9 w N v3 p.q
def Zh(w:World)(r:dp⊕Int)(e:Ending)(w':World):Prop:=Below w.heap.size w w'/\match r with
 |.inl ps=>∃v,e=.returned (.tuple #[v,.nilIface])/\FU w' w.heap.size v ps
 |.inr n=>e=.returned (.tuple #[.slice none 0 0,.iface 102 (.agg #[.int .i64 n])])
theorem Tryz.afo:(Tryz.prog.info? 42).map (λi=>(i.zero,i.size,i.bytes))=some (some (.agg Kj),4,80):=by kernel_rfl
theorem Tryz.u22:Tryz.prog.underlying 22=some (.slice 42):=by kernel_rfl
theorem Tk{w w':World}{b:Nat}{e:TypeId}{s:Nat}{v:Value}{n:Nat}{xs:List Value}(h:w.ownsRow b e s v n xs)(hb:Below w.heap.size w w'):w'.ownsRow b e s v n xs:=by refine⟨h.1,h.2.imp id λ⟨g,c,cur,h1,h2,h3,h4⟩=>⟨g,c,cur,h1,h2,?_,h4⟩⟩;rw[hb.block g (aG.1 h3).1];exact h3
theorem zF{xs ys:List Value}{i:Nat}{u:Value}(h:xs[i]? =some u):(xs++ys)[i]? =some u:=by rw[eD (aI.1 h).1];exact h
theorem A7{w w':World}{N:Nat}{v:Value}{ps:dp}(h:FU w N v ps)(hb:Below w.heap.size w w'):FU w' N v ps:=by obtain⟨xs,h1,h2⟩:=h;have hk:∀{v l},b9 w N v l->b9 w' N v l:=λh=>oL h λb _ rQ=>hb.block b rQ;refine⟨xs,Tk h1 hb,λj p hj=>?_⟩;obtain⟨v0,v1,v3,a0,a1,a2,a3,n0,n1,n3⟩:=h2 j p hj;exact⟨v0,v1,v3,a0,a1,a2,a3,hk n0,hk n1,hk n3⟩
theorem Tl{w2 W w3:World}{N:Nat}{v v' v0 v1 v3:Value}{acc:dp}{p:PM}{xs:List Value}(h1:w2.ownsRow N 42 4 v acc.length xs)
  (h2:∀j p,acc[j]? =some p->∃v0 v1 v3,xs[j*4]? =some v0/\xs[j*4+1]? =some v1/\xs[j*4+2]? =some (.int .i64 p.w)/\xs[j*4+3]? =some v3/\b9 w2 N v0 p.u/\b9 w2 N v1 p.l/\b9 w2 N v3 p.q)
  (hW:Below w2.heap.size w2 W) (hg:W.grownBy w3 v.ownBlock) (ho:w3.ownsRow N 42 4 v' (acc.length+1) (xs++[v0,v1,.int .i64 p.w,v3])) (n0:b9 w2 N v0 p.u) (n1:b9 w2 N v1 p.l) (n3:b9 w2 N v3 p.q):FU w3 N v' (acc++[p]):=by
 have hk:∀{v l},b9 w2 N v l->b9 w3 N v l:=λh=>wV h λb cur _ hb=>by
  have hlt:=(aG.1 hb).1;rw[hg.block b (cK hlt hW.size) (λe=>?_),hW.block b hlt];rcases h1.2 with ⟨e1,-⟩|⟨g,c,akE,e1,-,e2,-⟩;rw[e1]at e;cases e
  rw[e1]at e;cases e;rw[hb]at e2;cases e2
 refine⟨_,by rw[cL];exact ho,λj q hj=>?_⟩;by_cases hlt:j<acc.length;rw[eD hlt]at hj;obtain⟨u0,u1,u3,a0,a1,a2,a3,b0,b1,b3⟩:=h2 j q hj;exact⟨u0,u1,u3,zF a0,zF a1,zF a2,zF a3,hk b0,hk b1,hk b3⟩;have CM:j=acc.length:=by have:=(aI.1 hj).1;simp at this;omega
 subst CM;simp at hj;subst hj;have hx:=h1.1;refine⟨v0,v1,v3,?_,?_,?_,?_,hk n0,hk n1,hk n3⟩;rw[fT ab,hx];simp
 rw[fT ab,hx];simp
 rw[fT ab,hx];simp
 rw[fT ab,hx];simp
theorem Tryz.X8 (s:ByteArray) (m:Int) (w:World) (hl:s.size≤100000) (hm:w.cell? ⟨1,0,none⟩=some (.int .i64 m)) :
  Calls Tryz.prog 52 #[.string s] w (Zh w (lI (s.size+1) s 1 [])):=by
 have hmb:=Tryz.gZ hm
 obtain⟨ii,hii,HU,Pp,hz2⟩:=info_parts Tryz.afo
 go_enter Tryz.func52,Tryz.ntmps52
 go_wp2
 go_loopw [0,4,5] (fun t v n wr=>∃ (t':ByteArray) (acc:List PM) (k:Int),t = .string t'∧n = .int .i64 k∧1≤k∧k+t'.size≤s.size+1∧acc.length=k-1∧lI (t'.size+1) t' k acc=lI (s.size+1) s 1 []∧FU wr w.heap.size v acc∧Below w.heap.size w wr) (fun t _ _ _=>match t with
  | .string t'=>t'.size
  | _=>0)
 case atStart=>exact⟨s,[],1,rfl,rfl,by omega,by omega,by simp,rfl,⟨[],World.ownsRow_nil _ _ _ _,fun j p h=>by simp at h⟩,Below.refl _ _⟩
 case round =>
  obtain⟨t,acc,k,rfl,rfl,tH,Ga,CL,JQ,dW,Bs⟩:=hrel
  have hmr:wr.cell? ⟨1,0,none⟩=some (.int .i64 m):=(Bs.cell (by exact hmb)).trans hm
  have hmr:=Lib.hid hmr
  have JQ:=Lib.hid JQ
  have dW:=Lib.hid dW
  have Bs:=Lib.hid Bs
  by_cases ht:t.size=0
  ·have e:t=⟨#[]⟩:=by
    cases t with
    | mk d =>
     have:d.size=0:=ht
     rw[Array.size_eq_zero_iff] at this
     rw[this]
   subst e
   go_wp2
   go_ret2
   refine⟨Bs.out,?_⟩
   rw[← JQ.out]
   exact⟨_,rfl,dW.out⟩
  ·have hne:t≠⟨#[]⟩:=fun e=>ht (by rw[e]; rfl)
   have pU:=Jn t.data.toList
   have hC:=Tryz.strings_Cut t ⟨#[10]⟩ m wr (by omega) hmr.out
   have hst:lI (t.size+1) t k acc=match mm (kT ⟨(Lib.cut t.data.toList [10]).1.toArray⟩),(Lib.cut t.data.toList [10]).2.2 with
    | some p,true=>lI t.size ⟨(Lib.cut t.data.toList [10]).2.1.toArray⟩ (k+1) (acc++[p])
    | _,_ => .inr k:=by
    rw[lI,if_neg ht]
   have hz:t.data.toList.length=t.size:=eZ
   rw[hz] at pU
   change Calls _ _ _ _ fun e w'=>e = .returned (.tuple #[.string ⟨(Lib.cut t.data.toList [10]).1.toArray⟩,.string ⟨(Lib.cut t.data.toList [10]).2.1.toArray⟩,.bool (Lib.cut t.data.toList [10]).2.2])∧∃ n,w'=wr.drewN n at hC
   obtain⟨cu,hcu⟩:∃ cu,Lib.cut t.data.toList [10]=cu:=⟨_,rfl⟩
   rw[hcu] at hC hst pU
   obtain⟨cl,cr,ok⟩:=cu
   simp only at hC hst pU
   have hL:=fun n=>Tryz.YK ⟨cl.toArray⟩ m (wr.drewN n) (by rw[size_mk]; have:=pU.1; omega) hmr.out
   generalize mm (kT ⟨cl.toArray⟩)=r at hst hL
   clear hcu hz
   have hst:=Lib.hid hst
   have pU:=Lib.hid pU
   go_wp2_with (go_at_call 87; refine hC.mono ?_)
   rintro e w1 ⟨rfl,n,rfl⟩
   go_wp2_with (go_at_call 88; refine(hL n).mono ?_)
   rintro e w2 ⟨uZ,hr⟩
   have FG:Below wr.heap.size wr w2:=⟨uZ.os,uZ.tape,uZ.output,uZ.size,uZ.block⟩
   have fB:Below w.heap.size w w2:=Bs.out.trans (FG.mono Bs.out.size)
   have uZ:=Lib.hid uZ
   rcases r with _ | p
   ·subst hr
    go_wp2
    go_ret2
    refine⟨fB.alloc (by have:=Bs.out.size; have:=FG.size; omega) _,?_⟩
    ·rw[← JQ.out,hst.out]
     cases ok<;>rfl
   ·obtain⟨v0,v1,v3,rfl,n0,n1,n3⟩:=hr
    obtain⟨xs,o1,o2⟩:=A7 dW.out FG
    obtain⟨A0,c0,rfl,q0,i0,m0⟩:=n0
    obtain⟨A1,c1,rfl,q1,i1,m1⟩:=n1
    obtain⟨A3,c3,rfl,q3,i3,m3⟩:=n3
    have n0:Hid (b9 w2 w.heap.size (.slice A0 p.u.length c0) p.u):=Lib.hid (oK ⟨A0,c0,rfl,q0,i0,m0⟩ Bs.out.size)
    have n1:Hid (b9 w2 w.heap.size (.slice A1 p.l.length c1) p.l):=Lib.hid (oK ⟨A1,c1,rfl,q1,i1,m1⟩ Bs.out.size)
    have n3:Hid (b9 w2 w.heap.size (.slice A3 p.q.length c3) p.q):=Lib.hid (oK ⟨A3,c3,rfl,q3,i3,m3⟩ Bs.out.size)
    have o2:=Lib.hid o2
    clear i0 m0 i1 m1 i3 m3 q0 q1 q3
    cases ok
    ·go_wp2
     go_ret2
     refine⟨fB.alloc (by have:=Bs.out.size; have:=FG.size; omega) _,?_⟩
     ·rw[← JQ.out,hst.out]
      rfl
    ·go_wp2_with (first
      | (at_builtin; refine wpList_append_own _ rfl _ _ 22 rfl w.heap.size 42 ii (.agg Kj) 4 80 Tryz.u22 hii HU Pp hz2 rfl (by decide) _ _ _ rfl ((o1.alloc _).alloc _) ⟨w2.heap.size+1,0,none⟩ 1 1 [.slice A0 p.u.length c0,.slice A1 p.l.length c1,.int .i64 p.w,.slice A3 p.q.length c3] rfl rfl ?c1 ?c2 ?c3 ?c4 ?c5 ?_)
      | go_in)
     case c1 =>
      intro j u hj
      rw[show (⟨w2.heap.size+1,0,none⟩:Addr).add j=⟨w2.heap.size+1,j,none⟩ by unfold Addr.add; split<;>simp_all]
      rw[show w2.heap.size+1=(w2.alloc (.cells #[.slice A0 p.u.length c0,.slice A1 p.l.length c1,.int .i64 p.w,.slice A3 p.q.length c3] 42)).heap.size by simp,Lib.cell_of_heap (heap_alloc_new _ _)]
      simpa using hj
     case c2 =>
      intro u hu
      simp at hu
      rcases hu with rfl | rfl | rfl | rfl<;>rfl
     case c3=>unfold maxLen; omega
     case c4=>omega
     case c5=>have:=Bs.out.size; have:=FG.size; simp; omega
     intro v' w3 ho hg _
     have hW:Below w2.heap.size w2 ((w2.alloc (.cells #[.slice A0 p.u.length c0,.slice A1 p.l.length c1,.int .i64 p.w,.slice A3 p.q.length c3] 42)).alloc (.cells #[.slice A0 p.u.length c0,.slice A1 p.l.length c1,.int .i64 p.w,.slice A3 p.q.length c3] 42)):=((Below.refl _ _).alloc (ai _) _).alloc (by simp) _
     have hP:=Tl o1 o2.out hW hg ho n0.out n1.out n3.out
     have hlt:=o1.lt
     have hsz:=Bs.out.size
     have adR:=FG.size
     have hB:Below w.heap.size w w3:=(fB.trans (hW.mono (by omega))).grown hg (by simp; omega) fun j hj=>(hlt j hj).1
     have hP:=Lib.hid hP
     have hB:=Lib.hid hB
     clear hg ho hW
     have Ae:=pU.out.2 trivial
     go_wp2
     refine⟨⟨⟨cr.toArray⟩,acc++[p],k+1,rfl,?_,by omega,?_,by simp; omega,?_,hP.out,hB.out⟩,?_⟩
     ·go_num
     ·rw[size_mk]; omega
     ·rw[← JQ.out,hst.out]
      exact EZ _ _ _ _ _ (by omega) (by rw[size_mk]; omega)
     ·show (ByteArray.size ⟨cr.toArray⟩)<t.size
      rw[size_mk]; omega
   ·have h:=‹(!t.toList.isEmpty)=false›
    rw[ByteArray.toList_eq] at h
    exact absurd (by simpa using h:t.data.toList=[]) fun e=>ht (by rw[← show t.data.toList.length=t.size from eZ,e]; rfl)
end Go.Proofs
namespace Go.Di
open Go Go.Conc Go.Co Go.Proofs Go.RowKit
variable {aa:Machine->Trace->Prop} {x:Cx} {w':World}
def Cx.laid (x:Cx)(w':World):Cx:={x with w:=w',Fz:=λb o=>x.Fz b o\/(x.w.heap.size<=b/\∃u,w'.cell? ⟨b,o,none⟩=some u)}
theorem G8(hR:Rel x)(hs:x.w.heap.size<=w'.heap.size)(he:w'.os=x.w.os/\w'.output=x.w.output)(ho:∀b,b<x.w.heap.size->w'.heap[b]? =x.w.heap[b]?):bE x (x.laid w') where
 size:=hs
 env:=he
 fz:=λb o h=>⟨.inl h,by obtain⟨u,hu⟩:=hR.xg b o h;exact cell_of_block (ho b (World.block_lt_of_cell? _ ⟨b,o,none⟩ hu)) o⟩
 HS:=λb o h=>h.imp id λh=>.inl h.1
 old:=λb hb _=>ho b hb
 len:=ai _
 cells:=λid l h=>⟨rfl,l,h⟩
 dA:=λid b h hb=>⟨rfl,⟨b,h,dL hb⟩,λhd=>by obtain⟨o,h1,-⟩:=hR.dA id b h hb;exact ho _ (aG.1 h1).1⟩
 cU:=λt e s n h=>⟨n,h,ai _,λ_=>⟨rfl,rfl⟩⟩
 live:=λi h=>.inl ⟨h,rfl⟩
 ops:=λ_ _ _ l z h=>⟨l,z,h,ai _,λe=>⟨rfl,e⟩,λ_=>⟨rfl,rfl⟩⟩
theorem X5(hR:Rel x)(hs:x.w.heap.size<=w'.heap.size)(he:w'.os=x.w.os/\w'.output=x.w.output)(ho:∀b,b<x.w.heap.size->w'.heap[b]? =x.w.heap[b]?):Rel (x.laid w'):=by have M:=G8 hR hs he ho;have hlt:∀{b:Nat}{o:Obj},x.w.heap[b]? =some o->b<x.w.heap.size:=λh=>(aG.1 h).1;refine⟨λid l hl=>?_,λid e' s' n' hl=>?_,λid b hl hb=>?_,hR.inj,λb o h=>?_,λid hl o h=>?_,λid e' s' n' hl o h=>?_,λid e' s' l z hl=>?_,hR.glob.keep M.fz⟩;obtain⟨arr,e',h1,h2,h3⟩:=hR.cells id l hl;exact⟨arr,e',(ho _ (hlt h1)).trans h1,h2,λj c hc=>(h3 j c hc).mono M⟩;obtain⟨arr,h1,h2⟩:=hR.cU id e' s' n' hl;exact⟨arr,(ho _ (hlt h1)).trans h1,h2⟩;obtain⟨o,h1,h2⟩:=hR.dA id b hl hb;exact⟨o,(ho _ (hlt h1)).trans h1,h2.mono M⟩;rcases h with h|h;obtain⟨u,hu⟩:=hR.xg b o h;exact⟨u,((M.fz b o h).2).trans hu⟩;exact h.2;rcases h with h|h;exact hR.sep id hl o h;obtain⟨l,hl⟩:=hl;obtain⟨arr,e',h1,-⟩:=hR.cells id l hl;have:=h.1;have:=hlt h1;show False;change x.w.heap.size<=x.μ id at*;omega;rcases h with h|h;exact hR.nB id e' s' n' hl o h;obtain⟨arr,h1,-⟩:=hR.cU id e' s' n' hl;have h3:=h.1;have h4:=hlt h1;change x.w.heap.size<=x.μ id at h3;omega;obtain⟨arr,h1,h2,h3,h4,h5,h6,h7⟩:=hR.ops id e' s' l z hl;refine⟨arr,(ho _ (hlt h1)).trans h1,h2,h3,h4,λj c hc=>⟨(h5 j c hc).1,(h5 j c hc).2.mono M⟩,λhz j hj=>.inl (h6 hz j hj),λhz o h=>?_⟩;rcases h with h|h;exact h7 hz o h;have h3:=h.1;have h4:=hlt h1;change x.w.heap.size<=x.μ id at h3;omega
def mq(l:cj):DV:=.sl (l.map λn=>.val (.int .i64 n)) none ⟨false,none⟩
def Rt(p:PM):DV:=.agg [mq p.u,mq p.l,.val (.int .i64 p.w),mq p.q]
theorem Hx:∀l:cj,flat (l.map λn=>DV.val (.int .i64 n))=l.map λn=>DV.val (.int .i64 n)
 |[]=>rfl
 |n::l=>by have:=Hx l;simp only[flat,aZ,dm]at this⊢;rw[this];rfl
theorem I1{v:Value}{l:cj}(h:b9 w' x.w.heap.size v l):RV (x.laid w') (mq l) v:=by
 obtain⟨A,c,rfl,⟨h0,h1⟩,h2,h3⟩:=h;have hl:(l.map λn=>DV.val (.int .i64 n)).length=l.length:=ae
 have aR:∀(j:Nat)(d:DV),(flat (l.map λn=>DV.val (.int .i64 n)))[j]? =some d->j<l.length/\d=.val (.int .i64 (l.getD j 0)):=by intro j d hj;rw[Hx,cH,af]at hj;obtain⟨n,hn,rfl⟩:=hj;exact⟨(aI.1 hn).1,by rw[aK,hn];rfl⟩
 unfold mq;rw[<-hl];refine .sl (s:=1) (vs:=λj=>.int .i64 (l.getD j 0)) ⟨λr hr=>?_,λj d hj=>?_⟩ (λj d hj=>?_) (by rw[hl];exact h0) ⟨λh=>(nomatch h),λb h=>(nomatch h)⟩ h1 (λad ha _=>(h3 ad ha).2.1) (λt h=>(nomatch h));obtain⟨n,-,rfl⟩:=fQ.1 hr;rfl;obtain⟨q1,rfl⟩:=aR j d hj;obtain⟨b,o,rfl,q2⟩:=h2 (λe=>by subst e;simp at q1);exact⟨rfl,b,o,rfl,.inr ⟨(h3 _ rfl).1,_,q2 j q1⟩,q2 j q1⟩;obtain⟨q1,rfl⟩:=aR j d hj;exact .val rfl
theorem Q7:∀(ps:dp)(j:Nat)(d:DV),(flat (ps.map Rt))[j]? =some d->∃k i p,j=k*4+i/\i<4/\ps[k]? =some p/\[mq p.u,mq p.l,.val (.int .i64 p.w),mq p.q][i]? =some d
 |[],j,d,h=>by simp[flat]at h
 |p::ps,j,d,h=>by
  have e:flat ((p::ps).map Rt)=[mq p.u,mq p.l,.val (.int .i64 p.w),mq p.q]++flat (ps.map Rt):=by simp[flat,Rt,DV.cells]
  rw[e]at h;by_cases hj:j<4;exact⟨0,j,p,ab,hj,rfl,by rwa [eD (by simpa using hj)]at h⟩;rw[fT (by simp;omega)]at h;obtain⟨k,i,q,h1,h2,h3,h4⟩:=Q7 ps (j-4) d (by simpa using h);exact⟨k+1,i,q,ab,h2,by simpa using h3,h4⟩
theorem SE{v:Value}{ps:dp}(h:FU w' x.w.heap.size v ps):RV (x.laid w') (.sl (ps.map Rt) none ⟨false,none⟩) v:=by
 obtain⟨xs,ho,hx⟩:=h;have hl:(ps.map Rt).length=ps.length:=ae
 rw[<-hl]at ho;have dB:∀(j:Nat)(d:DV),(flat (ps.map Rt))[j]? =some d->d.bU=true/\∃u,xs[j]? =some u/\RV (x.laid w') d u:=by
  intro j d hj;obtain⟨k,i,p,rfl,hi,hp,hd⟩:=Q7 ps j d hj;obtain⟨v0,v1,v3,a0,a1,a2,a3,n0,n1,n3⟩:=hx k p hp
  match i,hi,hd with
  |0,_,hd=>cases hd;exact⟨rfl,v0,a0,I1 n0⟩
  |1,_,hd=>cases hd;exact⟨rfl,v1,a1,I1 n1⟩
  |2,_,hd=>cases hd;exact⟨rfl,_,a2,.val rfl⟩
  |3,_,hd=>cases hd;exact⟨rfl,v3,a3,I1 n3⟩
 have mw:∀r∈ps.map Rt,r.cells.length=4:=λr hr=>by obtain⟨p,-,rfl⟩:=fQ.1 hr;rfl
 generalize ps.map Rt=rows at ho dB mw hl;clear hl hx;rcases ho.2 with ⟨rfl,h0⟩|⟨g,cap,cur,rfl,hb,hg,hn,hc,nR,ht⟩;have hrn:rows=[]:=eE h0;subst hrn;exact RV.sl (rows:=[]) (A:=none) (cap:=0) (s:=0) (vs:=λ_=>undef) ⟨ae,by simp[flat]⟩ (by simp[flat]) (ai _) ⟨λh=>(nomatch h),λb h=>nomatch h⟩ (λ_=>rfl) (λ_ h _=>ar) (λt ht=>by cases ht);have aR:∀j u,xs[j]? =some u->w'.cell? ⟨g,0+j,none⟩=some u:=by intro j u hu;rw[<-ht,qB]at hu;split at hu;rw[Lib.cell_of_heap hg,eO];simpa using hu;cases hu
 refine RV.sl (s:=4) (vs:=λj=>xs.getD j undef) ⟨mw,λj d hj=>?_⟩ (λj d hj=>?_) hn ⟨λh=>(nomatch h),λb h=>nomatch h⟩ ae (λad h _=>by cases h;rfl) (λt ht=>nomatch ht);obtain⟨q1,u,q2,q3⟩:=dB j d hj;have e:xs.getD j undef=u:=by rw[aK,q2];rfl
 exact⟨q1,g,0,rfl,.inr ⟨hb,u,aR j u q2⟩,by show w'.cell? _=some (xs.getD j undef);rw[e];exact aR j u q2⟩;obtain⟨q1,u,q2,q3⟩:=dB j d hj;have e:xs.getD j undef=u:=by rw[aK,q2];rfl
 simp only[e];exact q3
def agV:dp⊕Int->DV
 |.inl ps=>.tup [.sl (ps.map Rt) none ⟨false,none⟩,.val .nilIface]
 |.inr n=>.tup [.sl [] none ⟨false,some true⟩,.val (.iface 102 (.agg #[.int .i64 n]))]
def aj1:DV->Option DV
 |.val (.string s)=>if s.size<=100000 then some (agV (lI (s.size+1) s 1 []))else none
 |_=>none
theorem QB{a:DV}{vals:Array Value}(ha:gb x [a] vals):∃u,vals=#[u]/\RV x a u:=by
 obtain⟨hsz,aR⟩:=ha;obtain⟨l⟩:=vals
 match l,hsz with
 |[u],_=>exact⟨u,rfl,aR 0 _ rfl⟩
end Go.Di
namespace Go.Proofs
open Go.RowKit
def FB(m n:Int):Bool:=decide (0<=n)&&decide (n<=m)
theorem YS{l:cj}{m:Int}{k:Nat}(h:k<l.length)(h1:(l.take k).all (FB m)=true)(h2:FB m (l.getD k 0)=true):(l.take (k+1)).all (FB m)=true:=by rw[List.take_add_one,lU,h1,aT h];simpa [aK,aT h]using h2
theorem abZ{l:cj}{m:Int}{k:Nat}(h:k<l.length)(h2:FB m (l.getD k 0)=false):l.all (FB m)=false:=by rw[aK,aT h]at h2;exact List.all_eq_false.2 ⟨l[k],iS h,by simpa using h2⟩
theorem eR{w w':World}{A:Option Addr}{l:cj}(h:fe w A l)(hb:Below w.heap.size w w'):fe w' A l:=vP h hb
theorem Tryz.TY (A:Option Addr)(cap:Nat)(l:cj)(m:Int)(B:Nat)(w:World)(hl:l.length<=1000000)(hm:w.cell? ⟨B,0,none⟩=some (.int .i64 m))(hR:fe w A l):
  Calls Tryz.prog 139 #[.slice A l.length cap,.func (.func 112) #[] #[.pointer (some ⟨B,0,none⟩)]] w λe w'=>∃r,e=.returned (.int .i64 r)/\decide (0<=r)=!(l.all (FB m))/\Below w.heap.size w w':=by
 have j3:=Lib.hid hR;have hB:=Tryz.gZ hm;clear hR
 go_enter Tryz.func139,Tryz.ntmps139
 go_wp2
 go_loopw [8] (λi wr=>∃k:Nat,k<=l.length/\i=.int .i64 (k:Int)/\(l.take k).all (FB m)=true/\Below w.heap.size w wr) (λi _=>l.length-(intOf i).toNat)
 case atStart=>exact⟨0,gm _,rfl,rfl,Below.refl _ _⟩
 case round=>
  obtain⟨k,hk,rfl,dX,fB⟩:=hrel;have hmr:wr.cell? ⟨B,0,none⟩=some (.int .i64 m):=(fB.cell hB).trans hm;have dX:=Lib.hid dX;have fB:=Lib.hid fB;by_cases ya:k<l.length;obtain⟨b,off,rfl,hc⟩:=j3.out (λe=>by subst e;simp at ya);have dB:wr.cell? ⟨b,off+k,none⟩=some (.int .i64 (l.getD k 0)):=(fB.out.cell (p:=⟨b,off+k,none⟩) (Tryz.gZ (hc k ya))).trans (hc k ya);have pX:=Lib.hid (λh=>abZ (l:=l) (m:=m) ya h);have tW:=Lib.hid (λh=>YS (l:=l) (m:=m) ya dX.out h);generalize l.getD k 0=n at dB pX tW;clear hc
  go_wp2
  rw[pX.out (by simp only[FB,Bool.and_eq_false_iff,decide_eq_false_iff_not];omega)]
  go_ret
  exact⟨_,rfl,ae,fB.out⟩;exact⟨⟨k+1,ab,by go_num,tW.out (by simp only[FB,aC,bR];omega),fB.out⟩,by simp[intOf];omega⟩;rw[pX.out (by simp only[FB,Bool.and_eq_false_iff,decide_eq_false_iff_not];omega)]
  go_ret
  exact⟨_,rfl,ae,fB.out⟩;have Bt:k=l.length:=ab
  subst Bt
  go_wp2
  have h1:=dX.out;rw[gN]at h1;rw[h1]
  go_ret
  exact⟨_,rfl,ao,fB.out⟩
theorem Tryz.JL (A:Option Addr)(cap:Nat)(l:cj)(m:Int)(B:Nat)(w:World)(hl:l.length<=1000000)(hm:w.cell? ⟨B,0,none⟩=some (.int .i64 m))(hR:fe w A l):
  Calls Tryz.prog 111 #[.slice A l.length cap,.func (.func 112) #[] #[.pointer (some ⟨B,0,none⟩)]] w λe w'=>e=.returned (.bool (!(l.all (FB m))))/\Below w.heap.size w w':=by
 have hI:=Tryz.TY A cap l m B w hl hm hR;clear hm hR
 go_enter Tryz.func111,Tryz.ntmps111
 go_wp2_with (go_at_call 139;refine hI.mono ?_)
 rintro e w1 ⟨r,rfl,hr,hb⟩;have hr:=Lib.hid hr;have hb:=Lib.hid hb
 go_wp2
 go_ret
 refine⟨?_,hb.out⟩;rw[<-hr.out];rfl
theorem Tryz.EI (A:Option Addr)(cap:Nat)(l:cj)(m:Int)(w:World)(hl:l.length<=1000000)(hR:fe w A l):
  Calls Tryz.prog 77 #[.slice A l.length cap,.int .i64 m] w λe w'=>e=.returned (.bool (l.all (FB m)))/\Below w.heap.size w w':=by
 have Dl:Below w.heap.size w (w.alloc (.cells #[.int .i64 m] 3)):=(Below.refl _ _).alloc (ai _) _;have hI:=Tryz.JL A cap l m w.heap.size (w.alloc (.cells #[.int .i64 m] 3)) hl (by rw[Lib.cell_of_heap (heap_alloc_new w _)];rfl) (eR hR Dl);clear hR;have Dl:=Lib.hid Dl
 go_enter Tryz.func77,Tryz.ntmps77
 go_wp2_with (go_at_call 111;refine hI.mono ?_)
 rintro e w1 ⟨rfl,hb⟩;have hb:=Lib.hid hb
 go_wp2
 go_ret
 exact⟨ae,Dl.out.trans (hb.out.mono Dl.out.size)⟩
end Go.Proofs
namespace Go.Proofs
open Go.RowKit
def qg:Option Int->cj->Int
 |_,[]=>0
 |p,n::r=>if n<0\/3<n then 8 else if(match p with|some m=>decide (n<=m)|none=>false)then 5 else qg (some n) r
def gF(p:PM):Int:=
 if p.u.length<3 then 7 else if 8<p.u.length then 6 else if p.l.length<3\/p.l.length<p.u.length then 7 else if 8<p.l.length\/p.u.length<p.l.length then 6 else
 if p.u.all (FB 9)=false\/p.l.all (FB 9)=false\/p.w<0\/2<p.w then 1 else if p.q.length=0 then 7 else qg none p.q
theorem Fe(p:Option Int)(n:Int)(r:cj):qg p (n::r)=if n<0\/3<n then 8 else if(match p with|some m=>decide (n<=m)|none=>false)then 5 else qg (some n) r:=by cases p<;>rfl
def ko(q:cj)(k:Nat):Option Int:=if k=0 then none else some (q.getD (k-1) 0)
theorem Hj{q:cj}{k:Nat}(h:k<q.length):qg (ko q k) (q.drop k)=if q.getD k 0<0\/3<q.getD k 0 then 8 else if(match ko q k with|some m=>decide (q.getD k 0<=m)|none=>false)then 5 else qg (ko q (k+1)) (q.drop (k+1)):=by
 rw[jM h,Fe];have e:q[k]=q.getD k 0:=by rw[aK,aT h];rfl
 rw[e];simp only[ko,Nat.add_one_ne_zero,if_false,Nat.add_sub_cancel];rfl
theorem OC{p:PM}(h:p.u.length<3):gF p=7:=by simp[gF,h]
theorem Mt{p:PM}(h:8<p.u.length):gF p=6:=by simp[gF,h];omega
theorem Mu{p:PM}(h:¬p.u.length<3)(h':¬8<p.u.length)(h2:p.l.length<3\/p.l.length<p.u.length):gF p=7:=by simp only[gF,if_neg h,if_neg h',if_pos h2]
theorem JC{p:PM}(h:¬p.u.length<3)(h':¬8<p.u.length)(h2:¬(p.l.length<3\/p.l.length<p.u.length))(h3:8<p.l.length\/p.u.length<p.l.length):gF p=6:=by simp only[gF,if_neg h,if_neg h',if_neg h2,if_pos h3]
theorem Ms{p:PM}(h:¬p.u.length<3)(h':¬8<p.u.length)(h2:¬(p.l.length<3\/p.l.length<p.u.length))(h3:¬(8<p.l.length\/p.u.length<p.l.length)):
 gF p=if p.u.all (FB 9)=false\/p.l.all (FB 9)=false\/p.w<0\/2<p.w then 1 else if p.q.length=0 then 7 else qg none p.q:=by simp only[gF,if_neg h,if_neg h',if_neg h2,if_neg h3]
theorem Tryz.Ta (p:PM) (A0 A1 A3:Option Addr) (c0 c1 c3:Nat) (w:World) (ZV:p.u.length≤1000000) (Dj:p.l.length≤1000000) (hl3:p.q.length≤1000000) (h0:fe w A0 p.u) (h1:fe w A1 p.l) (h3:fe w A3 p.q) :
  Calls Tryz.prog 57 #[.agg #[.slice A0 p.u.length c0,.slice A1 p.l.length c1,.int .i64 p.w,.slice A3 p.q.length c3]] w fun e w'=>e = .returned (.int .i64 (gF p))∧Below w.heap.size w w':=by
 have h0:=Lib.hid h0
 have h1:=Lib.hid h1
 have h3:=Lib.hid h3
 obtain⟨r,hr⟩:∃ r,gF p=r:=⟨_,rfl⟩
 rw[hr]
 have hr:=Lib.hid hr
 have fB:=Lib.hid (((Below.refl w.heap.size w).alloc (ai _) (.cells #[.slice A0 p.u.length c0,.slice A1 p.l.length c1,.int .i64 p.w,.slice A3 p.q.length c3] 42)).alloc (by simp) (.cells #[.slice A0 p.u.length c0,.slice A1 p.l.length c1] 23))
 go_enter Tryz.func57,Tryz.ntmps57
 go_wp2
 refine wp_loop_rounds 3 ?_
 rw[rounds_succ]
 go_wp2
 ·rw[rounds_succ]
  go_wp2
  all_goals try (
   go_ret
   refine⟨?_,fB.out⟩
   first
    | (show Ending.returned (.int .i64 7)=_; rw[← hr.out,Mu (by omega) (by omega) (by omega)])
    | (show Ending.returned (.int .i64 6)=_; rw[← hr.out,JC (by omega) (by omega) (by omega) (by omega)]))
  have mz:=Ms (p:=p) (by omega) (by omega) (by omega) (by omega)
  have mz:=Lib.hid (hr.out.symm.trans mz)
  rw[rounds_succ]
  go_wp2_with fail
  have Zs:=fB.out
  have ad6:((w.alloc (.cells #[.slice A0 p.u.length c0,.slice A1 p.l.length c1,.int .i64 p.w,.slice A3 p.q.length c3] 42)).alloc (.cells #[.slice A0 p.u.length c0,.slice A1 p.l.length c1] 23)).heap[w.heap.size]? = some (.cells #[.slice A0 p.u.length c0,.slice A1 p.l.length c1,.int .i64 p.w,.slice A3 p.q.length c3] 42 (0,0)):=by
   rw[Below.heap_alloc _ _ _ (by simp)]
   exact heap_alloc_new w _
  have hsz:w.heap.size<((w.alloc (.cells #[.slice A0 p.u.length c0,.slice A1 p.l.length c1,.int .i64 p.w,.slice A3 p.q.length c3] 42)).alloc (.cells #[.slice A0 p.u.length c0,.slice A1 p.l.length c1] 23)).heap.size:=by simp; omega
  generalize ((w.alloc (.cells #[.slice A0 p.u.length c0,.slice A1 p.l.length c1,.int .i64 p.w,.slice A3 p.q.length c3] 42)).alloc (.cells #[.slice A0 p.u.length c0,.slice A1 p.l.length c1] 23))=W at Zs ad6 hsz ⊢
  refine(Tryz.EI A0 c0 p.u 9 W ZV (eR h0.out Zs)).mono ?_
  rintro e w1 ⟨rfl,yb⟩
  have uZ:Below w.heap.size w w1:=Zs.trans (yb.mono (Nat.le_of_lt hsz))
  have DC:w1.heap[w.heap.size]? = some (.cells #[.slice A0 p.u.length c0,.slice A1 p.l.length c1,.int .i64 p.w,.slice A3 p.q.length c3] 42 (0,0)):=(yb.block _ hsz).trans ad6
  have aga:w.heap.size<w1.heap.size:=cK hsz yb.size
  have k1:w1.cell? ⟨w.heap.size,1,none⟩=some (.slice A1 p.l.length c1):=by rw[Lib.cell_of_heap DC]; rfl
  have k2:w1.cell? ⟨w.heap.size,2,none⟩=some (.int .i64 p.w):=by rw[Lib.cell_of_heap DC]; rfl
  have k3:w1.cell? ⟨w.heap.size,3,none⟩=some (.slice A3 p.q.length c3):=by rw[Lib.cell_of_heap DC]; rfl
  have uZ:=Lib.hid uZ
  have DC:=Lib.hid DC
  clear yb Zs ad6 hsz
  generalize p.u.all (FB 9)=a at mz ⊢
  cases a
  ·go_wp2
   go_ret
   refine⟨?_,uZ.out⟩
   rw[mz.out]
   rfl
  ·go_wp2_with (go_at_call 77; refine(Tryz.EI A1 c1 p.l 9 w1 Dj (eR h1.out uZ.out)).mono ?_)
   rintro e w2 ⟨rfl,FG⟩
   have V5:w2.heap[w.heap.size]? = some (.cells #[.slice A0 p.u.length c0,.slice A1 p.l.length c1,.int .i64 p.w,.slice A3 p.q.length c3] 42 (0,0)):=(FG.block _ aga).trans DC.out
   have Pv:Below w.heap.size w w2:=uZ.out.trans (FG.mono (Nat.le_of_lt aga))
   have k4:w2.cell? ⟨w.heap.size,2,none⟩=some (.int .i64 p.w):=by rw[Lib.cell_of_heap V5]; rfl
   have k5:w2.cell? ⟨w.heap.size,3,none⟩=some (.slice A3 p.q.length c3):=by rw[Lib.cell_of_heap V5]; rfl
   have Pv:=Lib.hid Pv
   have h3:Hid (fe w2 A3 p.q):=Lib.hid (eR h3.out Pv.out)
   clear FG V5 k1 k2 k3 DC uZ
   generalize p.l.all (FB 9)=b at mz ⊢
   cases b
   ·go_wp2
    go_ret
    refine⟨?_,Pv.out⟩
    rw[mz.out]
    rfl
   ·go_wp2
    all_goals try (
     go_ret
     refine⟨?_,Pv.out⟩
     first
      | (show Ending.returned (.int .i64 1)=_; rw[mz.out,if_pos (by simp; omega)])
      | (show Ending.returned (.int .i64 7)=_; rw[mz.out,if_neg (by simp; omega),if_pos (by have h:=eq_of_beq ‹((p.q.length:Int)==0)=true›; omega)]))
    have pW:=mz.out
    rw[if_neg (by simp; omega),if_neg (by have h:=beq_eq_false_iff_ne.1 ‹((p.q.length:Int)==0)=false›; omega)] at pW
    have pW:=Lib.hid pW
    clear mz k4
    have hz:((p.q.length:Int)==0)=false:=by assumption
    simp only[hz]
    clear hz
    go_loopw [71] (fun i wr=>∃ k:Nat,k≤p.q.length∧i = .int .i64 (k:Int)∧qg (ko p.q k) (p.q.drop k)=qg none p.q∧Below w2.heap.size w2 wr) (fun i _=>p.q.length-(intOf i).toNat)
    case atStart=>exact⟨0,gm _,rfl,rfl,Below.refl _ _⟩
    case round =>
     obtain⟨k,hk,rfl,hst,Uv⟩:=hrel
     have k6:wr.cell? ⟨w.heap.size,3,none⟩=some (.slice A3 p.q.length c3):=(Uv.cell (Tryz.gZ k5)).trans k5
     have Uv:=Lib.hid Uv
     by_cases ya:k<p.q.length
     ·obtain⟨b,off,rfl,hc⟩:=h3.out (fun e=>by rw[e] at ya; simp at ya)
      have dB:wr.cell? ⟨b,off+k,none⟩=some (.int .i64 (p.q.getD k 0)):=(Uv.out.cell (p:=⟨b,off+k,none⟩) (Tryz.gZ (hc k ya))).trans (hc k ya)
      rw[Hj ya] at hst
      have hst:=Lib.hid hst
      by_cases h0:k=0
      ·subst h0
       simp only[Nat.add_zero] at dB
       generalize p.q.getD 0 0=n at dB hst
       clear hc
       go_wp2
       all_goals try (
        go_ret
        refine⟨?_,Pv.out.trans (Uv.out.mono Pv.out.size)⟩
        first
         | (show Ending.returned (.int .i64 8)=_; (first | rw[pW.out] | skip); rw[← hst.out,if_pos (by omega)])
         | (show Ending.returned (.int .i64 5)=_; (first | rw[pW.out] | skip); rw[← hst.out,if_neg (by omega),if_pos (by simp; omega)]))
       exact⟨⟨1,by omega,by go_num,by rw[← hst.out,if_neg (by omega)]; rfl,Uv.out⟩,by simp[intOf]; omega⟩
      ·have hcp:wr.cell? ⟨b,off+(k-1),none⟩=some (.int .i64 (p.q.getD (k-1) 0)):=(Uv.out.cell (p:=⟨b,off+(k-1),none⟩) (Tryz.gZ (hc (k-1) (by omega)))).trans (hc (k-1) (by omega))
       have hst:Hid ((if p.q.getD k 0<0∨3<p.q.getD k 0 then 8 else if decide (p.q.getD k 0≤p.q.getD (k-1) 0) then 5 else qg (ko p.q (k+1)) (p.q.drop (k+1)))=qg none p.q):=Lib.hid (by
        have:=hst.out
        rw[show ko p.q k=some (p.q.getD (k-1) 0) by simp[ko,h0]] at this
        exact this)
       generalize p.q.getD k 0=n at dB hst
       generalize p.q.getD (k-1) 0=n' at hcp hst
       clear hc
       go_wp2
       all_goals try (
        go_ret
        refine⟨?_,Pv.out.trans (Uv.out.mono Pv.out.size)⟩
        first
         | (show Ending.returned (.int .i64 8)=_; (first | rw[pW.out] | skip); rw[← hst.out,if_pos (by omega)])
         | (show Ending.returned (.int .i64 5)=_; (first | rw[pW.out] | skip); rw[← hst.out,if_neg (by omega),if_pos (by simp; omega)]))
       exact⟨⟨k+1,by omega,by go_num,by rw[← hst.out,if_neg (by omega),if_neg (by simp; omega)],Uv.out⟩,by simp[intOf]; omega⟩
     ·have Bt:k=p.q.length:=by omega
      subst Bt
      go_wp2
      go_ret
      refine⟨?_,Pv.out.trans (Uv.out.mono Pv.out.size)⟩
      show Ending.returned (.int .i64 0)=_
      (first | rw[pW.out] | skip)
      rw[← hst,List.drop_length]
      cases ko p.q p.q.length<;>rfl
 ·go_ret
  refine⟨?_,fB.out⟩
  show Ending.returned (.int .i64 6)=_
  rw[← hr.out,Mt (by omega)]
 ·go_ret
  refine⟨?_,fB.out⟩
  show Ending.returned (.int .i64 7)=_
  rw[← hr.out,OC (by omega)]
end Go.Proofs
