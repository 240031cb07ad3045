import Derived.Test.YtedcgbkilmlbhaaGreatPk10
import Derived.Test.YtedcgbkilmlbhaaGreatPk05
section
namespace Go.Tv
open Go Go.Di Go.Proofs
set_option maxRecDepth 100000
def wj:Code→Code
 | .seq a _=>a
 | _ => .skip
def nu:Code→Code
 | .seq _ b=>b
 | _ => .skip
def x9:List Code→Code→Code
 | [],r=>r
 | c::l,r => .seq c (x9 l r)
noncomputable def y0:Code:=zA Tryz.f52
noncomputable def y5:Code:=nu (nu (nu (nu (nu y0))))
noncomputable def abT:List Code:=[wj y0,wj (nu y0),wj (nu (nu y0)),wj (nu (nu (nu y0))),wj (nu (nu (nu (nu y0)))),wj (wj y5)]
noncomputable def Bq:Code:=nu (wj y5)
noncomputable def G9:Code:=wj (nu y5)
noncomputable def JM:Code:=nu (nu y5)
theorem acF:y0=x9 [wj y0,wj (nu y0),wj (nu (nu y0)),wj (nu (nu (nu y0))),wj (nu (nu (nu (nu y0))))] (.seq (.seq (wj (wj y5)) Bq) (.seq G9 JM)):=by kernel_rfl
def LT:gP:=U2.cI 89 fun a=>dS (D77 a)
abbrev afB (u l:TV) (w:Int) (q:TV):List TV:=[u,l,bk w,q]
def Zp (u l q:List Int) (w n:Int):List TV:=Nt 60 [Uh u l w q,bk n]
def zeroV:List TV:=[.gq,.gq,bk 0,.gq]
def PV (q:List Int) (n:Int):List TV:=((((((List.replicate 60 TV.unk).set 1 (bk n)).set 4 (.ptr 1 0)).set 8 (.ptr 12 0)).set 41 (.sl bO q .no)).set 42 (bk q.length)).set 43 (bk 0)
def Vd:List TV:=((List.replicate 60 TV.unk).set 4 (.ptr 1 0)).set 8 (.ptr 12 0)
def Pv (c:List TV):List TB:=((List.replicate 13 TB.none).set 1 (.cells zeroV)).set 12 (.cells c)
def Z4 (B:List Nat) (mW:List TV) (jR:List TB) (e:DX) (te:List TV) (tS:List TB):Prop :=
 match e with
 | .normal=>LS B mW jR { sl:=[] } te tS True
 | _=>False
theorem aba {u l q:List Int} {w:Int} (h:Ok u l w q):jG u l w q=0:=by
 exact Kh.2 h
theorem WV {u l q:List Int} {w:Int} (h:Ok u l w q) (n:Int):bR n u l≠[]∧(bR n u l).length≤1000:=by
 have h1:=h.n3
 have h2:=h.n8
 have h3:=h.len
 have:(bR n u l).length=u.length:=by unfold bR; (repeat' split)<;>simp[h3]
 exact⟨fun e=>by rw[e] at this; simp at this; omega,by omega⟩
theorem WW {u l q:List Int} {w:Int} (h:Ok u l w q) (n:Int):bS n u l≠[]∧(bS n u l).length≤1000:=by
 have h1:=h.n3
 have h2:=h.n8
 have h3:=h.len
 have:(bS n u l).length=u.length:=by unfold bS; (repeat' split)<;>simp[h3]
 exact⟨fun e=>by rw[e] at this; simp at this; omega,by omega⟩
theorem xA1 (u l q:List Int) (w n:Int) (h:Ok u l w q) (hn:0≤n∧n≤3):Hd (wv Tp Ty O2 LT (GV Tp Ty O2 LT 0) [] [] (x9 abT .skip) 0 0 (Zp u l q w n) [] (Z4 [] (PV q n) (Pv [.sl bO (bR n u l) .no,.sl bO (bS n u l) .no,bk w,.gq]))):=by
 refine qx (A:=Sh u l q∧aG (jG u l w q !=0) False (aG (decide (n<0)) False (aG (decide (n>3)) False (u.length≤1000∧l.length≤1000∧0≤n∧n≤3∧bR n u l≠[]∧(bR n u l).length≤1000∧bS n u l≠[]∧(bS n u l).length≤1000∧n=n∧q=q∧(↑q.length:Int)=(↑q.length:Int)∧(0:Int)=0∧(0:Int)=0∧bR n u l=bR n u l∧bS n u l=bS n u l∧w=w∧True)))) (by kernel_rfl) ?_
 have hc:=aba h
 have hs:=DO h
 have hU:=WV h n
 have hL:=WW h n
 simp only[bL,cC,and_true,true_and,eq_self]
 exact⟨hs,fun _=>⟨fun e=>absurd e (by omega),fun _=>⟨fun e=>absurd e (by omega),fun _=>⟨hs.1,hs.2.1,hn.1,hn.2,hU.1,hU.2,hL.1,hL.2⟩⟩⟩,fun e=>e hc⟩
theorem RR {n:Int} {q:List Int} {k:Nat} (h:k<q.length):jX n (q.take k)++[fH (q.getD k 0) n]=jX n (q.take (k+1)):=by
 rw[jX,jX,List.take_add_one,gm]
 simp[aN,h]
def Lm (a:Option Addr) (k c:Nat):TV := .val (.slice a k c)
def jY (q:List Int) (w n:Int) (a0 a1:Option Addr) (k0 c0 k1 c1:Nat):List (Nat×LA):=[(0,.ex Nat fun k => .st { sl:=[(43,bk k)],pl:=[(12,[Lm a0 k0 c0,Lm a1 k1 c1,bk w,.sl bO (jX n (q.take k)) (.oE 13)])],own:=[(3,1)],dm:=[k≤q.length],m:=q.length-k })]
theorem xA2 (q:List Int) (w n:Int) (a0 a1:Option Addr) (k0 c0 k1 c1:Nat) (hq:q.length≤1000):Hd (wv Tp Ty O2 LT (GV Tp Ty O2 LT 0) [1,12] (jY q w n a0 a1 k0 c0 k1 c1) Bq 0 272 (PV q n) (Pv [Lm a0 k0 c0,Lm a1 k1 c1,bk w,.gq]) (Z4 [1,12] Vd (Pv [Lm a0 k0 c0,Lm a1 k1 c1,bk w,.sl bO (jX n q) (.oE 13)]++[.own 3 1]))):=by
 refine qx (A:=(∃ (a:Nat),0=(↑a:Int)∧Value.slice a0 k0 c0=Value.slice a0 k0 c0∧Value.slice a1 k1 c1=Value.slice a1 k1 c1∧w=w∧[]=jX n (List.take a q)∧a≤q.length∧(q.length-a)<1000000)∧∀ (a:Nat),a≤q.length→aG (decide ((↑a:Int)<(↑q.length:Int))) ((0≤(↑a:Int)∧(↑a:Int)<(↑q.length:Int))∧(jX n (List.take a q)).length+1≤1000000000∧cE ((↑a:Int)+1)∧∃ (a_2:Nat),n=n∧q=q∧(↑q.length:Int)=(↑q.length:Int)∧(↑a:Int)+1=(↑a_2:Int)∧(0:Int)=0∧Value.slice a0 k0 c0=Value.slice a0 k0 c0∧Value.slice a1 k1 c1=Value.slice a1 k1 c1∧w=w∧jX n (List.take a q)++[IntKind.i64.wrap (↑(BitVec.ofInt 64 (q.getD a 0) ^^^ BitVec.ofInt 64 n).toNat:Int)]=jX n (List.take a_2 q)∧a_2≤q.length∧(q.length-a_2)<(q.length-a)) ((0:Int)=0∧Value.slice a0 k0 c0=Value.slice a0 k0 c0∧Value.slice a1 k1 c1=Value.slice a1 k1 c1∧w=w∧jX n (List.take a q)=jX n q∧True)) (by kernel_rfl) ?_
 simp only[bL,cE,and_true,true_and,eq_self]
 refine⟨⟨0,by omega,by simp[jX],by omega,by show q.length-0<1000000; omega⟩,fun k hk=>⟨fun h1=>⟨by omega,by simp[jX]; omega,by omega,k+1,by omega,RR (by omega),by omega,by show q.length-(k+1)<q.length-k; omega⟩,fun h1 => ?_⟩⟩
 rw[show k=q.length by omega,fo]
theorem xA3 (u l q:List Int) (w:Int):Hd (wv Tp Ty O2 LT (GV Tp Ty O2 LT 0) [] [] JM 0 0 Vd (Pv [.sl bO u .no,.sl bO l .no,bk w,.sl bO q .no]) (NA (Vx Ty (Tryz.f52.results.toList) [some aO,some bO] (.res (.gd [.agg [.sl bO u .no,.sl bO l .no,bk w,.sl bO q .no],bk 0]) [] [])))):=by
 refine qx (A:=u=u∧l=l∧w=w∧q=q∧(0:Int)=0∧True) (by kernel_rfl) ?_
 exact⟨rfl,rfl,rfl,rfl,rfl,trivial⟩
section
variable {bG:bV} (tk:uK bG) (tr:JO bG)
include tk tr
theorem lok:jT bG 5 LT:=kz tk (U9 tk) (by decide) Tryz.func89 rfl v77 (fJ (PU tk tr) 3)
end
end Go.Tv
end
section
namespace Go.Tv
open Go Go.Di Go.Proofs
set_option maxRecDepth 100000
structure afV (bG:bV):Prop where
 lay:∀ (u l q:List Int) (w n:Int) d1 d2,Ok u l w q→0≤n∧n≤3→RT dK [] (Uh u l w q) d1→RT dK [] (bk n) d2→∃ r,bG 52 [d1,d2]=some r∧r.pure=true∧RT dK [] (.gd [Uh (bR n u l) (bS n u l) w (fT n q 4),bk 0]) r
 no:∀ (u l q:List Int) (w n:Int) d1 d2,¬ (jG u l w q=0∧0≤n∧n≤3)→RT dK [] (Uh u l w q) d1→RT dK [] (bk n) d2→bG 52 [d1,d2]=none
def S52:List TV→Sp
 | [.agg [.sl (.int .i64) u .no,.sl (.int .i64) l .no,.val (.int .i64 w),.sl (.int .i64) q .no],.val (.int .i64 n)]=>some ([Ok u l w q,0≤n∧n≤3],.res (.gd [Uh (bR n u l) (bS n u l) w (fT n q 4),bk 0]) [] [])
 | _=>none
theorem Rr {u l q:List Int} {w n:Int} (h:Ok u l w q) (hn:0≤n∧n≤3):Ok (bR n u l) (bS n u l) w (fT n q 4):=by
 have h1:=h.n3
 have h2:=h.n8
 have h3:=h.len
 have hlen:(bR n u l).length=u.length∧(bS n u l).length=u.length:=by
  rcases four hn with rfl | rfl | rfl | rfl<;>simp[bR,bS,h3]
 have hm:(∀ x∈bR n u l,x∈u∨x∈l)∧∀ x∈bS n u l,x∈u∨x∈l:=by
  rcases four hn with rfl | rfl | rfl | rfl<;>simp[bR,bS]<;>exact⟨fun x h=>by simp[h],fun x h=>by simp[h]⟩
 refine⟨by omega,by omega,by omega,fun x hx=>(hm.1 x hx).elim (h.hu x) (h.hl x),fun x hx=>(hm.2 x hx).elim (h.hu x) (h.hl x),h.w0,h.w2,?_,fun x hx=>(Im.1 hx).1,OO _ _ _⟩
 obtain⟨y,hy⟩:=List.exists_mem_of_ne_nil _ h.ne
 have:=aau (h.O6 y hy) hn
 intro e
 have:fH y n∈fT n q 4:=Im.2 ⟨this.1,by rw[this.2]; exact hy⟩
 rw[e] at this
 cases this
section
variable {bG:bV}
end
end Go.Tv
end
section
namespace Go.Tv
open Go Go.Di Go.Proofs
set_option maxRecDepth 100000
theorem iX {α:Type} {l:List α} {i:Nat} (d:α) (h:i<l.length):l.take (i+1)=l.take i++[l.getD i d]:=by
 rw[List.take_succ_eq_append_getElem h,aN,bH h]
 rfl
abbrev dP:aO.den:=([],[],0,[],())
def jg (l:List PD):Int:=if 4<l.length then 6 else jf l
def wq (p:aO.den):Prop:=Ok p.1 p.2.1 p.2.2.1 p.2.2.2.1
theorem BC {p:aO.den} (h:wq p):c9 p:=DO h
theorem AX {l:List PD} (hh:jg l=0):l.length≤4∧∀ p∈l,wq p:=by
 have h:=hh
 unfold jg at h
 split at h
 ·cases h
 ·refine⟨by omega,?_⟩
  clear hh
  rename_i hl
  clear hl
  induction l with
  | nil=>intro p hp; cases hp
  | cons q l ih =>
   rw[jf] at h
   split at h
   ·rename_i e; exact absurd h e
   ·rename_i e
    intro p hp
    rcases bI.1 hp with rfl | hp
    ·exact Kh.1 (Decidable.not_not.1 e)
    ·exact ih h p hp
def aag:List TV→Dn
 | [.sl (.pair (.sl (.int .i64)) (.pair (.sl (.int .i64)) (.pair (.int .i64) (.pair (.sl (.int .i64)) .unit)))) l .no]=>some ([l.length≤1000,∀ p∈l,c9 p],.res (bk (jg l)) [] [],[])
 | _=>none
theorem ad4:VI T6 Tryz.f50 [some bO] aag:=by
 refine eX fun a => ?_
 unfold aag
 split
 rotate_left
 ·trivial
 rename_i l
 intro hp
 refine qx (A:=aG (decide ((↑l.length:Int)>4)) (6=jg l∧True) (l.length≤1000∧(∀ (p:(aO).den),p∈l→c9 p)∧jf l=jg l∧True)) (by kernel_rfl) ?_
 obtain⟨h1,h2,-⟩:=hp
 simp only[bL,and_true]
 exact⟨fun h=>by rw[jg,if_pos (by omega)],fun h=>⟨by omega,h2,by rw[jg,if_neg (by omega)]⟩⟩
theorem EL {l:List PD} {i:Nat} {d:PD} (h:i<l.length) (h1:jf (l.take i)=0):(Bi (l.getD i d)=0→jf (l.take (i+1))=0)∧(Bi (l.getD i d)≠0→jf l=Bi (l.getD i d)):=by
 have e:l.getD i d=l[i]:=by simp[aN,h]
 rw[e]
 constructor
 ·intro k
  rw[← List.take_append_getElem h,o9 h1,jf,if_neg (fun h=>h k)]
  rfl
 ·intro k
  conv=>lhs; rw[← List.take_append_drop i l]
  rw[o9 h1,nL h,jf,if_pos k]
def D51:List TV→Dn
 | [.sl (.pair (.sl (.int .i64)) (.pair (.sl (.int .i64)) (.pair (.int .i64) (.pair (.sl (.int .i64)) .unit)))) l .no]=>some ([l.length≤1000,∀ p∈l,c9 p],.res (bk (jg l)) [] [],
  [(6,.ex Nat fun i => .st { sl:=[(3,bk i)],dm:=[i≤l.length,jf (l.take i)=0],m:=l.length-i })])
 | _=>none
theorem v51:VI G3 Tryz.f51 [some bO] D51:=by
 refine eX fun a => ?_
 unfold D51
 split
 rotate_left
 ·trivial
 rename_i l
 intro hp
 refine qx (A:=aG (decide ((↑l.length:Int)>4)) (6=jg l∧True) ((∃ (a:Nat),0=(↑a:Int)∧a≤l.length∧jf (List.take a l)=0∧l.length-a<1000000)∧∀ (a:Nat),a≤l.length→jf (List.take a l)=0→aG (decide ((↑a:Int)<(↑l.length:Int))) ((0≤(↑a:Int)∧(↑a:Int)<(↑l.length:Int))∧Sh (l.getD a ([],[],0,[],())).fst (l.getD a ([],[],0,[],())).snd.fst (l.getD a ([],[],0,[],())).snd.snd.snd.fst∧aG (jG (l.getD a ([],[],0,[],())).fst (l.getD a ([],[],0,[],())).snd.fst (l.getD a ([],[],0,[],())).snd.snd.fst (l.getD a ([],[],0,[],())).snd.snd.snd.fst !=0) (jG (l.getD a ([],[],0,[],())).fst (l.getD a ([],[],0,[],())).snd.fst (l.getD a ([],[],0,[],())).snd.snd.fst (l.getD a ([],[],0,[],())).snd.snd.snd.fst=jg l∧True) (cE ((↑a:Int)+1)∧∃ (a_1:Nat),l=l∧(↑a:Int)+1=(↑a_1:Int)∧a_1≤l.length∧jf (List.take a_1 l)=0∧l.length-a_1<l.length-a)) (0=jg l∧True))) (by kernel_rfl) ?_
 obtain⟨h1,h2,-⟩:=hp
 change List PD at l
 simp only[bL,cC,cE,fE,and_true,true_and,eq_self]
 refine⟨fun h=>by rw[jg,if_pos (by omega)],fun h=>⟨⟨0,rfl,by omega,rfl,by omega⟩,fun i k1 k2=>⟨fun k3=>⟨by omega,cV (by omega) h2,fun k4=>⟨by omega,i+1,by omega,by omega,(EL (by omega) k2).1 k4,by omega⟩,fun k4 => ?_⟩,fun k3 => ?_⟩⟩⟩
 ·rw[jg,if_neg (by omega)]; exact((EL (by omega) k2).2 k4).symm
 ·rw[show i=l.length by omega,fo] at k2
  rw[jg,if_neg (by omega),k2]
theorem ada {p q:PD}:(p.1=q.1∧p.2.1=q.2.1∧p.2.2.1=q.2.2.1∧p.2.2.2.1=q.2.2.2.1)↔p=q:=by
 obtain⟨a,b,c,d,_⟩:=p
 obtain⟨a',b',c',d',_⟩:=q
 simp
def aah:List TV→Dn
 | [.sl (.pair (.sl (.int .i64)) (.pair (.sl (.int .i64)) (.pair (.int .i64) (.pair (.sl (.int .i64)) .unit)))) l .no,.sl (.pair (.sl (.int .i64)) (.pair (.sl (.int .i64)) (.pair (.int .i64) (.pair (.sl (.int .i64)) .unit)))) m .no]=>some ([l.length≤1000,m.length≤1000,∀ p∈l,c9 p,∀ p∈m,c9 p],.ex Bool fun b => .res (kC b) [] [b=true↔l=m],
  [(4,.ex Nat fun i => .ex Bool fun b => .st { sl:=[(5,kC b),(6,bk i)],dm:=[i≤l.length,b=true↔(l.length=m.length∧l.take i=m.take i)],m:=l.length-i })])
 | _=>none
def H1:gP:=T0.cI 48 fun a=>dS (D26 a)
theorem ad5:VI H1 Tryz.f25 [some .bool] aah:=by
 refine eX fun a => ?_
 unfold aah
 split
 rotate_left
 ·trivial
 rename_i l m
 intro hp
 refine qx (A:=(∃ (a:Nat),∃ (a_1:Bool),((↑l.length:Int)==(↑m.length:Int))=a_1∧0=(↑a:Int)∧a≤l.length∧(a_1=true↔l.length=m.length∧List.take a l=List.take a m)∧l.length-a<1000000)∧∀ (a:Nat) (a_1:Bool),a≤l.length→(a_1=true↔l.length=m.length∧List.take a l=List.take a m)→aG a_1 (aG (decide ((↑a:Int)<(↑l.length:Int))) ((0≤(↑a:Int)∧(↑a:Int)<(↑l.length:Int))∧(0≤(↑a:Int)∧(↑a:Int)<(↑m.length:Int))∧Sh (l.getD a ([],[],0,[],())).fst (l.getD a ([],[],0,[],())).snd.fst (l.getD a ([],[],0,[],())).snd.snd.snd.fst∧Sh (m.getD a ([],[],0,[],())).fst (m.getD a ([],[],0,[],())).snd.fst (m.getD a ([],[],0,[],())).snd.snd.snd.fst∧cE ((↑a:Int)+1)∧∃ (a_2:Nat),∃ (a_3:Bool),l=l∧m=m∧false=false∧decide ((l.getD a ([],[],0,[],())).fst=(m.getD a ([],[],0,[],())).fst∧(l.getD a ([],[],0,[],())).snd.fst=(m.getD a ([],[],0,[],())).snd.fst∧(l.getD a ([],[],0,[],())).snd.snd.fst=(m.getD a ([],[],0,[],())).snd.snd.fst∧(l.getD a ([],[],0,[],())).snd.snd.snd.fst=(m.getD a ([],[],0,[],())).snd.snd.snd.fst)=a_3∧(↑a:Int)+1=(↑a_2:Int)∧a_2≤l.length∧(a_3=true↔l.length=m.length∧List.take a_2 l=List.take a_2 m)∧l.length-a_2<l.length-a) (∃ (a:Bool),a_1=a∧(a=true↔l=m)∧True)) (∃ (a:Bool),a_1=a∧(a=true↔l=m)∧True)) (by kernel_rfl) ?_
 obtain⟨h1,h2,s1,s2,-⟩:=hp
 change List PD at l m
 refine⟨⟨0,_,rfl,rfl,by omega,by simp; omega,by omega⟩,fun i b h3 h4=>gY.2 ⟨fun h5=>bL.2 ⟨fun h6 => ?_,fun h6=>⟨_,rfl,?_,trivial⟩⟩,fun h5=>⟨_,rfl,?_,trivial⟩⟩⟩
 ·have h5:=h4.1 h5
  refine⟨⟨by omega,by omega⟩,⟨by omega,by omega⟩,cV (by omega) s1,cV (by omega) s2,⟨by omega,by omega⟩,i+1,_,rfl,rfl,rfl,rfl,by omega,by omega,?_,by omega⟩
  rw[decide_eq_true_iff,ada,iX dP (by omega),iX dP (by omega)]
  refine⟨fun h=>⟨h5.1,by rw[h5.2,h]⟩,fun h => ?_⟩
  have:=List.append_inj_right' h.2 rfl
  simpa using this
 ·have h5:=h4.1 h5
  have e1:=h5.2
  rw[iE (by omega),iE (by omega)] at e1
  rw[h4]
  exact⟨fun _=>e1,fun h=>h5⟩
 ·subst h5
  rw[h4]
  refine⟨fun h=>absurd (h4.2 h) (by decide),fun h => ?_⟩
  subst h
  exact absurd (h4.2 ⟨rfl,rfl⟩) (by decide)
def aay (te:List TV) (i:Nat) (k:Nat→LA):LA :=
 match te.getD i .unk with
 | .so g _=>k g
 | _ => .un 0
def acG (te:List TV) (i:Nat) (k:List aO.den→LA):LA :=
 match te.getD i .unk with
 | .sl (.pair (.sl (.int .i64)) (.pair (.sl (.int .i64)) (.pair (.int .i64) (.pair (.sl (.int .i64)) .unit)))) l _=>k l
 | _ => .un 0
def J16:List (Nat×LA):=[(4,.pe 1 (.dep fun te _=>aay te 3 fun g=>acG te 0 fun l => .ex Nat fun i => .st { sl:=[(3,.so g aO),(4,bk i)],mp:=[(g,⟨aO,l.take i⟩)],dm:=[i≤l.length],m:=l.length-i }))]
def aam:List TV→Dn
 | [.sl (.pair (.sl (.int .i64)) (.pair (.sl (.int .i64)) (.pair (.int .i64) (.pair (.sl (.int .i64)) .unit)))) l .no]=>some ([l.length≤1000,∀ p∈l,c9 p],.res (.sl aO l .no) [] [],J16)
 | _=>none
def H2:gP:=T0d.cI 42 fun a=>dS (D20 a)
theorem AO {l:List PD} {i:Nat} (h:i<l.length):l.take i++[((l.getD i dP).1,(l.getD i dP).2.1,(l.getD i dP).2.2.1,(l.getD i dP).2.2.2.1,())]=l.take (i+1):=(iX dP h).symm
def PT.q1 (p0:List (aO).den) (p1:Int) (p2 p3:Nat) (p4:Prop):Prop:=(0≤p1∧p1<(↑p0.length:Int))∧Sh (p0.getD p2 ([],[],0,[],())).fst (p0.getD p2 ([],[],0,[],())).snd.fst (p0.getD p2 ([],[],0,[],())).snd.snd.snd.fst∧p3≤1000000000∧p4
theorem PT:VI H2 Tryz.f16 [some (.sl aO)] aam:=by
 refine eX fun a => ?_
 unfold aam
 split
 rotate_left
 ·trivial
 rename_i l
 intro hp
 refine qx (A:=aG (decide (0<(↑l.length:Int))) (PT.q1 l (0:Int) 0 1 (cE (1:Int)∧(∃ (a:Nat),1=(↑a:Int)∧[((l.getD 0 ([],[],0,[],())).fst,(l.getD 0 ([],[],0,[],())).snd.fst,(l.getD 0 ([],[],0,[],())).snd.snd.fst,(l.getD 0 ([],[],0,[],())).snd.snd.snd.fst,())]=List.take a l∧a≤l.length∧l.length-a<1000000)∧∀ (a:Nat),a≤l.length→aG (decide ((↑a:Int)<(↑l.length:Int))) (PT.q1 l (↑a:Int) a ((List.take a l).length+1) (cE ((↑a:Int)+1)∧∃ (a_1:Nat),l=l∧lM aO.den∧(↑a:Int)+1=(↑a_1:Int)∧List.take a l++[((l.getD a ([],[],0,[],())).fst,(l.getD a ([],[],0,[],())).snd.fst,(l.getD a ([],[],0,[],())).snd.snd.fst,(l.getD a ([],[],0,[],())).snd.snd.snd.fst,())]=List.take a_1 l∧a_1≤l.length∧l.length-a_1<l.length-a)) (List.take a l=l∧True))) ([]=l∧True)) (by kernel_rfl) ?_
 unfold PT.q1
 obtain⟨h1,h2,-⟩:=hp
 change List PD at l
 refine bL.2 ⟨fun h=>⟨⟨by omega,by omega⟩,cV (by omega) h2,by omega,by simp only[cE]; omega,⟨1,rfl,AO (i:=0) (by omega),by omega,by omega⟩,fun i hi=>bL.2 ⟨fun hl=>⟨⟨by omega,by omega⟩,cV (by omega) h2,by rw[iD]; omega,by simp only[cE]; omega,i+1,rfl,fE▸trivial,by omega,AO (by omega),by omega,by omega⟩,fun hl=>⟨by rw[show i=l.length by omega,fo],trivial⟩⟩⟩,fun h=>⟨(eF (by omega)).symm,trivial⟩⟩
def PZ (u l:List Int) (w:Int) (q:List Int) (n:Int):Int:=if jG u l w q≠0 then jG u l w q else if 0≤n∧n≤3 then 0 else 8
def Zz (u l:List Int) (w:Int) (q:List Int) (n:Int):PD:=if jG u l w q=0∧0≤n∧n≤3 then (bR n u l,bS n u l,w,fT n q 4,()) else dP
abbrev pcT (x:PD):TV:=Uh x.1 x.2.1 x.2.2.1 x.2.2.2.1
abbrev Qw (u l:List Int) (w:Int) (q:List Int) (n:Int):uO := .ex PD fun x => .ex Int fun e => .res (.gd [pcT x,bk e]) [] [x=Zz u l w q n,e=PZ u l w q n]
def acE:List TV→Dn
 | [.agg [.sl (.int .i64) u .no,.sl (.int .i64) l .no,.val (.int .i64 w),.sl (.int .i64) q .no],.val (.int .i64 n)]=>some ([Sh u l q,¬ (jG u l w q=0∧0≤n∧n≤3)],Qw u l w q n,[])
 | _=>none
def PO.q1 (p0 p1:List bO.den) (p2:Int) (p3:List bO.den) (p4 p5:Int):Prop:=∃ (a:PD),∃ (a_1:Int),[]=a.fst∧[]=a.snd.fst∧0=a.snd.snd.fst∧[]=a.snd.snd.snd.fst∧p5=a_1∧a=Zz p0 p1 p2 p3 p4∧a_1=PZ p0 p1 p2 p3 p4∧True
theorem PO:VI LT Tryz.f52 [some aO,some bO] acE:=by
 refine eX fun a => ?_
 unfold acE
 split
 rotate_left
 ·trivial
 rename_i u l w q n
 intro hp
 refine qx (A:=Sh u l q∧aG (jG u l w q !=0) (PO.q1 u l w q n (jG u l w q)) (aG (decide (n<0)) (PO.q1 u l w q n (8:Int)) (aG (decide (n>3)) (PO.q1 u l w q n (8:Int)) (u.length≤1000∧l.length≤1000∧0≤n∧n≤3∧bR n u l≠[]∧(bR n u l).length≤1000∧bS n u l≠[]∧(bS n u l).length≤1000∧False)))) (by kernel_rfl) ?_
 unfold PO.q1
 obtain⟨h1,h2,-⟩:=hp
 have hx:Zz u l w q n=dP:=if_neg h2
 refine⟨h1,cC.2 ⟨fun e0 => ?_,fun e1=>⟨dP,_,rfl,rfl,rfl,rfl,rfl,hx.symm,by rw[PZ,if_pos e1],trivial⟩⟩⟩
 have he:¬(0≤n∧n≤3)→8=PZ u l w q n:=fun h=>by rw[PZ,if_neg (fun h=>h e0),if_neg h]
 exact bL.2 ⟨fun hn=>⟨dP,_,rfl,rfl,rfl,rfl,rfl,hx.symm,he (by omega),trivial⟩,fun hn=>bL.2 ⟨fun Jj=>⟨dP,_,rfl,rfl,rfl,rfl,rfl,hx.symm,he (by omega),trivial⟩,fun Jj=>(h2 ⟨e0,by omega,by omega⟩).elim⟩⟩
def H3:gP:=G3.cI 81 fun a=>dS (D16 a)
def afX:List TV→Dn
 | [.agg [.sl (.int .i64) u .no,.sl (.int .i64) l .no,.val (.int .i64 w),.sl (.int .i64) q .no],.val (.int .i64 n)]=>some ([Sh u l q],Qw u l w q n,[])
 | _=>none
def afW:List TV→Sp
 | [.agg [.sl (.int .i64) u .no,.sl (.int .i64) l .no,.val (.int .i64 w),.sl (.int .i64) q .no],.val (.int .i64 n)]=>some ([Sh u l q],Qw u l w q n)
 | _=>none
end Go.Tv
end
section
namespace Go.Tv
open Go Go.Di Go.Proofs
variable {P:Program}
def zx (kt:TT) (x:kt.den):List kt.den→Nat→Option (Nat×Value)
 | [],_=>none
 | y::l,i=>bif @decide (x=y) (Al kt x y) then some (i,.bool true) else zx kt x l (i+1)
theorem yT {kt:TT} {x:kt.den}:∀ {l:List kt.den} {i:Nat},(fO kt x l=true∧∃ j,zx kt x l i=some (i+j,.bool true)∧l[j]? = some x)∨(fO kt x l=false∧zx kt x l i=none)
 | [],i => .inr ⟨rfl,rfl⟩
 | y::l,i=>by
  simp only[zx,fO,List.any_cons]
  cases h:@decide (x=y) (Al kt x y)
  ·rcases @yT kt x l (i+1) with ⟨h1,j,h2,h3⟩ | ⟨h1,h2⟩
   ·refine .inl ⟨h1,j+1,?_,by simpa using h3⟩
    rw[cond_false,h2,show i+1+j=i+(j+1) by omega]
   ·exact .inr ⟨h1,h2⟩
  ·have hx:x=y:=@of_decide_eq_true _ (Al kt x y) h
   exact .inl ⟨rfl,0,rfl,by rw[hx]; rfl⟩
theorem EP {key:TypeId} {kt:TT} (he:∀ x y,cg P (Op.equal key (lN kt x) (lN kt y))=some (@decide (x=y) (Al kt x y))) (x:kt.den):∀ (l:List kt.den) (i:Nat),cg P (Instr.findAsking key (lN kt x) ((qB kt l).map Di.Ld) i)=some (zx kt x l i)
 | [],i=>rfl
 | y::l,i=>by
  simp only[qB,bQ,Instr.findAsking,cG,Di.Ld,he x y,Option.bind_some,zx]
  cases @decide (x=y) (Al kt x y)
  ·simp only[aF,if_false,cond_false]
   exact EP he x l (i+1)
  ·rfl
theorem Rv {key:TypeId} {td:TypeDesc} {kt:TT} (hk:P.underlying key=some td) (hn:∀ x y,Instr.sameNow td (lN kt x) (lN kt y)=none) (he:∀ x y,cg P (Op.equal key (lN kt x) (lN kt y))=some (@decide (x=y) (Al kt x y))) (x:kt.den) (l:List kt.den):cg P (Instr.findKey key (lN kt x) ((qB kt l).map Di.Ld))=some (zx kt x l 0):=by
 simp only[Instr.findKey,cG,fS hk,Option.bind_some]
 cases l with
 | nil=>rfl
 | cons y l =>
  simp only[qB,bQ,Instr.findNow,Di.Ld,hn x y]
  exact EP he x (y::l) 0
theorem Tn {t key elem:TypeId} {kt:TT} {td:TypeDesc} (hu:P.underlying t=some (.map key elem)) (hk:P.underlying key=some td) (hn:∀ x y,Instr.sameNow td (lN kt x) (lN kt y)=none) (hz:cg P (zeroValue elem)=some (.bool false)) (hc:∀ b x,cg P (Instr.checkKey b 10000 key (lN kt x))=some ()) (he:∀ x y,cg P (Op.equal key (lN kt x) (lN kt y))=some (@decide (x=y) (Al kt x y)))
  (hs:∀ x,Instr.sameBits 10000 (lN kt x) (lN kt x)=true):uZ P t kt where
 look:=fun x l=>by
  simp only[Hj,cG,fS hu,Option.bind_some,hc,Rv hk hn he x l]
  rcases @yT kt x l 0 with ⟨h1,j,h2,-⟩ | ⟨h1,h2⟩
  ·rw[h1,h2]; rfl
  ·rw[h1,h2]
   simp only[cG,hz,Option.bind_some]
   rfl
 find:=fun x l=>by
  refine⟨zx kt x l 0,?_,?_⟩
  ·simp only[Hx,cG,fS hu,Option.bind_some,hc,Rv hk hn he x l]
  ·rcases @yT kt x l 0 with ⟨h1,j,h2,h3⟩ | ⟨h1,h2⟩
   ·rw[h2]
    have e:(qB kt l)[0+j]? = some (lN kt x,.bool true):=by simp[qB,h3]
    simp only[JC,e,hs,if_true,eW,h1,cond_true,aB]
    refine kZ fun i => ?_
    rw[aQ]
    split
    ·rename_i e1; subst e1
     rw[e,if_pos (aJ.1 e).1]
    ·rfl
   ·rw[h2]
    simp only[JC,eW,h1,cond_false,aB]
    simp[qB]
end Go.Tv
end
section
namespace Go.Tv
open Go Go.Di Go.Proofs
set_option maxRecDepth 100000
abbrev eM:Type:=Bool×(Int×Int×Int×Unit)×Unit
def o1 (na nb:Int) (x:eM):eM:=(!x.1,(fH x.2.1.2.1 1,fH x.2.1.1 1,x.2.1.2.2.1+nb-na,()),())
def o2 (na nb:Int) (x:eM):eM:=(x.1,(fH x.2.1.1 2,fH x.2.1.2.1 2,na-nb-x.2.1.2.2.1,()),())
def o3 (x:eM):eM:=(!x.1,(fH x.2.1.2.1 3,fH x.2.1.1 3,-x.2.1.2.2.1,()),())
def D56:List TV→Dn
 | [.agg [.val (.bool t),.val (.int .i64 u),.val (.int .i64 l),.val (.int .i64 s)],.val (.int .i64 na),.val (.int .i64 nb)]=>some ([-10000≤s,s≤10000,0≤na,na≤1000,0≤nb,nb≤1000],.res (.agg [kC (!t),bk (fH l 1),bk (fH u 1),bk (s+nb-na),kC t,bk (fH u 2),bk (fH l 2),bk (na-nb-s),kC (!t),bk (fH l 3),bk (fH u 3),bk (-s)]) [] [],[])
 | _=>none
def v56.q1 (p0:Bool) (p1 p2 p3 p4:Int) (p5:Prop):Prop:=p0=p0∧IntKind.i64.wrap (↑(BitVec.ofInt 64 p1 ^^^ BitVec.ofInt 64 p2).toNat:Int)=fH p1 p2∧IntKind.i64.wrap (↑(BitVec.ofInt 64 p3 ^^^ BitVec.ofInt 64 p2).toNat:Int)=fH p3 p2∧p4=p4∧p5
theorem v56:VI T0 Tryz.f110 [none] D56:=by
 refine eX fun a => ?_
 unfold D56
 split
 rotate_left
 ·trivial
 rename_i t u l s na nb
 intro hp
 refine qx (A:=cE (s+nb)∧cE (s+nb-na)∧cE (na-nb)∧cE (na-nb-s)∧cE (-s)∧v56.q1 (!t) l (1:Int) u (s+nb-na) (v56.q1 t u (2:Int) l (na-nb-s) (v56.q1 (!t) l (3:Int) u (-s) True))) (by kernel_rfl) ?_
 unfold v56.q1
 obtain⟨h1,h2,h3,h4,h5,h6,-⟩:=hp
 simp only[cE,eq_self,true_and,and_true]
 exact⟨by omega,by omega,by omega,by omega,by omega,rfl,rfl,rfl,rfl,rfl,rfl⟩
def aA (ua la qa ub lb qb:List Int) (w:Int):List (Int×Int×Int×Unit):=qa.flatMap fun x=>qb.flatMap fun y=>(pJ (bS x ua la) (bR y ub lb) w (ub.length+ua.length+1)).map fun s=>(x,y,s,())
structure Z8 (bG:bV):Prop where
 X4:∀ (ua la qa ub lb qb:List Int) (wa wb:Int) d1 d2,Ok ua la wa qa→Ok ub lb wb qb→RT dK [] (wkV ua la wa qa) d1→RT dK [] (wkV ub lb wb qb) d2→∃ r,bG 60 [d1,d2]=some r∧r.pure=true∧RT dK [] (.sl gX (aA ua la qa ub lb qb (wa+wb)) .no) r
def S60:List TV→Sp
 | [.agg [.sl (.int .i64) ua .no,.sl (.int .i64) la .no,.val (.int .i64 wa),.sl (.int .i64) qa .no,.sl (.int .i64) a0 .no,.sl (.int .i64) a1 .no,.sl (.int .i64) a2 .no,.sl (.int .i64) a3 .no,.sl (.int .i64) a4 .no,.sl (.int .i64) a5 .no,.sl (.int .i64) a6 .no,.sl (.int .i64) a7 .no],.agg [.sl (.int .i64) ub .no,.sl (.int .i64) lb .no,.val (.int .i64 wb),.sl (.int .i64) qb .no,.sl (.int .i64) b0 .no,.sl (.int .i64) b1 .no,.sl (.int .i64) b2 .no,.sl (.int .i64) b3 .no,.sl (.int .i64) b4 .no,.sl (.int .i64) b5 .no,.sl (.int .i64) b6 .no,.sl (.int .i64) b7 .no]]=>some ([Ok ua la wa qa,Ok ub lb wb qb,a0=ua,a1=la,a2=la.reverse,a3=ua.reverse,a4=ua.reverse,a5=la.reverse,a6=la,a7=ua,b0=ub,b1=lb,b2=lb.reverse,b3=ub.reverse,b4=ub.reverse,b5=lb.reverse,b6=lb,b7=ub],.res (.sl gX (aA ua la qa ub lb qb (wa+wb)) .no) [] [])
 | _=>none
theorem qL {α β:Type} {f:α→List β} {c:Nat}:∀ {l:List α},(∀ x∈l,(f x).length≤c)→(l.flatMap f).length≤l.length*c
 | [],_=>by simp
 | x::l,h=>by
  have h1:=h x (by simp)
  have h2:=qL (f:=f) (l:=l) fun y hy=>h y (by simp[hy])
  rw[fM,b9,List.length_cons,jL]
  omega
theorem MJ:∀ (l:List Int) (c:Int),(∀ x∈l,c≤x∧x≤3)→l.Pairwise (· < ·)→(l.length:Int)≤max 0 (4-c)
 | [],c,_,_=>by simp; omega
 | x::l,c,h,hp=>by
  have h1:=h x (by simp)
  rw[List.pairwise_cons] at hp
  have h2:=MJ l (x+1) (fun y hy=>⟨hp.1 y hy,(h y (by simp[hy])).2⟩) hp.2
  rw[List.length_cons]
  omega
theorem q_len {u l q:List Int} {w:Int} (h:Ok u l w q):q.length≤4:=by
 have:=MJ q 0 h.O6 h.U3
 omega
theorem BU {ua la qa ub lb qb:List Int} {w wa wb:Int} (ha:Ok ua la wa qa) (hb:Ok ub lb wb qb):(aA ua la qa ub lb qb w).length≤272:=by
 have h1:=q_len ha
 have h2:=q_len hb
 have h3:=ha.n8
 have h4:=hb.n8
 unfold aA
 refine aS (qL (c:=68) fun i _ => ?_) (by omega)
 refine aS (qL (c:=17) fun j _ => ?_) (by omega)
 rw[eT,pJ]
 refine aS (qR _ _) ?_
 simp only[eT,List.length_range]
 omega
theorem FR {ua la qa ub lb qb:List Int} {w wa wb:Int} (ha:Ok ua la wa qa) (hb:Ok ub lb wb qb) {x:Int×Int×Int×Unit} (h:x∈aA ua la qa ub lb qb w) : -10000≤x.2.2.1∧x.2.2.1≤10000:=by
 have h3:=ha.n8
 have h4:=hb.n8
 simp only[aA,List.mem_flatMap,cR,pJ,List.mem_filter,List.mem_range] at h
 obtain⟨a,-,b,-,s,⟨⟨k,hk,rfl⟩,-⟩,rfl⟩:=h
 have:=(F3 (n:=b) hb.len).1
 simp only
 omega
theorem Me {ua la qa ub lb qb:List Int} {w wa wb:Int} (ha:Ok ua la wa qa) (hb:Ok ub lb wb qb) {i:Nat} {d:Int×Int×Int×Unit} (h:i<(aA ua la qa ub lb qb w).length) : -10000≤((aA ua la qa ub lb qb w).getD i d).2.2.1∧((aA ua la qa ub lb qb w).getD i d).2.2.1≤10000:=by
 rw[aN,bH h,Option.getD_some]
 exact FR ha hb (mB h)
def Ls (x y:eM):Bool:=(x.1==y.1)&&(((x.2.1.1==y.2.1.1)&&((x.2.1.2.1==y.2.1.2.1)&&((x.2.1.2.2.1==y.2.1.2.2.1)&&true)))&&true)
def jh (na nb:Int) (q:List eM×Int) (w:eM):List eM×Int :=
 (eW bD w q.1,bif fO bD (o1 na nb w) (eW bD w q.1) then q.2 else bif (!Ls (o2 na nb w) w&&fO bD (o2 na nb w) (eW bD w q.1)) then q.2 else bif fO bD (o3 w) (eW bD w q.1) then q.2 else q.2+1)
def cn (na nb:Int) (t:Bool) (q:List eM×Int) (l:List (Int×Int×Int×Unit)):List eM×Int:=l.foldl (fun q s=>jh na nb q (t,s,())) q
def G8 (ua la qa ub lb qb:List Int) (wa wb:Int):Int:=(cn ub.length ua.length true (cn ua.length ub.length false ([],0) (aA ua la qa ub lb qb (wa+wb))) (aA ub lb qb ua la qa (wb+wa))).2
section
variable {na nb:Int} {t:Bool} {q:List eM×Int} {l:List (Int×Int×Int×Unit)} {i:Nat}
theorem Uf (d:Int×Int×Int×Unit) (h:i<l.length):cn na nb t q (l.take (i+1))=jh na nb (cn na nb t q (l.take i)) (t,l.getD i d,()):=by
 rw[cn,List.take_succ_eq_append_getElem h,List.foldl_append,aN,bH h,Option.getD_some]
 rfl
theorem IK (h:¬ i<l.length) (h':i≤l.length):cn na nb t q (l.take i)=cn na nb t q l:=by rw[show i=l.length by omega,fo]
theorem Wb (w:eM):q.2≤(jh na nb q w).2∧(jh na nb q w).2≤q.2+1:=by
 unfold jh
 cases fO bD (o1 na nb w) (eW bD w q.1)<;>cases (!Ls (o2 na nb w) w&&fO bD (o2 na nb w) (eW bD w q.1))<;>cases fO bD (o3 w) (eW bD w q.1)<;>simp<;>omega
theorem Ki:∀ (l:List (Int×Int×Int×Unit)) (q:List eM×Int),q.2≤(cn na nb t q l).2∧(cn na nb t q l).2≤q.2+l.length
 | [],q=>by simp[cn]
 | s::l,q=>by
  have h1:=Wb (na:=na) (nb:=nb) (q:=q) (t,s,())
  have h2:=Ki l (jh na nb q (t,s,()))
  have e:cn na nb t q (s::l)=cn na nb t (jh na nb q (t,s,())) l:=rfl
  rw[e,List.length_cons]
  omega
variable {w:eM}
theorem st1 (h:fO bD (o1 na nb w) (eW bD w q.1)=true):jh na nb q w=(eW bD w q.1,q.2):=by simp only[jh,h,cond_true]
theorem st2 (h:fO bD (o1 na nb w) (eW bD w q.1)=false) (h2:(!Ls (o2 na nb w) w)=true) (h3:fO bD (o2 na nb w) (eW bD w q.1)=true):jh na nb q w=(eW bD w q.1,q.2):=by simp only[jh,h,h2,h3,gA,cond_true,cond_false]
theorem st3 (h:fO bD (o1 na nb w) (eW bD w q.1)=false) (h2:(!Ls (o2 na nb w) w)=false∨fO bD (o2 na nb w) (eW bD w q.1)=false) (h3:fO bD (o3 w) (eW bD w q.1)=true):jh na nb q w=(eW bD w q.1,q.2):=by
 rcases h2 with h2 | h2<;>simp only[jh,h,h2,h3,kY,Bool.false_and,cond_true,cond_false]
theorem st4 (h:fO bD (o1 na nb w) (eW bD w q.1)=false) (h2:(!Ls (o2 na nb w) w)=false∨fO bD (o2 na nb w) (eW bD w q.1)=false) (h3:fO bD (o3 w) (eW bD w q.1)=false):jh na nb q w=(eW bD w q.1,q.2+1):=by
 rcases h2 with h2 | h2<;>simp only[jh,h,h2,h3,kY,Bool.false_and,cond_false]
end
def Bx (na nb:Int) (t:Bool) (q:List eM×Int) (l:List (Int×Int×Int×Unit)) (i:Nat) (d:Int×Int×Int×Unit) (v:Int):Prop :=
 cE ((i:Int)+1)∧∃ j:Nat,v=(cn na nb t q (l.take j)).2∧(i:Int)+1=(j:Int)∧eW bD (t,l.getD i d,()) (cn na nb t q (l.take i)).1=(cn na nb t q (l.take j)).1∧j≤l.length∧l.length-j<l.length-i
theorem tK {na nb:Int} {t:Bool} {q:List eM×Int} {l:List (Int×Int×Int×Unit)} {i:Nat} {d:Int×Int×Int×Unit} {v:Int} (hi:i<l.length) (hl:l.length≤272) (e:jh na nb (cn na nb t q (l.take i)) (t,l.getD i d,())=(eW bD (t,l.getD i d,()) (cn na nb t q (l.take i)).1,v)):Bx na nb t q l i d v:=by
 have e2:=(Uf d hi).trans e
 exact⟨by simp only[cE]; omega,i+1,by rw[e2],by omega,by rw[e2],by omega,by omega⟩
theorem H7 {na nb:Int} {t:Bool} {q:List eM×Int} {l:List (Int×Int×Int×Unit)} {i:Nat} {d:Int×Int×Int×Unit} (hi:i<l.length) (hl:l.length≤272) (h0:0≤q.2) (h1:q.2≤272) :
  (fO bD (o1 na nb (t,l.getD i d,())) (eW bD (t,l.getD i d,()) (cn na nb t q (l.take i)).1)=true→Bx na nb t q l i d (cn na nb t q (l.take i)).2) ∧
  (fO bD (o1 na nb (t,l.getD i d,())) (eW bD (t,l.getD i d,()) (cn na nb t q (l.take i)).1)=false →
   ((!Ls (o2 na nb (t,l.getD i d,())) (t,l.getD i d,()))=true→(fO bD (o2 na nb (t,l.getD i d,())) (eW bD (t,l.getD i d,()) (cn na nb t q (l.take i)).1)=true→Bx na nb t q l i d (cn na nb t q (l.take i)).2)∧(fO bD (o2 na nb (t,l.getD i d,())) (eW bD (t,l.getD i d,()) (cn na nb t q (l.take i)).1)=false →
    (fO bD (o3 (t,l.getD i d,())) (eW bD (t,l.getD i d,()) (cn na nb t q (l.take i)).1)=true→Bx na nb t q l i d (cn na nb t q (l.take i)).2)∧(fO bD (o3 (t,l.getD i d,())) (eW bD (t,l.getD i d,()) (cn na nb t q (l.take i)).1)=false→cE ((cn na nb t q (l.take i)).2+1)∧Bx na nb t q l i d ((cn na nb t q (l.take i)).2+1)))) ∧
   ((!Ls (o2 na nb (t,l.getD i d,())) (t,l.getD i d,()))=false →
    (fO bD (o3 (t,l.getD i d,())) (eW bD (t,l.getD i d,()) (cn na nb t q (l.take i)).1)=true→Bx na nb t q l i d (cn na nb t q (l.take i)).2)∧(fO bD (o3 (t,l.getD i d,())) (eW bD (t,l.getD i d,()) (cn na nb t q (l.take i)).1)=false→cE ((cn na nb t q (l.take i)).2+1)∧Bx na nb t q l i d ((cn na nb t q (l.take i)).2+1)))):=by
 have b:=Ki (na:=na) (nb:=nb) (t:=t) (l.take i) q
 have b2:(l.take i).length≤272:=by rw[iD]; omega
 have r:cE ((cn na nb t q (l.take i)).2+1):=by simp only[cE]; omega
 exact⟨fun c1=>tK hi hl (st1 c1),fun c1=>⟨fun c2=>⟨fun c3=>tK hi hl (st2 c1 c2 c3),fun c3=>⟨fun c4=>tK hi hl (st3 c1 (.inr c3) c4),fun c4=>⟨r,tK hi hl (st4 c1 (.inr c3) c4)⟩⟩⟩,fun c2=>⟨fun c4=>tK hi hl (st3 c1 (.inl c2) c4),fun c4=>⟨r,tK hi hl (st4 c1 (.inl c2) c4)⟩⟩⟩⟩
theorem OE:uZ Tp 142 bD:=by
 refine Tn (key:=145) (elem:=4) (td:=(Tp.underlying 145).getD default) (by kernel_rfl) (by kernel_rfl) (fun x y=>by kernel_rfl) (by kernel_rfl) (fun b x=>by cases b<;>kernel_rfl) (fun x y => ?_) (fun x => ?_)
 ·have e:eqV Tp 2 145 (lN bD x) (lN bD y)=some (Ls x y):=by kernel_rfl
  have e2:=Kc (d:=10000) (by omega) e
  refine e2.trans (congrArg some ?_)
  rw[Bool.eq_iff_iff,@decide_eq_true_iff _ (Al bD x y)]
  obtain⟨t,⟨u,l,s,c⟩,c'⟩:=x
  obtain⟨t2,⟨u2,l2,s2,c2⟩,c3⟩:=y
  change Ls (t,(u,l,s,()),()) (t2,(u2,l2,s2,()),())=true↔((t,(u,l,s,()),()):eM)=(t2,(u2,l2,s2,()),())
  simp only[Ls,aI,ek,and_true,ay]
 ·have e:Instr.sameBits 10000 (lN bD x) (lN bD x)=((x.1==x.1)&&((IntKind.i64==IntKind.i64&&x.2.1.1==x.2.1.1)&&((IntKind.i64==IntKind.i64&&x.2.1.2.1==x.2.1.2.1)&&((IntKind.i64==IntKind.i64&&x.2.1.2.2.1==x.2.1.2.2.1)&&true)))):=by kernel_rfl
  rw[e]
  simp
def F1:gP:=(T0.cI 110 fun a=>dS (D56 a)).cI 60 S60
def D31:List TV→Dn
 | [.agg [.sl (.int .i64) ua .no,.sl (.int .i64) la .no,.val (.int .i64 wa),.sl (.int .i64) qa .no,.sl (.int .i64) a0 .no,.sl (.int .i64) a1 .no,.sl (.int .i64) a2 .no,.sl (.int .i64) a3 .no,.sl (.int .i64) a4 .no,.sl (.int .i64) a5 .no,.sl (.int .i64) a6 .no,.sl (.int .i64) a7 .no],.agg [.sl (.int .i64) ub .no,.sl (.int .i64) lb .no,.val (.int .i64 wb),.sl (.int .i64) qb .no,.sl (.int .i64) b0 .no,.sl (.int .i64) b1 .no,.sl (.int .i64) b2 .no,.sl (.int .i64) b3 .no,.sl (.int .i64) b4 .no,.sl (.int .i64) b5 .no,.sl (.int .i64) b6 .no,.sl (.int .i64) b7 .no]]=>some ([Ok ua la wa qa,Ok ub lb wb qb,a0=ua,a1=la,a2=la.reverse,a3=ua.reverse,a4=ua.reverse,a5=la.reverse,a6=la,a7=ua,b0=ub,b1=lb,b2=lb.reverse,b3=ub.reverse,b4=ub.reverse,b5=lb.reverse,b6=lb,b7=ub],.res (bk (G8 ua la qa ub lb qb wa wb)) [] [],
  [(5,.un 3),(24,.un 4),(15,.dep fun te _=>match te.getD 8 .unk with
   | .val (.bool true) => .ex Nat fun i => .st { sl:=[(32,bk i),(6,bk (cn ub.length ua.length true (cn ua.length ub.length false ([],0) (aA ua la qa ub lb qb (wa+wb))) ((aA ub lb qb ua la qa (wb+wa)).take i)).2)],mp:=[(2,⟨bD,(cn ub.length ua.length true (cn ua.length ub.length false ([],0) (aA ua la qa ub lb qb (wa+wb))) ((aA ub lb qb ua la qa (wb+wa)).take i)).1⟩)],dm:=[i≤(aA ub lb qb ua la qa (wb+wa)).length],m:=(aA ub lb qb ua la qa (wb+wa)).length-i }
   | _ => .ex Nat fun i => .st { sl:=[(32,bk i),(6,bk (cn ua.length ub.length false ([],0) ((aA ua la qa ub lb qb (wa+wb)).take i)).2)],mp:=[(2,⟨bD,(cn ua.length ub.length false ([],0) ((aA ua la qa ub lb qb (wa+wb)).take i)).1⟩)],dm:=[i≤(aA ua la qa ub lb qb (wa+wb)).length],m:=(aA ua la qa ub lb qb (wa+wb)).length-i })])
 | _=>none
def v31.q1 (p0 p1:List bO.den) (p2:Int) (p3:List bO.den) (p4:Prop):Prop:=p0=p0∧p1=p1∧p2=p2∧p3=p3∧p0=p0∧p1=p1∧p1.reverse=p1.reverse∧p0.reverse=p0.reverse∧p0.reverse=p0.reverse∧p1.reverse=p1.reverse∧p1=p1∧p0=p0∧p4
def v31.q2 (p0 p1:List bO.den) (p2:Int) (p3 p4 p5:List bO.den) (p6:Int) (p7:List bO.den) (p8:Prop):Prop:=v31.q1 p0 p1 p2 p3 (v31.q1 p4 p5 p6 p7 p8)
def v31.q3 (p0:Nat) (p1 p2 p3 p4 p5 p6:List bO.den) (p7 p8 p9:Int):Prop:=cE ((↑p0:Int)+1)∧∃ (a:Nat),(0:Int)=0∧p9=(cn (↑p1.length:Int) (↑p2.length:Int) true (cn (↑p2.length:Int) (↑p1.length:Int) false ([],(0:Int)) (aA p2 p3 p4 p1 p5 p6 (p7+p8))) (List.take a (aA p1 p5 p6 p2 p3 p4 (p8+p7)))).snd∧true=true∧[false,true]=[false,true]∧(2:Int)=2∧(1:Int)=1∧true=true∧[false,true]=[false,true]∧1=1∧0=0∧true=true∧v31.q2 p2 p3 p7 p4 p1 p5 p8 p6 (true=true∧v31.q2 p1 p5 p8 p6 p2 p3 p7 p4 (v31.q2 p1 p5 p8 p6 p2 p3 p7 p4 (aA p1 p5 p6 p2 p3 p4 (p8+p7)=aA p1 p5 p6 p2 p3 p4 (p8+p7)∧(↑(aA p1 p5 p6 p2 p3 p4 (p8+p7)).length:Int)=(↑(aA p1 p5 p6 p2 p3 p4 (p8+p7)).length:Int)∧(↑p0:Int)+1=(↑a:Int)∧(1:Int)=1∧v31.q2 p2 p3 p7 p4 p1 p5 p8 p6 (eW bD (true,(((aA p1 p5 p6 p2 p3 p4 (p8+p7)).getD p0 (0,0,0,())).fst,((aA p1 p5 p6 p2 p3 p4 (p8+p7)).getD p0 (0,0,0,())).snd.fst,((aA p1 p5 p6 p2 p3 p4 (p8+p7)).getD p0 (0,0,0,())).snd.snd.fst,()),()) (cn (↑p1.length:Int) (↑p2.length:Int) true (cn (↑p2.length:Int) (↑p1.length:Int) false ([],(0:Int)) (aA p2 p3 p4 p1 p5 p6 (p7+p8))) (List.take p0 (aA p1 p5 p6 p2 p3 p4 (p8+p7)))).fst=(cn (↑p1.length:Int) (↑p2.length:Int) true (cn (↑p2.length:Int) (↑p1.length:Int) false ([],(0:Int)) (aA p2 p3 p4 p1 p5 p6 (p7+p8))) (List.take a (aA p1 p5 p6 p2 p3 p4 (p8+p7)))).fst∧v31.q2 p2 p3 p7 p4 p1 p5 p8 p6 (v31.q2 p1 p5 p8 p6 p2 p3 p7 p4 (a≤(aA p1 p5 p6 p2 p3 p4 (p8+p7)).length∧(aA p1 p5 p6 p2 p3 p4 (p8+p7)).length-a<(aA p1 p5 p6 p2 p3 p4 (p8+p7)).length-p0))))))
def v31.q4 (p0:Nat) (p1 p2 p3 p4 p5 p6:List bO.den) (p7 p8 p9:Int):Prop:=cE ((↑p0:Int)+1)∧∃ (a:Nat),(0:Int)=0∧p9=(cn (↑p1.length:Int) (↑p2.length:Int) false ([],(0:Int)) (List.take a (aA p1 p3 p4 p2 p5 p6 (p7+p8)))).snd∧false=false∧[false,true]=[false,true]∧(2:Int)=2∧(0:Int)=0∧true=true∧[false,true]=[false,true]∧0=0∧0=0∧false=false∧v31.q2 p1 p3 p7 p4 p2 p5 p8 p6 (false=false∧v31.q2 p1 p3 p7 p4 p2 p5 p8 p6 (aA p1 p3 p4 p2 p5 p6 (p7+p8)=aA p1 p3 p4 p2 p5 p6 (p7+p8)∧(↑(aA p1 p3 p4 p2 p5 p6 (p7+p8)).length:Int)=(↑(aA p1 p3 p4 p2 p5 p6 (p7+p8)).length:Int)∧(↑p0:Int)+1=(↑a:Int)∧v31.q2 p1 p3 p7 p4 p2 p5 p8 p6 (eW bD (false,(((aA p1 p3 p4 p2 p5 p6 (p7+p8)).getD p0 (0,0,0,())).fst,((aA p1 p3 p4 p2 p5 p6 (p7+p8)).getD p0 (0,0,0,())).snd.fst,((aA p1 p3 p4 p2 p5 p6 (p7+p8)).getD p0 (0,0,0,())).snd.snd.fst,()),()) (cn (↑p1.length:Int) (↑p2.length:Int) false ([],(0:Int)) (List.take p0 (aA p1 p3 p4 p2 p5 p6 (p7+p8)))).fst=(cn (↑p1.length:Int) (↑p2.length:Int) false ([],(0:Int)) (List.take a (aA p1 p3 p4 p2 p5 p6 (p7+p8)))).fst∧v31.q2 p1 p3 p7 p4 p2 p5 p8 p6 (a≤(aA p1 p3 p4 p2 p5 p6 (p7+p8)).length∧(aA p1 p3 p4 p2 p5 p6 (p7+p8)).length-a<(aA p1 p3 p4 p2 p5 p6 (p7+p8)).length-p0))))
def v31.q5 (p0 p1 p2 p3 p4 p5:List bO.den) (p6 p7:Int) (p8:Nat):Prop:=cE (2:Int)∧uZ Tp 142 bD∧aG (fO bD (!true,(fH ((aA p0 p1 p2 p3 p4 p5 (p6+p7)).getD p8 (0,0,0,())).snd.fst (3:Int),fH ((aA p0 p1 p2 p3 p4 p5 (p6+p7)).getD p8 (0,0,0,())).fst (3:Int),-((aA p0 p1 p2 p3 p4 p5 (p6+p7)).getD p8 (0,0,0,())).snd.snd.fst,()),()) (eW bD (true,(((aA p0 p1 p2 p3 p4 p5 (p6+p7)).getD p8 (0,0,0,())).fst,((aA p0 p1 p2 p3 p4 p5 (p6+p7)).getD p8 (0,0,0,())).snd.fst,((aA p0 p1 p2 p3 p4 p5 (p6+p7)).getD p8 (0,0,0,())).snd.snd.fst,()),()) (cn (↑p0.length:Int) (↑p3.length:Int) true (cn (↑p3.length:Int) (↑p0.length:Int) false ([],(0:Int)) (aA p3 p4 p5 p0 p1 p2 (p7+p6))) (List.take p8 (aA p0 p1 p2 p3 p4 p5 (p6+p7)))).fst)) (v31.q3 p8 p0 p3 p4 p5 p1 p2 p7 p6 (cn (↑p0.length:Int) (↑p3.length:Int) true (cn (↑p3.length:Int) (↑p0.length:Int) false ([],(0:Int)) (aA p3 p4 p5 p0 p1 p2 (p7+p6))) (List.take p8 (aA p0 p1 p2 p3 p4 p5 (p6+p7)))).snd) (cE (3:Int)∧cE ((cn (↑p0.length:Int) (↑p3.length:Int) true (cn (↑p3.length:Int) (↑p0.length:Int) false ([],(0:Int)) (aA p3 p4 p5 p0 p1 p2 (p7+p6))) (List.take p8 (aA p0 p1 p2 p3 p4 p5 (p6+p7)))).snd+1)∧v31.q3 p8 p0 p3 p4 p5 p1 p2 p7 p6 ((cn (↑p0.length:Int) (↑p3.length:Int) true (cn (↑p3.length:Int) (↑p0.length:Int) false ([],(0:Int)) (aA p3 p4 p5 p0 p1 p2 (p7+p6))) (List.take p8 (aA p0 p1 p2 p3 p4 p5 (p6+p7)))).snd+1))
def v31.q6 (p0 p1 p2 p3 p4 p5:List bO.den) (p6 p7:Int) (p8:Nat):Prop:=cE (2:Int)∧uZ Tp 142 bD∧aG (fO bD (!false,(fH ((aA p0 p1 p2 p3 p4 p5 (p6+p7)).getD p8 (0,0,0,())).snd.fst (3:Int),fH ((aA p0 p1 p2 p3 p4 p5 (p6+p7)).getD p8 (0,0,0,())).fst (3:Int),-((aA p0 p1 p2 p3 p4 p5 (p6+p7)).getD p8 (0,0,0,())).snd.snd.fst,()),()) (eW bD (false,(((aA p0 p1 p2 p3 p4 p5 (p6+p7)).getD p8 (0,0,0,())).fst,((aA p0 p1 p2 p3 p4 p5 (p6+p7)).getD p8 (0,0,0,())).snd.fst,((aA p0 p1 p2 p3 p4 p5 (p6+p7)).getD p8 (0,0,0,())).snd.snd.fst,()),()) (cn (↑p0.length:Int) (↑p3.length:Int) false ([],(0:Int)) (List.take p8 (aA p0 p1 p2 p3 p4 p5 (p6+p7)))).fst)) (v31.q4 p8 p0 p3 p1 p2 p4 p5 p6 p7 (cn (↑p0.length:Int) (↑p3.length:Int) false ([],(0:Int)) (List.take p8 (aA p0 p1 p2 p3 p4 p5 (p6+p7)))).snd) (cE (3:Int)∧cE ((cn (↑p0.length:Int) (↑p3.length:Int) false ([],(0:Int)) (List.take p8 (aA p0 p1 p2 p3 p4 p5 (p6+p7)))).snd+1)∧v31.q4 p8 p0 p3 p1 p2 p4 p5 p6 p7 ((cn (↑p0.length:Int) (↑p3.length:Int) false ([],(0:Int)) (List.take p8 (aA p0 p1 p2 p3 p4 p5 (p6+p7)))).snd+1))
def v31.q7 (p0 p1:List bO.den) (p2:Prop):Prop:=p0=p0∧p1=p1∧p1.reverse=p1.reverse∧p0.reverse=p0.reverse∧p0.reverse=p0.reverse∧p1.reverse=p1.reverse∧p1=p1∧p0=p0∧p2
def v31.q8 (p0:Nat) (p1 p2 p3 p4 p5 p6:List bO.den) (p7 p8:Int) (p9:Prop):Prop:=(0≤(↑p0:Int)∧(↑p0:Int)<(↑(aA p1 p2 p3 p4 p5 p6 (p7+p8)).length:Int))∧uZ Tp 142 bD∧(-10000:Int)≤((aA p1 p2 p3 p4 p5 p6 (p7+p8)).getD p0 (0,0,0,())).snd.snd.fst∧((aA p1 p2 p3 p4 p5 p6 (p7+p8)).getD p0 (0,0,0,())).snd.snd.fst≤10000∧0≤(↑p1.length:Int)∧(↑p1.length:Int)≤1000∧0≤(↑p4.length:Int)∧(↑p4.length:Int)≤1000∧uZ Tp 142 bD∧p9
theorem v31:VI F1 Tryz.f64 [none,none] D31:=by
 refine eX fun a => ?_
 unfold D31
 split
 rotate_left
 ·trivial
 rename_i ua la wa qa a0 a1 a2 a3 a4 a5 a6 a7 ub lb wb qb b0 b1 b2 b3 b4 b5 b6 b7
 intro hp
 obtain⟨h1,h2,rfl,rfl,rfl,rfl,rfl,rfl,rfl,rfl,rfl,rfl,rfl,rfl,rfl,rfl,rfl,rfl,-⟩:=hp
 refine qx (A:=True∧((0:Int)≤0∧(0:Int)<2)∧Ok a7 a6 wa qa∧Ok b7 b6 wb qb∧v31.q7 a7 a6 (v31.q7 b7 b6 ((∃ (a:Nat),0=(cn (↑a7.length:Int) (↑b7.length:Int) false ([],(0:Int)) (List.take a (aA a7 a6 qa b7 b6 qb (wa+wb)))).snd∧0=(↑a:Int)∧[]=(cn (↑a7.length:Int) (↑b7.length:Int) false ([],(0:Int)) (List.take a (aA a7 a6 qa b7 b6 qb (wa+wb)))).fst∧a≤(aA a7 a6 qa b7 b6 qb (wa+wb)).length∧(aA a7 a6 qa b7 b6 qb (wa+wb)).length-a<1000000)∧∀ (a:Nat),a≤(aA a7 a6 qa b7 b6 qb (wa+wb)).length→aG (decide ((↑a:Int)<(↑(aA a7 a6 qa b7 b6 qb (wa+wb)).length:Int))) (v31.q8 a a7 a6 qa b7 b6 qb wa wb (aG (fO bD (!false,(fH ((aA a7 a6 qa b7 b6 qb (wa+wb)).getD a (0,0,0,())).snd.fst (1:Int),fH ((aA a7 a6 qa b7 b6 qb (wa+wb)).getD a (0,0,0,())).fst (1:Int),((aA a7 a6 qa b7 b6 qb (wa+wb)).getD a (0,0,0,())).snd.snd.fst+(↑b7.length:Int)-(↑a7.length:Int),()),()) (eW bD (false,(((aA a7 a6 qa b7 b6 qb (wa+wb)).getD a (0,0,0,())).fst,((aA a7 a6 qa b7 b6 qb (wa+wb)).getD a (0,0,0,())).snd.fst,((aA a7 a6 qa b7 b6 qb (wa+wb)).getD a (0,0,0,())).snd.snd.fst,()),()) (cn (↑a7.length:Int) (↑b7.length:Int) false ([],(0:Int)) (List.take a (aA a7 a6 qa b7 b6 qb (wa+wb)))).fst)) (v31.q4 a a7 b7 a6 qa b6 qb wa wb (cn (↑a7.length:Int) (↑b7.length:Int) false ([],(0:Int)) (List.take a (aA a7 a6 qa b7 b6 qb (wa+wb)))).snd) (cE (1:Int)∧aG (!(false==false&&(fH ((aA a7 a6 qa b7 b6 qb (wa+wb)).getD a (0,0,0,())).fst (2:Int)==((aA a7 a6 qa b7 b6 qb (wa+wb)).getD a (0,0,0,())).fst&&(fH ((aA a7 a6 qa b7 b6 qb (wa+wb)).getD a (0,0,0,())).snd.fst (2:Int)==((aA a7 a6 qa b7 b6 qb (wa+wb)).getD a (0,0,0,())).snd.fst&&((↑a7.length:Int)-(↑b7.length:Int)-((aA a7 a6 qa b7 b6 qb (wa+wb)).getD a (0,0,0,())).snd.snd.fst==((aA a7 a6 qa b7 b6 qb (wa+wb)).getD a (0,0,0,())).snd.snd.fst&&true))&&true))) (uZ Tp 142 bD∧aG (fO bD (false,(fH ((aA a7 a6 qa b7 b6 qb (wa+wb)).getD a (0,0,0,())).fst (2:Int),fH ((aA a7 a6 qa b7 b6 qb (wa+wb)).getD a (0,0,0,())).snd.fst (2:Int),(↑a7.length:Int)-(↑b7.length:Int)-((aA a7 a6 qa b7 b6 qb (wa+wb)).getD a (0,0,0,())).snd.snd.fst,()),()) (eW bD (false,(((aA a7 a6 qa b7 b6 qb (wa+wb)).getD a (0,0,0,())).fst,((aA a7 a6 qa b7 b6 qb (wa+wb)).getD a (0,0,0,())).snd.fst,((aA a7 a6 qa b7 b6 qb (wa+wb)).getD a (0,0,0,())).snd.snd.fst,()),()) (cn (↑a7.length:Int) (↑b7.length:Int) false ([],(0:Int)) (List.take a (aA a7 a6 qa b7 b6 qb (wa+wb)))).fst)) (v31.q4 a a7 b7 a6 qa b6 qb wa wb (cn (↑a7.length:Int) (↑b7.length:Int) false ([],(0:Int)) (List.take a (aA a7 a6 qa b7 b6 qb (wa+wb)))).snd) (v31.q6 a7 a6 qa b7 b6 qb wa wb a)) (v31.q6 a7 a6 qa b7 b6 qb wa wb a)))) (cE (1:Int)∧((0:Int)≤1∧(1:Int)<2)∧Ok b7 b6 wb qb∧Ok a7 a6 wa qa∧v31.q7 b7 b6 (v31.q7 a7 a6 ((∃ (a_1:Nat),(cn (↑a7.length:Int) (↑b7.length:Int) false ([],(0:Int)) (List.take a (aA a7 a6 qa b7 b6 qb (wa+wb)))).snd=(cn (↑b7.length:Int) (↑a7.length:Int) true (cn (↑a7.length:Int) (↑b7.length:Int) false ([],(0:Int)) (aA a7 a6 qa b7 b6 qb (wa+wb))) (List.take a_1 (aA b7 b6 qb a7 a6 qa (wb+wa)))).snd∧0=(↑a_1:Int)∧(cn (↑a7.length:Int) (↑b7.length:Int) false ([],(0:Int)) (List.take a (aA a7 a6 qa b7 b6 qb (wa+wb)))).fst=(cn (↑b7.length:Int) (↑a7.length:Int) true (cn (↑a7.length:Int) (↑b7.length:Int) false ([],(0:Int)) (aA a7 a6 qa b7 b6 qb (wa+wb))) (List.take a_1 (aA b7 b6 qb a7 a6 qa (wb+wa)))).fst∧a_1≤(aA b7 b6 qb a7 a6 qa (wb+wa)).length∧(aA b7 b6 qb a7 a6 qa (wb+wa)).length-a_1<1000000)∧∀ (a:Nat),a≤(aA b7 b6 qb a7 a6 qa (wb+wa)).length→aG (decide ((↑a:Int)<(↑(aA b7 b6 qb a7 a6 qa (wb+wa)).length:Int))) (v31.q8 a b7 b6 qb a7 a6 qa wb wa (aG (fO bD (!true,(fH ((aA b7 b6 qb a7 a6 qa (wb+wa)).getD a (0,0,0,())).snd.fst (1:Int),fH ((aA b7 b6 qb a7 a6 qa (wb+wa)).getD a (0,0,0,())).fst (1:Int),((aA b7 b6 qb a7 a6 qa (wb+wa)).getD a (0,0,0,())).snd.snd.fst+(↑a7.length:Int)-(↑b7.length:Int),()),()) (eW bD (true,(((aA b7 b6 qb a7 a6 qa (wb+wa)).getD a (0,0,0,())).fst,((aA b7 b6 qb a7 a6 qa (wb+wa)).getD a (0,0,0,())).snd.fst,((aA b7 b6 qb a7 a6 qa (wb+wa)).getD a (0,0,0,())).snd.snd.fst,()),()) (cn (↑b7.length:Int) (↑a7.length:Int) true (cn (↑a7.length:Int) (↑b7.length:Int) false ([],(0:Int)) (aA a7 a6 qa b7 b6 qb (wa+wb))) (List.take a (aA b7 b6 qb a7 a6 qa (wb+wa)))).fst)) (v31.q3 a b7 a7 a6 qa b6 qb wa wb (cn (↑b7.length:Int) (↑a7.length:Int) true (cn (↑a7.length:Int) (↑b7.length:Int) false ([],(0:Int)) (aA a7 a6 qa b7 b6 qb (wa+wb))) (List.take a (aA b7 b6 qb a7 a6 qa (wb+wa)))).snd) (cE (1:Int)∧aG (!(true==true&&(fH ((aA b7 b6 qb a7 a6 qa (wb+wa)).getD a (0,0,0,())).fst (2:Int)==((aA b7 b6 qb a7 a6 qa (wb+wa)).getD a (0,0,0,())).fst&&(fH ((aA b7 b6 qb a7 a6 qa (wb+wa)).getD a (0,0,0,())).snd.fst (2:Int)==((aA b7 b6 qb a7 a6 qa (wb+wa)).getD a (0,0,0,())).snd.fst&&((↑b7.length:Int)-(↑a7.length:Int)-((aA b7 b6 qb a7 a6 qa (wb+wa)).getD a (0,0,0,())).snd.snd.fst==((aA b7 b6 qb a7 a6 qa (wb+wa)).getD a (0,0,0,())).snd.snd.fst&&true))&&true))) (uZ Tp 142 bD∧aG (fO bD (true,(fH ((aA b7 b6 qb a7 a6 qa (wb+wa)).getD a (0,0,0,())).fst (2:Int),fH ((aA b7 b6 qb a7 a6 qa (wb+wa)).getD a (0,0,0,())).snd.fst (2:Int),(↑b7.length:Int)-(↑a7.length:Int)-((aA b7 b6 qb a7 a6 qa (wb+wa)).getD a (0,0,0,())).snd.snd.fst,()),()) (eW bD (true,(((aA b7 b6 qb a7 a6 qa (wb+wa)).getD a (0,0,0,())).fst,((aA b7 b6 qb a7 a6 qa (wb+wa)).getD a (0,0,0,())).snd.fst,((aA b7 b6 qb a7 a6 qa (wb+wa)).getD a (0,0,0,())).snd.snd.fst,()),()) (cn (↑b7.length:Int) (↑a7.length:Int) true (cn (↑a7.length:Int) (↑b7.length:Int) false ([],(0:Int)) (aA a7 a6 qa b7 b6 qb (wa+wb))) (List.take a (aA b7 b6 qb a7 a6 qa (wb+wa)))).fst)) (v31.q3 a b7 a7 a6 qa b6 qb wa wb (cn (↑b7.length:Int) (↑a7.length:Int) true (cn (↑a7.length:Int) (↑b7.length:Int) false ([],(0:Int)) (aA a7 a6 qa b7 b6 qb (wa+wb))) (List.take a (aA b7 b6 qb a7 a6 qa (wb+wa)))).snd) (v31.q5 b7 b6 qb a7 a6 qa wb wa a)) (v31.q5 b7 b6 qb a7 a6 qa wb wa a)))) (cE (2:Int)∧(cn (↑b7.length:Int) (↑a7.length:Int) true (cn (↑a7.length:Int) (↑b7.length:Int) false ([],(0:Int)) (aA a7 a6 qa b7 b6 qb (wa+wb))) (List.take a (aA b7 b6 qb a7 a6 qa (wb+wa)))).snd=G8 a7 a6 qa b7 b6 qb wa wb∧True))))))) (by kernel_rfl) ?_
 unfold v31.q8 v31.q7 v31.q6 v31.q5 v31.q4 v31.q3 v31.q2 v31.q1
 have m0:=OE
 have r1:cE 1:=by simp only[cE]; omega
 have r2:cE 2:=by simp only[cE]; omega
 have r3:cE 3:=by simp only[cE]; omega
 have l1:=BU (w:=wa+wb) h1 h2
 have l2:=BU (w:=wb+wa) h2 h1
 have n1:=h1.n8
 have n2:=h2.n8
 simp only[bL,eq_self,true_and,and_true,eq_true m0,eq_true r1,eq_true r2,eq_true r3]
 simp only[gY]
 refine⟨⟨by omega,by omega⟩,h1,h2,⟨0,rfl,rfl,rfl,by omega,by first | omega | (dsimp only; omega)⟩,fun a ha=>⟨fun hl => ?_,fun hl => ?_⟩⟩
 ·have iy:a<(aA a7 a6 qa b7 b6 qb (wa+wb)).length:=by omega
  have hs:=Me (d:=(0,0,0,())) h1 h2 iy
  exact⟨⟨by omega,by omega⟩,hs.1,hs.2,by omega,by omega,by omega,by omega,H7 iy l1 (by decide) (by decide)⟩
 ·have iy:¬ a<(aA a7 a6 qa b7 b6 qb (wa+wb)).length:=by omega
  have e:=IK (na:=(a7.length:Int)) (nb:=(b7.length:Int)) (t:=false) (q:=([],0)) iy ha
  have b:=Ki (na:=(a7.length:Int)) (nb:=(b7.length:Int)) (t:=false) (aA a7 a6 qa b7 b6 qb (wa+wb)) ([],0)
  simp only at b
  refine⟨⟨by omega,by omega⟩,h2,h1,⟨0,by rw[e]; rfl,rfl,by rw[e]; rfl,by omega,by first | omega | (dsimp only; omega)⟩,fun a ha=>⟨fun hl => ?_,fun hl => ?_⟩⟩
  ·have iy:a<(aA b7 b6 qb a7 a6 qa (wb+wa)).length:=by omega
   have hs:=Me (d:=(0,0,0,())) h2 h1 iy
   exact⟨⟨by omega,by omega⟩,hs.1,hs.2,by omega,by omega,by omega,by omega,H7 iy l2 (by omega) (by omega)⟩
  ·have iy:¬ a<(aA b7 b6 qb a7 a6 qa (wb+wa)).length:=by omega
   rw[IK iy ha]
   rfl
end Go.Tv
end
