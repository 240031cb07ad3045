import Derived.Test.YtedcgbkilmlbhaaGreatPk10
import Derived.Test.YtedcgbkilmlbhaaGreatPk05
section
namespace Go.Tv
open Go Go.Di Go.Proofs
set_option maxRecDepth 100000
def Sd : Code → Code
 | .seq a _ => a
 | _ => .skip
def Df : Code → Code
 | .seq _ b => b
 | _ => .skip
def acu : List Code → Code → Code
 | [], r => r
 | c :: l, r => .seq c (acu l r)
noncomputable def y0 : Code := xX Tryz.f52
noncomputable def y5 : Code := Df (Df (Df (Df (Df y0))))
noncomputable def adV : List Code := [Sd y0, Sd (Df y0), Sd (Df (Df y0)), Sd (Df (Df (Df y0))), Sd (Df (Df (Df (Df y0)))), Sd (Sd y5)]
noncomputable def adI : Code := Df (Sd y5)
noncomputable def adF : Code := Sd (Df y5)
noncomputable def aed : Code := Df (Df y5)
def LT : gd := U2.cA 89 fun a => dS (D77 a)
abbrev adW (u l : TV) (w : Int) (q : TV) : List TV := [u, l, bg w, q]
def adU (u l q : List Int) (w n : Int) : List TV := Ls 60 [RF u l w q, bg n]
def zeroV : List TV := [.gZ, .gZ, bg 0, .gZ]
def adT (q : List Int) (n : Int) : List TV := ((((((List.replicate 60 TV.unk).set 1 (bg n)).set 4 (.ptr 1 0)).set 8 (.ptr 12 0)).set 41 (.sl cv q .no)).set 42 (bg q.length)).set 43 (bg 0)
def adS : List TV := ((List.replicate 60 TV.unk).set 4 (.ptr 1 0)).set 8 (.ptr 12 0)
def tSY (c : List TV) : List TB := ((List.replicate 13 TB.none).set 1 (.cells zeroV)).set 12 (.cells c)
def aee (B : List Nat) (mh : List TV) (jh : List TB) (e : DX) (te : List TV) (tS : List TB) : Prop :=
 match e with
 | .normal => JW B mh jh { sl := [] } te tS True
 | _ => False
def hdV (a : Option Addr) (k c : Nat) : TV := .val (.slice a k c)
def jY (q : List Int) (w n : Int) (a0 a1 : Option Addr) (k0 c0 k1 c1 : Nat) : List (Nat × LA) := [(0, .ex Nat fun k => .st { sl := [(43, bg k)], pl := [(12, [hdV a0 k0 c0, hdV a1 k1 c1, bg w, .sl cv (acf n (q.take k)) (.nQ 13)])], own := [(3, 1)], cB := [k ≤ q.length], m := q.length - k })]
section
variable {bF : bP} (tk : uS bF) (tr : Oc bF)
include tk tr
end
end Go.Tv
end
section
namespace Go.Tv
open Go Go.Di Go.Proofs
set_option maxRecDepth 100000
structure aei (bF:bP):Prop where
 lay:∀ (u l q:List Int) (w n:Int) d1 d2,Ok u l w q→0≤n∧n≤3→RT ej [] (RF u l w q) d1→RT ej [] (bg n) d2→∃ r,bF 52 [d1,d2]=some r∧r.pure=true∧RT ej [] (.gI [RF (aX n u l) (bk n u l) w (eY n q 4),bg 0]) r
 no:∀ (u l q:List Int) (w n:Int) d1 d2,¬ (jv u l w q=0∧0≤n∧n≤3)→RT ej [] (RF u l w q) d1→RT ej [] (bg n) d2→bF 52 [d1,d2]=none
def S52:List TV→Sp
 | [.agg [.sl (.int .i64) u .no,.sl (.int .i64) l .no,.val (.int .i64 w),.sl (.int .i64) q .no],.val (.int .i64 n)]=>some ([Ok u l w q,0≤n∧n≤3],.res (.gI [RF (aX n u l) (bk n u l) w (eY n q 4),bg 0]) [] [])
 | _=>none
theorem Pe {u l q:List Int} {w n:Int} (h:Ok u l w q) (hn:0≤n∧n≤3):Ok (aX n u l) (bk n u l) w (eY n q 4):=by
 have h1:=h.n3
 have h2:=h.n8
 have h3:=h.len
 have hlen:(aX n u l).length=u.length∧(bk n u l).length=u.length:=by
  rcases four hn with rfl | rfl | rfl | rfl<;>simp[aX,bk,h3]
 have hm:(∀ x∈aX n u l,x∈u∨x∈l)∧∀ x∈bk n u l,x∈u∨x∈l:=by
  rcases four hn with rfl | rfl | rfl | rfl<;>simp[aX,bk]<;>exact⟨fun x h=>by simp[h],fun x h=>by simp[h]⟩
 refine⟨by omega,by omega,by omega,fun x hx=>(hm.1 x hx).elim (h.hu x) (h.hl x),fun x hx=>(hm.2 x hx).elim (h.hu x) (h.hl x),h.w0,h.w2,?_,fun x hx=>(Gk.1 hx).1,ML _ _ _⟩
 obtain⟨y,hy⟩:=List.exists_mem_of_ne_nil _ h.ne
 have:=X7 (h.B5 y hy) hn
 intro e
 have:jZ y n∈eY n q 4:=Gk.2 ⟨this.1,by rw[this.2]; exact hy⟩
 rw[e] at this
 cases this
section
variable {bF:bP}
end
end Go.Tv
end
section
namespace Go.Tv
open Go Go.Di Go.Proofs
set_option maxRecDepth 100000
theorem jB {α:Type} {l:List α} {i:Nat} (d:α) (h:i<l.length):l.take (i+1)=l.take i++[l.getD i d]:=by
 rw[List.take_succ_eq_append_getElem h,aL,bK h]
 rfl
abbrev dP:aK.den:=([],[],0,[],())
def iC (l:List PD):Int:=if 4<l.length then 6 else iw l
def s8 (p:aK.den):Prop:=Ok p.1 p.2.1 p.2.2.1 p.2.2.2.1
theorem Ij {p:aK.den} (h:s8 p):dD p:=xJ h
theorem zk {l:List PD} (hh:iC l=0):l.length≤4∧∀ p∈l,s8 p:=by
 have h:=hh
 unfold iC at h
 split at h
 ·cases h
 ·refine⟨by omega,?_⟩
  clear hh
  rename_i hl
  clear hl
  induction l with
  | nil=>intro p hp; cases hp
  | cons q l ih =>
   rw[iw] at h
   split at h
   ·rename_i e; exact absurd h e
   ·rename_i e
    intro p hp
    rcases bH.1 hp with rfl | hp
    ·exact Y8.1 (Decidable.not_not.1 e)
    ·exact ih h p hp
def XX:List TV→Dn
 | [.sl (.pair (.sl (.int .i64)) (.pair (.sl (.int .i64)) (.pair (.int .i64) (.pair (.sl (.int .i64)) .unit)))) l .no]=>some ([l.length≤1000,∀ p∈l,dD p],.res (bg (iC l)) [] [],[])
 | _=>none
theorem acj:VI T6 Tryz.f50 [some cv] XX:=by
 refine fF fun a => ?_
 unfold XX
 split
 rotate_left
 ·trivial
 rename_i l
 intro hp
 refine tH (A:=ay (decide ((↑l.length:Int)>4)) (6=iC l∧True) (l.length≤1000∧(∀ (p:(aK).den),p∈l→dD p)∧iw l=iC l∧True)) (by kernel_rfl) ?_
 obtain⟨h1,h2,-⟩:=hp
 simp only[bR,and_true]
 exact⟨fun h=>by rw[iC,if_pos (by omega)],fun h=>⟨by omega,h2,by rw[iC,if_neg (by omega)]⟩⟩
theorem C9 {l:List PD} {i:Nat} {d:PD} (h:i<l.length) (h1:iw (l.take i)=0):(zO (l.getD i d)=0→iw (l.take (i+1))=0)∧(zO (l.getD i d)≠0→iw l=zO (l.getD i d)):=by
 have e:l.getD i d=l[i]:=by simp[aL,h]
 rw[e]
 constructor
 ·intro k
  rw[← List.take_append_getElem h,ou h1,iw,if_neg (fun h=>h k)]
  rfl
 ·intro k
  conv=>lhs; rw[← List.take_append_drop i l]
  rw[ou h1,mO h,iw,if_pos k]
def D51:List TV→Dn
 | [.sl (.pair (.sl (.int .i64)) (.pair (.sl (.int .i64)) (.pair (.int .i64) (.pair (.sl (.int .i64)) .unit)))) l .no]=>some ([l.length≤1000,∀ p∈l,dD p],.res (bg (iC l)) [] [],
  [(6,.ex Nat fun i => .st { sl:=[(3,bg i)],cB:=[i≤l.length,iw (l.take i)=0],m:=l.length-i })])
 | _=>none
theorem v51:VI G3 Tryz.f51 [some cv] D51:=by
 refine fF fun a => ?_
 unfold D51
 split
 rotate_left
 ·trivial
 rename_i l
 intro hp
 refine tH (A:=ay (decide ((↑l.length:Int)>4)) (6=iC l∧True) ((∃ (a:Nat),0=(↑a:Int)∧a≤l.length∧iw (List.take a l)=0∧l.length-a<1000000)∧∀ (a:Nat),a≤l.length→iw (List.take a l)=0→ay (decide ((↑a:Int)<(↑l.length:Int))) ((0≤(↑a:Int)∧(↑a:Int)<(↑l.length:Int))∧Sh (l.getD a ([],[],0,[],())).1 (l.getD a ([],[],0,[],())).2.1 (l.getD a ([],[],0,[],())).2.2.2.1∧ay (jv (l.getD a ([],[],0,[],())).1 (l.getD a ([],[],0,[],())).2.1 (l.getD a ([],[],0,[],())).2.2.1 (l.getD a ([],[],0,[],())).2.2.2.1 !=0) (jv (l.getD a ([],[],0,[],())).1 (l.getD a ([],[],0,[],())).2.1 (l.getD a ([],[],0,[],())).2.2.1 (l.getD a ([],[],0,[],())).2.2.2.1=iC l∧True) (cn ((↑a:Int)+1)∧∃ (x:Nat),l=l∧(↑a:Int)+1=(↑x:Int)∧x≤l.length∧iw (List.take x l)=0∧l.length-x<l.length-a)) (0=iC l∧True))) (by kernel_rfl) ?_
 obtain⟨h1,h2,-⟩:=hp
 change List PD at l
 simp only[bR,cF,cn,eO,and_true,true_and,eq_self]
 refine⟨fun h=>by rw[iC,if_pos (by omega)],fun h=>⟨⟨0,rfl,by omega,rfl,by omega⟩,fun i k1 k2=>⟨fun k3=>⟨by omega,eA (by omega) h2,fun k4=>⟨by omega,i+1,by omega,by omega,(C9 (by omega) k2).1 k4,by omega⟩,fun k4 => ?_⟩,fun k3 => ?_⟩⟩⟩
 ·rw[iC,if_neg (by omega)]; exact((C9 (by omega) k2).2 k4).symm
 ·rw[show i=l.length by omega,dc] at k2
  rw[iC,if_neg (by omega),k2]
theorem abk {p q:PD}:(p.1=q.1∧p.2.1=q.2.1∧p.2.2.1=q.2.2.1∧p.2.2.2.1=q.2.2.2.1)↔p=q:=by
 obtain⟨a,b,c,d,_⟩:=p
 obtain⟨a',b',c',d',_⟩:=q
 simp
def XY:List TV→Dn
 | [.sl (.pair (.sl (.int .i64)) (.pair (.sl (.int .i64)) (.pair (.int .i64) (.pair (.sl (.int .i64)) .unit)))) l .no,.sl (.pair (.sl (.int .i64)) (.pair (.sl (.int .i64)) (.pair (.int .i64) (.pair (.sl (.int .i64)) .unit)))) m .no]=>some ([l.length≤1000,m.length≤1000,∀ p∈l,dD p,∀ p∈m,dD p],.ex Bool fun b => .res (iy b) [] [b=true↔l=m],
  [(4,.ex Nat fun i => .ex Bool fun b => .st { sl:=[(5,iy b),(6,bg i)],cB:=[i≤l.length,b=true↔(l.length=m.length∧l.take i=m.take i)],m:=l.length-i })])
 | _=>none
def H1:gd:=T0.cA 48 fun a=>dS (D26 a)
theorem ack:VI H1 Tryz.f25 [some .bool] XY:=by
 refine fF fun a => ?_
 unfold XY
 split
 rotate_left
 ·trivial
 rename_i l m
 intro hp
 refine tH (A:=(∃ (a:Nat),∃ (x:Bool),((↑l.length:Int)==(↑m.length:Int))=x∧0=(↑a:Int)∧a≤l.length∧(x=true↔l.length=m.length∧List.take a l=List.take a m)∧l.length-a<1000000)∧∀ (a:Nat) (x:Bool),a≤l.length→(x=true↔l.length=m.length∧List.take a l=List.take a m)→ay x (ay (decide ((↑a:Int)<(↑l.length:Int))) ((0≤(↑a:Int)∧(↑a:Int)<(↑l.length:Int))∧(0≤(↑a:Int)∧(↑a:Int)<(↑m.length:Int))∧Sh (l.getD a ([],[],0,[],())).1 (l.getD a ([],[],0,[],())).2.1 (l.getD a ([],[],0,[],())).2.2.2.1∧Sh (m.getD a ([],[],0,[],())).1 (m.getD a ([],[],0,[],())).2.1 (m.getD a ([],[],0,[],())).2.2.2.1∧cn ((↑a:Int)+1)∧∃ (y:Nat),∃ (z:Bool),l=l∧m=m∧false=false∧decide ((l.getD a ([],[],0,[],())).1=(m.getD a ([],[],0,[],())).1∧(l.getD a ([],[],0,[],())).2.1=(m.getD a ([],[],0,[],())).2.1∧(l.getD a ([],[],0,[],())).2.2.1=(m.getD a ([],[],0,[],())).2.2.1∧(l.getD a ([],[],0,[],())).2.2.2.1=(m.getD a ([],[],0,[],())).2.2.2.1)=z∧(↑a:Int)+1=(↑y:Int)∧y≤l.length∧(z=true↔l.length=m.length∧List.take y l=List.take y m)∧l.length-y<l.length-a) (∃ (a:Bool),x=a∧(a=true↔l=m)∧True)) (∃ (a:Bool),x=a∧(a=true↔l=m)∧True)) (by kernel_rfl) ?_
 obtain⟨h1,h2,s1,s2,-⟩:=hp
 change List PD at l m
 refine⟨⟨0,_,rfl,rfl,by omega,by simp; omega,by omega⟩,fun i b h3 h4=>iG.2 ⟨fun h5=>bR.2 ⟨fun h6 => ?_,fun h6=>⟨_,rfl,?_,trivial⟩⟩,fun h5=>⟨_,rfl,?_,trivial⟩⟩⟩
 ·have h5:=h4.1 h5
  refine⟨⟨by omega,by omega⟩,⟨by omega,by omega⟩,eA (by omega) s1,eA (by omega) s2,⟨by omega,by omega⟩,i+1,_,rfl,rfl,rfl,rfl,by omega,by omega,?_,by omega⟩
  rw[decide_eq_true_iff,abk,jB dP (by omega),jB dP (by omega)]
  refine⟨fun h=>⟨h5.1,by rw[h5.2,h]⟩,fun h => ?_⟩
  have:=List.append_inj_right' h.2 rfl
  simpa using this
 ·have h5:=h4.1 h5
  have e1:=h5.2
  rw[lB (by omega),lB (by omega)] at e1
  rw[h4]
  exact⟨fun _=>e1,fun h=>h5⟩
 ·subst h5
  rw[h4]
  refine⟨fun h=>absurd (h4.2 h) (by decide),fun h => ?_⟩
  subst h
  exact absurd (h4.2 ⟨rfl,rfl⟩) (by decide)
def Yb (te:List TV) (i:Nat) (k:Nat→LA):LA :=
 match te.getD i .unk with
 | .so g _=>k g
 | _ => .un 0
def aaO (te:List TV) (i:Nat) (k:List aK.den→LA):LA :=
 match te.getD i .unk with
 | .sl (.pair (.sl (.int .i64)) (.pair (.sl (.int .i64)) (.pair (.int .i64) (.pair (.sl (.int .i64)) .unit)))) l _=>k l
 | _ => .un 0
def J16:List (Nat×LA):=[(4,.pe 1 (.dep fun te _=>Yb te 3 fun g=>aaO te 0 fun l => .ex Nat fun i => .st { sl:=[(3,.so g aK),(4,bg i)],mp:=[(g,⟨aK,l.take i⟩)],cB:=[i≤l.length],m:=l.length-i }))]
def X0:List TV→Dn
 | [.sl (.pair (.sl (.int .i64)) (.pair (.sl (.int .i64)) (.pair (.int .i64) (.pair (.sl (.int .i64)) .unit)))) l .no]=>some ([l.length≤1000,∀ p∈l,dD p],.res (.sl aK l .no) [] [],J16)
 | _=>none
def H2:gd:=T0d.cA 42 fun a=>dS (D20 a)
theorem y8 {l:List PD} {i:Nat} (h:i<l.length):l.take i++[((l.getD i dP).1,(l.getD i dP).2.1,(l.getD i dP).2.2.1,(l.getD i dP).2.2.2.1,())]=l.take (i+1):=(jB dP h).symm
def NP.q1 (p0:List (aK).den) (p1:Int) (p2 p3:Nat) (p4:Prop):Prop:=(0≤p1∧p1<(↑p0.length:Int))∧Sh (p0.getD p2 ([],[],0,[],())).1 (p0.getD p2 ([],[],0,[],())).2.1 (p0.getD p2 ([],[],0,[],())).2.2.2.1∧p3≤1000000000∧p4
theorem NP:VI H2 Tryz.f16 [some (.sl aK)] X0:=by
 refine fF fun a => ?_
 unfold X0
 split
 rotate_left
 ·trivial
 rename_i l
 intro hp
 refine tH (A:=ay (decide (0<(↑l.length:Int))) (NP.q1 l (0:Int) 0 1 (cn (1:Int)∧(∃ (a:Nat),1=(↑a:Int)∧[((l.getD 0 ([],[],0,[],())).1,(l.getD 0 ([],[],0,[],())).2.1,(l.getD 0 ([],[],0,[],())).2.2.1,(l.getD 0 ([],[],0,[],())).2.2.2.1,())]=List.take a l∧a≤l.length∧l.length-a<1000000)∧∀ (a:Nat),a≤l.length→ay (decide ((↑a:Int)<(↑l.length:Int))) (NP.q1 l (↑a:Int) a ((List.take a l).length+1) (cn ((↑a:Int)+1)∧∃ (x:Nat),l=l∧iu aK.den∧(↑a:Int)+1=(↑x:Int)∧List.take a l++[((l.getD a ([],[],0,[],())).1,(l.getD a ([],[],0,[],())).2.1,(l.getD a ([],[],0,[],())).2.2.1,(l.getD a ([],[],0,[],())).2.2.2.1,())]=List.take x l∧x≤l.length∧l.length-x<l.length-a)) (List.take a l=l∧True))) ([]=l∧True)) (by kernel_rfl) ?_
 unfold NP.q1
 obtain⟨h1,h2,-⟩:=hp
 change List PD at l
 refine bR.2 ⟨fun h=>⟨⟨by omega,by omega⟩,eA (by omega) h2,by omega,by simp only[cn]; omega,⟨1,rfl,y8 (i:=0) (by omega),by omega,by omega⟩,fun i hi=>bR.2 ⟨fun hl=>⟨⟨by omega,by omega⟩,eA (by omega) h2,by rw[gq]; omega,by simp only[cn]; omega,i+1,rfl,eO▸trivial,by omega,y8 (by omega),by omega,by omega⟩,fun hl=>⟨by rw[show i=l.length by omega,dc],trivial⟩⟩⟩,fun h=>⟨(dY (by omega)).symm,trivial⟩⟩
def aah (u l:List Int) (w:Int) (q:List Int) (n:Int):Int:=if jv u l w q≠0 then jv u l w q else if 0≤n∧n≤3 then 0 else 8
def aag (u l:List Int) (w:Int) (q:List Int) (n:Int):PD:=if jv u l w q=0∧0≤n∧n≤3 then (aX n u l,bk n u l,w,eY n q 4,()) else dP
abbrev pcT (x:PD):TV:=RF x.1 x.2.1 x.2.2.1 x.2.2.2.1
abbrev Ow (u l:List Int) (w:Int) (q:List Int) (n:Int):s7 := .ex PD fun x => .ex Int fun e => .res (.gI [pcT x,bg e]) [] [x=aag u l w q n,e=aah u l w q n]
def ael:List TV→Dn
 | [.agg [.sl (.int .i64) u .no,.sl (.int .i64) l .no,.val (.int .i64 w),.sl (.int .i64) q .no],.val (.int .i64 n)]=>some ([Sh u l q,¬ (jv u l w q=0∧0≤n∧n≤3)],Ow u l w q n,[])
 | _=>none
def adQ.q1 (p0 p1:List cv.den) (p2:Int) (p3:List cv.den) (p4 p5:Int):Prop:=∃ (a:PD),∃ (x:Int),[]=a.1∧[]=a.2.1∧0=a.2.2.1∧[]=a.2.2.2.1∧p5=x∧a=aag p0 p1 p2 p3 p4∧x=aah p0 p1 p2 p3 p4∧True
def H3:gd:=G3.cA 81 fun a=>dS (ZW a)
def aek:List TV→Dn
 | [.agg [.sl (.int .i64) u .no,.sl (.int .i64) l .no,.val (.int .i64 w),.sl (.int .i64) q .no],.val (.int .i64 n)]=>some ([Sh u l q],Ow u l w q n,[])
 | _=>none
def aej:List TV→Sp
 | [.agg [.sl (.int .i64) u .no,.sl (.int .i64) l .no,.val (.int .i64 w),.sl (.int .i64) q .no],.val (.int .i64 n)]=>some ([Sh u l q],Ow u l w q n)
 | _=>none
end Go.Tv
end
section
namespace Go.Tv
open Go Go.Di Go.Proofs
variable {P:Program}
def abH (kt:TT) (x:kt.den):List kt.den→Nat→Option (Nat×Value)
 | [],_=>none
 | y::l,i=>bif @decide (x=y) (N8 kt x y) then some (i,.bool true) else abH kt x l (i+1)
end Go.Tv
end
section
namespace Go.Tv
open Go Go.Di Go.Proofs
set_option maxRecDepth 100000
abbrev tR:Type:=Bool×(Int×Int×Int×Unit)×Unit
def o1 (na nb:Int) (x:tR):tR:=(!x.1,(jZ x.2.1.2.1 1,jZ x.2.1.1 1,x.2.1.2.2.1+nb-na,()),())
def o2 (na nb:Int) (x:tR):tR:=(x.1,(jZ x.2.1.1 2,jZ x.2.1.2.1 2,na-nb-x.2.1.2.2.1,()),())
def o3 (x:tR):tR:=(!x.1,(jZ x.2.1.2.1 3,jZ x.2.1.1 3,-x.2.1.2.2.1,()),())
def D56:List TV→Dn
 | [.agg [.val (.bool t),.val (.int .i64 u),.val (.int .i64 l),.val (.int .i64 s)],.val (.int .i64 na),.val (.int .i64 nb)]=>some ([-10000≤s,s≤10000,0≤na,na≤1000,0≤nb,nb≤1000],.res (.agg [iy (!t),bg (jZ l 1),bg (jZ u 1),bg (s+nb-na),iy t,bg (jZ u 2),bg (jZ l 2),bg (na-nb-s),iy (!t),bg (jZ l 3),bg (jZ u 3),bg (-s)]) [] [],[])
 | _=>none
def v56.q1 (p0:Bool) (p1 p2 p3 p4:Int) (p5:Prop):Prop:=p0=p0∧IntKind.i64.wrap (↑(BitVec.ofInt 64 p1 ^^^ BitVec.ofInt 64 p2).toNat:Int)=jZ p1 p2∧IntKind.i64.wrap (↑(BitVec.ofInt 64 p3 ^^^ BitVec.ofInt 64 p2).toNat:Int)=jZ p3 p2∧p4=p4∧p5
def bp (ua la qa ub lb qb:List Int) (w:Int):List (Int×Int×Int×Unit):=qa.flatMap fun x=>qb.flatMap fun y=>(pI (bk x ua la) (aX y ub lb) w (ub.length+ua.length+1)).map fun s=>(x,y,s,())
structure XN (bF:bP):Prop where
 VA:∀ (ua la qa ub lb qb:List Int) (wa wb:Int) d1 d2,Ok ua la wa qa→Ok ub lb wb qb→RT ej [] (Zn ua la wa qa) d1→RT ej [] (Zn ub lb wb qb) d2→∃ r,bF 60 [d1,d2]=some r∧r.pure=true∧RT ej [] (.sl jQ (bp ua la qa ub lb qb (wa+wb)) .no) r
def S60:List TV→Sp
 | [.agg [.sl (.int .i64) ua .no,.sl (.int .i64) la .no,.val (.int .i64 wa),.sl (.int .i64) qa .no,.sl (.int .i64) a0 .no,.sl (.int .i64) a1 .no,.sl (.int .i64) a2 .no,.sl (.int .i64) a3 .no,.sl (.int .i64) a4 .no,.sl (.int .i64) a5 .no,.sl (.int .i64) a6 .no,.sl (.int .i64) a7 .no],.agg [.sl (.int .i64) ub .no,.sl (.int .i64) lb .no,.val (.int .i64 wb),.sl (.int .i64) qb .no,.sl (.int .i64) b0 .no,.sl (.int .i64) b1 .no,.sl (.int .i64) b2 .no,.sl (.int .i64) b3 .no,.sl (.int .i64) b4 .no,.sl (.int .i64) b5 .no,.sl (.int .i64) b6 .no,.sl (.int .i64) b7 .no]]=>some ([Ok ua la wa qa,Ok ub lb wb qb,a0=ua,a1=la,a2=la.reverse,a3=ua.reverse,a4=ua.reverse,a5=la.reverse,a6=la,a7=ua,b0=ub,b1=lb,b2=lb.reverse,b3=ub.reverse,b4=ub.reverse,b5=lb.reverse,b6=lb,b7=ub],.res (.sl jQ (bp ua la qa ub lb qb (wa+wb)) .no) [] [])
 | _=>none
theorem mE {α β:Type} {f:α→List β} {c:Nat}:∀ {l:List α},(∀ x∈l,(f x).length≤c)→(l.flatMap f).length≤l.length*c
 | [],_=>by simp
 | x::l,h=>by
  have h1:=h x (by simp)
  have h2:=mE (f:=f) (l:=l) fun y hy=>h y (by simp[hy])
  rw[fP,bU,List.length_cons,iZ]
  omega
theorem KQ:∀ (l:List Int) (c:Int),(∀ x∈l,c≤x∧x≤3)→l.Pairwise (· < ·)→(l.length:Int)≤max 0 (4-c)
 | [],c,_,_=>by simp; omega
 | x::l,c,h,hp=>by
  have h1:=h x (by simp)
  rw[List.pairwise_cons] at hp
  have h2:=KQ l (x+1) (fun y hy=>⟨hp.1 y hy,(h y (by simp[hy])).2⟩) hp.2
  rw[List.length_cons]
  omega
theorem q_len {u l q:List Int} {w:Int} (h:Ok u l w q):q.length≤4:=by
 have:=KQ q 0 h.B5 h.WY
 omega
theorem Qp {ua la qa ub lb qb:List Int} {w wa wb:Int} (ha:Ok ua la wa qa) (hb:Ok ub lb wb qb):(bp ua la qa ub lb qb w).length≤272:=by
 have h1:=q_len ha
 have h2:=q_len hb
 have h3:=ha.n8
 have h4:=hb.n8
 unfold bp
 refine aM (mE (c:=68) fun i _ => ?_) (by omega)
 refine aM (mE (c:=17) fun j _ => ?_) (by omega)
 rw[gp,pI]
 refine aM (pY _ _) ?_
 simp only[gp,List.length_range]
 omega
def eqW (x y:tR):Bool:=(x.1==y.1)&&(((x.2.1.1==y.2.1.1)&&((x.2.1.2.1==y.2.1.2.1)&&((x.2.1.2.2.1==y.2.1.2.2.1)&&true)))&&true)
def aaU (na nb:Int) (q:List tR×Int) (w:tR):List tR×Int :=
 (yC mm w q.1,bif BN mm (o1 na nb w) (yC mm w q.1) then q.2 else bif (!eqW (o2 na nb w) w&&BN mm (o2 na nb w) (yC mm w q.1)) then q.2 else bif BN mm (o3 w) (yC mm w q.1) then q.2 else q.2+1)
def jw (na nb:Int) (t:Bool) (q:List tR×Int) (l:List (Int×Int×Int×Unit)):List tR×Int:=l.foldl (fun q s=>aaU na nb q (t,s,())) q
def aaT (ua la qa ub lb qb:List Int) (wa wb:Int):Int:=(jw ub.length ua.length true (jw ua.length ub.length false ([],0) (bp ua la qa ub lb qb (wa+wb))) (bp ub lb qb ua la qa (wb+wa))).2
section
variable {na nb:Int} {t:Bool} {q:List tR×Int} {l:List (Int×Int×Int×Unit)} {i:Nat}
variable {w:tR}
end
def adP (na nb:Int) (t:Bool) (q:List tR×Int) (l:List (Int×Int×Int×Unit)) (i:Nat) (d:Int×Int×Int×Unit) (v:Int):Prop :=
 cn ((i:Int)+1)∧∃ j:Nat,v=(jw na nb t q (l.take j)).2∧(i:Int)+1=(j:Int)∧yC mm (t,l.getD i d,()) (jw na nb t q (l.take i)).1=(jw na nb t q (l.take j)).1∧j≤l.length∧l.length-j<l.length-i
def F1:gd:=(T0.cA 110 fun a=>dS (D56 a)).cA 60 S60
def D31:List TV→Dn
 | [.agg [.sl (.int .i64) ua .no,.sl (.int .i64) la .no,.val (.int .i64 wa),.sl (.int .i64) qa .no,.sl (.int .i64) a0 .no,.sl (.int .i64) a1 .no,.sl (.int .i64) a2 .no,.sl (.int .i64) a3 .no,.sl (.int .i64) a4 .no,.sl (.int .i64) a5 .no,.sl (.int .i64) a6 .no,.sl (.int .i64) a7 .no],.agg [.sl (.int .i64) ub .no,.sl (.int .i64) lb .no,.val (.int .i64 wb),.sl (.int .i64) qb .no,.sl (.int .i64) b0 .no,.sl (.int .i64) b1 .no,.sl (.int .i64) b2 .no,.sl (.int .i64) b3 .no,.sl (.int .i64) b4 .no,.sl (.int .i64) b5 .no,.sl (.int .i64) b6 .no,.sl (.int .i64) b7 .no]]=>some ([Ok ua la wa qa,Ok ub lb wb qb,a0=ua,a1=la,a2=la.reverse,a3=ua.reverse,a4=ua.reverse,a5=la.reverse,a6=la,a7=ua,b0=ub,b1=lb,b2=lb.reverse,b3=ub.reverse,b4=ub.reverse,b5=lb.reverse,b6=lb,b7=ub],.res (bg (aaT ua la qa ub lb qb wa wb)) [] [],
  [(5,.un 3),(24,.un 4),(15,.dep fun te _=>match te.getD 8 .unk with
   | .val (.bool true) => .ex Nat fun i => .st { sl:=[(32,bg i),(6,bg (jw ub.length ua.length true (jw ua.length ub.length false ([],0) (bp ua la qa ub lb qb (wa+wb))) ((bp ub lb qb ua la qa (wb+wa)).take i)).2)],mp:=[(2,⟨mm,(jw ub.length ua.length true (jw ua.length ub.length false ([],0) (bp ua la qa ub lb qb (wa+wb))) ((bp ub lb qb ua la qa (wb+wa)).take i)).1⟩)],cB:=[i≤(bp ub lb qb ua la qa (wb+wa)).length],m:=(bp ub lb qb ua la qa (wb+wa)).length-i }
   | _ => .ex Nat fun i => .st { sl:=[(32,bg i),(6,bg (jw ua.length ub.length false ([],0) ((bp ua la qa ub lb qb (wa+wb)).take i)).2)],mp:=[(2,⟨mm,(jw ua.length ub.length false ([],0) ((bp ua la qa ub lb qb (wa+wb)).take i)).1⟩)],cB:=[i≤(bp ua la qa ub lb qb (wa+wb)).length],m:=(bp ua la qa ub lb qb (wa+wb)).length-i })])
 | _=>none
def v31.q1 (p0 p1:List cv.den) (p2:Int) (p3:List cv.den) (p4:Prop):Prop:=p0=p0∧p1=p1∧p2=p2∧p3=p3∧p0=p0∧p1=p1∧p1.reverse=p1.reverse∧p0.reverse=p0.reverse∧p0.reverse=p0.reverse∧p1.reverse=p1.reverse∧p1=p1∧p0=p0∧p4
def v31.q2 (p0 p1:List cv.den) (p2:Int) (p3 p4 p5:List cv.den) (p6:Int) (p7:List cv.den) (p8:Prop):Prop:=v31.q1 p0 p1 p2 p3 (v31.q1 p4 p5 p6 p7 p8)
def v31.q3 (p0:Nat) (p1 p2 p3 p4 p5 p6:List cv.den) (p7 p8 p9:Int):Prop:=cn ((↑p0:Int)+1)∧∃ (a:Nat),(0:Int)=0∧p9=(jw (↑p1.length:Int) (↑p2.length:Int) true (jw (↑p2.length:Int) (↑p1.length:Int) false ([],(0:Int)) (bp p2 p3 p4 p1 p5 p6 (p7+p8))) (List.take a (bp p1 p5 p6 p2 p3 p4 (p8+p7)))).2∧true=true∧[false,true]=[false,true]∧(2:Int)=2∧(1:Int)=1∧true=true∧[false,true]=[false,true]∧1=1∧0=0∧true=true∧v31.q2 p2 p3 p7 p4 p1 p5 p8 p6 (true=true∧v31.q2 p1 p5 p8 p6 p2 p3 p7 p4 (v31.q2 p1 p5 p8 p6 p2 p3 p7 p4 (bp p1 p5 p6 p2 p3 p4 (p8+p7)=bp p1 p5 p6 p2 p3 p4 (p8+p7)∧(↑(bp p1 p5 p6 p2 p3 p4 (p8+p7)).length:Int)=(↑(bp p1 p5 p6 p2 p3 p4 (p8+p7)).length:Int)∧(↑p0:Int)+1=(↑a:Int)∧(1:Int)=1∧v31.q2 p2 p3 p7 p4 p1 p5 p8 p6 (yC mm (true,(((bp p1 p5 p6 p2 p3 p4 (p8+p7)).getD p0 (0,0,0,())).1,((bp p1 p5 p6 p2 p3 p4 (p8+p7)).getD p0 (0,0,0,())).2.1,((bp p1 p5 p6 p2 p3 p4 (p8+p7)).getD p0 (0,0,0,())).2.2.1,()),()) (jw (↑p1.length:Int) (↑p2.length:Int) true (jw (↑p2.length:Int) (↑p1.length:Int) false ([],(0:Int)) (bp p2 p3 p4 p1 p5 p6 (p7+p8))) (List.take p0 (bp p1 p5 p6 p2 p3 p4 (p8+p7)))).1=(jw (↑p1.length:Int) (↑p2.length:Int) true (jw (↑p2.length:Int) (↑p1.length:Int) false ([],(0:Int)) (bp p2 p3 p4 p1 p5 p6 (p7+p8))) (List.take a (bp p1 p5 p6 p2 p3 p4 (p8+p7)))).1∧v31.q2 p2 p3 p7 p4 p1 p5 p8 p6 (v31.q2 p1 p5 p8 p6 p2 p3 p7 p4 (a≤(bp p1 p5 p6 p2 p3 p4 (p8+p7)).length∧(bp p1 p5 p6 p2 p3 p4 (p8+p7)).length-a<(bp p1 p5 p6 p2 p3 p4 (p8+p7)).length-p0))))))
def v31.q4 (p0:Nat) (p1 p2 p3 p4 p5 p6:List cv.den) (p7 p8 p9:Int):Prop:=cn ((↑p0:Int)+1)∧∃ (a:Nat),(0:Int)=0∧p9=(jw (↑p1.length:Int) (↑p2.length:Int) false ([],(0:Int)) (List.take a (bp p1 p3 p4 p2 p5 p6 (p7+p8)))).2∧false=false∧[false,true]=[false,true]∧(2:Int)=2∧(0:Int)=0∧true=true∧[false,true]=[false,true]∧0=0∧0=0∧false=false∧v31.q2 p1 p3 p7 p4 p2 p5 p8 p6 (false=false∧v31.q2 p1 p3 p7 p4 p2 p5 p8 p6 (bp p1 p3 p4 p2 p5 p6 (p7+p8)=bp p1 p3 p4 p2 p5 p6 (p7+p8)∧(↑(bp p1 p3 p4 p2 p5 p6 (p7+p8)).length:Int)=(↑(bp p1 p3 p4 p2 p5 p6 (p7+p8)).length:Int)∧(↑p0:Int)+1=(↑a:Int)∧v31.q2 p1 p3 p7 p4 p2 p5 p8 p6 (yC mm (false,(((bp p1 p3 p4 p2 p5 p6 (p7+p8)).getD p0 (0,0,0,())).1,((bp p1 p3 p4 p2 p5 p6 (p7+p8)).getD p0 (0,0,0,())).2.1,((bp p1 p3 p4 p2 p5 p6 (p7+p8)).getD p0 (0,0,0,())).2.2.1,()),()) (jw (↑p1.length:Int) (↑p2.length:Int) false ([],(0:Int)) (List.take p0 (bp p1 p3 p4 p2 p5 p6 (p7+p8)))).1=(jw (↑p1.length:Int) (↑p2.length:Int) false ([],(0:Int)) (List.take a (bp p1 p3 p4 p2 p5 p6 (p7+p8)))).1∧v31.q2 p1 p3 p7 p4 p2 p5 p8 p6 (a≤(bp p1 p3 p4 p2 p5 p6 (p7+p8)).length∧(bp p1 p3 p4 p2 p5 p6 (p7+p8)).length-a<(bp p1 p3 p4 p2 p5 p6 (p7+p8)).length-p0))))
def v31.q5 (p0 p1 p2 p3 p4 p5:List cv.den) (p6 p7:Int) (p8:Nat):Prop:=cn (2:Int)∧Cr Tp 142 mm∧ay (BN mm (!true,(jZ ((bp p0 p1 p2 p3 p4 p5 (p6+p7)).getD p8 (0,0,0,())).2.1 (3:Int),jZ ((bp p0 p1 p2 p3 p4 p5 (p6+p7)).getD p8 (0,0,0,())).1 (3:Int),-((bp p0 p1 p2 p3 p4 p5 (p6+p7)).getD p8 (0,0,0,())).2.2.1,()),()) (yC mm (true,(((bp p0 p1 p2 p3 p4 p5 (p6+p7)).getD p8 (0,0,0,())).1,((bp p0 p1 p2 p3 p4 p5 (p6+p7)).getD p8 (0,0,0,())).2.1,((bp p0 p1 p2 p3 p4 p5 (p6+p7)).getD p8 (0,0,0,())).2.2.1,()),()) (jw (↑p0.length:Int) (↑p3.length:Int) true (jw (↑p3.length:Int) (↑p0.length:Int) false ([],(0:Int)) (bp p3 p4 p5 p0 p1 p2 (p7+p6))) (List.take p8 (bp p0 p1 p2 p3 p4 p5 (p6+p7)))).1)) (v31.q3 p8 p0 p3 p4 p5 p1 p2 p7 p6 (jw (↑p0.length:Int) (↑p3.length:Int) true (jw (↑p3.length:Int) (↑p0.length:Int) false ([],(0:Int)) (bp p3 p4 p5 p0 p1 p2 (p7+p6))) (List.take p8 (bp p0 p1 p2 p3 p4 p5 (p6+p7)))).2) (cn (3:Int)∧cn ((jw (↑p0.length:Int) (↑p3.length:Int) true (jw (↑p3.length:Int) (↑p0.length:Int) false ([],(0:Int)) (bp p3 p4 p5 p0 p1 p2 (p7+p6))) (List.take p8 (bp p0 p1 p2 p3 p4 p5 (p6+p7)))).2+1)∧v31.q3 p8 p0 p3 p4 p5 p1 p2 p7 p6 ((jw (↑p0.length:Int) (↑p3.length:Int) true (jw (↑p3.length:Int) (↑p0.length:Int) false ([],(0:Int)) (bp p3 p4 p5 p0 p1 p2 (p7+p6))) (List.take p8 (bp p0 p1 p2 p3 p4 p5 (p6+p7)))).2+1))
def v31.q6 (p0 p1 p2 p3 p4 p5:List cv.den) (p6 p7:Int) (p8:Nat):Prop:=cn (2:Int)∧Cr Tp 142 mm∧ay (BN mm (!false,(jZ ((bp p0 p1 p2 p3 p4 p5 (p6+p7)).getD p8 (0,0,0,())).2.1 (3:Int),jZ ((bp p0 p1 p2 p3 p4 p5 (p6+p7)).getD p8 (0,0,0,())).1 (3:Int),-((bp p0 p1 p2 p3 p4 p5 (p6+p7)).getD p8 (0,0,0,())).2.2.1,()),()) (yC mm (false,(((bp p0 p1 p2 p3 p4 p5 (p6+p7)).getD p8 (0,0,0,())).1,((bp p0 p1 p2 p3 p4 p5 (p6+p7)).getD p8 (0,0,0,())).2.1,((bp p0 p1 p2 p3 p4 p5 (p6+p7)).getD p8 (0,0,0,())).2.2.1,()),()) (jw (↑p0.length:Int) (↑p3.length:Int) false ([],(0:Int)) (List.take p8 (bp p0 p1 p2 p3 p4 p5 (p6+p7)))).1)) (v31.q4 p8 p0 p3 p1 p2 p4 p5 p6 p7 (jw (↑p0.length:Int) (↑p3.length:Int) false ([],(0:Int)) (List.take p8 (bp p0 p1 p2 p3 p4 p5 (p6+p7)))).2) (cn (3:Int)∧cn ((jw (↑p0.length:Int) (↑p3.length:Int) false ([],(0:Int)) (List.take p8 (bp p0 p1 p2 p3 p4 p5 (p6+p7)))).2+1)∧v31.q4 p8 p0 p3 p1 p2 p4 p5 p6 p7 ((jw (↑p0.length:Int) (↑p3.length:Int) false ([],(0:Int)) (List.take p8 (bp p0 p1 p2 p3 p4 p5 (p6+p7)))).2+1))
def v31.q7 (p0 p1:List cv.den) (p2:Prop):Prop:=p0=p0∧p1=p1∧p1.reverse=p1.reverse∧p0.reverse=p0.reverse∧p0.reverse=p0.reverse∧p1.reverse=p1.reverse∧p1=p1∧p0=p0∧p2
def v31.q8 (p0:Nat) (p1 p2 p3 p4 p5 p6:List cv.den) (p7 p8:Int) (p9:Prop):Prop:=(0≤(↑p0:Int)∧(↑p0:Int)<(↑(bp p1 p2 p3 p4 p5 p6 (p7+p8)).length:Int))∧Cr Tp 142 mm∧(-10000:Int)≤((bp p1 p2 p3 p4 p5 p6 (p7+p8)).getD p0 (0,0,0,())).2.2.1∧((bp p1 p2 p3 p4 p5 p6 (p7+p8)).getD p0 (0,0,0,())).2.2.1≤10000∧0≤(↑p1.length:Int)∧(↑p1.length:Int)≤1000∧0≤(↑p4.length:Int)∧(↑p4.length:Int)≤1000∧Cr Tp 142 mm∧p9
end Go.Tv
end
section
namespace Go.Tv
open Go Go.Di Go.Proofs
set_option maxRecDepth 100000
def ei (l:List PD) (a b:Int):Int:=if iC l≠0 then iC l else if 0≤a∧a<l.length∧0≤b∧b<l.length then (if a=b then 4 else 0) else 3
theorem Ks {l:List PD} {a b:Int} (h:ei l a b=0):l.length≤4∧(∀ p∈l,s8 p)∧0≤a∧a<l.length∧0≤b∧b<l.length∧a≠b:=by
  unfold ei at h
  split at h
  · rename_i h0; exact absurd h h0
  · rename_i h0
    have h0:=Decidable.not_not.1 h0
    obtain⟨h1,h2⟩:=zk h0
    split at h
    · rename_i h3
      split at h
      · cases h
      · rename_i h4; exact⟨h1,h2,h3.1,h3.2.1,h3.2.2.1,h3.2.2.2,h4⟩
    · cases h
def Q0:gd:=T6.cA 50 fun a=>dS (XX a)
def HX:List TV→Dn
  | [.sl (.pair (.sl (.int .i64)) (.pair (.sl (.int .i64)) (.pair (.int .i64) (.pair (.sl (.int .i64)) .unit)))) l .no,.val (.int .i64 a),.val (.int .i64 b)]=>some ([l.length≤1000,∀ p∈l,dD p],.ex Int fun e => .res (bg e) [] [e=ei l a b],[])
  | _=>none
theorem aci:VI Q0 Tryz.f59 [some cv] HX:=by
  refine fF fun a => ?_
  unfold HX
  split
  rotate_left
  · trivial
  rename_i l x y
  intro hp
  refine tH (A:=l.length≤1000∧(∀ (p:(aK).den),p∈l→dD p)∧ay (iC l !=0) (∃ (a:Int),iC l=a∧a=ei l x y∧True) (ay (decide (x<0)) (∃ (a:Int),3=a∧a=ei l x y∧True) (ay (decide (y<0)) (∃ (a:Int),3=a∧a=ei l x y∧True) (ay (decide (x≥(↑l.length:Int))) (∃ (a:Int),3=a∧a=ei l x y∧True) (ay (decide (y≥(↑l.length:Int))) (∃ (a:Int),3=a∧a=ei l x y∧True) (ay (x==y) (∃ (a:Int),4=a∧a=ei l x y∧True) (∃ (a:Int),0=a∧a=ei l x y∧True))))))) (by kernel_rfl) ?_
  obtain⟨h1,h2,-⟩:=hp
  have e3:iC l=0→¬(0≤x∧x<l.length∧0≤y∧y<l.length)→3=ei l x y:=fun h0 h=>by rw[ei,if_neg (fun k=>k h0),if_neg h]
  simp only[cF,bR,cZ]
  exact⟨h1,h2,fun h0=>⟨fun h=>⟨_,rfl,e3 h0 (by omega),trivial⟩,fun a1=>⟨fun h=>⟨_,rfl,e3 h0 (by omega),trivial⟩,fun a2=>⟨fun h=>⟨_,rfl,e3 h0 (by omega),trivial⟩,fun a3=>⟨fun h=>⟨_,rfl,e3 h0 (by omega),trivial⟩,fun a4=>⟨fun h=>⟨_,rfl,by rw[ei,if_neg (fun k=>k h0),if_pos (by omega),if_pos h],trivial⟩,fun h=>⟨_,rfl,by rw[ei,if_neg (fun k=>k h0),if_pos (by omega),if_neg h],trivial⟩⟩⟩⟩⟩⟩,fun h=>⟨_,rfl,by rw[ei,if_pos h],trivial⟩⟩
def Q1:gd:=G3.cA 51 fun a=>dS (D51 a)
theorem ach:VI Q1 Tryz.f62 [some cv] HX:=by
  refine fF fun a => ?_
  unfold HX
  split
  rotate_left
  · trivial
  rename_i l x y
  intro hp
  refine tH (A:=l.length≤1000∧(∀ (p:(aK).den),p∈l→dD p)∧ay (iC l !=0) (∃ (a:Int),iC l=a∧a=ei l x y∧True) (cn ((↑l.length:Int)-1)∧ay (!decide (0≤x∧x≤(↑l.length:Int)-1)) (∃ (a:Int),3=a∧a=ei l x y∧True) (cn ((↑l.length:Int)-1)∧ay (!decide (0≤y∧y≤(↑l.length:Int)-1)) (∃ (a:Int),3=a∧a=ei l x y∧True) (ay (x==y) (∃ (a:Int),4=a∧a=ei l x y∧True) (∃ (a:Int),0=a∧a=ei l x y∧True))))) (by kernel_rfl) ?_
  obtain⟨h1,h2,-⟩:=hp
  have e3:iC l=0→¬(0≤x∧x<l.length∧0≤y∧y<l.length)→3=ei l x y:=fun h0 h=>by rw[ei,if_neg (fun k=>k h0),if_neg h]
  simp only[cF,bR,dH,cZ,cn]
  exact⟨h1,h2,fun h0=>⟨⟨by omega,by omega⟩,fun a1=>⟨⟨by omega,by omega⟩,fun a2=>⟨fun h=>⟨_,rfl,by rw[ei,if_neg (fun k=>k h0),if_pos (by omega),if_pos h],trivial⟩,fun h=>⟨_,rfl,by rw[ei,if_neg (fun k=>k h0),if_pos (by omega),if_neg h],trivial⟩⟩,fun h=>⟨_,rfl,e3 h0 (by omega),trivial⟩⟩,fun h=>⟨_,rfl,e3 h0 (by omega),trivial⟩⟩,fun h=>⟨_,rfl,by rw[ei,if_pos h],trivial⟩⟩
abbrev nD:Type:=Int×Int×Int×Unit
def ct (p q:PD):List nD:=bp p.1 p.2.1 p.2.2.2.1 q.1 q.2.1 q.2.2.2.1 (p.2.2.1+q.2.2.1)
def aa2 (l:List PD) (a b:Int):List nD:=if ei l a b=0 then ct (l.getD a.toNat dP) (l.getD b.toNat dP) else []
theorem CC {p q:PD} (h1:s8 p) (h2:s8 q):(ct p q).length≤272:=Qp h1 h2
def Q2:gd:=((Q0.cA 59 fun a=>dS (HX a)).cA 61 fun a=>dS (ZU a)).cA 60 S60
def aem:List TV→Dn
  | [.sl (.pair (.sl (.int .i64)) (.pair (.sl (.int .i64)) (.pair (.int .i64) (.pair (.sl (.int .i64)) .unit)))) l .no,.val (.int .i64 a),.val (.int .i64 b)]=>some ([l.length≤1000,∀ p∈l,dD p],.ex (List jQ.den) fun x => .ex Int fun e => .res (.gI [.sl jQ x .no,bg e]) [] [x=aa2 l a b,e=ei l a b],[])
  | _=>none
def yA.q1 (p0:bG.den) (p1:Prop):Prop:=List.reverse p0=List.reverse p0∧p1
def yA.q2 (p0:bG.den):Prop:=p0=p0
def yA.q3 (p0:List (aK).den) (p1:Int) (p2:Prop):Prop:=yA.q2 (p0.getD p1.toNat ([],[],0,[],())).1∧yA.q2 (p0.getD p1.toNat ([],[],0,[],())).2.1∧yA.q1 (p0.getD p1.toNat ([],[],0,[],())).2.1 (yA.q1 (p0.getD p1.toNat ([],[],0,[],())).1 (yA.q1 (p0.getD p1.toNat ([],[],0,[],())).1 (yA.q1 (p0.getD p1.toNat ([],[],0,[],())).2.1 (yA.q2 (p0.getD p1.toNat ([],[],0,[],())).2.1∧yA.q2 (p0.getD p1.toNat ([],[],0,[],())).1∧p2))))
def yA.q4 (p0:List (aK).den) (p1:Int):Prop:=Ok (p0.getD p1.toNat ([],[],0,[],())).1 (p0.getD p1.toNat ([],[],0,[],())).2.1 (p0.getD p1.toNat ([],[],0,[],())).2.2.1 (p0.getD p1.toNat ([],[],0,[],())).2.2.2.1
def yA.q5 (p0:List (aK).den) (p1:Int) (p2:Prop):Prop:=(0≤p1∧p1<(↑p0.length:Int))∧List.length (p0.getD p1.toNat ([],[],0,[],())).fst≤1000∧List.length (p0.getD p1.toNat ([],[],0,[],())).snd.fst≤1000∧p2
section
variable (p q:PD)
def E4 (x y:Nat):List Int:=pI (bk (p.2.2.2.1.getD x 0) p.1 p.2.1) (aX (q.2.2.2.1.getD y 0) q.1 q.2.1) (p.2.2.1+q.2.2.1) (q.1.length+p.1.length+1)
def Dg (x y k:Nat):List nD:=((E4 p q x y).take k).map fun s=>(p.2.2.2.1.getD x 0,q.2.2.2.1.getD y 0,s,())
def zw (x y:Nat):List nD:=(q.2.2.2.1.take y).flatMap fun v=>(pI (bk (p.2.2.2.1.getD x 0) p.1 p.2.1) (aX v q.1 q.2.1) (p.2.2.1+q.2.2.1) (q.1.length+p.1.length+1)).map fun s=>(p.2.2.2.1.getD x 0,v,s,())
def wo (x:Nat):List nD:=(p.2.2.2.1.take x).flatMap fun u=>q.2.2.2.1.flatMap fun v=>(pI (bk u p.1 p.2.1) (aX v q.1 q.2.1) (p.2.2.1+q.2.2.1) (q.1.length+p.1.length+1)).map fun s=>(u,v,s,())
end
section
variable {p q:PD} {x y k:Nat}
theorem QC (h:k<(E4 p q x y).length):Dg p q x y k++[(p.2.2.2.1.getD x 0,q.2.2.2.1.getD y 0,(E4 p q x y).getD k 0,())]=Dg p q x y (k+1):=by
  rw[Dg,Dg,jB 0 h,gM]; rfl
theorem QD (h:y<q.2.2.2.1.length):zw p q x y++Dg p q x y (E4 p q x y).length=zw p q x (y+1):=by
  rw[zw,zw,jB 0 h,List.flatMap_append,Dg,dc]; simp[E4]
theorem QE (h:x<p.2.2.2.1.length):wo p q x++zw p q x q.2.2.2.1.length=wo p q (x+1):=by
  rw[wo,wo,jB 0 h,List.flatMap_append,zw,dc]; simp
theorem QF:wo p q p.2.2.2.1.length=ct p q:=by
  rw[wo,dc]; rfl
theorem SD {la ub:List Int} {w:Int} {n:Nat}:(pI la ub w n).length≤n:=by
  rw[pI]
  refine aM (pY _ _) ?_
  simp
theorem YF (h1:s8 p) (h2:s8 q):(wo p q x++zw p q x y++Dg p q x y k).length≤1000:=by
  have l1:=q_len h1
  have l2:=q_len h2
  have n1:=h1.n8
  have n2:=h2.n8
  have e1:(wo p q x).length≤4*68:=by
    refine aM (mE (c:=68) fun i _ => ?_) (ew _ (aM (List.length_take_le' ..) l1))
    refine aM (mE (c:=17) fun j _ => ?_) (ew 17 l2)
    rw[gp]
    exact aM SD (by omega)
  have e2:(zw p q x y).length≤4*17:=by
    refine aM (mE (c:=17) fun j _ => ?_) (ew 17 (aM (List.length_take_le' ..) l2))
    rw[gp]
    exact aM SD (by omega)
  have e3:(Dg p q x y k).length≤17:=by
    rw[Dg,gp]
    refine aM (List.length_take_le' ..) ?_
    exact aM SD (by omega)
  rw[bU,bU]
  omega
end
def Q3:gd:=((T0.cA 81 fun a=>dS (ZW a)).cA 109 fun a=>dS (D66 a))
def XV:List TV→Dn
  | [.agg [.sl (.int .i64) ua .no,.sl (.int .i64) la .no,.val (.int .i64 wa),.sl (.int .i64) qa .no],.agg [.sl (.int .i64) ub .no,.sl (.int .i64) lb .no,.val (.int .i64 wb),.sl (.int .i64) qb .no]]=>some ([Ok ua la wa qa,Ok ub lb wb qb],.res (.sl jQ (ct (pd ua la wa qa) (pd ub lb wb qb)) .no) [] [],
    [(4,.ex Nat fun x => .st { sl:=[(5,.sl jQ (wo (pd ua la wa qa) (pd ub lb wb qb) x) (.nQ 2)),(6,bg x)],own:=[(79,3)],cB:=[x≤qa.length],m:=qa.length-x }),
     (9,.dep fun te _=>jx te 6 fun x => .ex Nat fun y => .st { sl:=[(5,.sl jQ (wo (pd ua la wa qa) (pd ub lb wb qb) x++zw (pd ua la wa qa) (pd ub lb wb qb) x y) (.nQ 2)),(7,bg y)],cB:=[y≤qb.length],m:=qb.length-y }),
     (15,.dep fun te _=>jx te 6 fun x=>jx te 7 fun y => .ex Nat fun k => .st { sl:=[(5,.sl jQ (wo (pd ua la wa qa) (pd ub lb wb qb) x++zw (pd ua la wa qa) (pd ub lb wb qb) x y++Dg (pd ua la wa qa) (pd ub lb wb qb) x y k) (.nQ 2)),(9,bg k)],cB:=[k≤(E4 (pd ua la wa qa) (pd ub lb wb qb) x y).length],m:=(E4 (pd ua la wa qa) (pd ub lb wb qb) x y).length-k })])
  | _=>none
def uO.q1 (p0 p1:List cv.den) (p2:Int) (p3:List cv.den) (p4:Nat) (p5:Prop):Prop:=p0=p0∧p1=p1∧p2=p2∧p3=p3∧p3=p3∧(↑p4:Int)=(↑p4:Int)∧p3=p3∧p4=p4∧0=0∧p3.getD p4 0=p3.getD p4 0∧aX (p3.getD p4 0) p0 p1=aX (p3.getD p4 0) p0 p1∧bk (p3.getD p4 0) p0 p1=bk (p3.getD p4 0) p0 p1∧p2=p2∧eY (p3.getD p4 0) p3 4=eY (p3.getD p4 0) p3 4∧p5
def uO.q2 (p0:List cv.den) (p1:Nat) (p2 p3 p4:List cv.den) (p5:Nat) (p6 p7:List cv.den) (p8 p9:Int) (mQ:Prop):Prop:=pI (bk (p0.getD p1 0) p2 p3) (aX (p4.getD p5 0) p6 p7) (p8+p9) ((aX (p4.getD p5 0) p6 p7).length+(bk (p0.getD p1 0) p2 p3).length+1)=pI (bk (p0.getD p1 0) p2 p3) (aX (p4.getD p5 0) p6 p7) (p8+p9) ((aX (p4.getD p5 0) p6 p7).length+(bk (p0.getD p1 0) p2 p3).length+1)∧mQ
def uO.q3 (p0 p1:List cv.den) (p2:Int) (p3 p4 p5:List cv.den) (p6:Int) (p7:List cv.den) (p8 p9 mQ:Nat):Prop:=p0=p0∧p1=p1∧p2=p2∧p3=p3∧p4=p4∧p5=p5∧p6=p6∧p7=p7∧p8≤p9∧p9-p8<p9-mQ
theorem uO:VI Q3 Tryz.f63 [some (.sl jQ)] XV:=by
  refine fF fun a => ?_
  unfold XV
  split
  rotate_left
  · trivial
  rename_i ua la wa qa ub lb wb qb
  intro hp
  refine tH (A:=(∃ (a:Nat),[]=wo (pd ua la wa qa) (pd ub lb wb qb) a∧0=(↑a:Int)∧a≤qa.length∧qa.length-a<1000000)∧∀ (a:Nat),a≤qa.length→ay (decide ((↑a:Int)<(↑qa.length:Int))) ((∃ (x:Nat),wo (pd ua la wa qa) (pd ub lb wb qb) a=wo (pd ua la wa qa) (pd ub lb wb qb) a++zw (pd ua la wa qa) (pd ub lb wb qb) a x∧0=(↑x:Int)∧x≤qb.length∧qb.length-x<1000000)∧∀ (x:Nat),x≤qb.length→ay (decide ((↑x:Int)<(↑qb.length:Int))) ((0≤(↑a:Int)∧(↑a:Int)<(↑qa.length:Int))∧ua.length≤1000∧la.length≤1000∧qa.length≤1000∧0≤qa.getD a 0∧qa.getD a 0≤3∧(0≤(↑x:Int)∧(↑x:Int)<(↑qb.length:Int))∧ub.length≤1000∧lb.length≤1000∧qb.length≤1000∧0≤qb.getD x 0∧qb.getD x 0≤3∧Ok (aX (qa.getD a 0) ua la) (bk (qa.getD a 0) ua la) wa (eY (qa.getD a 0) qa 4)∧Ok (aX (qb.getD x 0) ub lb) (bk (qb.getD x 0) ub lb) wb (eY (qb.getD x 0) qb 4)∧(∃ (y:Nat),wo (pd ua la wa qa) (pd ub lb wb qb) a++zw (pd ua la wa qa) (pd ub lb wb qb) a x=wo (pd ua la wa qa) (pd ub lb wb qb) a++zw (pd ua la wa qa) (pd ub lb wb qb) a x++Dg (pd ua la wa qa) (pd ub lb wb qb) a x y∧0=(↑y:Int)∧y≤(E4 (pd ua la wa qa) (pd ub lb wb qb) a x).length∧(E4 (pd ua la wa qa) (pd ub lb wb qb) a x).length-y<1000000)∧∀ (y:Nat),y≤(E4 (pd ua la wa qa) (pd ub lb wb qb) a x).length→ay (decide ((↑y:Int)<(↑(pI (bk (qa.getD a 0) ua la) (aX (qb.getD x 0) ub lb) (wa+wb) ((aX (qb.getD x 0) ub lb).length+(bk (qa.getD a 0) ua la).length+1)).length:Int))) ((0≤(↑a:Int)∧(↑a:Int)<(↑qa.length:Int))∧(0≤(↑x:Int)∧(↑x:Int)<(↑qb.length:Int))∧(0≤(↑y:Int)∧(↑y:Int)<(↑(pI (bk (qa.getD a 0) ua la) (aX (qb.getD x 0) ub lb) (wa+wb) ((aX (qb.getD x 0) ub lb).length+(bk (qa.getD a 0) ua la).length+1)).length:Int))∧(wo (pd ua la wa qa) (pd ub lb wb qb) a++zw (pd ua la wa qa) (pd ub lb wb qb) a x++Dg (pd ua la wa qa) (pd ub lb wb qb) a x y).length+1≤1000000000∧cn ((↑y:Int)+1)∧∃ (z:Nat),iu jQ.den∧wo (pd ua la wa qa) (pd ub lb wb qb) a++zw (pd ua la wa qa) (pd ub lb wb qb) a x++Dg (pd ua la wa qa) (pd ub lb wb qb) a x y++[(qa.getD a 0,qb.getD x 0,(pI (bk (qa.getD a 0) ua la) (aX (qb.getD x 0) ub lb) (wa+wb) ((aX (qb.getD x 0) ub lb).length+(bk (qa.getD a 0) ua la).length+1)).getD y 0,())]=wo (pd ua la wa qa) (pd ub lb wb qb) a++zw (pd ua la wa qa) (pd ub lb wb qb) a x++Dg (pd ua la wa qa) (pd ub lb wb qb) a x z∧(↑a:Int)=(↑a:Int)∧(↑x:Int)=(↑x:Int)∧uO.q2 qa a ua la qb x ub lb wa wb ((↑y:Int)+1=(↑z:Int)∧(↑a:Int)=(↑a:Int)∧qa=qa∧(↑qa.length:Int)=(↑qa.length:Int)∧true=true∧(↑x:Int)=(↑x:Int)∧qb=qb∧(↑qb.length:Int)=(↑qb.length:Int)∧true=true∧uO.q1 ua la wa qa a (uO.q1 ub lb wb qb x (uO.q2 qa a ua la qb x ub lb wa wb (uO.q3 ua la wa qa ub lb wb qb z (E4 (pd ua la wa qa) (pd ub lb wb qb) a x).length y))))) (cn ((↑x:Int)+1)∧∃ (z:Nat),iu jQ.den∧wo (pd ua la wa qa) (pd ub lb wb qb) a++zw (pd ua la wa qa) (pd ub lb wb qb) a x++Dg (pd ua la wa qa) (pd ub lb wb qb) a x y=wo (pd ua la wa qa) (pd ub lb wb qb) a++zw (pd ua la wa qa) (pd ub lb wb qb) a z∧(↑a:Int)=(↑a:Int)∧(↑x:Int)+1=(↑z:Int)∧(↑a:Int)=(↑a:Int)∧qa=qa∧(↑qa.length:Int)=(↑qa.length:Int)∧true=true∧uO.q3 ua la wa qa ub lb wb qb z qb.length x)) (cn ((↑a:Int)+1)∧∃ (y:Nat),iu jQ.den∧wo (pd ua la wa qa) (pd ub lb wb qb) a++zw (pd ua la wa qa) (pd ub lb wb qb) a x=wo (pd ua la wa qa) (pd ub lb wb qb) y∧(↑a:Int)+1=(↑y:Int)∧uO.q3 ua la wa qa ub lb wb qb y qa.length a)) (wo (pd ua la wa qa) (pd ub lb wb qb) a=ct (pd ua la wa qa) (pd ub lb wb qb)∧True)) (by kernel_rfl) ?_
  unfold uO.q3 uO.q2 uO.q1
  obtain⟨o1,o2,-⟩:=hp
  have esh:∀ x y:Nat,pI (bk (qa.getD x 0) ua la) (aX (qb.getD y 0) ub lb) (wa+wb) ((aX (qb.getD y 0) ub lb).length+(bk (qa.getD x 0) ua la).length+1)=E4 (pd ua la wa qa) (pd ub lb wb qb) x y:=fun x y=>by
    rw[(oa o1.len).2,(oa o2.len).1]; rfl
  have pl:=fun x y k=>YF (p:=pd ua la wa qa) (q:=pd ub lb wb qb) (x:=x) (y:=y) (k:=k) o1 o2
  have s1:=xJ o1
  have s2:=xJ o2
  have l1:=q_len o1
  have l2:=q_len o2
  have p1:∀ {x:Nat},x<qa.length→wo (pd ua la wa qa) (pd ub lb wb qb) x++zw (pd ua la wa qa) (pd ub lb wb qb) x qb.length=wo (pd ua la wa qa) (pd ub lb wb qb) (x+1):=fun h=>QE (p:=pd ua la wa qa) (q:=pd ub lb wb qb) h
  have p2:∀ {x y:Nat},y<qb.length→zw (pd ua la wa qa) (pd ub lb wb qb) x y++Dg (pd ua la wa qa) (pd ub lb wb qb) x y (E4 (pd ua la wa qa) (pd ub lb wb qb) x y).length=zw (pd ua la wa qa) (pd ub lb wb qb) x (y+1):=fun h=>QD (p:=pd ua la wa qa) (q:=pd ub lb wb qb) h
  have p3:∀ {x y k:Nat},k<(E4 (pd ua la wa qa) (pd ub lb wb qb) x y).length→Dg (pd ua la wa qa) (pd ub lb wb qb) x y k++[(qa.getD x 0,qb.getD y 0,(E4 (pd ua la wa qa) (pd ub lb wb qb) x y).getD k 0,())]=Dg (pd ua la wa qa) (pd ub lb wb qb) x y (k+1):=fun h=>QC (p:=pd ua la wa qa) (q:=pd ub lb wb qb) h
  have p4:wo (pd ua la wa qa) (pd ub lb wb qb) qa.length=ct (pd ua la wa qa) (pd ub lb wb qb):=QF
  have sl:∀ x y,(E4 (pd ua la wa qa) (pd ub lb wb qb) x y).length≤17:=fun x y=>aM SD (by have:=o1.n8; have:=o2.n8; simp only[pd]; omega)
  have z1:wo (pd ua la wa qa) (pd ub lb wb qb) 0=[]:=rfl
  have z2:∀ x,zw (pd ua la wa qa) (pd ub lb wb qb) x 0=[]:=fun _=>rfl
  have z3:∀ x y,Dg (pd ua la wa qa) (pd ub lb wb qb) x y 0=[]:=fun _ _=>rfl
  simp only[bR,eq_self,true_and,and_true,eO,esh,cn]
  generalize pd ua la wa qa=P at *
  generalize pd ub lb wb qb=Q at *
  have mo:∀ x,x<qa.length→0≤qa.getD x 0∧qa.getD x 0≤3:=fun x h=>o1.B5 _ (fo h)
  have mo2:∀ x,x<qb.length→0≤qb.getD x 0∧qb.getD x 0≤3:=fun x h=>o2.B5 _ (fo h)
  refine⟨⟨0,z1.symm,rfl,by omega,by omega⟩,fun x hx=>⟨fun iz=>⟨⟨0,by rw[z2,eU],rfl,by omega,by omega⟩,fun y hy=>⟨fun Jq => ?_,fun Jq=>⟨⟨by omega,by omega⟩,x+1,?_,by omega,by omega,by omega⟩⟩⟩,fun iz => ?_⟩⟩
  · have m1:=mo x (by omega)
    have m2:=mo2 y (by omega)
    have:=sl x y
    refine⟨⟨by omega,by omega⟩,s1.1,s1.2.1,s1.2.2,m1.1,m1.2,⟨by omega,by omega⟩,s2.1,s2.2.1,s2.2.2,m2.1,m2.2,Pe o1 m1,Pe o2 m2,⟨0,by rw[z3,eU],rfl,by omega,by omega⟩,fun k hk=>⟨fun oI=>⟨⟨by omega,by omega⟩,⟨by omega,by omega⟩,⟨by omega,by omega⟩,by have:=pl x y k; omega,⟨by omega,by omega⟩,k+1,by rw[eV,p3 (by omega)],by omega,by omega,by omega⟩,fun oI=>⟨⟨by omega,by omega⟩,y+1,?_,by omega,by omega,by omega⟩⟩⟩
    rw[eV,show k=(E4 P Q x y).length by omega,p2 (by omega)]
  · rw[show y=qb.length by omega,p1 (by omega)]
  · rw[show x=qa.length by omega,p4]
end Go.Tv
end
section
namespace Go.Tv
open Go Go.Di Go.Proofs
set_option maxRecDepth 100000
theorem Et {α:Type} {P:α→Prop} {l:List α} {i:Nat} {d:α} (h:i<l.length) (hl:∀ p∈l,P p):P (l.getD i d):=by
 rw[aL,bK h]; exact hl _ (mJ _)
def XZ:List TV→Dn
 | [.sl (.sl (.int .i64)) l .no,.sl (.sl (.int .i64)) m .no]=>some ([l.length≤1000,m.length≤1000,∀ x∈l,x.length≤1000,∀ x∈m,x.length≤1000],.ex Bool fun b => .res (iy b) [] [b=true↔l=m],
  [(4,.ex Nat fun i => .ex Bool fun b => .st { sl:=[(5,iy b),(6,bg i)],cB:=[i≤l.length,b=true↔(l.length=m.length∧l.take i=m.take i)],m:=l.length-i })])
 | _=>none
def Q8:gd:=T0.cA 49 fun a=>dS (D25 a)
theorem acm:VI Q8 Tryz.f24 [some .bool] XZ:=by
 refine fF fun a => ?_
 unfold XZ
 split
 rotate_left
 ·trivial
 rename_i l m
 intro hp
 refine tH (A:=(∃ (a:Nat),∃ (x:Bool),((↑l.length:Int)==(↑m.length:Int))=x∧0=(↑a:Int)∧a≤l.length∧(x=true↔l.length=m.length∧List.take a l=List.take a m)∧l.length-a<1000000)∧∀ (a:Nat) (x:Bool),a≤l.length→(x=true↔l.length=m.length∧List.take a l=List.take a m)→ay x (ay (decide ((↑a:Int)<(↑l.length:Int))) ((0≤(↑a:Int)∧(↑a:Int)<(↑l.length:Int))∧(0≤(↑a:Int)∧(↑a:Int)<(↑m.length:Int))∧List.length (l.getD a [])≤1000∧List.length (m.getD a [])≤1000∧cn ((↑a:Int)+1)∧∃ (y:Nat),∃ (z:Bool),l=l∧m=m∧false=false∧decide (l.getD a []=m.getD a [])=z∧(↑a:Int)+1=(↑y:Int)∧y≤l.length∧(z=true↔l.length=m.length∧List.take y l=List.take y m)∧l.length-y<l.length-a) (∃ (a:Bool),x=a∧(a=true↔l=m)∧True)) (∃ (a:Bool),x=a∧(a=true↔l=m)∧True)) (by kernel_rfl) ?_
 obtain⟨h1,h2,s1,s2,-⟩:=hp
 refine⟨⟨0,_,rfl,rfl,by omega,by simp; omega,by omega⟩,fun i b h3 h4=>iG.2 ⟨fun h5=>bR.2 ⟨fun h6 => ?_,fun h6=>⟨_,rfl,?_,trivial⟩⟩,fun h5=>⟨_,rfl,?_,trivial⟩⟩⟩
 ·have h5:=h4.1 h5
  refine⟨⟨by omega,by omega⟩,⟨by omega,by omega⟩,Et (by omega) s1,Et (by omega) s2,⟨by omega,by omega⟩,i+1,_,rfl,rfl,rfl,rfl,by omega,by omega,?_,by omega⟩
  rw[decide_eq_true_iff]
  rw[jB [] (by omega),jB [] (by omega)]
  refine⟨fun h=>⟨h5.1,by rw[h5.2,h]⟩,fun h => ?_⟩
  have:=List.append_inj_right' h.2 rfl
  simpa using this
 ·have h5:=h4.1 h5
  have e1:=h5.2
  rw[lB (by omega),lB (by omega)] at e1
  rw[h4]
  exact⟨fun _=>e1,fun h=>h5⟩
 ·subst h5
  rw[h4]
  refine⟨fun h=>absurd (h4.2 h) (by decide),fun h => ?_⟩
  subst h
  exact absurd (h4.2 ⟨rfl,rfl⟩) (by decide)
def Hx (p:PD):jP.den:=(p.1,p.2.1,p.2.2.1,p.2.2.2.1,p.1,p.2.1,p.2.1.reverse,p.1.reverse,p.1.reverse,p.2.1.reverse,p.2.1,p.1,())
def XU:List TV→Dn
 | [.sl (.pair (.sl (.int .i64)) (.pair (.sl (.int .i64)) (.pair (.int .i64) (.pair (.sl (.int .i64)) .unit)))) l .no]=>some ([l.length≤1000,∀ p∈l,dD p],.res (.sl jP (l.map Hx) .no) [] [],
  [(4,.dep fun te tS => .ex Nat fun i => .st { sl:=[(3,.sl jP ((l.take i).map Hx) (.nQ tS.length)),(8,bg i)],own:=[(94,12)],cB:=[i≤l.length],m:=l.length-i })])
 | _=>none
def Q9:gd:=U2.cA 61 fun a=>dS (ZU a)
theorem acg:VI Q9 Tryz.f66 [some (.sl jP)] XU:=by
 refine fF fun a => ?_
 unfold XU
 split
 rotate_left
 ·trivial
 rename_i l
 intro hp
 refine tH (A:=(∃ (a:Nat),[]=List.map Hx (List.take a l)∧0=(↑a:Int)∧a≤l.length∧l.length-a<1000000)∧∀ (a:Nat),a≤l.length→ay (decide ((↑a:Int)<(↑l.length:Int))) ((0≤(↑a:Int)∧(↑a:Int)<(↑l.length:Int))∧List.length (l.getD a ([],[],0,[],())).1≤1000∧List.length (l.getD a ([],[],0,[],())).2.1≤1000∧(List.map Hx (List.take a l)).length+1≤1000000000∧cn ((↑a:Int)+1)∧∃ (x:Nat),iu jP.den∧List.map Hx (List.take a l)++[((l.getD a ([],[],0,[],())).1,(l.getD a ([],[],0,[],())).2.1,(l.getD a ([],[],0,[],())).2.2.1,(l.getD a ([],[],0,[],())).2.2.2.1,(l.getD a ([],[],0,[],())).1,(l.getD a ([],[],0,[],())).2.1,List.reverse (l.getD a ([],[],0,[],())).2.1,List.reverse (l.getD a ([],[],0,[],())).1,List.reverse (l.getD a ([],[],0,[],())).1,List.reverse (l.getD a ([],[],0,[],())).2.1,(l.getD a ([],[],0,[],())).2.1,(l.getD a ([],[],0,[],())).1,())]=List.map Hx (List.take x l)∧l=l∧(↑l.length:Int)=(↑l.length:Int)∧(↑a:Int)+1=(↑x:Int)∧x≤l.length∧l.length-x<l.length-a) (List.map Hx (List.take a l)=List.map Hx l∧True)) (by kernel_rfl) ?_
 obtain⟨h1,h2,-⟩:=hp
 change List PD at l
 refine⟨⟨0,rfl,rfl,by omega,by omega⟩,fun i hi=>bR.2 ⟨fun hl => ?_,fun hl=>⟨by rw[lB (by omega)],trivial⟩⟩⟩
 have sp:dD (l.getD i dP):=eA (by omega) h2
 refine⟨⟨by omega,by omega⟩,sp.1,sp.2.1,by rw[gp,gq]; omega,⟨by omega,by omega⟩,i+1,eO▸trivial,?_,rfl,rfl,by omega,by omega,by omega⟩
 rw[jB dP (by omega),gM]
 rfl
end Go.Tv
end
