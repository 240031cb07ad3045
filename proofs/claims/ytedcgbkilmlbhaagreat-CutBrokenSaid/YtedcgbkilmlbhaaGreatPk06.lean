import Derived.Test.YtedcgbkilmlbhaaGreatPk05
section
namespace Go.Tv
open Go Go.Di Go.Proofs
def gV (tS:List TB) (g:Nat) (t:TT):Option (Nat×List t.den×Bool) :=
 match tS[g]? with
 | some (.rows t' e l z)=>if h:t'=t then some (e,h▸l,z) else none
 | _=>none
theorem iC {tS:List TB} {g:Nat} {t:TT} {e:Nat} {l:List t.den} {z:Bool} (h:gV tS g t=some (e,l,z)):tS[g]? = some (.rows t e l z):=by
 unfold gV at h
 split at h
 ·rename_i t' e' l' z' hg
  split at h
  ·rename_i ht
   subst ht
   cases h
   exact hg
  ·cases h
 ·cases h
section
variable (ty:eV) (tt:TypeId→Option TT)
def DN (te:List TV) (tS:List TB) (o:Oper):Option (TV×Nat×Prop) :=
 match o.op with
 | .indexAddr t x i=>match ty t,fD te x,Dy te i with
  | some ⟨.slice _ s _ _,_,_⟩,some (.so g k),some n=>match gV tS g k with
   | some (_,l,_)=>if k.size==s then some (.sp g k n.toNat 0,g,0≤n∧n<(l.length:Int)) else none
   | none=>none
  | _,_,_=>none
 | .fieldAddr t x f=>match ty t,fD te x with
  | some ⟨.struct fs,_,_⟩,some (.sp g k i off)=>match fs[f]? with
   | some (o,s,_)=>if 0<s then some (.sp g k i (off+o),g,True) else none
   | none=>none
  | _,_=>none
 | .load t a=>match ty t,fD te a with
  | some d,some (.sp g k i off)=>match gV tS g k with
   | some (_,l,_)=>(vO d.k.isAgg d.size (k.cells (l.getD i k.U4)) off).map fun v=>(gW tt t v,g,True)
   | none=>none
  | _,_=>none
 | .call { callee := .builtin .len,args,argTypes }=>match args.toList,argTypes.toList with
  | [x],[t]=>match ty t,fD te x with
   | some ⟨.slice _ _ _ _,_,_⟩,some (.so g k)=>match gV tS g k with
    | some (_,l,_)=>some (.val (.int .i64 (l.length:Nat)),g,True)
    | none=>none
   | _,_=>none
  | _,_=>none
 | _=>none
def Ml (te:List TV) (tS:List TB) (o:Oper):Option (Nat×List TB) :=
 match o.op with
 | .store t a x=>match ty t,fD te a,(fD te x).map (gW tt t) with
  | some d,some (.sp g k i off),some v=>match gV tS g k with
   | some (e,l,false)=>if v.yp&&v.cells.length==d.size then match LQ (k.cells (l.getD i k.U4)) off v.cells with
     | some cs=>match k.of cs with
      | some (y,[])=>some (g,tS.set g (.rows k e (l.set i y) false))
      | _=>none
     | none=>none
    else none
   | _=>none
  | _,_,_=>none
 | _=>none
def Mr:TV→Bool
 | .ei=>true
 | .sl _ [] .full=>true
 | _=>false
def Mk (te:List TV) (tS:List TB) (o:Oper) (nT:Nat):Option (TV×List TV×List TB×Prop) :=
 match o.op with
 | .makeSlice t a b=>match ty t,Dy te a,Dy te b,tt t with
  | some ⟨.slice e s iZ agg,_,_⟩,some n,some m,some (.sl k)=>match ty e with
   | some ⟨_,_,some z⟩=>match k.of (z.map tg) with
    | some (x,[])=>if decide (0<s)&&k.size==s&&k.agg==agg&&(agg||s==1)&&decide (iZ≤100000) then
      some (.so nT k,te,oB tS nT (.rows k e (List.replicate n.toNat x) false),m=n∧0≤n∧n≤1000000000) else none
    | _=>none
   | _=>none
  | _,_,_,_=>none
 | .buildSlice t n ps=>match ty.h o with
  | 1=>match ty t,uR te ps.toList,tt t with
   | some ⟨.slice e s _ agg,_,_⟩,some l,some (.sl k)=>match ty e with
    | some ⟨_,_,some z⟩=>if decide (0<s)&&decide (n*s≤16777216)&&l.length==n&&z.length==s&&k.size==s&&k.agg==agg&&(agg||s==1) then
      (yl k 0 l).map fun w=>(.so nT k,te,oB tS nT (.rows k e w false),True)
     else none
    | _=>none
   | _,_,_=>none
  | _=>none
 | .call { callee := .builtin .append,args,argTypes }=>match args.toList,argTypes.toList with
  | [x,y],[t,u]=>if t=u then match fD te x with
   | some (.so g k)=>match ty t,(fD te y).map (gW tt t) with
    | some ⟨.slice e s iZ agg,_,_⟩,some (.sl k' m _)=>if h:k'=k then match gV tS g k,ty e with
      | some (e',l,false),some ⟨_,_,some _⟩=>if e'==e&&k.size==s&&k.agg==agg&&decide (iZ≤100000) then
        some (.so g k,s6 g te,(tS.map (ou g)).set g (.rows k e (l++(h▸m)) false),l.length+m.length≤1000000000) else none
      | _,_=>none
     else none
    | _,_=>none
   | some v=>match ty.h o with
    | 1=>match ty t,(fD te y).map (gW tt t) with
     | some ⟨.slice e s iZ agg,_,_⟩,some (.sl k' (a::m) _)=>match ty e with
      | some ⟨_,_,some _⟩=>if Mr v&&decide (0<s)&&k'.size==s&&k'.agg==agg&&(agg||s==1)&&decide (iZ≤100000) then
        some (.so nT k',te,oB tS nT (.rows k' e (a::m) false),(a::m).length≤1000000000) else none
      | _=>none
     | _,_=>none
    | _=>none
   | none=>none
   else none
  | _,_=>none
 | _=>none
end
variable {P:Program} {ty:eV} {tt:TypeId→Option TT} {ι ι' w:jF} {S S':ak} {te jU:List TV} {env:List DV} {tS gM:List TB} {aD:bn} {call:aW} {yf:dH} {o:Oper} {aA nT:Nat} {B:List Nat} {ops:Array Oper}
theorem sG {t:TT}:∀ {l:List t.den} {ds:List DV} {i:Nat},dF t l ds→i<l.length→∃ pre c post,ds=pre++c++post∧pre.length=i*t.size∧CR t (l.getD i t.U4) c∧∀ y c',CR t y c'→dF t (l.set i y) (pre++c'++post)
 | [],_,_,_,h=>by simp at h
 | x::l,ds,i,hf,h=>by
  simp only[dF] at hf
  obtain⟨c,m,rfl,h1,h2⟩:=hf
  cases i with
  | zero=>exact⟨[],c,m,rfl,by simp,h1,fun y c' hc=>by simp only[List.set_cons_zero,dF]; exact⟨c',m,rfl,hc,h2⟩⟩
  | succ i =>
   obtain⟨pre,c1,post,rfl,k1,k2,k3⟩:=sG (i:=i) h2 (by simpa using h)
   refine⟨c++pre,c1,post,by simp,by rw[List.length_append,mm h1,k1,Nat.add_mul,Nat.one_mul,Nat.add_comm],by simpa using k2,fun y c' hc => ?_⟩
   simp only[List.set_cons_succ,dF]
   exact⟨c,pre++c'++post,by simp,h1,k3 y c' hc⟩
theorem ES {t:TT}:∀ {l m:List t.den} {ds es:List DV},dF t l ds→dF t m es→dF t (l++m) (ds++es)
 | [],_,ds,_,h,k=>by simp only[dF] at h; subst h; exact k
 | x::l,m,ds,es,h,k=>by
  simp only[dF] at h
  obtain⟨c,r,rfl,h1,h2⟩:=h
  simp only[List.cons_append,dF]
  exact⟨c,r++es,by simp,h1,ES h2 k⟩
theorem yS {t:TT} {x:t.den} {c:List DV} (h:CR t x c):∀ n,dF t (List.replicate n x) (List.replicate n c).flatten
 | 0=>by simp[dF]
 | n+1=>by
  simp only[List.replicate_succ,List.flatten_cons,dF]
  exact⟨c,_,rfl,h,yS h n⟩
theorem nV {t:TT} {agg:Bool}:∀ {l:List t.den} {rows:List DV},dK (CR t) agg l rows→dF t l (flat rows)
 | [],[],_=>by simp[flat,dF]
 | x::l,r::rows,h=>by
  simp only[flat,List.flatMap_cons,dF]
  exact⟨r.cells,_,rfl,h.1.1,nV h.2⟩
theorem qX {t:TT}:∀ {qs:List (Nat×DV)} {i:Nat} {l:List t.den},A1 t i qs l→dF t l (gn qs)
 | [],_,[],_=>by simp[gn,dF]
 | (j,d)::qs,i,x::l,h=>by
  obtain⟨⟨rfl,hc⟩,h⟩:=h
  simp only[gn,List.flatMap_cons,dF]
  exact⟨d.strip.cells,_,rfl,hc,qX h⟩
theorem yY:∀ {t:TT} {x:t.den} {c:List DV},CR t x (c.map DV.aI)→c.all DV.bt=true→CR t x c
 | .int _,_,c,h,hp=>by
  simp only[CR] at h ⊢
  obtain⟨d,rfl⟩:∃ d,c=[d]:=List.length_eq_one_iff.1 (by have:=congrArg List.length h; simpa using this)
  cases d<;>simp_all [DV.aI]
 | .bool,_,c,h,hp=>by
  simp only[CR] at h ⊢
  obtain⟨d,rfl⟩:∃ d,c=[d]:=List.length_eq_one_iff.1 (by have:=congrArg List.length h; simpa using this)
  cases d<;>simp_all [DV.aI]
 | .str,_,c,h,hp=>by
  simp only[CR] at h ⊢
  obtain⟨d,rfl⟩:∃ d,c=[d]:=List.length_eq_one_iff.1 (by have:=congrArg List.length h; simpa using this)
  cases d<;>simp_all [DV.aI]
 | .unit,_,c,h,_=>by
  simp only[CR] at h ⊢
  simpa using h
 | .pair a b,x,c,h,hp=>by
  simp only[CR] at h ⊢
  obtain⟨c1,c2,e,h1,h2⟩:=h
  obtain⟨d1,d2,rfl,rfl,rfl⟩:=List.map_eq_append_iff.1 e
  rw[List.all_append,Bool.and_eq_true] at hp
  exact⟨d1,d2,rfl,yY h1 hp.1,yY h2 hp.2⟩
 | .sl t,l,c,h,hp=>by
  simp only[CR] at h ⊢
  obtain⟨rows,f,e,h⟩:=h
  obtain⟨d,rfl⟩:∃ d,c=[d]:=List.length_eq_one_iff.1 (by have:=congrArg List.length e; simpa using this)
  cases d<;>simp[DV.aI] at e
  rename_i r tok f'
  obtain⟨rfl,-⟩:=e
  cases tok with
  | some=>simp[DV.bt] at hp
  | none=>exact⟨r,f',rfl,h⟩
theorem As (d:DV):d.aI.aI=d.aI:=by cases d<;>rfl
theorem CV {v:TV} {d:DV} (hk:v.yp=true) (h:RT ι S v d):d.strip.cells=d.cells.map DV.aI:=by
 cases v<;>cases d<;>simp only[RT] at h<;>first | (cases hk; done) | rfl
theorem Ki {agg:Bool} {n off:Nat} {pre c post:List DV} {d:DV} (h:j4 agg n c off=some d):j4 agg n (pre++c++post) (pre.length+off)=some d:=by
 unfold j4 at h ⊢
 cases agg with
 | true =>
  simp only[if_true,Option.map_eq_some_iff] at h ⊢
  obtain⟨cs,h1,rfl⟩:=h
  refine⟨cs,?_,rfl⟩
  unfold L9 at h1 ⊢
  split at h1
  ·rename_i hle
   cases h1
   rw[if_pos (by simp; omega),List.append_assoc,List.drop_append,List.drop_eq_nil_of_le (by omega),List.nil_append,Nat.add_sub_cancel_left,List.drop_append_of_le_length (by omega),List.take_append_of_le_length (by simp; omega)]
  ·cases h1
 | false =>
  simp only[Bool.false_eq_true,if_false] at h ⊢
  have hlt:=(List.getElem?_eq_some_iff.1 h).1
  rw[List.append_assoc,List.getElem?_append_right (by omega),Nat.add_sub_cancel_left,List.getElem?_append_left hlt]
  exact h
theorem Om {off:Nat} {pre c post cs c':List DV} (h:qC c off cs=some c'):qC (pre++c++post) (pre.length+off) cs=some (pre++c'++post):=by
 unfold qC at h ⊢
 split at h
 ·rename_i hle
  cases h
  have e1:(pre++c++post).take (pre.length+off)=pre++c.take off:=by
   rw[List.append_assoc,List.take_append,List.take_of_length_le (by omega),Nat.add_sub_cancel_left,List.take_append_of_le_length (by omega)]
  have e2:(pre++c++post).drop (pre.length+off+cs.length)=c.drop (off+cs.length)++post:=by
   rw[List.append_assoc,Nat.add_assoc,List.drop_append,List.drop_eq_nil_of_le (by omega),List.nil_append,Nat.add_sub_cancel_left,List.drop_append_of_le_length (by omega)]
  rw[if_pos (by simp; omega),e1,e2]
  simp[List.append_assoc]
 ·cases h
theorem Tn (h:bK ι te tS env S) {g i off:Nat} {t:TT} {e:Nat} {l:List t.den} {z:Bool} {d:DV} (hg:tS[g]? = some (.rows t e l z)) (hd:RT ι S (.sp g t i off) d):∃ id ds,d = .dB id l.length (i*t.size+off)∧ι g=some id∧S[id]? = some (.op e t.size ds z)∧Ac S id l.length=some (e,t.size,ds,z)∧dF t l ds∧i<l.length∧0<t.size∧(t.agg||t.size==1)=true:=by
 cases d<;>simp only[RT] at hd
 rename_i id n qD
 obtain⟨h1,rfl,e',s',l',z',h2,h3,h4⟩:=hd
 obtain⟨q0,q1,ds,q2,q3⟩:=h.mp g _ hg id h1
 rw[h2] at q2
 cases q2
 have hl:=fN q3
 have hn:n=l.length:=Nat.eq_of_mul_eq_mul_right q0 (h3.trans hl)
 subst hn
 refine⟨id,l',rfl,h1,h2,?_,q3,?_,q0,q1⟩
 ·unfold Ac
  rw[h2]
  simp only[h3,if_true]
 ·rw[← h3] at h4
  have:i*t.size<l.length*t.size:=by omega
  exact Nat.lt_of_mul_lt_mul_right this
theorem zx {v:TV} {g:Nat} {c:Prop} (h:DN ty tt te tS o=some (v,g,c)) (hc:c) (hR:bK ι te tS env S):∃ d id,(∀ aA,ai P ty aD call yf (ga env) o S aA=some (d,S))∧RT ι S v d∧ι g=some id∧((∃ t a f,o.op = .fieldAddr t a f∧∃ n off,ga env a=some (.dB id n off))∨(∃ t a i,o.op = .indexAddr t a i∧∃ n ag,ga env a=some (.gD id n ag))∨(∃ t a,o.op = .load t a∧∃ n off,ga env a=some (.dB id n off))∨∃ args ats,o.op = .call { callee := .builtin .len,args,argTypes:=ats }):=by
 unfold DN at h
 split at h
 ·rename_i t x i ho
  split at h
  ·rename_i e s iZ agg sz z g' k n h1 h2 h3
   split at h
   ·rename_i e' l zz h4
    split at h
    ·rename_i h5
     cases h
     have hg:=iC h4
     obtain⟨d,k1,k2⟩:=aT hR.env h2
     obtain⟨id,ds,rfl,m1,m2,m3,m4,m5,m6⟩:=AO hR hg k2 rfl
     have hs:k.size=s:=by simpa using h5
     have hl:=fN m4
     have hi:intOf (ga env) i=some n:=lT hR.env h3
     obtain⟨c1,c2⟩:=hc
     refine⟨.dB id l.length (n.toNat*s),id,fun aA => ?_,?_,m1,.inr (.inl ⟨t,x,i,ho,_,_,k1⟩)⟩
     ·simp only[ai,ho,h1,k1,hi,m3]
      rw[if_pos ⟨c1,by omega,hs⟩]
     ·simp only[RT]
      refine⟨m1,by rw[hs]; rfl,e',k.size,ds,zz,m2,hl.symm,?_⟩
      rw[hl,← Nat.succ_mul]
      exact Nat.mul_le_mul_right _ (by omega)
    ·cases h
   ·cases h
  ·cases h
 ·rename_i t x f ho
  split at h
  ·rename_i fs sz z g' k i off h1 h2
   split at h
   ·rename_i of s ag hf
    split at h
    ·rename_i hs
     cases h
     obtain⟨d,k1,k2⟩:=aT hR.env h2
     cases d<;>simp only[RT] at k2
     rename_i id n qD
     obtain⟨m1,rfl,e',s',l',z',m2,m3,m4⟩:=k2
     have hop:Ac S id n=some (e',s',l',z'):=by unfold Ac; rw[m2]; simp only[m3,if_true]
     refine⟨.dB id n (i*k.size+off+of),id,fun aA => ?_,?_,m1,.inl ⟨t,x,f,ho,_,_,k1⟩⟩
     ·simp only[ai,ho,h1,k1,hf,hop,if_pos hs]
     ·simp only[RT]
      exact⟨m1,by omega,e',s',l',z',m2,m3,m4⟩
    ·cases h
   ·cases h
  ·cases h
 ·rename_i t a ho
  split at h
  ·rename_i td g' k i off h1 h2
   split at h
   ·rename_i e' l zz h4
    simp only[Option.map_eq_some_iff,Prod.mk.injEq] at h
    obtain⟨u,h5,rfl,rfl,-⟩:=h
    have hg:=iC h4
    obtain⟨d,k1,k2⟩:=aT hR.env h2
    obtain⟨id,ds,rfl,m1,m2,m3,m4,m5,m6,m7⟩:=Tn hR hg k2
    obtain⟨pre,c,post,rfl,q1,q2,-⟩:=sG m4 m5
    obtain⟨d,q3,q4⟩:=mL (mP (ι:=ι) (S:=S) q2) h5
    refine⟨d,id,fun aA => ?_,bN q4,m1,.inr (.inr (.inl ⟨t,a,ho,_,_,k1⟩))⟩
    simp only[ai,ho,k1,ic,h1,m3]
    rw[← q1,Ki q3]
    rfl
   ·cases h
  ·cases h
 ·rename_i args ats ho
  split at h
  ·rename_i x t ha ht
   split at h
   ·rename_i e s iZ agg sz z g' k h1 h2
    split at h
    ·rename_i e' l zz h4
     cases h
     have hg:=iC h4
     obtain⟨d,k1,k2⟩:=aT hR.env h2
     obtain⟨id,ds,rfl,m1,m2,m3,m4,m5,m6⟩:=AO hR hg k2 rfl
     refine⟨.val (.int .i64 (l.length:Nat)),id,fun aA => ?_,by simp only[RT],m1,.inr (.inr (.inr ⟨_,_,ho⟩))⟩
     simp only[ai,ho,ha,ht,h1,k1]
    ·cases h
   ·cases h
  ·cases h
 ·cases h
theorem zI {v:TV} {g:Nat} {c:Prop} (h:DN ty tt te tS o=some (v,g,c)) (hc:c) (dr:Bool):Does P ty aD call yf B o nT te tS dr fun v' bT bV ft=>v'=v∧bT=te∧bV=tS∧ft=⟨some [g],false⟩:=by
 intro ι w env S aA hR hB hw hT hn hS
 obtain⟨d,id,h1,h2,h3,h4⟩:=zx (P:=P) (aD:=aD) (call:=call) (yf:=yf) h hc hR
 have hl:∃ l,aC P ty aD call yf (ga env) o S aA=some (d,S,⟨some l,false⟩)∧∀ j∈l,j=id:=by
  rcases h4 with ⟨t,a,f,ho,n,off,ha⟩ | ⟨t,a,i,ho,n,ag,ha⟩ | ⟨t,a,ho,n,off,ha⟩ | ⟨args,ats,ho⟩
  ·exact⟨[id],by simp only[aC,ho,ha,h1,Option.map_some],by simp⟩
  ·exact⟨[id],by simp only[aC,ho,ha,h1,Option.map_some],by simp⟩
  ·exact⟨[id],by simp only[aC,ho,ha,h1,Option.map_some],by simp⟩
  ·exact⟨[],by simp only[aC,ho,h1,Option.map_some],by simp⟩
 obtain⟨l,h5,h6⟩:=hl
 refine⟨d,S,ι,w,v,te,tS,⟨some l,false⟩,⟨some [g],false⟩,fun _=>h1 aA,fun _=>h5,⟨fun e=>e,fun l' gF => ?_⟩,fun l' m _ hm j hj => ?_,hR,h2,hw,fun _ _ _=>rfl,Fr.refl _ _ _,hB,ek _ _,rfl,rfl,rfl,rfl⟩
 ·cases gF
  exact⟨l,rfl,fun j hj=>⟨g,by simp,by rw[h6 j hj]; exact hw _ _ h3⟩⟩
 ·cases hm
  exact .inr ⟨g,by rw[h6 j hj]; exact h3⟩
theorem NF {k:Nat} {v:TV} {g:Nat} {c:Prop} {Q:List TV→Prop} (ho:ops[k]? = some o) (hw:dc ops te o=some true) (h:DN ty tt te tS o=some (v,g,c)) (hc:c) (hq:WQ P ty aD call yf ops tS (k+1) (jZ te o.dst v) Q):WQ P ty aD call yf ops tS k te Q:=by
 intro ι env S hR
 obtain⟨d,id,h1,h2,h3,h4⟩:=zx (P:=P) (aD:=aD) (call:=call) (yf:=yf) h hc hR
 obtain⟨ay,bT,n1,n2,n3⟩:=hq ι (eH env o.dst d) S (ku hR h2 _)
 refine⟨ay,bT,?_,n2,n3⟩
 rw[kC ho]
 have hq:bZ P ty aD call yf (ga env) o S=some d:=by
  rcases h4 with ⟨t,a,f,ho,n,off,ha⟩ | ⟨t,a,i,ho,n,ag,ha⟩ | ⟨t,a,ho,n,off,ha⟩ | ⟨args,ats,ho⟩<;>simp only[bZ,ho,h1,Option.map_some]
 simp only[lZ,fq hR.env hw,if_true,hq,n1]
end Go.Tv
end
section
namespace Go.Tv
open Go Go.Di Go.Proofs
variable {P:Program} {ty:eV} {tt:TypeId→Option TT} {ι ι' w:jF} {S S':ak} {te jU:List TV} {env:List DV} {tS gM:List TB} {aD:bn} {call:aW} {yf:dH} {o:Oper} {aA nT:Nat} {B:List Nat} {ops:Array Oper}
theorem nQ (h:bK ι te tS env S) (hT:uN tS nT) (hn:uO S aA) {t:TT} {e:Nat} {l:List t.den} {ds:List DV} (h0:0<t.size) (h1:(t.agg||t.size==1)=true) (hf:dF t l ds):bK (upd ι nT aA) te (oB tS nT (.rows t e l false)) env (de S aA (.op e t.size ds false)):=by
 have K:=qo h hT hn (.op e t.size ds false)
 refine⟨aY K _ _ h.env,fun k l hk => ?_,fun k e s hk t ht => ?_,fun k k' hk => ?_,fun i j k' hi hj => ?_,fun k b hk t0 ht => ?_⟩
 ·rw[bL hT] at hk
  split at hk
  ·cases hk
  ·rename_i e
   obtain⟨k',eE,h1,h2,h3⟩:=h.cells k l hk
   exact⟨k',eE,by simp only[upd,e,if_false]; exact h1,by rw[aS hn,if_neg (h.cz hn h1)]; exact h2,aY K _ _ h3⟩
 ·rw[bL hT] at hk
  split at hk
  ·cases hk
  ·rename_i e'
   simp only[upd,e',if_false] at ht
   obtain⟨n,h1⟩:=h.own k e s hk t ht
   exact⟨n,by rw[aS hn,if_neg (h.cz hn ht)]; exact h1⟩
 ·rw[bL hT]
  split
  ·exact⟨_,rfl,fun e=>by cases e⟩
  ·rename_i e
   simp only[upd,e,if_false] at hk
   exact h.uE k k' hk
 ·unfold upd at hi hj
  split at hi<;>split at hj
  ·omega
  ·cases hi; exact(h.cz hn hj rfl).elim
  ·cases hj; exact(h.cz hn hi rfl).elim
  ·exact h.inj i j k' hi hj
 ·rw[bL hT] at hk
  split at hk
  ·rename_i e'
   cases hk
   simp only[upd,e',if_true,Option.some.injEq] at ht
   subst ht
   rw[aS hn,if_pos rfl]
   exact⟨h0,h1,ds,rfl,hf⟩
  ·rename_i e'
   simp only[upd,e',if_false] at ht
   rw[aS hn,if_neg (h.cz hn ht)]; exact h.mp k b hk t0 ht
theorem uo (h:bK ι te tS env S) {g id:Nat} {t:TT} {e:Nat} {l l':List t.den} {ds eE:List DV} {z z':Bool} (hi:ι g=some id) (hg:tS[g]? = some (.rows t e l z)) (hS:S[id]? = some (.op e t.size ds z)) (hl:eE.length=ds.length) (h0:0<t.size) (h1:(t.agg||t.size==1)=true) (hf:dF t l' eE):bK ι te (tS.set g (.rows t e l' z')) env (S.set id (.op e t.size eE z')):=by
 have hlt:=(List.getElem?_eq_some_iff.1 hg).1
 have LZ:=(List.getElem?_eq_some_iff.1 hS).1
 have K:jg ι S ι (S.set id (.op e t.size eE z')) fun _=>False:=fun a b _ lX=>⟨lX,by
  rw[List.getElem?_set]
  split
  ·rename_i e1
   subst e1
   rw[hS]
   exact⟨fun _ _ _ h=>(nomatch h),fun e s l z h=>(by cases h; exact⟨eE,z',rfl,hl⟩)⟩
  ·exact dM rfl⟩
 have SZ:∀ j,(tS.set g (.rows t e l' z'))[j]? = if j=g then some (.rows t e l' z') else tS[j]? := fun j=>by
  rw[List.getElem?_set]
  by_cases e:j=g
  ·subst e; simp[hlt]
  ·rw[if_neg (Ne.symm e),if_neg e]
 have jO:∀ j,j≠id→(S.set id (.op e t.size eE z'))[j]? = S[j]? := fun j hj=>by rw[List.getElem?_set,if_neg (Ne.symm hj)]
 refine⟨aY K _ _ h.env,fun j m hj => ?_,fun j e s hj t ht => ?_,fun j j' hj => ?_,h.inj,fun j b hj t0 ht => ?_⟩
 ·rw[SZ] at hj
  split at hj
  ·cases hj
  ·rename_i e
   obtain⟨j',Jk,h1,h2,h3⟩:=h.cells j m hj
   exact⟨j',Jk,h1,by rw[jO j' fun e1=>e (h.inj _ _ _ (e1▸h1) hi)]; exact h2,aY K _ _ h3⟩
 ·rw[SZ] at hj
  split at hj
  ·cases hj
  ·obtain⟨n,h1⟩:=h.own j e s hj t ht
   exact⟨n,(K j t (fun e=>e) ht).2.1 _ _ _ h1⟩
 ·rw[SZ]
  split
  ·exact⟨_,rfl,by simp⟩
  ·exact h.uE j j' hj
 ·rw[SZ] at hj
  split at hj
  ·rename_i e
   subst e
   cases hj
   rw[hi] at ht
   cases ht
   rw[List.getElem?_set,if_pos rfl,if_pos LZ]
   exact⟨h0,h1,eE,rfl,hf⟩
  ·rename_i e
   rw[jO t0 fun e1=>e (h.inj _ _ _ (e1▸ht) hi)]
   exact h.mp j b hj t0 ht
theorem Sc {g:Nat} {b:TB} {x:Option DB} (h:V4 b x):V4 (ou g b) x:=by cases b<;>exact h
theorem O8 {g:Nat} {b:TB}:ou g b = .none→b = .none:=by cases b<;>simp[ou]
theorem Au (h:bK ι te tS env S) {g id:Nat} {t:TT} {e:Nat} {l l':List t.den} {ds eE:List DV} {z:Bool} (hi:ι g=some id) (hg:tS[g]? = some (.rows t e l z)) (hS:S[id]? = some (.op e t.size ds z)) (h0:0<t.size) (h1:(t.agg||t.size==1)=true) (hf:dF t l' eE):bK ι (s6 g te) ((tS.map (ou g)).set g (.rows t e l' false)) env (S.set id (.op e t.size eE false)):=by
 have hlt:=(List.getElem?_eq_some_iff.1 hg).1
 have LZ:=(List.getElem?_eq_some_iff.1 hS).1
 have jO:∀ j,j≠id→(S.set id (.op e t.size eE false))[j]? = S[j]? := fun j hj=>by rw[List.getElem?_set,if_neg (Ne.symm hj)]
 have K:jg ι S ι (S.set id (.op e t.size eE false)) fun k=>k=g:=fun a b ha lX=>⟨lX,dM (jO b fun e1=>ha (h.inj _ _ _ (e1▸lX) hi))⟩
 have SZ:∀ j b,((tS.map (ou g)).set g (.rows t e l' false))[j]? = some b→(j=g∧b = .rows t e l' false)∨(j≠g∧∃ b0,tS[j]? = some b0∧b=ou g b0):=fun j b hj=>by
  rw[List.getElem?_set] at hj
  split at hj
  ·rename_i e1
   subst e1
   rw[if_pos (by simpa using hlt)] at hj
   cases hj
   exact .inl ⟨rfl,rfl⟩
  ·rename_i e1
   simp only[List.getElem?_map,Option.map_eq_some_iff] at hj
   obtain⟨b0,h2,h3⟩:=hj
   exact .inr ⟨fun e=>e1 e.symm,b0,h2,h3.symm⟩
 refine⟨ko K _ _ h.env,fun j m hj => ?_,fun j e s hj t ht => ?_,fun j j' hj => ?_,h.inj,fun j b hj t0 ht => ?_⟩
 ·rcases SZ j _ hj with ⟨-,e1⟩ | ⟨hne,b0,h2,h3⟩
  ·cases e1
  ·cases b0<;>simp only[ou] at h3<;>first | (cases h3; done) | skip
   cases h3
   obtain⟨j',Jk,k1,k2,k3⟩:=h.cells j _ h2
   exact⟨j',Jk,k1,by rw[jO j' fun e1=>hne (h.inj _ _ _ (e1▸k1) hi)]; exact k2,ko K _ _ k3⟩
 ·rcases SZ j _ hj with ⟨-,e1⟩ | ⟨hne,b0,h2,h3⟩
  ·cases e1
  ·cases b0<;>simp only[ou] at h3<;>first | (cases h3; done) | skip
   cases h3
   obtain⟨n,k1⟩:=h.own j _ _ h2 t ht
   exact⟨n,(K j t hne ht).2.1 _ _ _ k1⟩
 ·rw[List.getElem?_set]
  split
  ·rename_i e1
   rw[if_pos (by simpa using hlt)]
   exact⟨_,rfl,by simp⟩
  ·obtain⟨b,h2,h3⟩:=h.uE j j' hj
   exact⟨ou g b,by rw[List.getElem?_map,h2]; rfl,fun e1=>h3 (O8 e1)⟩
 ·rcases SZ j _ hj with ⟨rfl,rfl⟩ | ⟨hne,b0,h2,rfl⟩
  ·rw[hi] at ht
   cases ht
   rw[List.getElem?_set,if_pos rfl,if_pos LZ]
   exact⟨h0,h1,eE,rfl,hf⟩
  ·rw[jO t0 fun e1=>hne (h.inj _ _ _ (e1▸ht) hi)]
   exact Sc (h.mp j b0 h2 t0 ht)
theorem E2 {g:Nat} {t t':TT} {e e':Nat} {l:List t.den} {l':List t'.den} {z z':Bool} (hB:lY B tS) (hl:tS[g]? = some (.rows t e l z)):lY B (tS.set g (.rows t' e' l' z')):=fun k hk=>by
 obtain⟨c,hc⟩:=hB k hk
 refine⟨c,?_⟩
 rw[List.getElem?_set,if_neg]
 ·exact hc
 ·rintro rfl; rw[hl] at hc; cases hc
theorem E6 {g:Nat} {t t':TT} {e e':Nat} {l:List t.den} {l':List t'.den} {z z':Bool} (hB:lY B tS) (hl:tS[g]? = some (.rows t e l z)):lY B ((tS.map (ou g)).set g (.rows t' e' l' z')):=fun k hk=>by
 obtain⟨c,hc⟩:=hB k hk
 refine⟨s6 g c,?_⟩
 rw[List.getElem?_set,if_neg]
 ·rw[List.getElem?_map,hc]; rfl
 ·rintro rfl; rw[hl] at hc; cases hc
theorem A7:∀ {S:ak} {i:Nat} {b:DB},S[i]? = some b→S.set i b=S
 | [],_,_,h=>by simp at h
 | _::_,0,_,h=>by simp only[List.getElem?_cons_zero,Option.some.injEq] at h; rw[h]; rfl
 | a::l,n+1,b,h=>by rw[List.set_cons_succ,A7 (by simpa using h)]
theorem zH {g:Nat} {gM:List TB} (h:Ml ty tt te tS o=some (g,gM)) (dr:Bool):Does P ty aD call yf B o nT te tS dr fun v' bT bV ft=>v' = .unk∧bT=te∧bV=gM∧ft=⟨some [g],true⟩:=by
 intro ι w env S aA hR hB hw hT hn hS
 unfold Ml at h
 split at h
 rotate_left
 ·cases h
 rename_i t a x ho
 split at h
 rotate_left
 ·cases h
 rename_i td g' k i off v h1 h2 h3
 split at h
 rotate_left
 ·cases h
 rename_i e l h4
 split at h
 rotate_left
 ·cases h
 rename_i hc
 simp only[Bool.and_eq_true,beq_iff_eq] at hc
 obtain⟨c1,c2⟩:=hc
 split at h
 rotate_left
 ·cases h
 rename_i cs h5
 split at h
 rotate_left
 ·cases h
 rename_i y h6
 cases h
 have hg:=iC h4
 obtain⟨d,k1,k2⟩:=aT hR.env h2
 obtain⟨id,ds,rfl,m1,m2,m3,m4,m5,m6,m7⟩:=Tn hR hg k2
 simp only[Option.map_eq_some_iff] at h3
 obtain⟨u,h7,h8⟩:=h3
 obtain⟨dv,k4,k5⟩:=aT hR.env h7
 have k6:=bN (tt:=tt) (t:=t) k5
 rw[h8] at k6
 have k7:=oV (EP c1) k6
 obtain⟨pre,c,post,rfl,q1,q2,q3⟩:=sG m4 m5
 obtain⟨c',r1,r2⟩:=CG (mP (ι:=ι) (S:=S) q2) k7 h5
 have hst:=CV c1 k6
 obtain⟨cc,m',e1,e2,e3⟩:=AQ h6 r2
 rw[aJ e3,List.append_nil] at e1
 subst e1
 have hle:off+dv.cells.length≤c.length:=by
  unfold qC at r1
  split at r1
  ·assumption
  ·cases r1
 have hc':c'=c.take off++dv.cells++c.drop (off+dv.cells.length):=by
  unfold qC at r1
  rw[if_pos hle] at r1
  exact(Option.some.inj r1).symm
 have hlen:dv.strip.cells.length=dv.cells.length:=by rw[hst]; simp
 have kN:qC c off dv.strip.cells=some (c.take off++dv.strip.cells++c.drop (off+dv.cells.length)):=by
  unfold qC
  rw[hlen,if_pos hle]
 have hm:(c.take off++dv.strip.cells++c.drop (off+dv.cells.length)).map DV.aI=c'.map DV.aI:=by
  rw[hc',hst]
  simp only[List.map_append,List.map_map]
  congr 2
  exact List.map_congr_left fun d _=>As d
 have hpa:=qb e2
 have YA:dv.strip.cells.all DV.bt=true:=by
  rw[hc',List.map_append,List.map_append,List.all_append,List.all_append,← hst] at hpa
  simp only[Bool.and_eq_true] at hpa
  exact hpa.1.2
 have Jf:=qb q2
 have hcr:CR k y (c.take off++dv.strip.cells++c.drop (off+dv.cells.length)):=by
  refine yY (by rw[hm]; exact e2) ?_
  rw[List.all_append,List.all_append,YA]
  simp only[Bool.and_true,Bool.and_eq_true,List.all_eq_true] at Jf ⊢
  exact⟨fun d hd=>Jf d (List.mem_of_mem_take hd),fun d hd=>Jf d (List.mem_of_mem_drop hd)⟩
 have hsz:dv.strip.cells.length=td.size:=by rw[hlen,ff k7]; exact c2
 have wR:kY ty S t (.dB id l.length (i*k.size+off)) dv=some (S.set id (.op e k.size (pre++(c.take off++dv.strip.cells++c.drop (off+dv.cells.length))++post) false)):=by
  simp only[kY,h1,m3,hsz,YA,decide_true,Bool.and_self,if_true]
  rw[← q1,Om kN]
  rfl
 have pQ:(pre++(c.take off++dv.strip.cells++c.drop (off+dv.cells.length))++post).length=(pre++c++post).length:=by
  simp only[List.length_append,List.length_take,List.length_drop,hlen]
  omega
 refine⟨aP,_,ι,w,.unk,te,_,⟨some [id],true⟩,⟨some [g],true⟩,fun _ => ?_,fun _ => ?_,⟨fun e=>e,fun l' gF => ?_⟩,fun l' m _ hm j hj => ?_,uo hR m1 hg m2 pQ m6 m7 (q3 y _ hcr),by simp only[RT],hw,fun _ _ _=>rfl,uW m1,E2 hB hg,uS m2 (fun e=>by cases e),rfl,rfl,rfl,rfl⟩
 ·simp only[ai,ho,k1,k4,wR,Option.map_some]
 ·simp only[aC,ho,k1,ai,k4,wR,Option.map_some]
 ·cases gF
  exact⟨[id],rfl,fun j hj=>⟨g,by simp,by simp only[List.mem_singleton] at hj; rw[hj]; exact hw _ _ m1⟩⟩
 ·cases hm
  simp only[List.mem_singleton] at hj
  exact .inr ⟨g,hj▸m1⟩
theorem Hp {v:TV} {jU:List TV} {gM:List TB} {c:Prop} (h:Mk ty tt te tS o nT=some (v,jU,gM,c)) (hc:c):Does P ty aD call yf B o nT te tS false fun v' bT bV _=>v'=v∧bT=jU∧bV=gM:=by
 intro ι w env S aA hR hB hw hT hn hS
 unfold Mk at h
 split at h
 ·rename_i t a b ho
  split at h
  rotate_left
  ·cases h
  rename_i e s iZ agg sz z0 n m k h1 h2 h3 h4
  split at h
  rotate_left
  ·cases h
  rename_i k0 sz' z h5
  split at h
  rotate_left
  ·cases h
  rename_i x h6
  split at h
  rotate_left
  ·cases h
  rename_i LF
  cases h
  simp only[Bool.and_eq_true,decide_eq_true_eq,beq_iff_eq] at LF
  obtain⟨⟨⟨⟨c1,c2⟩,c3⟩,c4⟩,c5⟩:=LF
  obtain⟨rfl,d2,d3⟩:=hc
  obtain⟨cc,m',e1,e2,e3⟩:=AQ h6 (pW (ι:=ι) (S:=S) z)
  rw[aJ e3,List.append_nil] at e1
  subst e1
  have hi1:intOf (ga env) a=some m:=lT hR.env h2
  have YH:intOf (ga env) b=some m:=lT hR.env h3
  have h0:0<k.size:=by omega
  have Y1:(k.agg||k.size==1)=true:=by rw[c3,c2]; exact c4
  have hb:m.toNat*iZ≤dG:=by
   have:m.toNat≤1000000000:=by omega
   calc m.toNat*iZ≤1000000000*100000:=Nat.mul_le_mul this c5
    _≤dG:=by decide
  have jQ:=nQ hR hT hn h0 Y1 (e:=e) (yS e2 m.toNat)
  rw[c2] at jQ
  refine⟨.gD aA m.toNat agg,de S aA (.op e s (List.replicate m.toNat (z.map DV.aI)).flatten false),upd ι nT aA,upd w aA nT,.so nT k,te,_,⟨none,true⟩,⟨none,true⟩,fun _ => ?_,fun hd=>(by cases hd),⟨fun e=>e,fun l hl=>(by cases hl)⟩,fun l m hl=>(by cases hl),jQ,?_,nE hR hn hT hw,fun hd=>(by cases hd),oR hn (kD hB hT),iV hB hT,lR hn,rfl,rfl,rfl⟩
  ·have hpz:=qb e2
   simp only[ai,ho,h1,hi1,YH,h5,d2,c1,c4,hb,hpz,decide_true,Bool.and_self,if_true,show m≤140737488355328-4096 by omega]
  ·simp only[RT,upd,if_true]
   refine⟨trivial,c3.symm,e,s,_,false,by rw[aS hn,if_pos rfl],?_⟩
   have:=fN (yS e2 m.toNat)
   rw[this,List.length_replicate,c2]
 ·rename_i t n ps ho
  split at h
  rotate_left
  ·cases h
  rename_i hh
  split at h
  rotate_left
  ·cases h
  rename_i e s iZ agg sz z0 l k h1 h2 h3
  split at h
  rotate_left
  ·cases h
  rename_i k0 sz' z h4
  split at h
  rotate_left
  ·cases h
  rename_i LF
  simp only[Bool.and_eq_true,beq_iff_eq,Bool.or_eq_true,decide_eq_true_eq] at LF
  obtain⟨⟨⟨⟨⟨⟨c1,c2⟩,c3⟩,c4⟩,c5⟩,c6⟩,c7⟩:=LF
  simp only[Option.map_eq_some_iff,Prod.mk.injEq] at h
  obtain⟨w0,h5,rfl,rfl,rfl,-⟩:=h
  obtain⟨ds,k1,k2⟩:=mU hR.env h2
  obtain⟨k3,k4⟩:=yX k2 h5
  have hlen:ds.length=n:=by rw[vo k2,c3]
  have Vy:((List.replicate n z).flatten).length=ds.length*s:=by
   rw[hlen,List.length_flatten,List.map_replicate,c4,List.sum_replicate_nat]
  have hf:=sI (pre:=[]) (post:=(List.replicate n z).flatten) c5 k3 (by simp) Vy
  rw[List.nil_append,List.nil_append] at hf
  have HD:w0.length=n:=by rw[k4,c3]
  have c7':(agg||s==1)=true:=by simpa using c7
  have sV:=qX k3
  have h0:0<k.size:=by omega
  have Y1:(k.agg||k.size==1)=true:=by rw[c6,c5]; exact c7'
  have jQ:=nQ hR hT hn h0 Y1 (e:=e) sV
  rw[c5] at jQ
  refine⟨.gD aA n agg,de S aA (.op e s (gn ds) false),upd ι nT aA,upd w aA nT,.so nT k,te,_,⟨none,true⟩,⟨none,true⟩,fun _ => ?_,fun hd=>(by cases hd),⟨fun e=>e,fun l hl=>(by cases hl)⟩,fun l m hl=>(by cases hl),jQ,?_,nE hR hn hT hw,fun hd=>(by cases hd),oR hn (kD hB hT),iV hB hT,lR hn,rfl,rfl,rfl⟩
  ·simp only[ai,ho,h1,k1,h4,decide_eq_true c1,decide_eq_true c2,Bool.and_self,if_true,hf,si k3,c7',hh]
  ·simp only[RT,upd,if_true]
   refine⟨trivial,c6.symm,e,s,_,false,by rw[aS hn,if_pos rfl],?_⟩
   rw[fN sV,HD,c5]
 ·rename_i args ats ho
  split at h
  rotate_left
  ·cases h
  rename_i x y t u ha ht
  split at h
  rotate_left
  ·cases h
  rename_i Lx
  subst Lx
  split at h
  ·
   rename_i g k h2
   split at h
   rotate_left
   ·cases h
   rename_i e s iZ agg sz z0 k' m ap h1 h3
   split at h
   rotate_left
   ·cases h
   rename_i Jg
   subst Jg
   split at h
   rotate_left
   ·cases h
   rename_i e' l k0 sz' z h4 h5
   split at h
   rotate_left
   ·cases h
   rename_i LF
   cases h
   simp only[Bool.and_eq_true,beq_iff_eq,decide_eq_true_eq] at LF
   obtain⟨⟨⟨c1,c2⟩,c3⟩,c4⟩:=LF
   subst c1
   have hg:=iC h4
   obtain⟨d,k1,k2⟩:=aT hR.env h2
   obtain⟨id,ds,rfl,m1,m2,m3,m4,m5,m6⟩:=AO hR hg k2 rfl
   simp only[Option.map_eq_some_iff] at h3
   obtain⟨uy,e1,e2⟩:=h3
   obtain⟨db,k4,k5⟩:=aT hR.env e1
   have k6:=bN (tt:=tt) (t:=t) k5
   rw[e2] at k6
   cases db<;>simp only[RT] at k6
   rename_i news tok f
   obtain⟨k6,-⟩:=k6
   have K8:=iS k6
   have jf:=gA k6
   have sV:=ES m4 (nV k6)
   have jQ:=Au hR m1 hg m2 m5 m6 sV
   have hb:(l.length+news.length)*iZ≤dG:=by
    have:l.length+news.length≤1000000000:=by rw[K8]; exact hc
    calc (l.length+news.length)*iZ≤1000000000*100000:=Nat.mul_le_mul this c4
     _≤dG:=by decide
   have jW:(agg||s==1)=true:=by rw[← c3,← c2]; exact m6
   have gF:=fN m4
   have LG:kE ty S aA t (.gD id l.length k'.agg) (.sl news tok f)=if news.isEmpty then some (.gD id l.length k'.agg,S) else some (.gD id (l.length+news.length) agg,S.set id (.op e' k'.size (ds++flat news) false)):=by
    simp only[kE,h1,h5]
    rw[if_pos,m3]
    ·simp only[c2,decide_true,Bool.and_self,if_true]
    ·simp only[Bool.and_eq_true,decide_eq_true_eq,List.all_eq_true]
     refine⟨⟨⟨⟨by omega,jW⟩,hb⟩,?_⟩,fun r hr=>by rw[jf r hr,c2]⟩
     have:l.length+news.length≤1000000000:=by rw[K8]; exact hc
     omega
   have hst:∀ d S',kE ty S aA t (.gD id l.length k'.agg) (.sl news tok f)=some (d,S')→ai P ty aD call yf (ga env) o S aA=some (d,S'):=fun d S' h=>by
    simp only[ai,ho,ha,ht,if_true,k1,k4,h]
   have mc:∀ d S',(d = .gD id (l.length+news.length) agg)→S'=S.set id (.op e' k'.size (ds++flat news) false)→RT ι S' (.so g k') d:=fun d S' hd xe=>by
    subst hd xe
    have hlt:=(List.getElem?_eq_some_iff.1 m2).1
    simp only[RT]
    refine⟨m1,c3.symm,e',k'.size,_,false,by rw[List.getElem?_set,if_pos rfl,if_pos hlt],?_⟩
    rw[fN sV,List.length_append,K8]
   by_cases HL:news.isEmpty=true
   ·have F3:news=[]:=by simpa using HL
    subst F3
    have hm:m=[]:=List.eq_nil_of_length_eq_zero (by rw[← K8]; rfl)
    subst hm
    have hSS:S.set id (.op e' k'.size (ds++flat []) false)=S:=by
     rw[show flat []=[] from rfl,List.append_nil]
     exact A7 m2
    rw[hSS] at jQ
    rw[if_pos HL] at LG
    have hrt:=mc (.gD id l.length k'.agg) S (by rw[c3]; rfl) hSS.symm
    refine⟨_,S,ι,w,.so g k',_,_,⟨none,true⟩,⟨none,true⟩,fun _=>hst _ _ LG,fun hd=>(by cases hd),⟨fun e=>e,fun l hl=>(by cases hl)⟩,fun l m hl=>(by cases hl),jQ,hrt,hw,fun hd=>(by cases hd),Fr.refl _ _ _,?_,ek _ _,rfl,rfl,rfl⟩
    exact E6 hB hg
   ·rw[if_neg HL] at LG
    refine⟨_,_,ι,w,.so g k',_,_,⟨none,true⟩,⟨none,true⟩,fun _=>hst _ _ LG,fun hd=>(by cases hd),⟨fun e=>e,fun l hl=>(by cases hl)⟩,fun l m hl=>(by cases hl),jQ,mc _ _ rfl rfl,hw,fun hd=>(by cases hd),uW m1,E6 hB hg,uS m2 (fun e=>by cases e),rfl,rfl,rfl⟩
  ·
   rename_i v0 hno h2
   split at h
   rotate_left
   ·cases h
   rename_i hh
   split at h
   rotate_left
   ·cases h
   rename_i e s iZ agg sz z0 k' a m ap h1 h3
   split at h
   rotate_left
   ·cases h
   rename_i k0 sz' z h5
   split at h
   rotate_left
   ·cases h
   rename_i LF
   cases h
   simp only[Bool.and_eq_true,beq_iff_eq,decide_eq_true_eq] at LF
   obtain⟨⟨⟨⟨⟨c0,c1⟩,c2⟩,c3⟩,c4⟩,c5⟩:=LF
   obtain⟨d,k1,k2⟩:=aT hR.env h2
   obtain⟨f0,rfl,tj⟩:∃ f0,d = .sl [] none f0∧f0.full=true:=by
    cases v0<;>first | (cases c0; done) | skip
    ·cases d<;>simp only[RT] at k2
     obtain⟨rfl,rfl,rfl⟩:=k2
     exact⟨_,rfl,rfl⟩
    ·rename_i k9 l9 ap9
     cases l9 with
     | cons=>simp[Mr] at c0
     | nil =>
      cases ap9<;>first | (simp[Mr] at c0; done) | skip
      cases d<;>simp only[RT] at k2
      rename_i rows tok f
      obtain⟨q1,rfl,q2⟩:=k2
      cases rows with
      | nil=>exact⟨f,rfl,q2⟩
      | cons=>exact q1.elim
   simp only[Option.map_eq_some_iff] at h3
   obtain⟨uy,e1,e2⟩:=h3
   obtain⟨db,k4,k5⟩:=aT hR.env e1
   have k6:=bN (tt:=tt) (t:=t) k5
   rw[e2] at k6
   cases db<;>simp only[RT] at k6
   rename_i news tok f
   obtain⟨k6,-⟩:=k6
   have K8:=iS k6
   have jf:=gA k6
   have sV:=nV k6
   have h0:0<k'.size:=by omega
   have Y1:(k'.agg||k'.size==1)=true:=by rw[c3,c2]; exact c4
   have jQ:=nQ hR hT hn h0 Y1 (e:=e) sV
   rw[c2] at jQ
   have hle:news.length≤1000000000:=by rw[K8]; exact hc
   have hb:news.length*iZ≤dG:=by
    calc news.length*iZ≤1000000000*100000:=Nat.mul_le_mul hle c5
     _≤dG:=by decide
   have HL:¬ (news.isEmpty=true):=by
    intro he
    have:news=[]:=by simpa using he
    rw[this] at K8
    simp at K8
   have LG:kE ty S aA t (.sl [] none f0) (.sl news tok f)=some (.gD aA news.length agg,de S aA (.op e s (flat news) false)):=by
    simp only[kE,h1,h5]
    rw[if_neg HL,if_pos]
    simp only[Bool.and_eq_true,decide_eq_true_eq,List.all_eq_true]
    refine⟨⟨⟨⟨⟨tj,c1⟩,c4⟩,hb⟩,by omega⟩,fun r hr=>by rw[jf r hr,c2]⟩
   refine⟨.gD aA news.length agg,de S aA (.op e s (flat news) false),upd ι nT aA,upd w aA nT,.so nT k',te,_,⟨none,true⟩,⟨none,true⟩,fun _ => ?_,fun hd=>(by cases hd),⟨fun e=>e,fun l hl=>(by cases hl)⟩,fun l m hl=>(by cases hl),jQ,?_,nE hR hn hT hw,fun hd=>(by cases hd),oR hn (kD hB hT),iV hB hT,lR hn,rfl,rfl,rfl⟩
   ·simp only[ai,ho,ha,ht,if_true,k1,k4,hh,LG]
   ·simp only[RT,upd,if_true]
    refine⟨trivial,c3.symm,e,s,_,false,by rw[aS hn,if_pos rfl],?_⟩
    rw[fN sV,K8,c2]
  ·cases h
 ·cases h
end Go.Tv
end
section
namespace Go.Tv
open Go Go.Di Go.Proofs
def AR (tS:List TB):TV→TV
 | .so g t=>match tS[g]? with
  | some (.rows t' _ l z)=>if h:t'=t then (match z with
    | true => .sl t (h▸l) .no
    | false => .so g t) else .unk
  | _ => .unk
 | v=>v
def rH (te:List TV) (tS:List TB) (x:Operand):List TB :=
 match fD te x with
 | some (.so g t)=>match gV tS g t with
  | some (e,l,false)=>tS.set g (.rows t e l true)
  | _=>tS
 | _=>tS
def FZ (te:List TV) (tS:List TB) (x:Operand):Bool :=
 match fD te x with
 | some .unk | none=>false
 | some (.so g t)=>(gV tS g t).isSome
 | some _=>true
def FX (ty:eV) (te:List TV) (tS:List TB) (o:Oper):Option (List TV×List TB) :=
 match ty.h o with
 | 2=>if o.op.operands.toList.all (FZ te tS) then some (te.map (AR (o.op.operands.toList.foldl (rH te) tS)),o.op.operands.toList.foldl (rH te) tS) else none
 | _=>some (te,tS)
variable {P:Program} {ty:eV} {tt:TypeId→Option TT} {ι ι' w:jF} {S S':ak} {te jU:List TV} {env:List DV} {tS gM:List TB} {aD:bn} {call:aW} {yf:dH} {o:Oper} {aA nT:Nat} {B:List Nat} {ops:Array Oper}
theorem GO {g g':Nat} {t t':TT} {e e':Nat} {l:List t.den} {l':List t'.den} {z:Bool} (h:gV tS g t=some (e,l,z)) (h':gV tS g' t'=some (e',l',false)):(gV (tS.set g' (.rows t' e' l' true)) g t).isSome=true:=by
 have h1:=iC h
 have h2:=iC h'
 by_cases e1:g'=g
 ·subst e1
  rw[h1] at h2
  cases h2
  unfold gV
  rw[List.getElem?_set,if_pos rfl,if_pos (List.getElem?_eq_some_iff.1 h1).1]
  simp
 ·have:gV (tS.set g' (.rows t' e' l' true)) g t=gV tS g t:=by
   unfold gV
   rw[List.getElem?_set,if_neg e1]
  rw[this,h]; rfl
theorem OD {x y:Operand} (h:FZ te tS x=true):FZ te (rH te tS y) x=true:=by
 unfold FZ at h ⊢
 split at h
 ·cases h
 ·cases h
 ·rename_i g t hx
  unfold rH
  split
  ·split
   ·rename_i e' l' h2
    obtain⟨⟨e,l,z⟩,h1⟩:=Option.isSome_iff_exists.1 h
    exact GO h1 h2
   ·exact h
  ·exact h
 ·rfl
theorem ab6 (hR:bK ι te tS env S) (hB:lY B tS) {x:Operand} (h:FZ te tS x=true):bK ι te (rH te tS x) env (mC env S x)∧lY B (rH te tS x)∧Fr B ι S ι (mC env S x)∧∀ i,Nn i S (mC env S x):=by
 have same:rH te tS x=tS→mC env S x=S→bK ι te (rH te tS x) env (mC env S x)∧lY B (rH te tS x)∧Fr B ι S ι (mC env S x)∧∀ i,Nn i S (mC env S x):=fun h1 h2=>by rw[h1,h2]; exact⟨hR,hB,Fr.refl _ _ _,fun i=>ek _ _⟩
 unfold FZ at h
 split at h
 ·cases h
 ·cases h
 ·rename_i g t hx
  obtain⟨⟨e,l,z⟩,h1⟩:=Option.isSome_iff_exists.1 h
  obtain⟨d,k1,k2⟩:=aT hR.env hx
  have hg:=iC h1
  obtain⟨id,ds,rfl,m1,m2,m3,m4,m5,m6⟩:=AO hR hg k2 rfl
  cases z with
  | true=>exact same (by simp only[rH,hx,h1]) (by simp only[mC,k1,qJ,m3])
  | false =>
   have e1:rH te tS x=tS.set g (.rows t e l true):=by simp only[rH,hx,h1]
   have e2:mC env S x=S.set id (.op e t.size ds true):=by simp only[mC,k1,qJ,m3]
   rw[e1,e2]
   exact⟨uo hR m1 hg m2 rfl m5 m6 m4,E2 hB hg,uW m1,fun i=>uS m2 (fun e=>by cases e)⟩
 ·rename_i v h1 h2 hx
  obtain⟨d,k1,k2⟩:=aT hR.env hx
  refine same ?_ ?_
  ·unfold rH
   rw[hx]
   cases v<;>first | rfl | exact absurd rfl (h2 _ _)
  ·simp only[mC,k1]
   cases v<;>first | exact absurd rfl (h2 _ _) | exact absurd rfl h1 | skip
   all_goals cases d<;>simp only[RT] at k2<;>rfl
theorem ZO:∀ (l:List Operand) {tS:List TB} {S:ak},bK ι te tS env S→lY B tS→l.all (FZ te tS)=true→bK ι te (l.foldl (rH te) tS) env (l.foldl (mC env) S)∧lY B (l.foldl (rH te) tS)∧Fr B ι S ι (l.foldl (mC env) S)∧∀ i,Nn i S (l.foldl (mC env) S)
 | [],_,S,hR,hB,_=>⟨hR,hB,Fr.refl _ _ _,fun i=>ek _ _⟩
 | x::l,tS,S,hR,hB,h=>by
  simp only[List.all_cons,Bool.and_eq_true] at h
  obtain⟨h1,h2,h3,h4⟩:=ab6 hR hB h.1
  obtain⟨k1,k2,k3,k4⟩:=ZO l h1 h2 (List.all_eq_true.2 fun y hy=>OD (List.all_eq_true.1 h.2 y hy))
  refine⟨k1,k2,h3.trans k3,fun i=>⟨Nat.le_trans (h4 i).1 (k4 i).1,fun j hj hn=>(k4 i).2 j hj ((h4 i).2 j hj hn)⟩⟩
theorem RP (hR:bK ι jU tS env S) {v:TV} {d:DV} (h:RT ι S v d):RT ι S (AR tS v) (jd S d):=by
 cases v
 case so g t =>
  simp only[AR]
  split
  ·rename_i t' e l z hg
   split
   ·rename_i ht
    obtain⟨id,ds,rfl,m1,m2,m3,m4,m5,m6⟩:=AO hR hg h ht
    subst ht
    cases z with
    | true =>
     rw[IV m3 m5 m6]
     simp only[RT,qK,and_true]
     exact sH m6 m4
    | false =>
     have:jd S (.gD id l.length t'.agg) = .gD id l.length t'.agg:=by simp only[jd,m3]
     rw[this]
     exact h
   ·simp only[RT]
  ·simp only[RT]
 case unk=>simp only[AR,RT]
 all_goals
  cases d<;>simp only[RT] at h
  simp only[AR,jd,RT]
  exact h
theorem EL (hR:bK ι jU tS env S):∀ {l:List TV} {m:List DV},cA ι S l m→cA ι S (l.map (AR tS)) (m.map (jd S))
 | [],m,h=>by rw[aJ h]; exact bJ
 | a::l,m,h=>by
  obtain⟨d,m',rfl,h1,h2⟩:=aj h
  exact aG (RP hR h1) (EL hR h2)
theorem WV (hR:bK ι te tS env S) (hB:lY B tS) (h:FX ty te tS o=some (jU,gM)):bK ι jU gM (Al ty o env S).1 (Al ty o env S).2∧lY B gM∧Fr B ι S ι (Al ty o env S).2∧Nn S.length S (Al ty o env S).2:=by
 unfold FX at h
 unfold Al
 split at h
 ·rename_i hh
  split at h
  ·rename_i gZ
   cases h
   obtain⟨h1,h2,h3,h4⟩:=ZO (env:=env) _ hR hB gZ
   simp only[hh]
   exact⟨⟨EL h1 h1.env,h1.cells,h1.own,h1.uE,h1.inj,h1.mp⟩,h2,h3,h4 _⟩
  ·cases h
 ·rename_i hh
  cases h
  simp only[]
  exact⟨hR,hB,Fr.refl _ _ _,ek _ _⟩
theorem kW {k:Nat} (ho:ops[k]? = some o) (hw:dc ops te o=some true) (hp:FX ty te tS o=some (jU,gM)) {Q:List TV→List TB→Prop} {K:TV→List TV→List TB→cu→Prop} (hd:Does P ty aD call yf B o gM.length jU gM false K)
  (h:∀ v bT bV ft,K v bT bV ft→WL P ty aD call yf B ops (k+1) (jZ bT o.dst v) bV Q):WL P ty aD call yf B ops k te tS Q:=by
 intro ι env S hR hB
 obtain⟨Le,Jj,hF1,hN1⟩:=WV (o:=o) hR hB hp
 generalize sZ:Al ty o env S=pr at Le hF1 hN1
 obtain⟨jG,S1⟩:=pr
 obtain⟨w,Yq⟩:=F8 Le
 obtain⟨d,S',ι',w',v,bT,bV,f,ft,h1,-,-,-,h5,h6,-,-,h9,qZ,z7,Lg⟩:=hd ι w jG S1 S1.length Le Jj Yq (.inr rfl) (.inr rfl) (fun e=>by cases e)
 obtain⟨ay,ry,ι'',rB,rC,k1,k2,k3,k4,k5,k6⟩:=h v bT bV ft Lg ι' (eH jG o.dst d) S' (ku h5 h6 _) qZ
 refine⟨ay,ry,ι'',rB,rC,?_,k2,k3,(hF1.trans h9).trans k4,o6 hN1 (o6 z7 k5),k6⟩
 rw[kC ho]
 simp only[BV,fq hR.env hw,if_true,sZ,h1 rfl,k1]
end Go.Tv
end
