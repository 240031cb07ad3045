import Derived.Test.YtedcgbkilmlbhaaGreatPk05
section
namespace Go.Tv
open Go Go.Di Go.Proofs
def gZ (tS:List TB) (g:Nat) (t:TT):Option (Nat×List t.den×Bool) :=
 match tS[g]? with
 | some (.rows t' e l z)=>if h:t'=t then some (e,h▸l,z) else none
 | _=>none
theorem iI {tS:List TB} {g:Nat} {t:TT} {e:Nat} {l:List t.den} {z:Bool} (h:gZ tS g t=some (e,l,z)):tS[g]? = some (.rows t e l z):=by
 unfold gZ at h
 split at h
 ·rename_i t' e' l' z' hg
  split at h
  ·rename_i ht
   subst ht
   cases h
   exact hg
  ·cases h
 ·cases h
section
variable (ty:eY) (tt:TypeId→Option TT)
def D5 (te:List TV) (tS:List TB) (o:Oper):Option (TV×Nat×Prop) :=
 match o.op with
 | .indexAddr t x i=>match ty t,fG te x,DR te i with
  | some ⟨.slice _ s _ _,_,_⟩,some (.so g k),some n=>match gZ tS g k with
   | some (_,l,_)=>if k.size==s then some (.sp g k n.toNat 0,g,0≤n∧n<(l.length:Int)) else none
   | none=>none
  | _,_,_=>none
 | .fieldAddr t x f=>match ty t,fG te x with
  | some ⟨.struct fs,_,_⟩,some (.sp g k i off)=>match fs[f]? with
   | some (o,s,_)=>if 0<s then some (.sp g k i (off+o),g,True) else none
   | none=>none
  | _,_=>none
 | .load t a=>match ty t,fG te a with
  | some d,some (.sp g k i off)=>match gZ tS g k with
   | some (_,l,_)=>(wo d.k.isAgg d.size (k.cells (l.getD i k.Vn)) off).map fun v=>(ia tt t v,g,True)
   | none=>none
  | _,_=>none
 | .call { callee := .builtin .len,args,argTypes }=>match args.toList,argTypes.toList with
  | [x],[t]=>match ty t,fG te x with
   | some ⟨.slice _ _ _ _,_,_⟩,some (.so g k)=>match gZ tS g k with
    | some (_,l,_)=>some (.val (.int .i64 (l.length:Nat)),g,True)
    | none=>none
   | _,_=>none
  | _,_=>none
 | _=>none
def MT (te:List TV) (tS:List TB) (o:Oper):Option (Nat×List TB) :=
 match o.op with
 | .store t a x=>match ty t,fG te a,(fG te x).map (ia tt t) with
  | some d,some (.sp g k i off),some v=>match gZ tS g k with
   | some (e,l,false)=>if v.yH&&v.cells.length==d.size then match Mr (k.cells (l.getD i k.Vn)) off v.cells with
     | some cs=>match k.of cs with
      | some (y,[])=>some (g,tS.set g (.rows k e (l.set i y) false))
      | _=>none
     | none=>none
    else none
   | _=>none
  | _,_,_=>none
 | _=>none
def M3:TV→Bool
 | .eu=>true
 | .sl _ [] .full=>true
 | _=>false
def MS (te:List TV) (tS:List TB) (o:Oper) (nT:Nat):Option (TV×List TV×List TB×Prop) :=
 match o.op with
 | .makeSlice t a b=>match ty t,DR te a,DR te b,tt t with
  | some ⟨.slice e s ji agg,_,_⟩,some n,some m,some (.sl k)=>match ty e with
   | some ⟨_,_,some z⟩=>match k.of (z.map tB) with
    | some (x,[])=>if decide (0<s)&&k.size==s&&k.agg==agg&&(agg||s==1)&&decide (ji≤100000) then
      some (.so nT k,te,oH tS nT (.rows k e (List.replicate n.toNat x) false),m=n∧0≤n∧n≤1000000000) else none
    | _=>none
   | _=>none
  | _,_,_,_=>none
 | .buildSlice t n ps=>match ty.h o with
  | 1=>match ty t,vc te ps.toList,tt t with
   | some ⟨.slice e s _ agg,_,_⟩,some l,some (.sl k)=>match ty e with
    | some ⟨_,_,some z⟩=>if decide (0<s)&&decide (n*s≤16777216)&&l.length==n&&z.length==s&&k.size==s&&k.agg==agg&&(agg||s==1) then
      (yF k 0 l).map fun w=>(.so nT k,te,oH tS nT (.rows k e w false),True)
     else none
    | _=>none
   | _,_,_=>none
  | _=>none
 | .call { callee := .builtin .append,args,argTypes }=>match args.toList,argTypes.toList with
  | [x,y],[t,u]=>if t=u then match fG te x with
   | some (.so g k)=>match ty t,(fG te y).map (ia tt t) with
    | some ⟨.slice e s ji agg,_,_⟩,some (.sl k' m _)=>if h:k'=k then match gZ tS g k,ty e with
      | some (e',l,false),some ⟨_,_,some _⟩=>if e'==e&&k.size==s&&k.agg==agg&&decide (ji≤100000) then
        some (.so g k,tj g te,(tS.map (oz g)).set g (.rows k e (l++(h▸m)) false),l.length+m.length≤1000000000) else none
      | _,_=>none
     else none
    | _,_=>none
   | some v=>match ty.h o with
    | 1=>match ty t,(fG te y).map (ia tt t) with
     | some ⟨.slice e s ji agg,_,_⟩,some (.sl k' (a::m) _)=>match ty e with
      | some ⟨_,_,some _⟩=>if M3 v&&decide (0<s)&&k'.size==s&&k'.agg==agg&&(agg||s==1)&&decide (ji≤100000) then
        some (.so nT k',te,oH tS nT (.rows k' e (a::m) false),(a::m).length≤1000000000) else none
      | _=>none
     | _,_=>none
    | _=>none
   | none=>none
   else none
  | _,_=>none
 | _=>none
end
variable {P:Program} {ty:eY} {tt:TypeId→Option TT} {ι ι' w:jE} {S S':ak} {te j6:List TV} {env:List DV} {tS gT:List TB} {aC:bk} {call:aW} {yf:dR} {o:Oper} {ay nT:Nat} {B:List Nat} {ops:Array Oper}
theorem sP {t:TT}:∀ {l:List t.den} {ds:List DV} {i:Nat},dO t l ds→i<l.length→∃ pre c post,ds=pre++c++post∧pre.length=i*t.size∧CR t (l.getD i t.Vn) c∧∀ y c',CR t y c'→dO t (l.set i y) (pre++c'++post)
 | [],_,_,_,h=>by simp at h
 | x::l,ds,i,hf,h=>by
  simp only[dO] at hf
  obtain⟨c,m,rfl,h1,h2⟩:=hf
  cases i with
  | zero=>exact⟨[],c,m,rfl,by simp,h1,fun y c' hc=>by simp only[List.set_cons_zero,dO]; exact⟨c',m,rfl,hc,h2⟩⟩
  | succ i =>
   obtain⟨pre,c1,post,rfl,k1,k2,k3⟩:=sP (i:=i) h2 (by simpa using h)
   refine⟨c++pre,c1,post,by simp,by rw[List.length_append,j4 h1,k1,Nat.add_mul,Nat.one_mul,Nat.add_comm],by simpa using k2,fun y c' hc => ?_⟩
   simp only[List.set_cons_succ,dO]
   exact⟨c,pre++c'++post,by simp,h1,k3 y c' hc⟩
theorem Fa {t:TT}:∀ {l m:List t.den} {ds es:List DV},dO t l ds→dO t m es→dO t (l++m) (ds++es)
 | [],_,ds,_,h,k=>by simp only[dO] at h; subst h; exact k
 | x::l,m,ds,es,h,k=>by
  simp only[dO] at h
  obtain⟨c,r,rfl,h1,h2⟩:=h
  simp only[List.cons_append,dO]
  exact⟨c,r++es,by simp,h1,Fa h2 k⟩
theorem zc {t:TT} {x:t.den} {c:List DV} (h:CR t x c):∀ n,dO t (List.replicate n x) (List.replicate n c).flatten
 | 0=>by simp[dO]
 | n+1=>by
  simp only[List.replicate_succ,List.flatten_cons,dO]
  exact⟨c,_,rfl,h,zc h n⟩
theorem oa {t:TT} {agg:Bool}:∀ {l:List t.den} {rows:List DV},de (CR t) agg l rows→dO t l (flat rows)
 | [],[],_=>by simp[flat,dO]
 | x::l,r::rows,h=>by
  simp only[flat,List.flatMap_cons,dO]
  exact⟨r.cells,_,rfl,h.1.1,oa h.2⟩
theorem rF {t:TT}:∀ {qs:List (Nat×DV)} {i:Nat} {l:List t.den},Be t i qs l→dO t l (gv qs)
 | [],_,[],_=>by simp[gv,dO]
 | (j,d)::qs,i,x::l,h=>by
  obtain⟨⟨rfl,hc⟩,h⟩:=h
  simp only[gv,List.flatMap_cons,dO]
  exact⟨d.strip.cells,_,rfl,hc,rF h⟩
theorem zk:∀ {t:TT} {x:t.den} {c:List DV},CR t x (c.map DV.aH)→c.all DV.bn=true→CR t x c
 | .int _,_,c,h,hp=>by
  simp only[CR] at h ⊢
  obtain⟨d,rfl⟩:∃ d,c=[d]:=List.length_eq_one_iff.1 (by have:=congrArg List.length h; simpa using this)
  cases d<;>simp_all [DV.aH]
 | .bool,_,c,h,hp=>by
  simp only[CR] at h ⊢
  obtain⟨d,rfl⟩:∃ d,c=[d]:=List.length_eq_one_iff.1 (by have:=congrArg List.length h; simpa using this)
  cases d<;>simp_all [DV.aH]
 | .str,_,c,h,hp=>by
  simp only[CR] at h ⊢
  obtain⟨d,rfl⟩:∃ d,c=[d]:=List.length_eq_one_iff.1 (by have:=congrArg List.length h; simpa using this)
  cases d<;>simp_all [DV.aH]
 | .unit,_,c,h,_=>by
  simp only[CR] at h ⊢
  simpa using h
 | .pair a b,x,c,h,hp=>by
  simp only[CR] at h ⊢
  obtain⟨c1,c2,e,h1,h2⟩:=h
  obtain⟨d1,d2,rfl,rfl,rfl⟩:=List.map_eq_append_iff.1 e
  rw[List.all_append,Bool.and_eq_true] at hp
  exact⟨d1,d2,rfl,zk h1 hp.1,zk h2 hp.2⟩
 | .sl t,l,c,h,hp=>by
  simp only[CR] at h ⊢
  obtain⟨rows,f,e,h⟩:=h
  obtain⟨d,rfl⟩:∃ d,c=[d]:=List.length_eq_one_iff.1 (by have:=congrArg List.length e; simpa using this)
  cases d<;>simp[DV.aH] at e
  rename_i r tok f'
  obtain⟨rfl,-⟩:=e
  cases tok with
  | some=>simp[DV.bn] at hp
  | none=>exact⟨r,f',rfl,h⟩
theorem AH (d:DV):d.aH.aH=d.aH:=by cases d<;>rfl
theorem Da {v:TV} {d:DV} (hk:v.yH=true) (h:RT ι S v d):d.strip.cells=d.cells.map DV.aH:=by
 cases v<;>cases d<;>simp only[RT] at h<;>first | (cases hk; done) | rfl
theorem K2 {agg:Bool} {n off:Nat} {pre c post:List DV} {d:DV} (h:kg agg n c off=some d):kg agg n (pre++c++post) (pre.length+off)=some d:=by
 unfold kg at h ⊢
 cases agg with
 | true =>
  simp only[if_true,Option.map_eq_some_iff] at h ⊢
  obtain⟨cs,h1,rfl⟩:=h
  refine⟨cs,?_,rfl⟩
  unfold MG at h1 ⊢
  split at h1
  ·rename_i hle
   cases h1
   rw[if_pos (by simp; omega),List.append_assoc,List.drop_append,List.drop_eq_nil_of_le (by omega),List.nil_append,Nat.add_sub_cancel_left,List.drop_append_of_le_length (by omega),List.take_append_of_le_length (by simp; omega)]
  ·cases h1
 | false =>
  simp only[Bool.false_eq_true,if_false] at h ⊢
  have hlt:=(List.getElem?_eq_some_iff.1 h).1
  rw[List.append_assoc,List.getElem?_append_right (by omega),Nat.add_sub_cancel_left,List.getElem?_append_left hlt]
  exact h
theorem OU {off:Nat} {pre c post cs c':List DV} (h:qK c off cs=some c'):qK (pre++c++post) (pre.length+off) cs=some (pre++c'++post):=by
 unfold qK at h ⊢
 split at h
 ·rename_i hle
  cases h
  have e1:(pre++c++post).take (pre.length+off)=pre++c.take off:=by
   rw[List.append_assoc,List.take_append,List.take_of_length_le (by omega),Nat.add_sub_cancel_left,List.take_append_of_le_length (by omega)]
  have e2:(pre++c++post).drop (pre.length+off+cs.length)=c.drop (off+cs.length)++post:=by
   rw[List.append_assoc,Nat.add_assoc,List.drop_append,List.drop_eq_nil_of_le (by omega),List.nil_append,Nat.add_sub_cancel_left,List.drop_append_of_le_length (by omega)]
  rw[if_pos (by simp; omega),e1,e2]
  simp[List.append_assoc]
 ·cases h
theorem TX (h:bL ι te tS env S) {g i off:Nat} {t:TT} {e:Nat} {l:List t.den} {z:Bool} {d:DV} (hg:tS[g]? = some (.rows t e l z)) (hd:RT ι S (.sp g t i off) d):∃ id ds,d = .dM id l.length (i*t.size+off)∧ι g=some id∧S[id]? = some (.op e t.size ds z)∧Aq S id l.length=some (e,t.size,ds,z)∧dO t l ds∧i<l.length∧0<t.size∧(t.agg||t.size==1)=true:=by
 cases d<;>simp only[RT] at hd
 rename_i id n qL
 obtain⟨h1,rfl,e',s',l',z',h2,h3,h4⟩:=hd
 obtain⟨q0,q1,ds,q2,q3⟩:=h.mp g _ hg id h1
 rw[h2] at q2
 cases q2
 have hl:=fP q3
 have hn:n=l.length:=Nat.eq_of_mul_eq_mul_right q0 (h3.trans hl)
 subst hn
 refine⟨id,l',rfl,h1,h2,?_,q3,?_,q0,q1⟩
 ·unfold Aq
  rw[h2]
  simp only[h3,if_true]
 ·rw[← h3] at h4
  have:i*t.size<l.length*t.size:=by omega
  exact Nat.lt_of_mul_lt_mul_right this
theorem zO {v:TV} {g:Nat} {c:Prop} (h:D5 ty tt te tS o=some (v,g,c)) (hc:c) (hR:bL ι te tS env S):∃ d id,(∀ ay,ah P ty aC call yf (ga env) o S ay=some (d,S))∧RT ι S v d∧ι g=some id∧((∃ t a f,o.op = .fieldAddr t a f∧∃ n off,ga env a=some (.dM id n off))∨(∃ t a i,o.op = .indexAddr t a i∧∃ n ag,ga env a=some (.gI id n ag))∨(∃ t a,o.op = .load t a∧∃ n off,ga env a=some (.dM id n off))∨∃ args ats,o.op = .call { callee := .builtin .len,args,argTypes:=ats }):=by
 unfold D5 at h
 split at h
 ·rename_i t x i ho
  split at h
  ·rename_i e s ji agg sz z g' k n h1 h2 h3
   split at h
   ·rename_i e' l zz h4
    split at h
    ·rename_i h5
     cases h
     have hg:=iI h4
     obtain⟨d,k1,k2⟩:=aS hR.env h2
     obtain⟨id,ds,rfl,m1,m2,m3,m4,m5,m6⟩:=A0 hR hg k2 rfl
     have hs:k.size=s:=by simpa using h5
     have hl:=fP m4
     have hi:intOf (ga env) i=some n:=mc hR.env h3
     obtain⟨c1,c2⟩:=hc
     refine⟨.dM id l.length (n.toNat*s),id,fun ay => ?_,?_,m1,.inr (.inl ⟨t,x,i,ho,_,_,k1⟩)⟩
     ·simp only[ah,ho,h1,k1,hi,m3]
      rw[if_pos ⟨c1,by omega,hs⟩]
     ·simp only[RT]
      refine⟨m1,by rw[hs]; rfl,e',k.size,ds,zz,m2,hl.symm,?_⟩
      rw[hl,← Nat.succ_mul]
      exact Nat.mul_le_mul_right _ (by omega)
    ·cases h
   ·cases h
  ·cases h
 ·rename_i t x f ho
  split at h
  ·rename_i fs sz z g' k i off h1 h2
   split at h
   ·rename_i of s ag hf
    split at h
    ·rename_i hs
     cases h
     obtain⟨d,k1,k2⟩:=aS hR.env h2
     cases d<;>simp only[RT] at k2
     rename_i id n qL
     obtain⟨m1,rfl,e',s',l',z',m2,m3,m4⟩:=k2
     have hop:Aq S id n=some (e',s',l',z'):=by unfold Aq; rw[m2]; simp only[m3,if_true]
     refine⟨.dM id n (i*k.size+off+of),id,fun ay => ?_,?_,m1,.inl ⟨t,x,f,ho,_,_,k1⟩⟩
     ·simp only[ah,ho,h1,k1,hf,hop,if_pos hs]
     ·simp only[RT]
      exact⟨m1,by omega,e',s',l',z',m2,m3,m4⟩
    ·cases h
   ·cases h
  ·cases h
 ·rename_i t a ho
  split at h
  ·rename_i td g' k i off h1 h2
   split at h
   ·rename_i e' l zz h4
    simp only[Option.map_eq_some_iff,Prod.mk.injEq] at h
    obtain⟨u,h5,rfl,rfl,-⟩:=h
    have hg:=iI h4
    obtain⟨d,k1,k2⟩:=aS hR.env h2
    obtain⟨id,ds,rfl,m1,m2,m3,m4,m5,m6,m7⟩:=TX hR hg k2
    obtain⟨pre,c,post,rfl,q1,q2,-⟩:=sP m4 m5
    obtain⟨d,q3,q4⟩:=mU (lH (ι:=ι) (S:=S) q2) h5
    refine⟨d,id,fun ay => ?_,bO q4,m1,.inr (.inr (.inl ⟨t,a,ho,_,_,k1⟩))⟩
    simp only[ah,ho,k1,iq,h1,m3]
    rw[← q1,K2 q3]
    rfl
   ·cases h
  ·cases h
 ·rename_i args ats ho
  split at h
  ·rename_i x t ha ht
   split at h
   ·rename_i e s ji agg sz z g' k h1 h2
    split at h
    ·rename_i e' l zz h4
     cases h
     have hg:=iI h4
     obtain⟨d,k1,k2⟩:=aS hR.env h2
     obtain⟨id,ds,rfl,m1,m2,m3,m4,m5,m6⟩:=A0 hR hg k2 rfl
     refine⟨.val (.int .i64 (l.length:Nat)),id,fun ay => ?_,by simp only[RT],m1,.inr (.inr (.inr ⟨_,_,ho⟩))⟩
     simp only[ah,ho,ha,ht,h1,k1]
    ·cases h
   ·cases h
  ·cases h
 ·cases h
theorem z7 {v:TV} {g:Nat} {c:Prop} (h:D5 ty tt te tS o=some (v,g,c)) (hc:c) (dr:Bool):Does P ty aC call yf B o nT te tS dr fun v' bS bV ft=>v'=v∧bS=te∧bV=tS∧ft=⟨some [g],false⟩:=by
 intro ι w env S ay hR hB hw hT hn hS
 obtain⟨d,id,h1,h2,h3,h4⟩:=zO (P:=P) (aC:=aC) (call:=call) (yf:=yf) h hc hR
 have hl:∃ l,aB P ty aC call yf (ga env) o S ay=some (d,S,⟨some l,false⟩)∧∀ j∈l,j=id:=by
  rcases h4 with ⟨t,a,f,ho,n,off,ha⟩ | ⟨t,a,i,ho,n,ag,ha⟩ | ⟨t,a,ho,n,off,ha⟩ | ⟨args,ats,ho⟩
  ·exact⟨[id],by simp only[aB,ho,ha,h1,Option.map_some],by simp⟩
  ·exact⟨[id],by simp only[aB,ho,ha,h1,Option.map_some],by simp⟩
  ·exact⟨[id],by simp only[aB,ho,ha,h1,Option.map_some],by simp⟩
  ·exact⟨[],by simp only[aB,ho,h1,Option.map_some],by simp⟩
 obtain⟨l,h5,h6⟩:=hl
 refine⟨d,S,ι,w,v,te,tS,⟨some l,false⟩,⟨some [g],false⟩,fun _=>h1 ay,fun _=>h5,⟨fun e=>e,fun l' gK => ?_⟩,fun l' m _ hm j hj => ?_,hR,h2,hw,fun _ _ _=>rfl,Fr.refl _ _ _,hB,ew _ _,rfl,rfl,rfl,rfl⟩
 ·cases gK
  exact⟨l,rfl,fun j hj=>⟨g,by simp,by rw[h6 j hj]; exact hw _ _ h3⟩⟩
 ·cases hm
  exact .inr ⟨g,by rw[h6 j hj]; exact h3⟩
theorem Od {k:Nat} {v:TV} {g:Nat} {c:Prop} {Q:List TV→Prop} (ho:ops[k]? = some o) (hw:dh ops te o=some true) (h:D5 ty tt te tS o=some (v,g,c)) (hc:c) (hq:WQ P ty aC call yf ops tS (k+1) (j9 te o.dst v) Q):WQ P ty aC call yf ops tS k te Q:=by
 intro ι env S hR
 obtain⟨d,id,h1,h2,h3,h4⟩:=zO (P:=P) (aC:=aC) (call:=call) (yf:=yf) h hc hR
 obtain⟨ax,bS,n1,n2,n3⟩:=hq ι (eP env o.dst d) S (kC hR h2 _)
 refine⟨ax,bS,?_,n2,n3⟩
 rw[kG ho]
 have hq:b7 P ty aC call yf (ga env) o S=some d:=by
  rcases h4 with ⟨t,a,f,ho,n,off,ha⟩ | ⟨t,a,i,ho,n,ag,ha⟩ | ⟨t,a,ho,n,off,ha⟩ | ⟨args,ats,ho⟩<;>simp only[b7,ho,h1,Option.map_some]
 simp only[mq,fB hR.env hw,if_true,hq,n1]
end Go.Tv
end
section
namespace Go.Tv
open Go Go.Di Go.Proofs
variable {P:Program} {ty:eY} {tt:TypeId→Option TT} {ι ι' w:jE} {S S':ak} {te j6:List TV} {env:List DV} {tS gT:List TB} {aC:bk} {call:aW} {yf:dR} {o:Oper} {ay nT:Nat} {B:List Nat} {ops:Array Oper}
theorem nW (h:bL ι te tS env S) (hT:u5 tS nT) (hn:u6 S ay) {t:TT} {e:Nat} {l:List t.den} {ds:List DV} (h0:0<t.size) (h1:(t.agg||t.size==1)=true) (hf:dO t l ds):bL (upd ι nT ay) te (oH tS nT (.rows t e l false)) env (di S ay (.op e t.size ds false)):=by
 have K:=qz h hT hn (.op e t.size ds false)
 refine⟨aY K _ _ h.env,fun k l hk => ?_,fun k e s hk t ht => ?_,fun k k' hk => ?_,fun i j k' hi hj => ?_,fun k b hk t0 ht => ?_⟩
 ·rw[bM hT] at hk
  split at hk
  ·cases hk
  ·rename_i e
   obtain⟨k',eM,h1,h2,h3⟩:=h.cells k l hk
   exact⟨k',eM,by simp only[upd,e,if_false]; exact h1,by rw[aR hn,if_neg (h.cz hn h1)]; exact h2,aY K _ _ h3⟩
 ·rw[bM hT] at hk
  split at hk
  ·cases hk
  ·rename_i e'
   simp only[upd,e',if_false] at ht
   obtain⟨n,h1⟩:=h.own k e s hk t ht
   exact⟨n,by rw[aR hn,if_neg (h.cz hn ht)]; exact h1⟩
 ·rw[bM hT]
  split
  ·exact⟨_,rfl,fun e=>by cases e⟩
  ·rename_i e
   simp only[upd,e,if_false] at hk
   exact h.uP k k' hk
 ·unfold upd at hi hj
  split at hi<;>split at hj
  ·omega
  ·cases hi; exact(h.cz hn hj rfl).elim
  ·cases hj; exact(h.cz hn hi rfl).elim
  ·exact h.inj i j k' hi hj
 ·rw[bM hT] at hk
  split at hk
  ·rename_i e'
   cases hk
   simp only[upd,e',if_true,Option.some.injEq] at ht
   subst ht
   rw[aR hn,if_pos rfl]
   exact⟨h0,h1,ds,rfl,hf⟩
  ·rename_i e'
   simp only[upd,e',if_false] at ht
   rw[aR hn,if_neg (h.cz hn ht)]; exact h.mp k b hk t0 ht
theorem uF (h:bL ι te tS env S) {g id:Nat} {t:TT} {e:Nat} {l l':List t.den} {ds eM:List DV} {z z':Bool} (hi:ι g=some id) (hg:tS[g]? = some (.rows t e l z)) (hS:S[id]? = some (.op e t.size ds z)) (hl:eM.length=ds.length) (h0:0<t.size) (h1:(t.agg||t.size==1)=true) (hf:dO t l' eM):bL ι te (tS.set g (.rows t e l' z')) env (S.set id (.op e t.size eM z')):=by
 have hlt:=(List.getElem?_eq_some_iff.1 hg).1
 have Mz:=(List.getElem?_eq_some_iff.1 hS).1
 have K:jo ι S ι (S.set id (.op e t.size eM z')) fun _=>False:=fun a b _ mm=>⟨mm,by
  rw[List.getElem?_set]
  split
  ·rename_i e1
   subst e1
   rw[hS]
   exact⟨fun _ _ _ h=>(nomatch h),fun e s l z h=>(by cases h; exact⟨eM,z',rfl,hl⟩)⟩
  ·exact dX rfl⟩
 have Tz:∀ j,(tS.set g (.rows t e l' z'))[j]? = if j=g then some (.rows t e l' z') else tS[j]? := fun j=>by
  rw[List.getElem?_set]
  by_cases e:j=g
  ·subst e; simp[hlt]
  ·rw[if_neg (Ne.symm e),if_neg e]
 have jW:∀ j,j≠id→(S.set id (.op e t.size eM z'))[j]? = S[j]? := fun j hj=>by rw[List.getElem?_set,if_neg (Ne.symm hj)]
 refine⟨aY K _ _ h.env,fun j m hj => ?_,fun j e s hj t ht => ?_,fun j j' hj => ?_,h.inj,fun j b hj t0 ht => ?_⟩
 ·rw[Tz] at hj
  split at hj
  ·cases hj
  ·rename_i e
   obtain⟨j',JU,h1,h2,h3⟩:=h.cells j m hj
   exact⟨j',JU,h1,by rw[jW j' fun e1=>e (h.inj _ _ _ (e1▸h1) hi)]; exact h2,aY K _ _ h3⟩
 ·rw[Tz] at hj
  split at hj
  ·cases hj
  ·obtain⟨n,h1⟩:=h.own j e s hj t ht
   exact⟨n,(K j t (fun e=>e) ht).2.1 _ _ _ h1⟩
 ·rw[Tz]
  split
  ·exact⟨_,rfl,by simp⟩
  ·exact h.uP j j' hj
 ·rw[Tz] at hj
  split at hj
  ·rename_i e
   subst e
   cases hj
   rw[hi] at ht
   cases ht
   rw[List.getElem?_set,if_pos rfl,if_pos Mz]
   exact⟨h0,h1,eM,rfl,hf⟩
  ·rename_i e
   rw[jW t0 fun e1=>e (h.inj _ _ _ (e1▸ht) hi)]
   exact h.mp j b hj t0 ht
theorem SL {g:Nat} {b:TB} {x:Option DB} (h:Wm b x):Wm (oz g b) x:=by cases b<;>exact h
theorem PE {g:Nat} {b:TB}:oz g b = .none→b = .none:=by cases b<;>simp[oz]
theorem AJ (h:bL ι te tS env S) {g id:Nat} {t:TT} {e:Nat} {l l':List t.den} {ds eM:List DV} {z:Bool} (hi:ι g=some id) (hg:tS[g]? = some (.rows t e l z)) (hS:S[id]? = some (.op e t.size ds z)) (h0:0<t.size) (h1:(t.agg||t.size==1)=true) (hf:dO t l' eM):bL ι (tj g te) ((tS.map (oz g)).set g (.rows t e l' false)) env (S.set id (.op e t.size eM false)):=by
 have hlt:=(List.getElem?_eq_some_iff.1 hg).1
 have Mz:=(List.getElem?_eq_some_iff.1 hS).1
 have jW:∀ j,j≠id→(S.set id (.op e t.size eM false))[j]? = S[j]? := fun j hj=>by rw[List.getElem?_set,if_neg (Ne.symm hj)]
 have K:jo ι S ι (S.set id (.op e t.size eM false)) fun k=>k=g:=fun a b ha mm=>⟨mm,dX (jW b fun e1=>ha (h.inj _ _ _ (e1▸mm) hi))⟩
 have Tz:∀ j b,((tS.map (oz g)).set g (.rows t e l' false))[j]? = some b→(j=g∧b = .rows t e l' false)∨(j≠g∧∃ b0,tS[j]? = some b0∧b=oz g b0):=fun j b hj=>by
  rw[List.getElem?_set] at hj
  split at hj
  ·rename_i e1
   subst e1
   rw[if_pos (by simpa using hlt)] at hj
   cases hj
   exact .inl ⟨rfl,rfl⟩
  ·rename_i e1
   simp only[List.getElem?_map,Option.map_eq_some_iff] at hj
   obtain⟨b0,h2,h3⟩:=hj
   exact .inr ⟨fun e=>e1 e.symm,b0,h2,h3.symm⟩
 refine⟨kB K _ _ h.env,fun j m hj => ?_,fun j e s hj t ht => ?_,fun j j' hj => ?_,h.inj,fun j b hj t0 ht => ?_⟩
 ·rcases Tz j _ hj with ⟨-,e1⟩ | ⟨hne,b0,h2,h3⟩
  ·cases e1
  ·cases b0<;>simp only[oz] at h3<;>first | (cases h3; done) | skip
   cases h3
   obtain⟨j',JU,k1,k2,k3⟩:=h.cells j _ h2
   exact⟨j',JU,k1,by rw[jW j' fun e1=>hne (h.inj _ _ _ (e1▸k1) hi)]; exact k2,kB K _ _ k3⟩
 ·rcases Tz j _ hj with ⟨-,e1⟩ | ⟨hne,b0,h2,h3⟩
  ·cases e1
  ·cases b0<;>simp only[oz] at h3<;>first | (cases h3; done) | skip
   cases h3
   obtain⟨n,k1⟩:=h.own j _ _ h2 t ht
   exact⟨n,(K j t hne ht).2.1 _ _ _ k1⟩
 ·rw[List.getElem?_set]
  split
  ·rename_i e1
   rw[if_pos (by simpa using hlt)]
   exact⟨_,rfl,by simp⟩
  ·obtain⟨b,h2,h3⟩:=h.uP j j' hj
   exact⟨oz g b,by rw[List.getElem?_map,h2]; rfl,fun e1=>h3 (PE e1)⟩
 ·rcases Tz j _ hj with ⟨rfl,rfl⟩ | ⟨hne,b0,h2,rfl⟩
  ·rw[hi] at ht
   cases ht
   rw[List.getElem?_set,if_pos rfl,if_pos Mz]
   exact⟨h0,h1,eM,rfl,hf⟩
  ·rw[jW t0 fun e1=>hne (h.inj _ _ _ (e1▸ht) hi)]
   exact SL (h.mp j b0 h2 t0 ht)
theorem Fo {g:Nat} {t t':TT} {e e':Nat} {l:List t.den} {l':List t'.den} {z z':Bool} (hB:mo B tS) (hl:tS[g]? = some (.rows t e l z)):mo B (tS.set g (.rows t' e' l' z')):=fun k hk=>by
 obtain⟨c,hc⟩:=hB k hk
 refine⟨c,?_⟩
 rw[List.getElem?_set,if_neg]
 ·exact hc
 ·rintro rfl; rw[hl] at hc; cases hc
theorem Fp {g:Nat} {t t':TT} {e e':Nat} {l:List t.den} {l':List t'.den} {z z':Bool} (hB:mo B tS) (hl:tS[g]? = some (.rows t e l z)):mo B ((tS.map (oz g)).set g (.rows t' e' l' z')):=fun k hk=>by
 obtain⟨c,hc⟩:=hB k hk
 refine⟨tj g c,?_⟩
 rw[List.getElem?_set,if_neg]
 ·rw[List.getElem?_map,hc]; rfl
 ·rintro rfl; rw[hl] at hc; cases hc
theorem Bj:∀ {S:ak} {i:Nat} {b:DB},S[i]? = some b→S.set i b=S
 | [],_,_,h=>by simp at h
 | _::_,0,_,h=>by simp only[List.getElem?_cons_zero,Option.some.injEq] at h; rw[h]; rfl
 | a::l,n+1,b,h=>by rw[List.set_cons_succ,Bj (by simpa using h)]
theorem zZ {g:Nat} {gT:List TB} (h:MT ty tt te tS o=some (g,gT)) (dr:Bool):Does P ty aC call yf B o nT te tS dr fun v' bS bV ft=>v' = .unk∧bS=te∧bV=gT∧ft=⟨some [g],true⟩:=by
 intro ι w env S ay hR hB hw hT hn hS
 unfold MT at h
 split at h
 rotate_left
 ·cases h
 rename_i t a x ho
 split at h
 rotate_left
 ·cases h
 rename_i td g' k i off v h1 h2 h3
 split at h
 rotate_left
 ·cases h
 rename_i e l h4
 split at h
 rotate_left
 ·cases h
 rename_i hc
 simp only[Bool.and_eq_true,beq_iff_eq] at hc
 obtain⟨c1,c2⟩:=hc
 split at h
 rotate_left
 ·cases h
 rename_i cs h5
 split at h
 rotate_left
 ·cases h
 rename_i y h6
 cases h
 have hg:=iI h4
 obtain⟨d,k1,k2⟩:=aS hR.env h2
 obtain⟨id,ds,rfl,m1,m2,m3,m4,m5,m6,m7⟩:=TX hR hg k2
 simp only[Option.map_eq_some_iff] at h3
 obtain⟨u,h7,h8⟩:=h3
 obtain⟨dv,k4,k5⟩:=aS hR.env h7
 have k6:=bO (tt:=tt) (t:=t) k5
 rw[h8] at k6
 have k7:=o8 (E7 c1) k6
 obtain⟨pre,c,post,rfl,q1,q2,q3⟩:=sP m4 m5
 obtain⟨c',r1,r2⟩:=CU (lH (ι:=ι) (S:=S) q2) k7 h5
 have hst:=Da c1 k6
 obtain⟨cc,m',e1,e2,e3⟩:=A4 h6 r2
 rw[aF e3,List.append_nil] at e1
 subst e1
 have hle:off+dv.cells.length≤c.length:=by
  unfold qK at r1
  split at r1
  ·assumption
  ·cases r1
 have hc':c'=c.take off++dv.cells++c.drop (off+dv.cells.length):=by
  unfold qK at r1
  rw[if_pos hle] at r1
  exact(Option.some.inj r1).symm
 have hlen:dv.strip.cells.length=dv.cells.length:=by rw[hst]; simp
 have kS:qK c off dv.strip.cells=some (c.take off++dv.strip.cells++c.drop (off+dv.cells.length)):=by
  unfold qK
  rw[hlen,if_pos hle]
 have hm:(c.take off++dv.strip.cells++c.drop (off+dv.cells.length)).map DV.aH=c'.map DV.aH:=by
  rw[hc',hst]
  simp only[List.map_append,List.map_map]
  congr 2
  exact List.map_congr_left fun d _=>AH d
 have hpa:=nN e2
 have Yb:dv.strip.cells.all DV.bn=true:=by
  rw[hc',List.map_append,List.map_append,List.all_append,List.all_append,← hst] at hpa
  simp only[Bool.and_eq_true] at hpa
  exact hpa.1.2
 have JN:=nN q2
 have hcr:CR k y (c.take off++dv.strip.cells++c.drop (off+dv.cells.length)):=by
  refine zk (by rw[hm]; exact e2) ?_
  rw[List.all_append,List.all_append,Yb]
  simp only[Bool.and_true,Bool.and_eq_true,List.all_eq_true] at JN ⊢
  exact⟨fun d hd=>JN d (List.mem_of_mem_take hd),fun d hd=>JN d (List.mem_of_mem_drop hd)⟩
 have hsz:dv.strip.cells.length=td.size:=by rw[hlen,fu k7]; exact c2
 have xm:lu ty S t (.dM id l.length (i*k.size+off)) dv=some (S.set id (.op e k.size (pre++(c.take off++dv.strip.cells++c.drop (off+dv.cells.length))++post) false)):=by
  simp only[lu,h1,m3,hsz,Yb,decide_true,Bool.and_self,if_true]
  rw[← q1,OU kS]
  rfl
 have pY:(pre++(c.take off++dv.strip.cells++c.drop (off+dv.cells.length))++post).length=(pre++c++post).length:=by
  simp only[List.length_append,List.length_take,List.length_drop,hlen]
  omega
 refine⟨aO,_,ι,w,.unk,te,_,⟨some [id],true⟩,⟨some [g],true⟩,fun _ => ?_,fun _ => ?_,⟨fun e=>e,fun l' gK => ?_⟩,fun l' m _ hm j hj => ?_,uF hR m1 hg m2 pY m6 m7 (q3 y _ hcr),by simp only[RT],hw,fun _ _ _=>rfl,vp m1,Fo hB hg,ve m2 (fun e=>by cases e),rfl,rfl,rfl,rfl⟩
 ·simp only[ah,ho,k1,k4,xm,Option.map_some]
 ·simp only[aB,ho,k1,ah,k4,xm,Option.map_some]
 ·cases gK
  exact⟨[id],rfl,fun j hj=>⟨g,by simp,by simp only[List.mem_singleton] at hj; rw[hj]; exact hw _ _ m1⟩⟩
 ·cases hm
  simp only[List.mem_singleton] at hj
  exact .inr ⟨g,hj▸m1⟩
theorem HP {v:TV} {j6:List TV} {gT:List TB} {c:Prop} (h:MS ty tt te tS o nT=some (v,j6,gT,c)) (hc:c):Does P ty aC call yf B o nT te tS false fun v' bS bV _=>v'=v∧bS=j6∧bV=gT:=by
 intro ι w env S ay hR hB hw hT hn hS
 unfold MS at h
 split at h
 ·rename_i t a b ho
  split at h
  rotate_left
  ·cases h
  rename_i e s ji agg sz z0 n m k h1 h2 h3 h4
  split at h
  rotate_left
  ·cases h
  rename_i k0 sz' z h5
  split at h
  rotate_left
  ·cases h
  rename_i x h6
  split at h
  rotate_left
  ·cases h
  rename_i Mh
  cases h
  simp only[Bool.and_eq_true,decide_eq_true_eq,beq_iff_eq] at Mh
  obtain⟨⟨⟨⟨c1,c2⟩,c3⟩,c4⟩,c5⟩:=Mh
  obtain⟨rfl,d2,d3⟩:=hc
  obtain⟨cc,m',e1,e2,e3⟩:=A4 h6 (qf (ι:=ι) (S:=S) z)
  rw[aF e3,List.append_nil] at e1
  subst e1
  have hi1:intOf (ga env) a=some m:=mc hR.env h2
  have hi2:intOf (ga env) b=some m:=mc hR.env h3
  have h0:0<k.size:=by omega
  have Zg:(k.agg||k.size==1)=true:=by rw[c3,c2]; exact c4
  have hb:m.toNat*ji≤dQ:=by
   have:m.toNat≤1000000000:=by omega
   calc m.toNat*ji≤1000000000*100000:=Nat.mul_le_mul this c5
    _≤dQ:=by decide
  have jX:=nW hR hT hn h0 Zg (e:=e) (zc e2 m.toNat)
  rw[c2] at jX
  refine⟨.gI ay m.toNat agg,di S ay (.op e s (List.replicate m.toNat (z.map DV.aH)).flatten false),upd ι nT ay,upd w ay nT,.so nT k,te,_,⟨none,true⟩,⟨none,true⟩,fun _ => ?_,fun hd=>(by cases hd),⟨fun e=>e,fun l hl=>(by cases hl)⟩,fun l m hl=>(by cases hl),jX,?_,nI hR hn hT hw,fun hd=>(by cases hd),oZ hn (kH hB hT),je hB hT,lZ hn,rfl,rfl,rfl⟩
  ·have hpz:=nN e2
   simp only[ah,ho,h1,hi1,hi2,h5,d2,c1,c4,hb,hpz,decide_true,Bool.and_self,if_true,show m≤140737488355328-4096 by omega]
  ·simp only[RT,upd,if_true]
   refine⟨trivial,c3.symm,e,s,_,false,by rw[aR hn,if_pos rfl],?_⟩
   have:=fP (zc e2 m.toNat)
   rw[this,List.length_replicate,c2]
 ·rename_i t n ps ho
  split at h
  rotate_left
  ·cases h
  rename_i hh
  split at h
  rotate_left
  ·cases h
  rename_i e s ji agg sz z0 l k h1 h2 h3
  split at h
  rotate_left
  ·cases h
  rename_i k0 sz' z h4
  split at h
  rotate_left
  ·cases h
  rename_i Mh
  simp only[Bool.and_eq_true,beq_iff_eq,Bool.or_eq_true,decide_eq_true_eq] at Mh
  obtain⟨⟨⟨⟨⟨⟨c1,c2⟩,c3⟩,c4⟩,c5⟩,c6⟩,c7⟩:=Mh
  simp only[Option.map_eq_some_iff,Prod.mk.injEq] at h
  obtain⟨w0,h5,rfl,rfl,rfl,-⟩:=h
  obtain⟨ds,k1,k2⟩:=ni hR.env h2
  obtain⟨k3,k4⟩:=zi k2 h5
  have hlen:ds.length=n:=by rw[vH k2,c3]
  have VQ:((List.replicate n z).flatten).length=ds.length*s:=by
   rw[hlen,List.length_flatten,List.map_replicate,c4,List.sum_replicate_nat]
  have hf:=sR (pre:=[]) (post:=(List.replicate n z).flatten) c5 k3 (by simp) VQ
  rw[List.nil_append,List.nil_append] at hf
  have FZ:w0.length=n:=by rw[k4,c3]
  have c7':(agg||s==1)=true:=by simpa using c7
  have s7:=rF k3
  have h0:0<k.size:=by omega
  have Zg:(k.agg||k.size==1)=true:=by rw[c6,c5]; exact c7'
  have jX:=nW hR hT hn h0 Zg (e:=e) s7
  rw[c5] at jX
  refine⟨.gI ay n agg,di S ay (.op e s (gv ds) false),upd ι nT ay,upd w ay nT,.so nT k,te,_,⟨none,true⟩,⟨none,true⟩,fun _ => ?_,fun hd=>(by cases hd),⟨fun e=>e,fun l hl=>(by cases hl)⟩,fun l m hl=>(by cases hl),jX,?_,nI hR hn hT hw,fun hd=>(by cases hd),oZ hn (kH hB hT),je hB hT,lZ hn,rfl,rfl,rfl⟩
  ·simp only[ah,ho,h1,k1,h4,decide_eq_true c1,decide_eq_true c2,Bool.and_self,if_true,hf,sD k3,c7',hh]
  ·simp only[RT,upd,if_true]
   refine⟨trivial,c6.symm,e,s,_,false,by rw[aR hn,if_pos rfl],?_⟩
   rw[fP s7,FZ,c5]
 ·rename_i args ats ho
  split at h
  rotate_left
  ·cases h
  rename_i x y t u ha ht
  split at h
  rotate_left
  ·cases h
  rename_i Ma
  subst Ma
  split at h
  ·
   rename_i g k h2
   split at h
   rotate_left
   ·cases h
   rename_i e s ji agg sz z0 k' m ap h1 h3
   split at h
   rotate_left
   ·cases h
   rename_i JO
   subst JO
   split at h
   rotate_left
   ·cases h
   rename_i e' l k0 sz' z h4 h5
   split at h
   rotate_left
   ·cases h
   rename_i Mh
   cases h
   simp only[Bool.and_eq_true,beq_iff_eq,decide_eq_true_eq] at Mh
   obtain⟨⟨⟨c1,c2⟩,c3⟩,c4⟩:=Mh
   subst c1
   have hg:=iI h4
   obtain⟨d,k1,k2⟩:=aS hR.env h2
   obtain⟨id,ds,rfl,m1,m2,m3,m4,m5,m6⟩:=A0 hR hg k2 rfl
   simp only[Option.map_eq_some_iff] at h3
   obtain⟨uy,e1,e2⟩:=h3
   obtain⟨db,k4,k5⟩:=aS hR.env e1
   have k6:=bO (tt:=tt) (t:=t) k5
   rw[e2] at k6
   cases db<;>simp only[RT] at k6
   rename_i news tok f
   obtain⟨k6,-⟩:=k6
   have LM:=ja k6
   have jm:=gF k6
   have s7:=Fa m4 (oa k6)
   have jX:=AJ hR m1 hg m2 m5 m6 s7
   have hb:(l.length+news.length)*ji≤dQ:=by
    have:l.length+news.length≤1000000000:=by rw[LM]; exact hc
    calc (l.length+news.length)*ji≤1000000000*100000:=Nat.mul_le_mul this c4
     _≤dQ:=by decide
   have lR:(agg||s==1)=true:=by rw[← c3,← c2]; exact m6
   have gK:=fP m4
   have Mi:kI ty S ay t (.gI id l.length k'.agg) (.sl news tok f)=if news.isEmpty then some (.gI id l.length k'.agg,S) else some (.gI id (l.length+news.length) agg,S.set id (.op e' k'.size (ds++flat news) false)):=by
    simp only[kI,h1,h5]
    rw[if_pos,m3]
    ·simp only[c2,decide_true,Bool.and_self,if_true]
    ·simp only[Bool.and_eq_true,decide_eq_true_eq,List.all_eq_true]
     refine⟨⟨⟨⟨by omega,lR⟩,hb⟩,?_⟩,fun r hr=>by rw[jm r hr,c2]⟩
     have:l.length+news.length≤1000000000:=by rw[LM]; exact hc
     omega
   have hst:∀ d S',kI ty S ay t (.gI id l.length k'.agg) (.sl news tok f)=some (d,S')→ah P ty aC call yf (ga env) o S ay=some (d,S'):=fun d S' h=>by
    simp only[ah,ho,ha,ht,if_true,k1,k4,h]
   have mw:∀ d S',(d = .gI id (l.length+news.length) agg)→S'=S.set id (.op e' k'.size (ds++flat news) false)→RT ι S' (.so g k') d:=fun d S' hd xE=>by
    subst hd xE
    have hlt:=(List.getElem?_eq_some_iff.1 m2).1
    simp only[RT]
    refine⟨m1,c3.symm,e',k'.size,_,false,by rw[List.getElem?_set,if_pos rfl,if_pos hlt],?_⟩
    rw[fP s7,List.length_append,LM]
   by_cases Ib:news.isEmpty=true
   ·have Gn:news=[]:=by simpa using Ib
    subst Gn
    have hm:m=[]:=List.eq_nil_of_length_eq_zero (by rw[← LM]; rfl)
    subst hm
    have hSS:S.set id (.op e' k'.size (ds++flat []) false)=S:=by
     rw[show flat []=[] from rfl,List.append_nil]
     exact Bj m2
    rw[hSS] at jX
    rw[if_pos Ib] at Mi
    have hrt:=mw (.gI id l.length k'.agg) S (by rw[c3]; rfl) hSS.symm
    refine⟨_,S,ι,w,.so g k',_,_,⟨none,true⟩,⟨none,true⟩,fun _=>hst _ _ Mi,fun hd=>(by cases hd),⟨fun e=>e,fun l hl=>(by cases hl)⟩,fun l m hl=>(by cases hl),jX,hrt,hw,fun hd=>(by cases hd),Fr.refl _ _ _,?_,ew _ _,rfl,rfl,rfl⟩
    exact Fp hB hg
   ·rw[if_neg Ib] at Mi
    refine⟨_,_,ι,w,.so g k',_,_,⟨none,true⟩,⟨none,true⟩,fun _=>hst _ _ Mi,fun hd=>(by cases hd),⟨fun e=>e,fun l hl=>(by cases hl)⟩,fun l m hl=>(by cases hl),jX,mw _ _ rfl rfl,hw,fun hd=>(by cases hd),vp m1,Fp hB hg,ve m2 (fun e=>by cases e),rfl,rfl,rfl⟩
  ·
   rename_i v0 hno h2
   split at h
   rotate_left
   ·cases h
   rename_i hh
   split at h
   rotate_left
   ·cases h
   rename_i e s ji agg sz z0 k' a m ap h1 h3
   split at h
   rotate_left
   ·cases h
   rename_i k0 sz' z h5
   split at h
   rotate_left
   ·cases h
   rename_i Mh
   cases h
   simp only[Bool.and_eq_true,beq_iff_eq,decide_eq_true_eq] at Mh
   obtain⟨⟨⟨⟨⟨c0,c1⟩,c2⟩,c3⟩,c4⟩,c5⟩:=Mh
   obtain⟨d,k1,k2⟩:=aS hR.env h2
   obtain⟨f0,rfl,tD⟩:∃ f0,d = .sl [] none f0∧f0.full=true:=by
    cases v0<;>first | (cases c0; done) | skip
    ·cases d<;>simp only[RT] at k2
     obtain⟨rfl,rfl,rfl⟩:=k2
     exact⟨_,rfl,rfl⟩
    ·rename_i k9 l9 ap9
     cases l9 with
     | cons=>simp[M3] at c0
     | nil =>
      cases ap9<;>first | (simp[M3] at c0; done) | skip
      cases d<;>simp only[RT] at k2
      rename_i rows tok f
      obtain⟨q1,rfl,q2⟩:=k2
      cases rows with
      | nil=>exact⟨f,rfl,q2⟩
      | cons=>exact q1.elim
   simp only[Option.map_eq_some_iff] at h3
   obtain⟨uy,e1,e2⟩:=h3
   obtain⟨db,k4,k5⟩:=aS hR.env e1
   have k6:=bO (tt:=tt) (t:=t) k5
   rw[e2] at k6
   cases db<;>simp only[RT] at k6
   rename_i news tok f
   obtain⟨k6,-⟩:=k6
   have LM:=ja k6
   have jm:=gF k6
   have s7:=oa k6
   have h0:0<k'.size:=by omega
   have Zg:(k'.agg||k'.size==1)=true:=by rw[c3,c2]; exact c4
   have jX:=nW hR hT hn h0 Zg (e:=e) s7
   rw[c2] at jX
   have hle:news.length≤1000000000:=by rw[LM]; exact hc
   have hb:news.length*ji≤dQ:=by
    calc news.length*ji≤1000000000*100000:=Nat.mul_le_mul hle c5
     _≤dQ:=by decide
   have Ib:¬ (news.isEmpty=true):=by
    intro he
    have:news=[]:=by simpa using he
    rw[this] at LM
    simp at LM
   have Mi:kI ty S ay t (.sl [] none f0) (.sl news tok f)=some (.gI ay news.length agg,di S ay (.op e s (flat news) false)):=by
    simp only[kI,h1,h5]
    rw[if_neg Ib,if_pos]
    simp only[Bool.and_eq_true,decide_eq_true_eq,List.all_eq_true]
    refine⟨⟨⟨⟨⟨tD,c1⟩,c4⟩,hb⟩,by omega⟩,fun r hr=>by rw[jm r hr,c2]⟩
   refine⟨.gI ay news.length agg,di S ay (.op e s (flat news) false),upd ι nT ay,upd w ay nT,.so nT k',te,_,⟨none,true⟩,⟨none,true⟩,fun _ => ?_,fun hd=>(by cases hd),⟨fun e=>e,fun l hl=>(by cases hl)⟩,fun l m hl=>(by cases hl),jX,?_,nI hR hn hT hw,fun hd=>(by cases hd),oZ hn (kH hB hT),je hB hT,lZ hn,rfl,rfl,rfl⟩
   ·simp only[ah,ho,ha,ht,if_true,k1,k4,hh,Mi]
   ·simp only[RT,upd,if_true]
    refine⟨trivial,c3.symm,e,s,_,false,by rw[aR hn,if_pos rfl],?_⟩
    rw[fP s7,LM,c2]
  ·cases h
 ·cases h
end Go.Tv
end
section
namespace Go.Tv
open Go Go.Di Go.Proofs
def A5 (tS:List TB):TV→TV
 | .so g t=>match tS[g]? with
  | some (.rows t' _ l z)=>if h:t'=t then (match z with
    | true => .sl t (h▸l) .no
    | false => .so g t) else .unk
  | _ => .unk
 | v=>v
def rS (te:List TV) (tS:List TB) (x:Operand):List TB :=
 match fG te x with
 | some (.so g t)=>match gZ tS g t with
  | some (e,l,false)=>tS.set g (.rows t e l true)
  | _=>tS
 | _=>tS
def Gi (te:List TV) (tS:List TB) (x:Operand):Bool :=
 match fG te x with
 | some .unk | none=>false
 | some (.so g t)=>(gZ tS g t).isSome
 | some _=>true
def Gg (ty:eY) (te:List TV) (tS:List TB) (o:Oper):Option (List TV×List TB) :=
 match ty.h o with
 | 2=>if o.op.operands.toList.all (Gi te tS) then some (te.map (A5 (o.op.operands.toList.foldl (rS te) tS)),o.op.operands.toList.foldl (rS te) tS) else none
 | _=>some (te,tS)
variable {P:Program} {ty:eY} {tt:TypeId→Option TT} {ι ι' w:jE} {S S':ak} {te j6:List TV} {env:List DV} {tS gT:List TB} {aC:bk} {call:aW} {yf:dR} {o:Oper} {ay nT:Nat} {B:List Nat} {ops:Array Oper}
theorem Hj {g g':Nat} {t t':TT} {e e':Nat} {l:List t.den} {l':List t'.den} {z:Bool} (h:gZ tS g t=some (e,l,z)) (h':gZ tS g' t'=some (e',l',false)):(gZ (tS.set g' (.rows t' e' l' true)) g t).isSome=true:=by
 have h1:=iI h
 have h2:=iI h'
 by_cases e1:g'=g
 ·subst e1
  rw[h1] at h2
  cases h2
  unfold gZ
  rw[List.getElem?_set,if_pos rfl,if_pos (List.getElem?_eq_some_iff.1 h1).1]
  simp
 ·have:gZ (tS.set g' (.rows t' e' l' true)) g t=gZ tS g t:=by
   unfold gZ
   rw[List.getElem?_set,if_neg e1]
  rw[this,h]; rfl
theorem O5 {x y:Operand} (h:Gi te tS x=true):Gi te (rS te tS y) x=true:=by
 unfold Gi at h ⊢
 split at h
 ·cases h
 ·cases h
 ·rename_i g t hx
  unfold rS
  split
  ·split
   ·rename_i e' l' h2
    obtain⟨⟨e,l,z⟩,h1⟩:=Option.isSome_iff_exists.1 h
    exact Hj h1 h2
   ·exact h
  ·exact h
 ·rfl
theorem acD (hR:bL ι te tS env S) (hB:mo B tS) {x:Operand} (h:Gi te tS x=true):bL ι te (rS te tS x) env (mK env S x)∧mo B (rS te tS x)∧Fr B ι S ι (mK env S x)∧∀ i,Nn i S (mK env S x):=by
 have same:rS te tS x=tS→mK env S x=S→bL ι te (rS te tS x) env (mK env S x)∧mo B (rS te tS x)∧Fr B ι S ι (mK env S x)∧∀ i,Nn i S (mK env S x):=fun h1 h2=>by rw[h1,h2]; exact⟨hR,hB,Fr.refl _ _ _,fun i=>ew _ _⟩
 unfold Gi at h
 split at h
 ·cases h
 ·cases h
 ·rename_i g t hx
  obtain⟨⟨e,l,z⟩,h1⟩:=Option.isSome_iff_exists.1 h
  obtain⟨d,k1,k2⟩:=aS hR.env hx
  have hg:=iI h1
  obtain⟨id,ds,rfl,m1,m2,m3,m4,m5,m6⟩:=A0 hR hg k2 rfl
  cases z with
  | true=>exact same (by simp only[rS,hx,h1]) (by simp only[mK,k1,qS,m3])
  | false =>
   have e1:rS te tS x=tS.set g (.rows t e l true):=by simp only[rS,hx,h1]
   have e2:mK env S x=S.set id (.op e t.size ds true):=by simp only[mK,k1,qS,m3]
   rw[e1,e2]
   exact⟨uF hR m1 hg m2 rfl m5 m6 m4,Fo hB hg,vp m1,fun i=>ve m2 (fun e=>by cases e)⟩
 ·rename_i v h1 h2 hx
  obtain⟨d,k1,k2⟩:=aS hR.env hx
  refine same ?_ ?_
  ·unfold rS
   rw[hx]
   cases v<;>first | rfl | exact absurd rfl (h2 _ _)
  ·simp only[mK,k1]
   cases v<;>first | exact absurd rfl (h2 _ _) | exact absurd rfl h1 | skip
   all_goals cases d<;>simp only[RT] at k2<;>rfl
theorem Z4:∀ (l:List Operand) {tS:List TB} {S:ak},bL ι te tS env S→mo B tS→l.all (Gi te tS)=true→bL ι te (l.foldl (rS te) tS) env (l.foldl (mK env) S)∧mo B (l.foldl (rS te) tS)∧Fr B ι S ι (l.foldl (mK env) S)∧∀ i,Nn i S (l.foldl (mK env) S)
 | [],_,S,hR,hB,_=>⟨hR,hB,Fr.refl _ _ _,fun i=>ew _ _⟩
 | x::l,tS,S,hR,hB,h=>by
  simp only[List.all_cons,Bool.and_eq_true] at h
  obtain⟨h1,h2,h3,h4⟩:=acD hR hB h.1
  obtain⟨k1,k2,k3,k4⟩:=Z4 l h1 h2 (List.all_eq_true.2 fun y hy=>O5 (List.all_eq_true.1 h.2 y hy))
  refine⟨k1,k2,h3.trans k3,fun i=>⟨Nat.le_trans (h4 i).1 (k4 i).1,fun j hj hn=>(k4 i).2 j hj ((h4 i).2 j hj hn)⟩⟩
theorem Sq (hR:bL ι j6 tS env S) {v:TV} {d:DV} (h:RT ι S v d):RT ι S (A5 tS v) (jl S d):=by
 cases v
 case so g t =>
  simp only[A5]
  split
  ·rename_i t' e l z hg
   split
   ·rename_i ht
    obtain⟨id,ds,rfl,m1,m2,m3,m4,m5,m6⟩:=A0 hR hg h ht
    subst ht
    cases z with
    | true =>
     rw[Jn m3 m5 m6]
     simp only[RT,qV,and_true]
     exact sQ m6 m4
    | false =>
     have:jl S (.gI id l.length t'.agg) = .gI id l.length t'.agg:=by simp only[jl,m3]
     rw[this]
     exact h
   ·simp only[RT]
  ·simp only[RT]
 case unk=>simp only[A5,RT]
 all_goals
  cases d<;>simp only[RT] at h
  simp only[A5,jl,RT]
  exact h
theorem E1 (hR:bL ι j6 tS env S):∀ {l:List TV} {m:List DV},cq ι S l m→cq ι S (l.map (A5 tS)) (m.map (jl S))
 | [],m,h=>by rw[aF h]; exact bI
 | a::l,m,h=>by
  obtain⟨d,m',rfl,h1,h2⟩:=ai h
  exact aD (Sq hR h1) (E1 hR h2)
theorem Xh (hR:bL ι te tS env S) (hB:mo B tS) (h:Gg ty te tS o=some (j6,gT)):bL ι j6 gT (Ay ty o env S).1 (Ay ty o env S).2∧mo B gT∧Fr B ι S ι (Ay ty o env S).2∧Nn S.length S (Ay ty o env S).2:=by
 unfold Gg at h
 unfold Ay
 split at h
 ·rename_i hh
  split at h
  ·rename_i fT
   cases h
   obtain⟨h1,h2,h3,h4⟩:=Z4 (env:=env) _ hR hB fT
   simp only[hh]
   exact⟨⟨E1 h1 h1.env,h1.cells,h1.own,h1.uP,h1.inj,h1.mp⟩,h2,h3,h4 _⟩
  ·cases h
 ·rename_i hh
  cases h
  simp only[]
  exact⟨hR,hB,Fr.refl _ _ _,ew _ _⟩
theorem lq {k:Nat} (ho:ops[k]? = some o) (hw:dh ops te o=some true) (hp:Gg ty te tS o=some (j6,gT)) {Q:List TV→List TB→Prop} {K:TV→List TV→List TB→cu→Prop} (hd:Does P ty aC call yf B o gT.length j6 gT false K)
  (h:∀ v bS bV ft,K v bS bV ft→WL P ty aC call yf B ops (k+1) (j9 bS o.dst v) bV Q):WL P ty aC call yf B ops k te tS Q:=by
 intro ι env S hR hB
 obtain⟨LR,JS,hF1,hN1⟩:=Xh (o:=o) hR hB hp
 generalize tc:Ay ty o env S=pr at LR hF1 hN1
 obtain⟨jM,S1⟩:=pr
 obtain⟨w,YK⟩:=Gs LR
 obtain⟨d,S',ι',w',v,bS,bV,f,ft,h1,-,-,-,h5,h6,-,-,h9,uU,DM,TP⟩:=hd ι w jM S1 S1.length LR JS YK (.inr rfl) (.inr rfl) (fun e=>by cases e)
 obtain⟨ax,rH,ι'',rK,rM,k1,k2,k3,k4,k5,k6⟩:=h v bS bV ft TP ι' (eP jM o.dst d) S' (kC h5 h6 _) uU
 refine⟨ax,rH,ι'',rK,rM,?_,k2,k3,(hF1.trans h9).trans k4,pn hN1 (pn DM k5),k6⟩
 rw[kG ho]
 simp only[Ca,fB hR.env hw,if_true,tc,h1 rfl,k1]
end Go.Tv
end
