import Derived.Test.YtedcgbkilmlbhaaGreatPk05
section
namespace Go.Tv
open Go Go.Di Go.Proofs
def iQ (tS:List TB) (g:Nat) (t:TT):Option (Nat×List t.den×Bool) :=
 match tS[g]? with
 | some (.rows t' e l z)=>if h:t'=t then some (e,h▸l,z) else none
 | _=>none
theorem jw {tS:List TB} {g:Nat} {t:TT} {e:Nat} {l:List t.den} {z:Bool} (h:iQ tS g t=some (e,l,z)):tS[g]? = some (.rows t e l z):=by
 unfold iQ at h
 split at h
 ·rename_i t' e' l' z' hg
  split at h
  ·rename_i ht
   subst ht
   cases h
   exact hg
  ·cases h
 ·cases h
section
variable (ty:fI) (tt:TypeId→Option TT)
def Fa (te:List TV) (tS:List TB) (o:Oper):Option (TV×Nat×Prop) :=
 match o.op with
 | .indexAddr t x i=>match ty t,gd te x,E2 te i with
  | some ⟨.slice _ s _ _,_,_⟩,some (.so g k),some n=>match iQ tS g k with
   | some (_,l,_)=>if k.size==s then some (.sp g k n.toNat 0,g,0≤n∧n<(l.length:Int)) else none
   | none=>none
  | _,_,_=>none
 | .fieldAddr t x f=>match ty t,gd te x with
  | some ⟨.struct fs,_,_⟩,some (.sp g k i off)=>match fs[f]? with
   | some (o,s,_)=>if 0<s then some (.sp g k i (off+o),g,True) else none
   | none=>none
  | _,_=>none
 | .load t a=>match ty t,gd te a with
  | some d,some (.sp g k i off)=>match iQ tS g k with
   | some (_,l,_)=>(xO d.k.isAgg d.size (k.cells (l.getD i k.Wn)) off).map fun v=>(iR tt t v,g,True)
   | none=>none
  | _,_=>none
 | .call { callee := .builtin .len,args,argTypes }=>match args.toList,argTypes.toList with
  | [x],[t]=>match ty t,gd te x with
   | some ⟨.slice _ _ _ _,_,_⟩,some (.so g k)=>match iQ tS g k with
    | some (_,l,_)=>some (.val (.int .i64 (l.length:Nat)),g,True)
    | none=>none
   | _,_=>none
  | _,_=>none
 | _=>none
def N5 (te:List TV) (tS:List TB) (o:Oper):Option (Nat×List TB) :=
 match o.op with
 | .store t a x=>match ty t,gd te a,(gd te x).map (iR tt t) with
  | some d,some (.sp g k i off),some v=>match iQ tS g k with
   | some (e,l,false)=>if v.Aa&&v.cells.length==d.size then match NG (k.cells (l.getD i k.Wn)) off v.cells with
     | some cs=>match k.of cs with
      | some (y,[])=>some (g,tS.set g (.rows k e (l.set i y) false))
      | _=>none
     | none=>none
    else none
   | _=>none
  | _,_,_=>none
 | _=>none
def Oe:TV→Bool
 | .gY=>true
 | .sl _ [] .full=>true
 | _=>false
def N4 (te:List TV) (tS:List TB) (o:Oper) (nT:Nat):Option (TV×List TV×List TB×Prop) :=
 match o.op with
 | .makeSlice t a b=>match ty t,E2 te a,E2 te b,tt t with
  | some ⟨.slice e s jZ agg,_,_⟩,some n,some m,some (.sl k)=>match ty e with
   | some ⟨_,_,some z⟩=>match k.of (z.map uO) with
    | some (x,[])=>if decide (0<s)&&k.size==s&&k.agg==agg&&(agg||s==1)&&decide (jZ≤100000) then
      some (.so nT k,te,nM tS nT (.rows k e (List.replicate n.toNat x) false),m=n∧0≤n∧n≤1000000000) else none
    | _=>none
   | _=>none
  | _,_,_,_=>none
 | .buildSlice t n ps=>match ty.h o with
  | 1=>match ty t,wF te ps.toList,tt t with
   | some ⟨.slice e s _ agg,_,_⟩,some l,some (.sl k)=>match ty e with
    | some ⟨_,_,some z⟩=>if decide (0<s)&&decide (n*s≤16777216)&&l.length==n&&z.length==s&&k.size==s&&k.agg==agg&&(agg||s==1) then
      (z7 k 0 l).map fun w=>(.so nT k,te,nM tS nT (.rows k e w false),True)
     else none
    | _=>none
   | _,_,_=>none
  | _=>none
 | .call { callee := .builtin .append,args,argTypes }=>match args.toList,argTypes.toList with
  | [x,y],[t,u]=>if t=u then match gd te x with
   | some (.so g k)=>match ty t,(gd te y).map (iR tt t) with
    | some ⟨.slice e s jZ agg,_,_⟩,some (.sl k' m _)=>if h:k'=k then match iQ tS g k,ty e with
      | some (e',l,false),some ⟨_,_,some _⟩=>if e'==e&&k.size==s&&k.agg==agg&&decide (jZ≤100000) then
        some (.so g k,uK g te,(tS.map (qx g)).set g (.rows k e (l++(h▸m)) false),l.length+m.length≤1000000000) else none
      | _,_=>none
     else none
    | _,_=>none
   | some v=>match ty.h o with
    | 1=>match ty t,(gd te y).map (iR tt t) with
     | some ⟨.slice e s jZ agg,_,_⟩,some (.sl k' (a::m) _)=>match ty e with
      | some ⟨_,_,some _⟩=>if Oe v&&decide (0<s)&&k'.size==s&&k'.agg==agg&&(agg||s==1)&&decide (jZ≤100000) then
        some (.so nT k',te,nM tS nT (.rows k' e (a::m) false),(a::m).length≤1000000000) else none
      | _=>none
     | _,_=>none
    | _=>none
   | none=>none
   else none
  | _,_=>none
 | _=>none
end
variable {P:Program} {ty:fI} {tt:TypeId→Option TT} {ι ι' w:lK} {S S':ak} {te mm:List TV} {env:List DV} {tS iT:List TB} {aI:bM} {call:bz} {yf:eE} {o:Oper} {ay nT:Nat} {B:List Nat} {ops:Array Oper}
theorem uq {t:TT}:∀ {l:List t.den} {ds:List DV} {i:Nat},dO t l ds→i<l.length→∃ pre c post,ds=pre++c++post∧pre.length=i*t.size∧CR t (l.getD i t.Wn) c∧∀ y c',CR t y c'→dO t (l.set i y) (pre++c'++post)
 | [],_,_,_,h=>by simp at h
 | x::l,ds,i,hf,h=>by
  simp only[dO] at hf
  obtain⟨c,m,rfl,h1,h2⟩:=hf
  cases i with
  | zero=>exact⟨[],c,m,rfl,by simp,h1,fun y c' hc=>by simp only[List.set_cons_zero,dO]; exact⟨c',m,rfl,hc,h2⟩⟩
  | succ i =>
   obtain⟨pre,c1,post,rfl,k1,k2,k3⟩:=uq (i:=i) h2 (by simpa using h)
   refine⟨c++pre,c1,post,by simp,by rw[cO,lB h1,k1,jg,Nat.one_mul,Nat.add_comm],by simpa using k2,fun y c' hc => ?_⟩
   simp only[List.set_cons_succ,dO]
   exact⟨c,pre++c'++post,by simp,h1,k3 y c' hc⟩
theorem Gi {t:TT}:∀ {l m:List t.den} {ds es:List DV},dO t l ds→dO t m es→dO t (l++m) (ds++es)
 | [],_,ds,_,h,k=>by simp only[dO] at h; subst h; exact k
 | x::l,m,ds,es,h,k=>by
  simp only[dO] at h
  obtain⟨c,r,rfl,h1,h2⟩:=h
  simp only[List.cons_append,dO]
  exact⟨c,r++es,by simp,h1,Gi h2 k⟩
theorem AH {t:TT} {x:t.den} {c:List DV} (h:CR t x c):∀ n,dO t (List.replicate n x) (List.replicate n c).flatten
 | 0=>by simp[dO]
 | n+1=>by
  simp only[List.replicate_succ,List.flatten_cons,dO]
  exact⟨c,_,rfl,h,AH h n⟩
theorem pZ {t:TT} {agg:Bool}:∀ {l:List t.den} {rows:List DV},dW (CR t) agg l rows→dO t l (flat rows)
 | [],[],_=>by simp[flat,dO]
 | x::l,r::rows,h=>by
  simp only[flat,gv,dO]
  exact⟨r.cells,_,rfl,h.1.1,pZ h.2⟩
theorem tg {t:TT}:∀ {qs:List (Nat×DV)} {i:Nat} {l:List t.den},Cm t i qs l→dO t l (ig qs)
 | [],_,[],_=>by simp[ig,dO]
 | (j,d)::qs,i,x::l,h=>by
  obtain⟨⟨rfl,hc⟩,h⟩:=h
  simp only[ig,gv,dO]
  exact⟨d.strip.cells,_,rfl,hc,tg h⟩
theorem AP:∀ {t:TT} {x:t.den} {c:List DV},CR t x (c.map DV.aL)→c.all DV.bF=true→CR t x c
 | .int _,_,c,h,hp=>by
  simp only[CR] at h ⊢
  obtain⟨d,rfl⟩:∃ d,c=[d]:=List.length_eq_one_iff.1 (by have:=congrArg List.length h; simpa using this)
  cases d<;>simp_all [DV.aL]
 | .bool,_,c,h,hp=>by
  simp only[CR] at h ⊢
  obtain⟨d,rfl⟩:∃ d,c=[d]:=List.length_eq_one_iff.1 (by have:=congrArg List.length h; simpa using this)
  cases d<;>simp_all [DV.aL]
 | .str,_,c,h,hp=>by
  simp only[CR] at h ⊢
  obtain⟨d,rfl⟩:∃ d,c=[d]:=List.length_eq_one_iff.1 (by have:=congrArg List.length h; simpa using this)
  cases d<;>simp_all [DV.aL]
 | .unit,_,c,h,_=>by
  simp only[CR] at h ⊢
  simpa using h
 | .pair a b,x,c,h,hp=>by
  simp only[CR] at h ⊢
  obtain⟨c1,c2,e,h1,h2⟩:=h
  obtain⟨d1,d2,rfl,rfl,rfl⟩:=List.map_eq_append_iff.1 e
  rw[kM,aB] at hp
  exact⟨d1,d2,rfl,AP h1 hp.1,AP h2 hp.2⟩
 | .sl t,l,c,h,hp=>by
  simp only[CR] at h ⊢
  obtain⟨rows,f,e,h⟩:=h
  obtain⟨d,rfl⟩:∃ d,c=[d]:=List.length_eq_one_iff.1 (by have:=congrArg List.length e; simpa using this)
  cases d<;>simp[DV.aL] at e
  rename_i r tok f'
  obtain⟨rfl,-⟩:=e
  cases tok with
  | some=>simp[DV.bF] at hp
  | none=>exact⟨r,f',rfl,h⟩
theorem BU (d:DV):d.aL.aL=d.aL:=by cases d<;>rfl
theorem Eo {v:TV} {d:DV} (hk:v.Aa=true) (h:RT ι S v d):d.strip.cells=d.cells.map DV.aL:=by
 cases v<;>cases d<;>simp only[RT] at h<;>first | (cases hk; done) | rfl
theorem Ma {agg:Bool} {n off:Nat} {pre c post:List DV} {d:DV} (h:mJ agg n c off=some d):mJ agg n (pre++c++post) (pre.length+off)=some d:=by
 unfold mJ at h ⊢
 cases agg with
 | true =>
  simp only[if_true,ah] at h ⊢
  obtain⟨cs,h1,rfl⟩:=h
  refine⟨cs,?_,rfl⟩
  unfold NR at h1 ⊢
  split at h1
  ·rename_i hle
   cases h1
   rw[if_pos (by simp; omega),jQ,List.drop_append,gz (by omega),List.nil_append,nG,List.drop_append_of_le_length (by omega),List.take_append_of_le_length (by simp; omega)]
  ·cases h1
 | false =>
  simp only[aD,if_false] at h ⊢
  have hlt:=(aJ.1 h).1
  rw[jQ,fQ (by omega),nG,ep hlt]
  exact h
theorem P3 {off:Nat} {pre c post cs c':List DV} (h:sK c off cs=some c'):sK (pre++c++post) (pre.length+off) cs=some (pre++c'++post):=by
 unfold sK at h ⊢
 split at h
 ·rename_i hle
  cases h
  have e1:(pre++c++post).take (pre.length+off)=pre++c.take off:=by
   rw[jQ,List.take_append,vq (by omega),nG,List.take_append_of_le_length (by omega)]
  have e2:(pre++c++post).drop (pre.length+off+cs.length)=c.drop (off+cs.length)++post:=by
   rw[jQ,fO,List.drop_append,gz (by omega),List.nil_append,nG,List.drop_append_of_le_length (by omega)]
  rw[if_pos (by simp; omega),e1,e2]
  simp[jQ]
 ·cases h
theorem U7 (h:b9 ι te tS env S) {g i off:Nat} {t:TT} {e:Nat} {l:List t.den} {z:Bool} {d:DV} (hg:tS[g]? = some (.rows t e l z)) (hd:RT ι S (.sp g t i off) d):∃ id ds,d = .eT id l.length (i*t.size+off)∧ι g=some id∧S[id]? = some (.op e t.size ds z)∧yW S id l.length=some (e,t.size,ds,z)∧dO t l ds∧i<l.length∧0<t.size∧(t.agg||t.size==1)=true:=by
 cases d<;>simp only[RT] at hd
 rename_i id n sL
 obtain⟨h1,rfl,e',s',l',z',h2,h3,h4⟩:=hd
 obtain⟨q0,q1,ds,q2,q3⟩:=h.mp g _ hg id h1
 rw[h2] at q2
 cases q2
 have hl:=gb q3
 have hn:n=l.length:=Nat.eq_of_mul_eq_mul_right q0 (h3.trans hl)
 subst hn
 refine⟨id,l',rfl,h1,h2,?_,q3,?_,q0,q1⟩
 ·unfold yW
  rw[h2]
  simp only[h3,if_true]
 ·rw[← h3] at h4
  have:i*t.size<l.length*t.size:=by omega
  exact Nat.lt_of_mul_lt_mul_right this
theorem A9 {v:TV} {g:Nat} {c:Prop} (h:Fa ty tt te tS o=some (v,g,c)) (hc:c) (hR:b9 ι te tS env S):∃ d id,(∀ ay,af P ty aI call yf (gX env) o S ay=some (d,S))∧RT ι S v d∧ι g=some id∧((∃ t a f,o.op = .fieldAddr t a f∧∃ n off,gX env a=some (.eT id n off))∨(∃ t a i,o.op = .indexAddr t a i∧∃ n ag,gX env a=some (.gV id n ag))∨(∃ t a,o.op = .load t a∧∃ n off,gX env a=some (.eT id n off))∨∃ args ats,o.op = .call { callee := .builtin .len,args,argTypes:=ats }):=by
 unfold Fa at h
 split at h
 ·rename_i t x i ho
  split at h
  ·rename_i e s jZ agg sz z g' k n h1 h2 h3
   split at h
   ·rename_i e' l zz h4
    split at h
    ·rename_i h5
     cases h
     have hg:=jw h4
     obtain⟨d,k1,k2⟩:=bg hR.env h2
     obtain⟨id,ds,rfl,m1,m2,m3,m4,m5,m6⟩:=B9 hR hg k2 rfl
     have hs:k.size=s:=by simpa using h5
     have hl:=gb m4
     have hi:intOf (gX env) i=some n:=nD hR.env h3
     obtain⟨c1,c2⟩:=hc
     refine⟨.eT id l.length (n.toNat*s),id,fun ay => ?_,?_,m1,.inr (.inl ⟨t,x,i,ho,_,_,k1⟩)⟩
     ·simp only[af,ho,h1,k1,hi,m3]
      rw[if_pos ⟨c1,by omega,hs⟩]
     ·simp only[RT]
      refine⟨m1,by rw[hs]; rfl,e',k.size,ds,zz,m2,hl.symm,?_⟩
      rw[hl,← kK]
      exact eR _ (by omega)
    ·cases h
   ·cases h
  ·cases h
 ·rename_i t x f ho
  split at h
  ·rename_i fs sz z g' k i off h1 h2
   split at h
   ·rename_i of s ag hf
    split at h
    ·rename_i hs
     cases h
     obtain⟨d,k1,k2⟩:=bg hR.env h2
     cases d<;>simp only[RT] at k2
     rename_i id n sL
     obtain⟨m1,rfl,e',s',l',z',m2,m3,m4⟩:=k2
     have hop:yW S id n=some (e',s',l',z'):=by unfold yW; rw[m2]; simp only[m3,if_true]
     refine⟨.eT id n (i*k.size+off+of),id,fun ay => ?_,?_,m1,.inl ⟨t,x,f,ho,_,_,k1⟩⟩
     ·simp only[af,ho,h1,k1,hf,hop,if_pos hs]
     ·simp only[RT]
      exact⟨m1,by omega,e',s',l',z',m2,m3,m4⟩
    ·cases h
   ·cases h
  ·cases h
 ·rename_i t a ho
  split at h
  ·rename_i td g' k i off h1 h2
   split at h
   ·rename_i e' l zz h4
    simp only[ah,av] at h
    obtain⟨u,h5,rfl,rfl,-⟩:=h
    have hg:=jw h4
    obtain⟨d,k1,k2⟩:=bg hR.env h2
    obtain⟨id,ds,rfl,m1,m2,m3,m4,m5,m6,m7⟩:=U7 hR hg k2
    obtain⟨pre,c,post,rfl,q1,q2,-⟩:=uq m4 m5
    obtain⟨d,q3,q4⟩:=oA (mX (ι:=ι) (S:=S) q2) h5
    refine⟨d,id,fun ay => ?_,cq q4,m1,.inr (.inr (.inl ⟨t,a,ho,_,_,k1⟩))⟩
    simp only[af,ho,k1,jr,h1,m3]
    rw[← q1,Ma q3]
    rfl
   ·cases h
  ·cases h
 ·rename_i args ats ho
  split at h
  ·rename_i x t ha ht
   split at h
   ·rename_i e s jZ agg sz z g' k h1 h2
    split at h
    ·rename_i e' l zz h4
     cases h
     have hg:=jw h4
     obtain⟨d,k1,k2⟩:=bg hR.env h2
     obtain⟨id,ds,rfl,m1,m2,m3,m4,m5,m6⟩:=B9 hR hg k2 rfl
     refine⟨.val (.int .i64 (l.length:Nat)),id,fun ay => ?_,by simp only[RT],m1,.inr (.inr (.inr ⟨_,_,ho⟩))⟩
     simp only[af,ho,ha,ht,h1,k1]
    ·cases h
   ·cases h
  ·cases h
 ·cases h
theorem Bi {v:TV} {g:Nat} {c:Prop} (h:Fa ty tt te tS o=some (v,g,c)) (hc:c) (dr:Bool):Does P ty aI call yf B o nT te tS dr fun v' ck cu ft=>v'=v∧ck=te∧cu=tS∧ft=⟨some [g],false⟩:=by
 intro ι w env S ay hR hB hw hT hn hS
 obtain⟨d,id,h1,h2,h3,h4⟩:=A9 (P:=P) (aI:=aI) (call:=call) (yf:=yf) h hc hR
 have hl:∃ l,aF P ty aI call yf (gX env) o S ay=some (d,S,⟨some l,false⟩)∧∀ j∈l,j=id:=by
  rcases h4 with ⟨t,a,f,ho,n,off,ha⟩ | ⟨t,a,i,ho,n,ag,ha⟩ | ⟨t,a,ho,n,off,ha⟩ | ⟨args,ats,ho⟩
  ·exact⟨[id],by simp only[aF,ho,ha,h1,Option.map_some],by simp⟩
  ·exact⟨[id],by simp only[aF,ho,ha,h1,Option.map_some],by simp⟩
  ·exact⟨[id],by simp only[aF,ho,ha,h1,Option.map_some],by simp⟩
  ·exact⟨[],by simp only[aF,ho,h1,Option.map_some],by simp⟩
 obtain⟨l,h5,h6⟩:=hl
 refine⟨d,S,ι,w,v,te,tS,⟨some l,false⟩,⟨some [g],false⟩,fun _=>h1 ay,fun _=>h5,⟨fun e=>e,fun l' iV => ?_⟩,fun l' m _ hm j hj => ?_,hR,h2,hw,fun _ _ _=>rfl,Fr.refl _ _ _,hB,eX _ _,rfl,rfl,rfl,rfl⟩
 ·cases iV
  exact⟨l,rfl,fun j hj=>⟨g,by simp,by rw[h6 j hj]; exact hw _ _ h3⟩⟩
 ·cases hm
  exact .inr ⟨g,by rw[h6 j hj]; exact h3⟩
theorem Pk {k:Nat} {v:TV} {g:Nat} {c:Prop} {Q:List TV→Prop} (ho:ops[k]? = some o) (hw:dK ops te o=some true) (h:Fa ty tt te tS o=some (v,g,c)) (hc:c) (hq:WQ P ty aI call yf ops tS (k+1) (lF te o.dst v) Q):WQ P ty aI call yf ops tS k te Q:=by
 intro ι env S hR
 obtain⟨d,id,h1,h2,h3,h4⟩:=A9 (P:=P) (aI:=aI) (call:=call) (yf:=yf) h hc hR
 obtain⟨aC,ck,n1,n2,n3⟩:=hq ι (iM env o.dst d) S (lP hR h2 _)
 refine⟨aC,ck,?_,n2,n3⟩
 rw[lV ho]
 have hq:cF P ty aI call yf (gX env) o S=some d:=by
  rcases h4 with ⟨t,a,f,ho,n,off,ha⟩ | ⟨t,a,i,ho,n,ag,ha⟩ | ⟨t,a,ho,n,off,ha⟩ | ⟨args,ats,ho⟩<;>simp only[cF,ho,h1,Option.map_some]
 simp only[nN,gA hR.env hw,if_true,hq,n1]
end Go.Tv
end
section
namespace Go.Tv
open Go Go.Di Go.Proofs
variable {P:Program} {ty:fI} {tt:TypeId→Option TT} {ι ι' w:lK} {S S':ak} {te mm:List TV} {env:List DV} {tS iT:List TB} {aI:bM} {call:bz} {yf:eE} {o:Oper} {ay nT:Nat} {B:List Nat} {ops:Array Oper}
theorem mh (h:b9 ι te tS env S) (hT:wA tS nT) (hn:wB S ay) {t:TT} {e:Nat} {l:List t.den} {ds:List DV} (h0:0<t.size) (h1:(t.agg||t.size==1)=true) (hf:dO t l ds):b9 (upd ι nT ay) te (nM tS nT (.rows t e l false)) env (dP S ay (.op e t.size ds false)):=by
 have K:=sk h hT hn (.op e t.size ds false)
 refine⟨bO K _ _ h.env,fun k l hk => ?_,fun k e s hk t ht => ?_,fun k k' hk => ?_,fun i j k' hi hj => ?_,fun k b hk t0 ht => ?_⟩
 ·rw[cg hT] at hk
  split at hk
  ·cases hk
  ·rename_i e
   obtain⟨k',gT,h1,h2,h3⟩:=h.cells k l hk
   exact⟨k',gT,by simp only[upd,e,if_false]; exact h1,by rw[aZ hn,if_neg (h.dc hn h1)]; exact h2,bO K _ _ h3⟩
 ·rw[cg hT] at hk
  split at hk
  ·cases hk
  ·rename_i e'
   simp only[upd,e',if_false] at ht
   obtain⟨n,h1⟩:=h.own k e s hk t ht
   exact⟨n,by rw[aZ hn,if_neg (h.dc hn ht)]; exact h1⟩
 ·rw[cg hT]
  split
  ·exact⟨_,rfl,fun e=>by cases e⟩
  ·rename_i e
   simp only[upd,e,if_false] at hk
   exact h.xI k k' hk
 ·unfold upd at hi hj
  split at hi<;>split at hj
  ·omega
  ·cases hi; exact(h.dc hn hj rfl).elim
  ·cases hj; exact(h.dc hn hi rfl).elim
  ·exact h.inj i j k' hi hj
 ·rw[cg hT] at hk
  split at hk
  ·rename_i e'
   cases hk
   simp only[upd,e',if_true,az] at ht
   subst ht
   rw[aZ hn,if_pos rfl]
   exact⟨h0,h1,ds,rfl,hf⟩
  ·rename_i e'
   simp only[upd,e',if_false] at ht
   rw[aZ hn,if_neg (h.dc hn ht)]; exact h.mp k b hk t0 ht
theorem vQ (h:b9 ι te tS env S) {g id:Nat} {t:TT} {e:Nat} {l l':List t.den} {ds gT:List DV} {z z':Bool} (hi:ι g=some id) (hg:tS[g]? = some (.rows t e l z)) (hS:S[id]? = some (.op e t.size ds z)) (hl:gT.length=ds.length) (h0:0<t.size) (h1:(t.agg||t.size==1)=true) (hf:dO t l' gT):b9 ι te (tS.set g (.rows t e l' z')) env (S.set id (.op e t.size gT z')):=by
 have hlt:=(aJ.1 hg).1
 have NL:=(aJ.1 hS).1
 have K:kV ι S ι (S.set id (.op e t.size gT z')) fun _=>False:=fun a b _ oW=>⟨oW,by
  rw[aK]
  split
  ·rename_i e1
   subst e1
   rw[hS]
   exact⟨fun _ _ _ h=>(nomatch h),fun e s l z h=>(by cases h; exact⟨gT,z',rfl,hl⟩)⟩
  ·exact eW rfl⟩
 have UJ:∀ j,(tS.set g (.rows t e l' z'))[j]? = if j=g then some (.rows t e l' z') else tS[j]? := fun j=>by
  rw[aK]
  by_cases e:j=g
  ·subst e; simp[hlt]
  ·rw[if_neg (Ne.symm e),if_neg e]
 have lp:∀ j,j≠id→(S.set id (.op e t.size gT z'))[j]? = S[j]? := fun j hj=>by rw[aK,if_neg (Ne.symm hj)]
 refine⟨bO K _ _ h.env,fun j m hj => ?_,fun j e s hj t ht => ?_,fun j j' hj => ?_,h.inj,fun j b hj t0 ht => ?_⟩
 ·rw[UJ] at hj
  split at hj
  ·cases hj
  ·rename_i e
   obtain⟨j',NA,h1,h2,h3⟩:=h.cells j m hj
   exact⟨j',NA,h1,by rw[lp j' fun e1=>e (h.inj _ _ _ (e1▸h1) hi)]; exact h2,bO K _ _ h3⟩
 ·rw[UJ] at hj
  split at hj
  ·cases hj
  ·obtain⟨n,h1⟩:=h.own j e s hj t ht
   exact⟨n,(K j t (fun e=>e) ht).2.1 _ _ _ h1⟩
 ·rw[UJ]
  split
  ·exact⟨_,rfl,by simp⟩
  ·exact h.xI j j' hj
 ·rw[UJ] at hj
  split at hj
  ·rename_i e
   subst e
   cases hj
   rw[hi] at ht
   cases ht
   rw[aK,if_pos rfl,if_pos NL]
   exact⟨h0,h1,gT,rfl,hf⟩
  ·rename_i e
   rw[lp t0 fun e1=>e (h.inj _ _ _ (e1▸ht) hi)]
   exact h.mp j b hj t0 ht
theorem Ud {g:Nat} {b:TB} {x:Option DB} (h:Xm b x):Xm (qx g b) x:=by cases b<;>exact h
theorem QJ {g:Nat} {b:TB}:qx g b = .none→b = .none:=by cases b<;>simp[qx]
theorem BV (h:b9 ι te tS env S) {g id:Nat} {t:TT} {e:Nat} {l l':List t.den} {ds gT:List DV} {z:Bool} (hi:ι g=some id) (hg:tS[g]? = some (.rows t e l z)) (hS:S[id]? = some (.op e t.size ds z)) (h0:0<t.size) (h1:(t.agg||t.size==1)=true) (hf:dO t l' gT):b9 ι (uK g te) ((tS.map (qx g)).set g (.rows t e l' false)) env (S.set id (.op e t.size gT false)):=by
 have hlt:=(aJ.1 hg).1
 have NL:=(aJ.1 hS).1
 have lp:∀ j,j≠id→(S.set id (.op e t.size gT false))[j]? = S[j]? := fun j hj=>by rw[aK,if_neg (Ne.symm hj)]
 have K:kV ι S ι (S.set id (.op e t.size gT false)) fun k=>k=g:=fun a b ha oW=>⟨oW,eW (lp b fun e1=>ha (h.inj _ _ _ (e1▸oW) hi))⟩
 have UJ:∀ j b,((tS.map (qx g)).set g (.rows t e l' false))[j]? = some b→(j=g∧b = .rows t e l' false)∨(j≠g∧∃ b0,tS[j]? = some b0∧b=qx g b0):=fun j b hj=>by
  rw[aK] at hj
  split at hj
  ·rename_i e1
   subst e1
   rw[if_pos (by simpa using hlt)] at hj
   cases hj
   exact .inl ⟨rfl,rfl⟩
  ·rename_i e1
   simp only[en,ah] at hj
   obtain⟨b0,h2,h3⟩:=hj
   exact .inr ⟨fun e=>e1 e.symm,b0,h2,h3.symm⟩
 refine⟨lN K _ _ h.env,fun j m hj => ?_,fun j e s hj t ht => ?_,fun j j' hj => ?_,h.inj,fun j b hj t0 ht => ?_⟩
 ·rcases UJ j _ hj with ⟨-,e1⟩ | ⟨hne,b0,h2,h3⟩
  ·cases e1
  ·cases b0<;>simp only[qx] at h3<;>first | (cases h3; done) | skip
   cases h3
   obtain⟨j',NA,k1,k2,k3⟩:=h.cells j _ h2
   exact⟨j',NA,k1,by rw[lp j' fun e1=>hne (h.inj _ _ _ (e1▸k1) hi)]; exact k2,lN K _ _ k3⟩
 ·rcases UJ j _ hj with ⟨-,e1⟩ | ⟨hne,b0,h2,h3⟩
  ·cases e1
  ·cases b0<;>simp only[qx] at h3<;>first | (cases h3; done) | skip
   cases h3
   obtain⟨n,k1⟩:=h.own j _ _ h2 t ht
   exact⟨n,(K j t hne ht).2.1 _ _ _ k1⟩
 ·rw[aK]
  split
  ·rename_i e1
   rw[if_pos (by simpa using hlt)]
   exact⟨_,rfl,by simp⟩
  ·obtain⟨b,h2,h3⟩:=h.xI j j' hj
   exact⟨qx g b,by rw[en,h2]; rfl,fun e1=>h3 (QJ e1)⟩
 ·rcases UJ j _ hj with ⟨rfl,rfl⟩ | ⟨hne,b0,h2,rfl⟩
  ·rw[hi] at ht
   cases ht
   rw[aK,if_pos rfl,if_pos NL]
   exact⟨h0,h1,gT,rfl,hf⟩
  ·rw[lp t0 fun e1=>hne (h.inj _ _ _ (e1▸ht) hi)]
   exact Ud (h.mp j b0 h2 t0 ht)
theorem Gw {g:Nat} {t t':TT} {e e':Nat} {l:List t.den} {l':List t'.den} {z z':Bool} (hB:nL B tS) (hl:tS[g]? = some (.rows t e l z)):nL B (tS.set g (.rows t' e' l' z')):=fun k hk=>by
 obtain⟨c,hc⟩:=hB k hk
 refine⟨c,?_⟩
 rw[aK,if_neg]
 ·exact hc
 ·rintro rfl; rw[hl] at hc; cases hc
theorem Gx {g:Nat} {t t':TT} {e e':Nat} {l:List t.den} {l':List t'.den} {z z':Bool} (hB:nL B tS) (hl:tS[g]? = some (.rows t e l z)):nL B ((tS.map (qx g)).set g (.rows t' e' l' z')):=fun k hk=>by
 obtain⟨c,hc⟩:=hB k hk
 refine⟨uK g c,?_⟩
 rw[aK,if_neg]
 ·rw[en,hc]; rfl
 ·rintro rfl; rw[hl] at hc; cases hc
theorem Cv:∀ {S:ak} {i:Nat} {b:DB},S[i]? = some b→S.set i b=S
 | [],_,_,h=>by simp at h
 | _::_,0,_,h=>by simp only[List.getElem?_cons_zero,az] at h; rw[h]; rfl
 | a::l,n+1,b,h=>by rw[List.set_cons_succ,Cv (by simpa using h)]
theorem Bh {g:Nat} {iT:List TB} (h:N5 ty tt te tS o=some (g,iT)) (dr:Bool):Does P ty aI call yf B o nT te tS dr fun v' ck cu ft=>v' = .unk∧ck=te∧cu=iT∧ft=⟨some [g],true⟩:=by
 intro ι w env S ay hR hB hw hT hn hS
 unfold N5 at h
 split at h
 rotate_left
 ·cases h
 rename_i t a x ho
 split at h
 rotate_left
 ·cases h
 rename_i td g' k i off v h1 h2 h3
 split at h
 rotate_left
 ·cases h
 rename_i e l h4
 split at h
 rotate_left
 ·cases h
 rename_i hc
 simp only[aB,cV] at hc
 obtain⟨c1,c2⟩:=hc
 split at h
 rotate_left
 ·cases h
 rename_i cs h5
 split at h
 rotate_left
 ·cases h
 rename_i y h6
 cases h
 have hg:=jw h4
 obtain⟨d,k1,k2⟩:=bg hR.env h2
 obtain⟨id,ds,rfl,m1,m2,m3,m4,m5,m6,m7⟩:=U7 hR hg k2
 simp only[ah] at h3
 obtain⟨u,h7,h8⟩:=h3
 obtain⟨dv,k4,k5⟩:=bg hR.env h7
 have k6:=cq (tt:=tt) (t:=t) k5
 rw[h8] at k6
 have k7:=qU (Ge c1) k6
 obtain⟨pre,c,post,rfl,q1,q2,q3⟩:=uq m4 m5
 obtain⟨c',r1,r2⟩:=D8 (mX (ι:=ι) (S:=S) q2) k7 h5
 have hst:=Eo c1 k6
 obtain⟨cc,m',e1,e2,e3⟩:=Cb h6 r2
 rw[aU e3,gu] at e1
 subst e1
 have hle:off+dv.cells.length≤c.length:=by
  unfold sK at r1
  split at r1
  ·assumption
  ·cases r1
 have hc':c'=c.take off++dv.cells++c.drop (off+dv.cells.length):=by
  unfold sK at r1
  rw[if_pos hle] at r1
  exact(bU r1).symm
 have hlen:dv.strip.cells.length=dv.cells.length:=by rw[hst]; simp
 have mE:sK c off dv.strip.cells=some (c.take off++dv.strip.cells++c.drop (off+dv.cells.length)):=by
  unfold sK
  rw[hlen,if_pos hle]
 have hm:(c.take off++dv.strip.cells++c.drop (off+dv.cells.length)).map DV.aL=c'.map DV.aL:=by
  rw[hc',hst]
  simp only[kN,List.map_map]
  congr 2
  exact List.map_congr_left fun d _=>BU d
 have hpa:=pG e2
 have Zz:dv.strip.cells.all DV.bF=true:=by
  rw[hc',kN,kN,kM,kM,← hst] at hpa
  simp only[aB] at hpa
  exact hpa.1.2
 have K2:=pG q2
 have hcr:CR k y (c.take off++dv.strip.cells++c.drop (off+dv.cells.length)):=by
  refine AP (by rw[hm]; exact e2) ?_
  rw[kM,kM,Zz]
  simp only[Bool.and_true,aB,aW] at K2 ⊢
  exact⟨fun d hd=>K2 d (List.mem_of_mem_take hd),fun d hd=>K2 d (List.mem_of_mem_drop hd)⟩
 have hsz:dv.strip.cells.length=td.size:=by rw[hlen,fM k7]; exact c2
 have yK:mQ ty S t (.eT id l.length (i*k.size+off)) dv=some (S.set id (.op e k.size (pre++(c.take off++dv.strip.cells++c.drop (off+dv.cells.length))++post) false)):=by
  simp only[mQ,h1,m3,hsz,Zz,decide_true,fP,if_true]
  rw[← q1,P3 mE]
  rfl
 have rG:(pre++(c.take off++dv.strip.cells++c.drop (off+dv.cells.length))++post).length=(pre++c++post).length:=by
  simp only[cO,lY,List.length_drop,hlen]
  omega
 refine⟨aX,_,ι,w,.unk,te,_,⟨some [id],true⟩,⟨some [g],true⟩,fun _ => ?_,fun _ => ?_,⟨fun e=>e,fun l' iV => ?_⟩,fun l' m _ hm j hj => ?_,vQ hR m1 hg m2 rG m6 m7 (q3 y _ hcr),by simp only[RT],hw,fun _ _ _=>rfl,wL m1,Gw hB hg,wG m2 (fun e=>by cases e),rfl,rfl,rfl,rfl⟩
 ·simp only[af,ho,k1,k4,yK,Option.map_some]
 ·simp only[aF,ho,k1,af,k4,yK,Option.map_some]
 ·cases iV
  exact⟨[id],rfl,fun j hj=>⟨g,by simp,by simp only[bH] at hj; rw[hj]; exact hw _ _ m1⟩⟩
 ·cases hm
  simp only[bH] at hj
  exact .inr ⟨g,hj▸m1⟩
theorem I6 {v:TV} {mm:List TV} {iT:List TB} {c:Prop} (h:N4 ty tt te tS o nT=some (v,mm,iT,c)) (hc:c):Does P ty aI call yf B o nT te tS false fun v' ck cu _=>v'=v∧ck=mm∧cu=iT:=by
 intro ι w env S ay hR hB hw hT hn hS
 unfold N4 at h
 split at h
 ·rename_i t a b ho
  split at h
  rotate_left
  ·cases h
  rename_i e s jZ agg sz z0 n m k h1 h2 h3 h4
  split at h
  rotate_left
  ·cases h
  rename_i k0 sz' z h5
  split at h
  rotate_left
  ·cases h
  rename_i x h6
  split at h
  rotate_left
  ·cases h
  rename_i Nt
  cases h
  simp only[aB,bJ,cV] at Nt
  obtain⟨⟨⟨⟨c1,c2⟩,c3⟩,c4⟩,c5⟩:=Nt
  obtain⟨rfl,d2,d3⟩:=hc
  obtain⟨cc,m',e1,e2,e3⟩:=Cb h6 (rL (ι:=ι) (S:=S) z)
  rw[aU e3,gu] at e1
  subst e1
  have hi1:intOf (gX env) a=some m:=nD hR.env h2
  have hi2:intOf (gX env) b=some m:=nD hR.env h3
  have h0:0<k.size:=by omega
  have ZX:(k.agg||k.size==1)=true:=by rw[c3,c2]; exact c4
  have hb:m.toNat*jZ≤eD:=by
   have:m.toNat≤1000000000:=by omega
   calc m.toNat*jZ≤1000000000*100000:=Nat.mul_le_mul this c5
    _≤eD:=by decide
  have kE:=mh hR hT hn h0 ZX (e:=e) (AH e2 m.toNat)
  rw[c2] at kE
  refine⟨.gV ay m.toNat agg,dP S ay (.op e s (List.replicate m.toNat (z.map DV.aL)).flatten false),upd ι nT ay,upd w ay nT,.so nT k,te,_,⟨none,true⟩,⟨none,true⟩,fun _ => ?_,fun hd=>(by cases hd),⟨fun e=>e,fun l hl=>(by cases hl)⟩,fun l m hl=>(by cases hl),kE,?_,nv hR hn hT hw,fun hd=>(by cases hd),pg hn (kJ hB hT),jb hB hT,lR hn,rfl,rfl,rfl⟩
  ·have hpz:=pG e2
   simp only[af,ho,h1,hi1,hi2,h5,d2,c1,c4,hb,hpz,decide_true,fP,if_true,show m≤140737488355328-4096 by omega]
  ·simp only[RT,upd,if_true]
   refine⟨trivial,c3.symm,e,s,_,false,by rw[aZ hn,if_pos rfl],?_⟩
   have:=gb (AH e2 m.toNat)
   rw[this,List.length_replicate,c2]
 ·rename_i t n ps ho
  split at h
  rotate_left
  ·cases h
  rename_i hh
  split at h
  rotate_left
  ·cases h
  rename_i e s jZ agg sz z0 l k h1 h2 h3
  split at h
  rotate_left
  ·cases h
  rename_i k0 sz' z h4
  split at h
  rotate_left
  ·cases h
  rename_i Nt
  simp only[aB,cV,eP,bJ] at Nt
  obtain⟨⟨⟨⟨⟨⟨c1,c2⟩,c3⟩,c4⟩,c5⟩,c6⟩,c7⟩:=Nt
  simp only[ah,av] at h
  obtain⟨w0,h5,rfl,rfl,rfl,-⟩:=h
  obtain⟨ds,k1,k2⟩:=oI hR.env h2
  obtain⟨k3,k4⟩:=AM k2 h5
  have hlen:ds.length=n:=by rw[wZ k2,c3]
  have WS:((List.replicate n z).flatten).length=ds.length*s:=by
   rw[hlen,List.length_flatten,List.map_replicate,c4,List.sum_replicate_nat]
  have hf:=uu (pre:=[]) (post:=(List.replicate n z).flatten) c5 k3 (by simp) WS
  rw[List.nil_append,List.nil_append] at hf
  have Jg:w0.length=n:=by rw[k4,c3]
  have c7':(agg||s==1)=true:=by simpa using c7
  have rH:=tg k3
  have h0:0<k.size:=by omega
  have ZX:(k.agg||k.size==1)=true:=by rw[c6,c5]; exact c7'
  have kE:=mh hR hT hn h0 ZX (e:=e) rH
  rw[c5] at kE
  refine⟨.gV ay n agg,dP S ay (.op e s (ig ds) false),upd ι nT ay,upd w ay nT,.so nT k,te,_,⟨none,true⟩,⟨none,true⟩,fun _ => ?_,fun hd=>(by cases hd),⟨fun e=>e,fun l hl=>(by cases hl)⟩,fun l m hl=>(by cases hl),kE,?_,nv hR hn hT hw,fun hd=>(by cases hd),pg hn (kJ hB hT),jb hB hT,lR hn,rfl,rfl,rfl⟩
  ·simp only[af,ho,h1,k1,h4,iF c1,iF c2,fP,if_true,hf,tX k3,c7',hh]
  ·simp only[RT,upd,if_true]
   refine⟨trivial,c6.symm,e,s,_,false,by rw[aZ hn,if_pos rfl],?_⟩
   rw[gb rH,Jg,c5]
 ·rename_i args ats ho
  split at h
  rotate_left
  ·cases h
  rename_i x y t u ha ht
  split at h
  rotate_left
  ·cases h
  rename_i Ng
  subst Ng
  split at h
  ·
   rename_i g k h2
   split at h
   rotate_left
   ·cases h
   rename_i e s jZ agg sz z0 k' m ap h1 h3
   split at h
   rotate_left
   ·cases h
   rename_i K3
   subst K3
   split at h
   rotate_left
   ·cases h
   rename_i e' l k0 sz' z h4 h5
   split at h
   rotate_left
   ·cases h
   rename_i Nt
   cases h
   simp only[aB,cV,bJ] at Nt
   obtain⟨⟨⟨c1,c2⟩,c3⟩,c4⟩:=Nt
   subst c1
   have hg:=jw h4
   obtain⟨d,k1,k2⟩:=bg hR.env h2
   obtain⟨id,ds,rfl,m1,m2,m3,m4,m5,m6⟩:=B9 hR hg k2 rfl
   simp only[ah] at h3
   obtain⟨uy,e1,e2⟩:=h3
   obtain⟨db,k4,k5⟩:=bg hR.env e1
   have k6:=cq (tt:=tt) (t:=t) k5
   rw[e2] at k6
   cases db<;>simp only[RT] at k6
   rename_i news tok f
   obtain⟨k6,-⟩:=k6
   have MQ:=ja k6
   have j7:=iw k6
   have rH:=Gi m4 (pZ k6)
   have kE:=BV hR m1 hg m2 m5 m6 rH
   have hb:(l.length+news.length)*jZ≤eD:=by
    have:l.length+news.length≤1000000000:=by rw[MQ]; exact hc
    calc (l.length+news.length)*jZ≤1000000000*100000:=Nat.mul_le_mul this c4
     _≤eD:=by decide
   have nK:(agg||s==1)=true:=by rw[← c3,← c2]; exact m6
   have iV:=gb m4
   have Nv:lW ty S ay t (.gV id l.length k'.agg) (.sl news tok f)=if news.isEmpty then some (.gV id l.length k'.agg,S) else some (.gV id (l.length+news.length) agg,S.set id (.op e' k'.size (ds++flat news) false)):=by
    simp only[lW,h1,h5]
    rw[if_pos,m3]
    ·simp only[c2,decide_true,fP,if_true]
    ·simp only[aB,bJ,aW]
     refine⟨⟨⟨⟨by omega,nK⟩,hb⟩,?_⟩,fun r hr=>by rw[j7 r hr,c2]⟩
     have:l.length+news.length≤1000000000:=by rw[MQ]; exact hc
     omega
   have hst:∀ d S',lW ty S ay t (.gV id l.length k'.agg) (.sl news tok f)=some (d,S')→af P ty aI call yf (gX env) o S ay=some (d,S'):=fun d S' h=>by
    simp only[af,ho,ha,ht,if_true,k1,k4,h]
   have qp:∀ d S',(d = .gV id (l.length+news.length) agg)→S'=S.set id (.op e' k'.size (ds++flat news) false)→RT ι S' (.so g k') d:=fun d S' hd yZ=>by
    subst hd yZ
    have hlt:=(aJ.1 m2).1
    simp only[RT]
    refine⟨m1,c3.symm,e',k'.size,_,false,by rw[aK,if_pos rfl,if_pos hlt],?_⟩
    rw[gb rH,cO,MQ]
   by_cases Jk:news.isEmpty=true
   ·have HH:news=[]:=by simpa using Jk
    subst HH
    have hm:m=[]:=dm (by rw[← MQ]; rfl)
    subst hm
    have hSS:S.set id (.op e' k'.size (ds++flat []) false)=S:=by
     rw[show flat []=[] from rfl,gu]
     exact Cv m2
    rw[hSS] at kE
    rw[if_pos Jk] at Nv
    have hrt:=qp (.gV id l.length k'.agg) S (by rw[c3]; rfl) hSS.symm
    refine⟨_,S,ι,w,.so g k',_,_,⟨none,true⟩,⟨none,true⟩,fun _=>hst _ _ Nv,fun hd=>(by cases hd),⟨fun e=>e,fun l hl=>(by cases hl)⟩,fun l m hl=>(by cases hl),kE,hrt,hw,fun hd=>(by cases hd),Fr.refl _ _ _,?_,eX _ _,rfl,rfl,rfl⟩
    exact Gx hB hg
   ·rw[if_neg Jk] at Nv
    refine⟨_,_,ι,w,.so g k',_,_,⟨none,true⟩,⟨none,true⟩,fun _=>hst _ _ Nv,fun hd=>(by cases hd),⟨fun e=>e,fun l hl=>(by cases hl)⟩,fun l m hl=>(by cases hl),kE,qp _ _ rfl rfl,hw,fun hd=>(by cases hd),wL m1,Gx hB hg,wG m2 (fun e=>by cases e),rfl,rfl,rfl⟩
  ·
   rename_i v0 hno h2
   split at h
   rotate_left
   ·cases h
   rename_i hh
   split at h
   rotate_left
   ·cases h
   rename_i e s jZ agg sz z0 k' a m ap h1 h3
   split at h
   rotate_left
   ·cases h
   rename_i k0 sz' z h5
   split at h
   rotate_left
   ·cases h
   rename_i Nt
   cases h
   simp only[aB,cV,bJ] at Nt
   obtain⟨⟨⟨⟨⟨c0,c1⟩,c2⟩,c3⟩,c4⟩,c5⟩:=Nt
   obtain⟨d,k1,k2⟩:=bg hR.env h2
   obtain⟨f0,rfl,uQ⟩:∃ f0,d = .sl [] none f0∧f0.full=true:=by
    cases v0<;>first | (cases c0; done) | skip
    ·cases d<;>simp only[RT] at k2
     obtain⟨rfl,rfl,rfl⟩:=k2
     exact⟨_,rfl,rfl⟩
    ·rename_i k9 l9 ap9
     cases l9 with
     | cons=>simp[Oe] at c0
     | nil =>
      cases ap9<;>first | (simp[Oe] at c0; done) | skip
      cases d<;>simp only[RT] at k2
      rename_i rows tok f
      obtain⟨q1,rfl,q2⟩:=k2
      cases rows with
      | nil=>exact⟨f,rfl,q2⟩
      | cons=>exact q1.elim
   simp only[ah] at h3
   obtain⟨uy,e1,e2⟩:=h3
   obtain⟨db,k4,k5⟩:=bg hR.env e1
   have k6:=cq (tt:=tt) (t:=t) k5
   rw[e2] at k6
   cases db<;>simp only[RT] at k6
   rename_i news tok f
   obtain⟨k6,-⟩:=k6
   have MQ:=ja k6
   have j7:=iw k6
   have rH:=pZ k6
   have h0:0<k'.size:=by omega
   have ZX:(k'.agg||k'.size==1)=true:=by rw[c3,c2]; exact c4
   have kE:=mh hR hT hn h0 ZX (e:=e) rH
   rw[c2] at kE
   have hle:news.length≤1000000000:=by rw[MQ]; exact hc
   have hb:news.length*jZ≤eD:=by
    calc news.length*jZ≤1000000000*100000:=Nat.mul_le_mul hle c5
     _≤eD:=by decide
   have Jk:¬ (news.isEmpty=true):=by
    intro he
    have:news=[]:=by simpa using he
    rw[this] at MQ
    simp at MQ
   have Nv:lW ty S ay t (.sl [] none f0) (.sl news tok f)=some (.gV ay news.length agg,dP S ay (.op e s (flat news) false)):=by
    simp only[lW,h1,h5]
    rw[if_neg Jk,if_pos]
    simp only[aB,bJ,aW]
    refine⟨⟨⟨⟨⟨uQ,c1⟩,c4⟩,hb⟩,by omega⟩,fun r hr=>by rw[j7 r hr,c2]⟩
   refine⟨.gV ay news.length agg,dP S ay (.op e s (flat news) false),upd ι nT ay,upd w ay nT,.so nT k',te,_,⟨none,true⟩,⟨none,true⟩,fun _ => ?_,fun hd=>(by cases hd),⟨fun e=>e,fun l hl=>(by cases hl)⟩,fun l m hl=>(by cases hl),kE,?_,nv hR hn hT hw,fun hd=>(by cases hd),pg hn (kJ hB hT),jb hB hT,lR hn,rfl,rfl,rfl⟩
   ·simp only[af,ho,ha,ht,if_true,k1,k4,hh,Nv]
   ·simp only[RT,upd,if_true]
    refine⟨trivial,c3.symm,e,s,_,false,by rw[aZ hn,if_pos rfl],?_⟩
    rw[gb rH,MQ,c2]
  ·cases h
 ·cases h
end Go.Tv
end
section
namespace Go.Tv
open Go Go.Di Go.Proofs
def Cc (tS:List TB):TV→TV
 | .so g t=>match tS[g]? with
  | some (.rows t' _ l z)=>if h:t'=t then (match z with
    | true => .sl t (h▸l) .no
    | false => .so g t) else .unk
  | _ => .unk
 | v=>v
def tF (te:List TV) (tS:List TB) (x:Operand):List TB :=
 match gd te x with
 | some (.so g t)=>match iQ tS g t with
  | some (e,l,false)=>tS.set g (.rows t e l true)
  | _=>tS
 | _=>tS
def HA (te:List TV) (tS:List TB) (x:Operand):Bool :=
 match gd te x with
 | some .unk | none=>false
 | some (.so g t)=>(iQ tS g t).isSome
 | some _=>true
def Hy (ty:fI) (te:List TV) (tS:List TB) (o:Oper):Option (List TV×List TB) :=
 match ty.h o with
 | 2=>if o.op.operands.toList.all (HA te tS) then some (te.map (Cc (o.op.operands.toList.foldl (tF te) tS)),o.op.operands.toList.foldl (tF te) tS) else none
 | _=>some (te,tS)
variable {P:Program} {ty:fI} {tt:TypeId→Option TT} {ι ι' w:lK} {S S':ak} {te mm:List TV} {env:List DV} {tS iT:List TB} {aI:bM} {call:bz} {yf:eE} {o:Oper} {ay nT:Nat} {B:List Nat} {ops:Array Oper}
theorem Ix {g g':Nat} {t t':TT} {e e':Nat} {l:List t.den} {l':List t'.den} {z:Bool} (h:iQ tS g t=some (e,l,z)) (h':iQ tS g' t'=some (e',l',false)):(iQ (tS.set g' (.rows t' e' l' true)) g t).isSome=true:=by
 have h1:=jw h
 have h2:=jw h'
 by_cases e1:g'=g
 ·subst e1
  rw[h1] at h2
  cases h2
  unfold iQ
  rw[aK,if_pos rfl,if_pos (aJ.1 h1).1]
  simp
 ·have:iQ (tS.set g' (.rows t' e' l' true)) g t=iQ tS g t:=by
   unfold iQ
   rw[aK,if_neg e1]
  rw[this,h]; rfl
theorem Qh {x y:Operand} (h:HA te tS x=true):HA te (tF te tS y) x=true:=by
 unfold HA at h ⊢
 split at h
 ·cases h
 ·cases h
 ·rename_i g t hx
  unfold tF
  split
  ·split
   ·rename_i e' l' h2
    obtain⟨⟨e,l,z⟩,h1⟩:=Option.isSome_iff_exists.1 h
    exact Ix h1 h2
   ·exact h
  ·exact h
 ·rfl
theorem qv (hR:b9 ι te tS env S) (hB:nL B tS) {x:Operand} (h:HA te tS x=true):b9 ι te (tF te tS x) env (oq env S x)∧nL B (tF te tS x)∧Fr B ι S ι (oq env S x)∧∀ i,Nn i S (oq env S x):=by
 have same:tF te tS x=tS→oq env S x=S→b9 ι te (tF te tS x) env (oq env S x)∧nL B (tF te tS x)∧Fr B ι S ι (oq env S x)∧∀ i,Nn i S (oq env S x):=fun h1 h2=>by rw[h1,h2]; exact⟨hR,hB,Fr.refl _ _ _,fun i=>eX _ _⟩
 unfold HA at h
 split at h
 ·cases h
 ·cases h
 ·rename_i g t hx
  obtain⟨⟨e,l,z⟩,h1⟩:=Option.isSome_iff_exists.1 h
  obtain⟨d,k1,k2⟩:=bg hR.env hx
  have hg:=jw h1
  obtain⟨id,ds,rfl,m1,m2,m3,m4,m5,m6⟩:=B9 hR hg k2 rfl
  cases z with
  | true=>exact same (by simp only[tF,hx,h1]) (by simp only[oq,k1,uH,m3])
  | false =>
   have e1:tF te tS x=tS.set g (.rows t e l true):=by simp only[tF,hx,h1]
   have e2:oq env S x=S.set id (.op e t.size ds true):=by simp only[oq,k1,uH,m3]
   rw[e1,e2]
   exact⟨vQ hR m1 hg m2 rfl m5 m6 m4,Gw hB hg,wL m1,fun i=>wG m2 (fun e=>by cases e)⟩
 ·rename_i v h1 h2 hx
  obtain⟨d,k1,k2⟩:=bg hR.env hx
  refine same ?_ ?_
  ·unfold tF
   rw[hx]
   cases v<;>first | rfl | exact absurd rfl (h2 _ _)
  ·simp only[oq,k1]
   cases v<;>first | exact absurd rfl (h2 _ _) | exact absurd rfl h1 | skip
   all_goals cases d<;>simp only[RT] at k2<;>rfl
theorem aaH:∀ (l:List Operand) {tS:List TB} {S:ak},b9 ι te tS env S→nL B tS→l.all (HA te tS)=true→b9 ι te (l.foldl (tF te) tS) env (l.foldl (oq env) S)∧nL B (l.foldl (tF te) tS)∧Fr B ι S ι (l.foldl (oq env) S)∧∀ i,Nn i S (l.foldl (oq env) S)
 | [],_,S,hR,hB,_=>⟨hR,hB,Fr.refl _ _ _,fun i=>eX _ _⟩
 | x::l,tS,S,hR,hB,h=>by
  simp only[List.all_cons,aB] at h
  obtain⟨h1,h2,h3,h4⟩:=qv hR hB h.1
  obtain⟨k1,k2,k3,k4⟩:=aaH l h1 h2 (aW.2 fun y hy=>Qh (aW.1 h.2 y hy))
  refine⟨k1,k2,h3.trans k3,fun i=>⟨bk (h4 i).1 (k4 i).1,fun j hj hn=>(k4 i).2 j hj ((h4 i).2 j hj hn)⟩⟩
theorem TL (hR:b9 ι mm tS env S) {v:TV} {d:DV} (h:RT ι S v d):RT ι S (Cc tS v) (iY S d):=by
 cases v
 case so g t =>
  simp only[Cc]
  split
  ·rename_i t' e l z hg
   split
   ·rename_i ht
    obtain⟨id,ds,rfl,m1,m2,m3,m4,m5,m6⟩:=B9 hR hg h ht
    subst ht
    cases z with
    | true =>
     rw[Ko m3 m5 m6]
     simp only[RT,tH,and_true]
     exact ur m6 m4
    | false =>
     have:iY S (.gV id l.length t'.agg) = .gV id l.length t'.agg:=by simp only[iY,m3]
     rw[this]
     exact h
   ·simp only[RT]
  ·simp only[RT]
 case unk=>simp only[Cc,RT]
 all_goals
  cases d<;>simp only[RT] at h
  simp only[Cc,iY,RT]
  exact h
theorem F8 (hR:b9 ι mm tS env S):∀ {l:List TV} {m:List DV},cQ ι S l m→cQ ι S (l.map (Cc tS)) (m.map (iY S))
 | [],m,h=>by rw[aU h]; exact bS
 | a::l,m,h=>by
  obtain⟨d,m',rfl,h1,h2⟩:=ax h
  exact aV (TL hR h1) (F8 hR h2)
theorem X1 (hR:b9 ι te tS env S) (hB:nL B tS) (h:Hy ty te tS o=some (mm,iT)):b9 ι mm iT (BL ty o env S).1 (BL ty o env S).2∧nL B iT∧Fr B ι S ι (BL ty o env S).2∧Nn S.length S (BL ty o env S).2:=by
 unfold Hy at h
 unfold BL
 split at h
 ·rename_i hh
  split at h
  ·rename_i jY
   cases h
   obtain⟨h1,h2,h3,h4⟩:=aaH (env:=env) _ hR hB jY
   simp only[hh]
   exact⟨⟨F8 h1 h1.env,h1.cells,h1.own,h1.xI,h1.inj,h1.mp⟩,h2,h3,h4 _⟩
  ·cases h
 ·rename_i hh
  cases h
  simp only[]
  exact⟨hR,hB,Fr.refl _ _ _,eX _ _⟩
theorem mP {k:Nat} (ho:ops[k]? = some o) (hw:dK ops te o=some true) (hp:Hy ty te tS o=some (mm,iT)) {Q:List TV→List TB→Prop} {K:TV→List TV→List TB→cT→Prop} (hd:Does P ty aI call yf B o iT.length mm iT false K)
  (h:∀ v ck cu ft,K v ck cu ft→WL P ty aI call yf B ops (k+1) (lF ck o.dst v) cu Q):WL P ty aI call yf B ops k te tS Q:=by
 intro ι env S hR hB
 obtain⟨Ry,Q3,hF1,hN1⟩:=X1 (o:=o) hR hB hp
 generalize uF:BL ty o env S=pr at Ry hF1 hN1
 obtain⟨nR,S1⟩:=pr
 obtain⟨w,Zr⟩:=HK Ry
 obtain⟨d,S',ι',w',v,ck,cu,f,ft,h1,-,-,-,h5,h6,-,-,h9,uD,Dk,Q5⟩:=hd ι w nR S1 S1.length Ry Q3 Zr (.inr rfl) (.inr rfl) (fun e=>by cases e)
 obtain⟨aC,tj,ι'',tA,tB,k1,k2,k3,k4,k5,k6⟩:=h v ck cu ft Q5 ι' (iM nR o.dst d) S' (lP h5 h6 _) uD
 refine⟨aC,tj,ι'',tA,tB,?_,k2,k3,(hF1.trans h9).trans k4,qW hN1 (qW Dk k5),k6⟩
 rw[lV ho]
 simp only[Dr,gA hR.env hw,if_true,uF,h1 rfl,k1]
end Go.Tv
end
section
namespace Go.Tv
open Go Go.Di Go.Proofs
variable {P:Program} {ty:fI} {tt:TypeId→Option TT} {ι ι' w:lK} {S S':ak} {te mm:List TV} {env:List DV} {tS iT:List TB} {aI:bM} {call:bz} {yf:eE} {o:Oper} {ay nT:Nat} {B:List Nat} {ops:Array Oper}
def TT.sc:TT→Bool
 | .int _ | .bool | .str=>true
 | _=>false
theorem XT {t:TT} (h:t.sc=true):t.size=1∧t.agg=false:=by cases t<;>first | exact⟨rfl,rfl⟩ | cases h
theorem HS {t:TT} (h:t.sc=true):∀ {l:List t.den} {rows:List DV},dW (CR t) t.agg l rows→rows.all DV.vl=true∧dO t l rows
 | [],[],_=>⟨rfl,by simp only[dO]⟩
 | [],_::_,h=>h.elim
 | _::_,[],h=>h.elim
 | x::l,r::rows,hr=>by
  obtain⟨⟨h1,h2⟩,h3⟩:=hr
  obtain⟨k1,k2⟩:=HS h h3
  have:∃ v,r = .val v∧DV.bF (.val v)=true∧CR t x [r]:=by
   cases t<;>first | (cases h; done) | skip
   all_goals
    simp only[CR,s6,TT.agg,aD,if_false] at h1 h2
    cases r<;>simp only[DV.cells,List.cons.injEq,and_true,reduceCtorEq] at h1<;>first | exact(h2 _ rfl).elim | skip
    cases h1
    exact⟨_,rfl,rfl,by simp only[CR]⟩
  obtain⟨v,rfl,e1,e2⟩:=this
  refine⟨?_,?_⟩
  ·simp only[List.all_cons,k1,Bool.and_true]; exact e1
  ·simp only[dO]
   exact⟨[.val v],rows,rfl,e2,k2⟩
def JI (call:bz) (g:FuncId) (targs:List TV) (f:Nat) (e:TypeId) (Q:TV→Prop):Prop :=
 ∀ bY,cQ eB [] targs bY→∃ l rows tl t B3,RO (call g bY []) f=some (l,e,rows)∧cQ eB [] tl l∧gh tl=[]∧tl[f]? = some (.sl t B3 .no)∧t.sc=true∧dO t B3 rows∧Q (.agg tl)
theorem I7 {f:Operand} {args:Array Operand} {argTypes:Array TypeId} {g:FuncId} {fs cs xs targs:List TV} {e:TypeId} {Q:TV→Prop} (hop:o.op = .call { callee := .value f,args,argTypes }) (hh:ty.h o=1) (hf:gd te f=some (.fn g fs cs)) (ha:mG te args.toList=some xs) (hp:(fs++xs++cs).all dR=true)
  (hn:bG (gq tt fs argTypes) (fs++xs++cs)=targs) (hs:JI call g targs (ty.Ny o) e Q):Does P ty aI call yf B o nT te tS true fun v ck cu ft=>∃ tl t B3,Q (.agg tl)∧tl[ty.Ny o]? = some (.sl t B3 .no)∧v = .agg (tl.set (ty.Ny o) (.so nT t))∧ck=te∧cu=nM tS nT (.rows t e B3 false)∧ft=⟨some [nT],true⟩:=by
 intro ι w env S ay hR hB hw hT Ht hS
 obtain⟨y6,iB,Jc,k1,k2,k3⟩:=jq hR.env hf ha
 obtain⟨k4,k5⟩:=iA (ts:=gq tt fs argTypes) (ι':=eB) (S':=[]) hp k3
 rw[hn] at k5
 obtain⟨l,rows,tl,t,B3,m1,m2,m3,m4,m5,m6,m7⟩:=hs _ k5
 obtain⟨t1,t2⟩:=XT m5
 have hno:=hS rfl
 have hlt:=(aJ.1 hno).1
 have aan:∀ b,dP S ay b=S.set ay b:=fun b=>by unfold dP; rw[if_pos hlt]
 have hlen:=gb m6
 rw[t1,Nat.mul_one] at hlen
 have kE:=mh hR hT Ht (by omega) (by simp[t1]) (e:=e) m6
 rw[t1,aan] at kE
 have ZI:=pg (b := .op e 1 rows false) (ι:=ι) Ht (kJ hB hT)
 have Nk:=lR (b := .op e 1 rows false) Ht
 rw[aan] at ZI Nk
 refine⟨.agg (l.set (ty.Ny o) (.gV ay rows.length false)),S.set ay (.op e 1 rows false),upd ι nT ay,upd w ay nT,.agg (tl.set (ty.Ny o) (.so nT t)),te,_,⟨some [ay],true⟩,⟨some [nT],true⟩,fun hd=>(by cases hd),fun _ => ?_,⟨fun h=>h,fun l hl=>⟨[ay],rfl,fun j hj=>⟨nT,by cases hl; simp,?_⟩⟩⟩,fun l m _ hm j hj => .inl ?_,kE,?_,nv hR Ht hT hw,fun _ j hj=>by simp only[upd,hj,if_false],ZI,jb hB hT,Nk,tl,t,B3,m7,m4,rfl,rfl,rfl,rfl⟩
 ·simp only[aF,hop,k1,k2,if_pos hh,uN,hno,N7,k4,if_true,m1,Option.map_some]
 ·simp only[bH] at hj
  subst hj
  simp only[upd,if_true]
 ·cases hm
  simpa using hj
 ·simp only[RT]
  refine D4 _ (gC _ _ m3 m2) ?_
  simp only[RT,upd,if_true]
  exact⟨trivial,t2.symm,e,1,rows,false,by rw[aK,if_pos rfl,if_pos hlt],by omega⟩
def RQ (tS:List TB) (g:Nat):TV→Bool
 | .val v=>tK (.val v)
 | .gY=>true
 | .sl t _ (.oR k)=>t.sc&&k !=g&&(match tS[k]? with
  | some (.own _ _)=>true
  | _=>false)
 | _=>false
def Lc (tS:List TB) (g f:Nat):Nat→List TV→Bool
 | _,[]=>true
 | i,v::l=>(i==f||RQ tS g v)&&Lc tS g f (i+1) l
theorem Ke {g f:Nat}:∀ {l:List TV} {i j:Nat} {v:TV},Lc tS g f i l=true→l[j]? = some v→i+j≠f→RQ tS g v=true
 | [],_,_,_,_,h,_=>by simp at h
 | a::l,i,0,v,h,hj,hne=>by
  simp only[List.getElem?_cons_zero,az] at hj
  subst hj
  simp only[Lc,aB,eP,cV] at h
  exact h.1.resolve_left (by omega)
 | a::l,i,j+1,v,h,hj,hne=>by
  simp only[Lc,aB] at h
  exact Ke h.2 (by simpa using hj) (by omega)
theorem TF (hR:b9 ι te tS env S) {g tk:Nat} {v:TV} {d:DV} (hg:ι g=some tk) (h:RQ tS g v=true) (hv:RT ι S v d):Lb S tk d=true:=by
 cases v with
 | val v =>
  cases d<;>simp only[RT] at hv
  rename_i u
  subst hv
  cases u<;>first | rfl | cases h
 | gY =>
  cases d<;>simp only[RT] at hv
  obtain⟨rfl,-,-⟩:=hv
  rfl
 | sl t l ap =>
  cases ap with
  | oR k =>
   cases d<;>simp only[RT] at hv
   rename_i rows tok f
   obtain⟨h1,h2⟩:=hv
   simp only[RQ,aB,bne_iff_ne,ne_eq] at h
   obtain⟨⟨h3,h4⟩,-⟩:=h
   simp only[Lb,eP]
   rcases h2 with ⟨-,-,h0⟩ | ⟨tk',e',s',h5,rfl,h6⟩
   ·exact .inl (by simpa using h0)
   ·refine .inr ?_
    simp only[(HS h3 h1).1,h6,beq_self_eq_true,Bool.and_true,Bool.true_and,bne_iff_ne,ne_eq]
    exact fun e=>h4 (hR.inj _ _ _ h5 (e▸hg))
  | _=>cases h
 | _=>cases h
def Xo (ty:fI) (rs:List ResultVar) (gJ:List (Option TT)) (f:Nat) (e:TypeId) (Q:TV→Prop) (ex:DX) (te:List TV) (tS:List TB):Prop :=
 (match ex with | .exit _=>False | _=>True)∧∃ l t B3 g,wv ty te tS rs=some [.agg l]∧l[f]? = some (.sl t B3 (.oR g))∧B3≠[]∧tS[g]? = some (.own e 1)∧Lc tS g f 0 l=true∧dR (.agg l)=true ∧
  ∃ tl t' Ld,jC (bG gJ [.agg l]) = .agg tl∧gh tl=[]∧tl[f]? = some (.sl t' Ld .no)∧t'.sc=true∧Q (.agg tl)
theorem Qa {bC:bM} {L n:Nat} {f:FuncId} {fn:Func} {c:Code} {targs:List TV} {gJ:List (Option TT)} {k:Nat} {e0:TypeId} {Q:TV→Prop} (hf:P.funcs[f]? = some fn) (hb:fn.body=some c)
  (h:WT P ty (yJ P ty bC L n) (qh P ty bC L n) (Zh P ty bC L n) [] L f false c (targs++List.replicate (fn.ntmps-targs.length) .unk) [] (Xo ty fn.results.toList gJ k e0 Q)):JI (qh P ty bC L (n+1)) f targs k e0 Q:=by
 intro bY hd
 have hlen:=fM hd
 have hR:b9 eB (targs++List.replicate (fn.ntmps-targs.length) .unk) [] (bY++List.replicate (fn.ntmps-bY.length) aX) []:=by
  refine⟨ez hd (by rw[hlen]; exact rK _ _),fun k l hk=>(by simp at hk),fun k e s hk=>(by simp at hk),fun k k' hk=>(by cases hk),fun i j k' hi=>(by cases hi),fun k b hk=>(by simp at hk)⟩
 obtain⟨e,aC,S',ι',ck,cu,h1,h2,h3,h4,h5,h6⟩:=h eB _ [] hR (fun k hk=>(by cases hk))
 obtain⟨h6,l,t,B3,g,h7,h8,h9,uD,Dk,Q5,tl,t',Ld,Y9,h14,Q4,UW,h17⟩:=h6
 obtain⟨ds,k1,k2⟩:=rM h2 h7
 obtain⟨k3,k4⟩:=CC (ts:=gJ) (ι':=eB) (S':=[]) (by simpa using Q5) k2
 obtain⟨d,m',rfl,q1,q2⟩:=ax k2
 rw[aU q2] at k1 k3 k4
 cases d<;>simp only[RT] at q1
 rename_i m
 have hc:qh P ty bC L (n+1) f bY []=some (.agg m,S'):=by
  simp only[qh,cR,hf,qJ,hb]
  have EW:ct P ty (jH bC (cR P ty bC L n).1) (cR P ty bC L n).1 (cR P ty bC L n).2 L f false c (bY++List.replicate (fn.ntmps-bY.length) aX) []=some (e,aC,S'):=h1
  rw[EW]
  cases e with
  | normal=>simp only[k1,Option.map_some,oneOf]
  | ret=>simp only[k1,Option.map_some,oneOf]
  | exit id=>exact h6.elim
 rw[Y9] at k4
 simp only[oneOf,DV.strip,DV.cN,RT] at k4
 obtain⟨d1,p1,p2⟩:=lM q1 h8
 cases d1<;>simp only[RT] at p2
 rename_i rows tok ff
 obtain⟨p2,p3⟩:=p2
 have Nh:=ja p2
 rcases p3 with ⟨-,-,h0⟩ | ⟨tk,e',s',p4,rfl,p5⟩
 ·exact absurd (dm (by omega)) h9
 ·obtain⟨n1,p6⟩:=h2.own g e0 1 uD tk p4
  rw[p5] at p6
  cases p6
  obtain⟨d2,p7,p8⟩:=lM k4 Q4
  simp only[en,p1,Option.map_some,az] at p7
  subst p7
  simp only[DV.aL,RT] at p8
  obtain⟨r1,r2⟩:=HS UW p8.1
  refine⟨m.map DV.aL,rows,tl,t',Ld,?_,k4,h14,Q4,UW,r2,h17⟩
  have WY:((List.range m.length).all fun j=>j==k||Lb S' tk (m.getD j aX))=true:=by
   rw[aW]
   intro j hj
   rw[List.mem_range] at hj
   by_cases hjk:j=k
   ·simp[hjk]
   ·have Rs:j<l.length:=by rw[← fM q1]; exact hj
    obtain⟨d3,s1,s2⟩:=lM q1 (bV Rs)
    rw[aO,s1,Option.getD_some,TF h2 p4 (Ke Dk (bV Rs) (by omega)) s2,Bool.or_true]
  rw[hc]
  simp only[RO,p1,p5,Nat.mul_one,beq_self_eq_true,r1,WY,fP,if_true]
end Go.Tv
end
