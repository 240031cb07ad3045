import Derived.Test.YtedcgbkilmlbhaaPk05
section
namespace Go.Tv
open Go Go.Di Go.Proofs
def gF (tS:List TB) (g:Nat) (t:TT):Option (Nat×List t.den×Bool) :=
 match tS[g]? with
 | some (.rows t' e l z)=>if h:t'=t then some (e,h▸l,z) else none
 | _=>none
theorem hU {tS:List TB} {g:Nat} {t:TT} {e:Nat} {l:List t.den} {z:Bool} (h:gF tS g t=some (e,l,z)):tS[g]? = some (.rows t e l z):=by
 unfold gF at h
 split at h
 ·rename_i t' e' l' z' hg
  split at h
  ·rename_i ht
   subst ht
   cases h
   exact hg
  ·cases h
 ·cases h
section
variable (ty:eS) (tt:TypeId→Option TT)
def Dh (te:List TV) (tS:List TB) (o:Oper):Option (TV×Nat×Prop) :=
 match o.op with
 | .indexAddr t x i=>match ty t,eZ te x,Dd te i with
  | some ⟨.slice _ s _ _,_,_⟩,some (.so g k),some n=>match gF tS g k with
   | some (_,l,_)=>if k.size==s then some (.sp g k n.toNat 0,g,0≤n∧n<(l.length:Int)) else none
   | none=>none
  | _,_,_=>none
 | .fieldAddr t x f=>match ty t,eZ te x with
  | some ⟨.struct fs,_,_⟩,some (.sp g k i off)=>match fs[f]? with
   | some (o,s,_)=>if 0<s then some (.sp g k i (off+o),g,True) else none
   | none=>none
  | _,_=>none
 | .load t a=>match ty t,eZ te a with
  | some d,some (.sp g k i off)=>match gF tS g k with
   | some (_,l,_)=>(u9 d.k.isAgg d.size (k.cells (l.getD i k.Um)) off).map fun v=>(gG tt t v,g,True)
   | none=>none
  | _,_=>none
 | .call { callee := .builtin .len,args,argTypes }=>match args.toList,argTypes.toList with
  | [x],[t]=>match ty t,eZ te x with
   | some ⟨.slice _ _ _ _,_,_⟩,some (.so g k)=>match gF tS g k with
    | some (_,l,_)=>some (.val (.int .i64 (l.length:Nat)),g,True)
    | none=>none
   | _,_=>none
  | _,_=>none
 | _=>none
def LU (te:List TV) (tS:List TB) (o:Oper):Option (Nat×List TB) :=
 match o.op with
 | .store t a x=>match ty t,eZ te a,(eZ te x).map (gG tt t) with
  | some d,some (.sp g k i off),some v=>match gF tS g k with
   | some (e,l,false)=>if v.xR&&v.cells.length==d.size then match Lj (k.cells (l.getD i k.Um)) off v.cells with
     | some cs=>match k.of cs with
      | some (y,[])=>some (g,tS.set g (.rows k e (l.set i y) false))
      | _=>none
     | none=>none
    else none
   | _=>none
  | _,_,_=>none
 | _=>none
def L0:TV→Bool
 | .gl=>true
 | .sl _ [] .full=>true
 | _=>false
def LS (te:List TV) (tS:List TB) (o:Oper) (nT:Nat):Option (TV×List TV×List TB×Prop) :=
 match o.op with
 | .makeSlice t a b=>match ty t,Dd te a,Dd te b,tt t with
  | some ⟨.slice e s iO agg,_,_⟩,some n,some m,some (.sl k)=>match ty e with
   | some ⟨_,_,some z⟩=>match k.of (z.map sE) with
    | some (x,[])=>if decide (0<s)&&k.size==s&&k.agg==agg&&(agg||s==1)&&decide (iO≤100000) then
      some (.so nT k,te,om tS nT (.rows k e (List.replicate n.toNat x) false),m=n∧0≤n∧n≤1000000000) else none
    | _=>none
   | _=>none
  | _,_,_,_=>none
 | .buildSlice t n ps=>match ty.h o with
  | 1=>match ty t,um te ps.toList,tt t with
   | some ⟨.slice e s _ agg,_,_⟩,some l,some (.sl k)=>match ty e with
    | some ⟨_,_,some z⟩=>if decide (0<s)&&decide (n*s≤16777216)&&l.length==n&&z.length==s&&k.size==s&&k.agg==agg&&(agg||s==1) then
      (xP k 0 l).map fun w=>(.so nT k,te,om tS nT (.rows k e w false),True)
     else none
    | _=>none
   | _,_,_=>none
  | _=>none
 | .call { callee := .builtin .append,args,argTypes }=>match args.toList,argTypes.toList with
  | [x,y],[t,u]=>if t=u then match eZ te x with
   | some (.so g k)=>match ty t,(eZ te y).map (gG tt t) with
    | some ⟨.slice e s iO agg,_,_⟩,some (.sl k' m _)=>if h:k'=k then match gF tS g k,ty e with
      | some (e',l,false),some ⟨_,_,some _⟩=>if e'==e&&k.size==s&&k.agg==agg&&decide (iO≤100000) then
        some (.so g k,sB g te,(tS.map (nW g)).set g (.rows k e (l++(h▸m)) false),l.length+m.length≤1000000000) else none
      | _,_=>none
     else none
    | _,_=>none
   | some v=>match ty.h o with
    | 1=>match ty t,(eZ te y).map (gG tt t) with
     | some ⟨.slice e s iO agg,_,_⟩,some (.sl k' (a::m) _)=>match ty e with
      | some ⟨_,_,some _⟩=>if L0 v&&decide (0<s)&&k'.size==s&&k'.agg==agg&&(agg||s==1)&&decide (iO≤100000) then
        some (.so nT k',te,om tS nT (.rows k' e (a::m) false),(a::m).length≤1000000000) else none
      | _=>none
     | _,_=>none
    | _=>none
   | none=>none
   else none
  | _,_=>none
 | _=>none
end
variable {P:Program} {ty:eS} {tt:TypeId→Option TT} {ι ι' w:jR} {S S':ak} {te kY:List TV} {env:List DV} {tS iu:List TB} {aD:bq} {call:bg} {yf:dF} {o:Oper} {ay nT:Nat} {B:List Nat} {ops:Array Oper}
theorem rR {t:TT}:∀ {l:List t.den} {ds:List DV} {i:Nat},dx t l ds→i<l.length→∃ pre c post,ds=pre++c++post∧pre.length=i*t.size∧CR t (l.getD i t.Um) c∧∀ y c',CR t y c'→dx t (l.set i y) (pre++c'++post)
 | [],_,_,_,h=>by simp at h
 | x::l,ds,i,hf,h=>by
  simp only[dx] at hf
  obtain⟨c,m,rfl,h1,h2⟩:=hf
  cases i with
  | zero=>exact⟨[],c,m,rfl,by simp,h1,fun y c' hc=>by simp only[List.set_cons_zero,dx]; exact⟨c',m,rfl,hc,h2⟩⟩
  | succ i =>
   obtain⟨pre,c1,post,rfl,k1,k2,k3⟩:=rR (i:=i) h2 (by simpa using h)
   refine⟨c++pre,c1,post,by simp,by rw[List.length_append,lV h1,k1,Nat.add_mul,Nat.one_mul,Nat.add_comm],by simpa using k2,fun y c' hc => ?_⟩
   simp only[List.set_cons_succ,dx]
   exact⟨c,pre++c'++post,by simp,h1,k3 y c' hc⟩
theorem Er {t:TT}:∀ {l m:List t.den} {ds es:List DV},dx t l ds→dx t m es→dx t (l++m) (ds++es)
 | [],_,ds,_,h,k=>by simp only[dx] at h; subst h; exact k
 | x::l,m,ds,es,h,k=>by
  simp only[dx] at h
  obtain⟨c,r,rfl,h1,h2⟩:=h
  simp only[List.cons_append,dx]
  exact⟨c,r++es,by simp,h1,Er h2 k⟩
theorem yu {t:TT} {x:t.den} {c:List DV} (h:CR t x c):∀ n,dx t (List.replicate n x) (List.replicate n c).flatten
 | 0=>by simp[dx]
 | n+1=>by
  simp only[List.replicate_succ,List.flatten_cons,dx]
  exact⟨c,_,rfl,h,yu h n⟩
theorem nK {t:TT} {agg:Bool}:∀ {l:List t.den} {rows:List DV},dn (CR t) agg l rows→dx t l (flat rows)
 | [],[],_=>by simp[flat,dx]
 | x::l,r::rows,h=>by
  simp only[flat,List.flatMap_cons,dx]
  exact⟨r.cells,_,rfl,h.1.1,nK h.2⟩
theorem qM {t:TT}:∀ {qs:List (Nat×DV)} {i:Nat} {l:List t.den},AD t i qs l→dx t l (fQ qs)
 | [],_,[],_=>by simp[fQ,dx]
 | (j,d)::qs,i,x::l,h=>by
  obtain⟨⟨rfl,hc⟩,h⟩:=h
  simp only[fQ,List.flatMap_cons,dx]
  exact⟨d.strip.cells,_,rfl,hc,qM h⟩
theorem yC:∀ {t:TT} {x:t.den} {c:List DV},CR t x (c.map DV.aG)→c.all DV.bt=true→CR t x c
 | .int _,_,c,h,hp=>by
  simp only[CR] at h ⊢
  obtain⟨d,rfl⟩:∃ d,c=[d]:=List.length_eq_one_iff.1 (by have:=congrArg List.length h; simpa using this)
  cases d<;>simp_all [DV.aG]
 | .bool,_,c,h,hp=>by
  simp only[CR] at h ⊢
  obtain⟨d,rfl⟩:∃ d,c=[d]:=List.length_eq_one_iff.1 (by have:=congrArg List.length h; simpa using this)
  cases d<;>simp_all [DV.aG]
 | .str,_,c,h,hp=>by
  simp only[CR] at h ⊢
  obtain⟨d,rfl⟩:∃ d,c=[d]:=List.length_eq_one_iff.1 (by have:=congrArg List.length h; simpa using this)
  cases d<;>simp_all [DV.aG]
 | .unit,_,c,h,_=>by
  simp only[CR] at h ⊢
  simpa using h
 | .pair a b,x,c,h,hp=>by
  simp only[CR] at h ⊢
  obtain⟨c1,c2,e,h1,h2⟩:=h
  obtain⟨d1,d2,rfl,rfl,rfl⟩:=List.map_eq_append_iff.1 e
  rw[List.all_append,Bool.and_eq_true] at hp
  exact⟨d1,d2,rfl,yC h1 hp.1,yC h2 hp.2⟩
 | .sl t,l,c,h,hp=>by
  simp only[CR] at h ⊢
  obtain⟨rows,f,e,h⟩:=h
  obtain⟨d,rfl⟩:∃ d,c=[d]:=List.length_eq_one_iff.1 (by have:=congrArg List.length e; simpa using this)
  cases d<;>simp[DV.aG] at e
  rename_i r tok f'
  obtain⟨rfl,-⟩:=e
  cases tok with
  | some=>simp[DV.bt] at hp
  | none=>exact⟨r,f',rfl,h⟩
theorem zZ (d:DV):d.aG.aG=d.aG:=by cases d<;>rfl
theorem CF {v:TV} {d:DV} (hk:v.xR=true) (h:RT ι S v d):d.strip.cells=d.cells.map DV.aG:=by
 cases v<;>cases d<;>simp only[RT] at h<;>first | (cases hk; done) | rfl
theorem J1 {agg:Bool} {n off:Nat} {pre c post:List DV} {d:DV} (h:kF agg n c off=some d):kF agg n (pre++c++post) (pre.length+off)=some d:=by
 unfold kF at h ⊢
 cases agg with
 | true =>
  simp only[if_true,Option.map_eq_some_iff] at h ⊢
  obtain⟨cs,h1,rfl⟩:=h
  refine⟨cs,?_,rfl⟩
  unfold LF at h1 ⊢
  split at h1
  ·rename_i hle
   cases h1
   rw[if_pos (by simp; omega),List.append_assoc,List.drop_append,List.drop_eq_nil_of_le (by omega),List.nil_append,Nat.add_sub_cancel_left,List.drop_append_of_le_length (by omega),List.take_append_of_le_length (by simp; omega)]
  ·cases h1
 | false =>
  simp only[Bool.false_eq_true,if_false] at h ⊢
  have hlt:=(List.getElem?_eq_some_iff.1 h).1
  rw[List.append_assoc,List.getElem?_append_right (by omega),Nat.add_sub_cancel_left,List.getElem?_append_left hlt]
  exact h
theorem N4 {off:Nat} {pre c post cs c':List DV} (h:qh c off cs=some c'):qh (pre++c++post) (pre.length+off) cs=some (pre++c'++post):=by
 unfold qh at h ⊢
 split at h
 ·rename_i hle
  cases h
  have e1:(pre++c++post).take (pre.length+off)=pre++c.take off:=by
   rw[List.append_assoc,List.take_append,List.take_of_length_le (by omega),Nat.add_sub_cancel_left,List.take_append_of_le_length (by omega)]
  have e2:(pre++c++post).drop (pre.length+off+cs.length)=c.drop (off+cs.length)++post:=by
   rw[List.append_assoc,Nat.add_assoc,List.drop_append,List.drop_eq_nil_of_le (by omega),List.nil_append,Nat.add_sub_cancel_left,List.drop_append_of_le_length (by omega)]
  rw[if_pos (by simp; omega),e1,e2]
  simp[List.append_assoc]
 ·cases h
theorem SG (h:bS ι te tS env S) {g i off:Nat} {t:TT} {e:Nat} {l:List t.den} {z:Bool} {d:DV} (hg:tS[g]? = some (.rows t e l z)) (hd:RT ι S (.sp g t i off) d):∃ id ds,d = .er id l.length (i*t.size+off)∧ι g=some id∧S[id]? = some (.op e t.size ds z)∧zB S id l.length=some (e,t.size,ds,z)∧dx t l ds∧i<l.length∧0<t.size∧(t.agg||t.size==1)=true:=by
 cases d<;>simp only[RT] at hd
 rename_i id n qi
 obtain⟨h1,rfl,e',s',l',z',h2,h3,h4⟩:=hd
 obtain⟨q0,q1,ds,q2,q3⟩:=h.mp g _ hg id h1
 rw[h2] at q2
 cases q2
 have hl:=fF q3
 have hn:n=l.length:=Nat.eq_of_mul_eq_mul_right q0 (h3.trans hl)
 subst hn
 refine⟨id,l',rfl,h1,h2,?_,q3,?_,q0,q1⟩
 ·unfold zB
  rw[h2]
  simp only[h3,if_true]
 ·rw[← h3] at h4
  have:i*t.size<l.length*t.size:=by omega
  exact Nat.lt_of_mul_lt_mul_right this
theorem yS {v:TV} {g:Nat} {c:Prop} (h:Dh ty tt te tS o=some (v,g,c)) (hc:c) (hR:bS ι te tS env S):∃ d id,(∀ ay,ah P ty aD call yf (fM env) o S ay=some (d,S))∧RT ι S v d∧ι g=some id∧((∃ t a f,o.op = .fieldAddr t a f∧∃ n off,fM env a=some (.er id n off))∨(∃ t a i,o.op = .indexAddr t a i∧∃ n ag,fM env a=some (.gQ id n ag))∨(∃ t a,o.op = .load t a∧∃ n off,fM env a=some (.er id n off))∨∃ args ats,o.op = .call { callee := .builtin .len,args,argTypes:=ats }):=by
 unfold Dh at h
 split at h
 ·rename_i t x i ho
  split at h
  ·rename_i e s iO agg sz z g' k n h1 h2 h3
   split at h
   ·rename_i e' l zz h4
    split at h
    ·rename_i h5
     cases h
     have hg:=hU h4
     obtain⟨d,k1,k2⟩:=aS hR.env h2
     obtain⟨id,ds,rfl,m1,m2,m3,m4,m5,m6⟩:=Ao hR hg k2 rfl
     have hs:k.size=s:=by simpa using h5
     have hl:=fF m4
     have hi:intOf (fM env) i=some n:=lG hR.env h3
     obtain⟨c1,c2⟩:=hc
     refine⟨.er id l.length (n.toNat*s),id,fun ay => ?_,?_,m1,.inr (.inl ⟨t,x,i,ho,_,_,k1⟩)⟩
     ·simp only[ah,ho,h1,k1,hi,m3]
      rw[if_pos ⟨c1,by omega,hs⟩]
     ·simp only[RT]
      refine⟨m1,by rw[hs]; rfl,e',k.size,ds,zz,m2,hl.symm,?_⟩
      rw[hl,← Nat.succ_mul]
      exact Nat.mul_le_mul_right _ (by omega)
    ·cases h
   ·cases h
  ·cases h
 ·rename_i t x f ho
  split at h
  ·rename_i fs sz z g' k i off h1 h2
   split at h
   ·rename_i of s ag hf
    split at h
    ·rename_i hs
     cases h
     obtain⟨d,k1,k2⟩:=aS hR.env h2
     cases d<;>simp only[RT] at k2
     rename_i id n qi
     obtain⟨m1,rfl,e',s',l',z',m2,m3,m4⟩:=k2
     have hop:zB S id n=some (e',s',l',z'):=by unfold zB; rw[m2]; simp only[m3,if_true]
     refine⟨.er id n (i*k.size+off+of),id,fun ay => ?_,?_,m1,.inl ⟨t,x,f,ho,_,_,k1⟩⟩
     ·simp only[ah,ho,h1,k1,hf,hop,if_pos hs]
     ·simp only[RT]
      exact⟨m1,by omega,e',s',l',z',m2,m3,m4⟩
    ·cases h
   ·cases h
  ·cases h
 ·rename_i t a ho
  split at h
  ·rename_i td g' k i off h1 h2
   split at h
   ·rename_i e' l zz h4
    simp only[Option.map_eq_some_iff,Prod.mk.injEq] at h
    obtain⟨u,h5,rfl,rfl,-⟩:=h
    have hg:=hU h4
    obtain⟨d,k1,k2⟩:=aS hR.env h2
    obtain⟨id,ds,rfl,m1,m2,m3,m4,m5,m6,m7⟩:=SG hR hg k2
    obtain⟨pre,c,post,rfl,q1,q2,-⟩:=rR m4 m5
    obtain⟨d,q3,q4⟩:=mA (mE (ι:=ι) (S:=S) q2) h5
    refine⟨d,id,fun ay => ?_,bN q4,m1,.inr (.inr (.inl ⟨t,a,ho,_,_,k1⟩))⟩
    simp only[ah,ho,k1,gY,h1,m3]
    rw[← q1,J1 q3]
    rfl
   ·cases h
  ·cases h
 ·rename_i args ats ho
  split at h
  ·rename_i x t ha ht
   split at h
   ·rename_i e s iO agg sz z g' k h1 h2
    split at h
    ·rename_i e' l zz h4
     cases h
     have hg:=hU h4
     obtain⟨d,k1,k2⟩:=aS hR.env h2
     obtain⟨id,ds,rfl,m1,m2,m3,m4,m5,m6⟩:=Ao hR hg k2 rfl
     refine⟨.val (.int .i64 (l.length:Nat)),id,fun ay => ?_,by simp only[RT],m1,.inr (.inr (.inr ⟨_,_,ho⟩))⟩
     simp only[ah,ho,ha,ht,h1,k1]
    ·cases h
   ·cases h
  ·cases h
 ·cases h
theorem y6 {v:TV} {g:Nat} {c:Prop} (h:Dh ty tt te tS o=some (v,g,c)) (hc:c) (dr:Bool):Does P ty aD call yf B o nT te tS dr fun v' bT bU ft=>v'=v∧bT=te∧bU=tS∧ft=⟨some [g],false⟩:=by
 intro ι w env S ay hR hB hw hT hn hS
 obtain⟨d,id,h1,h2,h3,h4⟩:=yS (P:=P) (aD:=aD) (call:=call) (yf:=yf) h hc hR
 have hl:∃ l,aB P ty aD call yf (fM env) o S ay=some (d,S,⟨some l,false⟩)∧∀ j∈l,j=id:=by
  rcases h4 with ⟨t,a,f,ho,n,off,ha⟩ | ⟨t,a,i,ho,n,ag,ha⟩ | ⟨t,a,ho,n,off,ha⟩ | ⟨args,ats,ho⟩
  ·exact⟨[id],by simp only[aB,ho,ha,h1,Option.map_some],by simp⟩
  ·exact⟨[id],by simp only[aB,ho,ha,h1,Option.map_some],by simp⟩
  ·exact⟨[id],by simp only[aB,ho,ha,h1,Option.map_some],by simp⟩
  ·exact⟨[],by simp only[aB,ho,h1,Option.map_some],by simp⟩
 obtain⟨l,h5,h6⟩:=hl
 refine⟨d,S,ι,w,v,te,tS,⟨some l,false⟩,⟨some [g],false⟩,fun _=>h1 ay,fun _=>h5,⟨fun e=>e,fun l' fC => ?_⟩,fun l' m _ hm j hj => ?_,hR,h2,hw,fun _ _ _=>rfl,Fr.refl _ _ _,hB,dZ _ _,rfl,rfl,rfl,rfl⟩
 ·cases fC
  exact⟨l,rfl,fun j hj=>⟨g,by simp,by rw[h6 j hj]; exact hw _ _ h3⟩⟩
 ·cases hm
  exact .inr ⟨g,by rw[h6 j hj]; exact h3⟩
theorem Nh {k:Nat} {v:TV} {g:Nat} {c:Prop} {Q:List TV→Prop} (ho:ops[k]? = some o) (hw:cV ops te o=some true) (h:Dh ty tt te tS o=some (v,g,c)) (hc:c) (hq:WQ P ty aD call yf ops tS (k+1) (jM te o.dst v) Q):WQ P ty aD call yf ops tS k te Q:=by
 intro ι env S hR
 obtain⟨d,id,h1,h2,h3,h4⟩:=yS (P:=P) (aD:=aD) (call:=call) (yf:=yf) h hc hR
 obtain⟨az,bT,n1,n2,n3⟩:=hq ι (gC env o.dst d) S (jX hR h2 _)
 refine⟨az,bT,?_,n2,n3⟩
 rw[j4 ho]
 have hq:bZ P ty aD call yf (fM env) o S=some d:=by
  rcases h4 with ⟨t,a,f,ho,n,off,ha⟩ | ⟨t,a,i,ho,n,ag,ha⟩ | ⟨t,a,ho,n,off,ha⟩ | ⟨args,ats,ho⟩<;>simp only[bZ,ho,h1,Option.map_some]
 simp only[lN,eW hR.env hw,if_true,hq,n1]
end Go.Tv
end
section
namespace Go.Tv
open Go Go.Di Go.Proofs
variable {P:Program} {ty:eS} {tt:TypeId→Option TT} {ι ι' w:jR} {S S':ak} {te kY:List TV} {env:List DV} {tS iu:List TB} {aD:bq} {call:bg} {yf:dF} {o:Oper} {ay nT:Nat} {B:List Nat} {ops:Array Oper}
theorem nG (h:bS ι te tS env S) (hT:uf tS nT) (hn:ug S ay) {t:TT} {e:Nat} {l:List t.den} {ds:List DV} (h0:0<t.size) (h1:(t.agg||t.size==1)=true) (hf:dx t l ds):bS (upd ι nT ay) te (om tS nT (.rows t e l false)) env (cW S ay (.op e t.size ds false)):=by
 have K:=pV h hT hn (.op e t.size ds false)
 refine⟨bw K _ _ h.env,fun k l hk => ?_,fun k e s hk t ht => ?_,fun k k' hk => ?_,fun i j k' hi hj => ?_,fun k b hk t0 ht => ?_⟩
 ·rw[bK hT] at hk
  split at hk
  ·cases hk
  ·rename_i e
   obtain⟨k',fD,h1,h2,h3⟩:=h.cells k l hk
   exact⟨k',fD,by simp only[upd,e,if_false]; exact h1,by rw[aQ hn,if_neg (h.cC hn h1)]; exact h2,bw K _ _ h3⟩
 ·rw[bK hT] at hk
  split at hk
  ·cases hk
  ·rename_i e'
   simp only[upd,e',if_false] at ht
   obtain⟨n,h1⟩:=h.own k e s hk t ht
   exact⟨n,by rw[aQ hn,if_neg (h.cC hn ht)]; exact h1⟩
 ·rw[bK hT]
  split
  ·exact⟨_,rfl,fun e=>by cases e⟩
  ·rename_i e
   simp only[upd,e,if_false] at hk
   exact h.sw k k' hk
 ·unfold upd at hi hj
  split at hi<;>split at hj
  ·omega
  ·cases hi; exact(h.cC hn hj rfl).elim
  ·cases hj; exact(h.cC hn hi rfl).elim
  ·exact h.inj i j k' hi hj
 ·rw[bK hT] at hk
  split at hk
  ·rename_i e'
   cases hk
   simp only[upd,e',if_true,Option.some.injEq] at ht
   subst ht
   rw[aQ hn,if_pos rfl]
   exact⟨h0,h1,ds,rfl,hf⟩
  ·rename_i e'
   simp only[upd,e',if_false] at ht
   rw[aQ hn,if_neg (h.cC hn ht)]; exact h.mp k b hk t0 ht
theorem tJ (h:bS ι te tS env S) {g id:Nat} {t:TT} {e:Nat} {l l':List t.den} {ds fD:List DV} {z z':Bool} (hi:ι g=some id) (hg:tS[g]? = some (.rows t e l z)) (hS:S[id]? = some (.op e t.size ds z)) (hl:fD.length=ds.length) (h0:0<t.size) (h1:(t.agg||t.size==1)=true) (hf:dx t l' fD):bS ι te (tS.set g (.rows t e l' z')) env (S.set id (.op e t.size fD z')):=by
 have hlt:=(List.getElem?_eq_some_iff.1 hg).1
 have Lr:=(List.getElem?_eq_some_iff.1 hS).1
 have K:jx ι S ι (S.set id (.op e t.size fD z')) fun _=>False:=fun a b _ kV=>⟨kV,by
  rw[List.getElem?_set]
  split
  ·rename_i e1
   subst e1
   rw[hS]
   exact⟨fun _ _ _ h=>(nomatch h),fun e s l z h=>(by cases h; exact⟨fD,z',rfl,hl⟩)⟩
  ·exact dU rfl⟩
 have Sj:∀ j,(tS.set g (.rows t e l' z'))[j]? = if j=g then some (.rows t e l' z') else tS[j]? := fun j=>by
  rw[List.getElem?_set]
  by_cases e:j=g
  ·subst e; simp[hlt]
  ·rw[if_neg (Ne.symm e),if_neg e]
 have jF:∀ j,j≠id→(S.set id (.op e t.size fD z'))[j]? = S[j]? := fun j hj=>by rw[List.getElem?_set,if_neg (Ne.symm hj)]
 refine⟨bw K _ _ h.env,fun j m hj => ?_,fun j e s hj t ht => ?_,fun j j' hj => ?_,h.inj,fun j b hj t0 ht => ?_⟩
 ·rw[Sj] at hj
  split at hj
  ·cases hj
  ·rename_i e
   obtain⟨j',Lh,h1,h2,h3⟩:=h.cells j m hj
   exact⟨j',Lh,h1,by rw[jF j' fun e1=>e (h.inj _ _ _ (e1▸h1) hi)]; exact h2,bw K _ _ h3⟩
 ·rw[Sj] at hj
  split at hj
  ·cases hj
  ·obtain⟨n,h1⟩:=h.own j e s hj t ht
   exact⟨n,(K j t (fun e=>e) ht).2.1 _ _ _ h1⟩
 ·rw[Sj]
  split
  ·exact⟨_,rfl,by simp⟩
  ·exact h.sw j j' hj
 ·rw[Sj] at hj
  split at hj
  ·rename_i e
   subst e
   cases hj
   rw[hi] at ht
   cases ht
   rw[List.getElem?_set,if_pos rfl,if_pos Lr]
   exact⟨h0,h1,fD,rfl,hf⟩
  ·rename_i e
   rw[jF t0 fun e1=>e (h.inj _ _ _ (e1▸ht) hi)]
   exact h.mp j b hj t0 ht
theorem RD {g:Nat} {b:TB} {x:Option DB} (h:Vh b x):Vh (nW g b) x:=by cases b<;>exact h
theorem OS {g:Nat} {b:TB}:nW g b = .none→b = .none:=by cases b<;>simp[nW]
theorem z7 (h:bS ι te tS env S) {g id:Nat} {t:TT} {e:Nat} {l l':List t.den} {ds fD:List DV} {z:Bool} (hi:ι g=some id) (hg:tS[g]? = some (.rows t e l z)) (hS:S[id]? = some (.op e t.size ds z)) (h0:0<t.size) (h1:(t.agg||t.size==1)=true) (hf:dx t l' fD):bS ι (sB g te) ((tS.map (nW g)).set g (.rows t e l' false)) env (S.set id (.op e t.size fD false)):=by
 have hlt:=(List.getElem?_eq_some_iff.1 hg).1
 have Lr:=(List.getElem?_eq_some_iff.1 hS).1
 have jF:∀ j,j≠id→(S.set id (.op e t.size fD false))[j]? = S[j]? := fun j hj=>by rw[List.getElem?_set,if_neg (Ne.symm hj)]
 have K:jx ι S ι (S.set id (.op e t.size fD false)) fun k=>k=g:=fun a b ha kV=>⟨kV,dU (jF b fun e1=>ha (h.inj _ _ _ (e1▸kV) hi))⟩
 have Sj:∀ j b,((tS.map (nW g)).set g (.rows t e l' false))[j]? = some b→(j=g∧b = .rows t e l' false)∨(j≠g∧∃ b0,tS[j]? = some b0∧b=nW g b0):=fun j b hj=>by
  rw[List.getElem?_set] at hj
  split at hj
  ·rename_i e1
   subst e1
   rw[if_pos (by simpa using hlt)] at hj
   cases hj
   exact .inl ⟨rfl,rfl⟩
  ·rename_i e1
   simp only[List.getElem?_map,Option.map_eq_some_iff] at hj
   obtain⟨b0,h2,h3⟩:=hj
   exact .inr ⟨fun e=>e1 e.symm,b0,h2,h3.symm⟩
 refine⟨jW K _ _ h.env,fun j m hj => ?_,fun j e s hj t ht => ?_,fun j j' hj => ?_,h.inj,fun j b hj t0 ht => ?_⟩
 ·rcases Sj j _ hj with ⟨-,e1⟩ | ⟨hne,b0,h2,h3⟩
  ·cases e1
  ·cases b0<;>simp only[nW] at h3<;>first | (cases h3; done) | skip
   cases h3
   obtain⟨j',Lh,k1,k2,k3⟩:=h.cells j _ h2
   exact⟨j',Lh,k1,by rw[jF j' fun e1=>hne (h.inj _ _ _ (e1▸k1) hi)]; exact k2,jW K _ _ k3⟩
 ·rcases Sj j _ hj with ⟨-,e1⟩ | ⟨hne,b0,h2,h3⟩
  ·cases e1
  ·cases b0<;>simp only[nW] at h3<;>first | (cases h3; done) | skip
   cases h3
   obtain⟨n,k1⟩:=h.own j _ _ h2 t ht
   exact⟨n,(K j t hne ht).2.1 _ _ _ k1⟩
 ·rw[List.getElem?_set]
  split
  ·rename_i e1
   rw[if_pos (by simpa using hlt)]
   exact⟨_,rfl,by simp⟩
  ·obtain⟨b,h2,h3⟩:=h.sw j j' hj
   exact⟨nW g b,by rw[List.getElem?_map,h2]; rfl,fun e1=>h3 (OS e1)⟩
 ·rcases Sj j _ hj with ⟨rfl,rfl⟩ | ⟨hne,b0,h2,rfl⟩
  ·rw[hi] at ht
   cases ht
   rw[List.getElem?_set,if_pos rfl,if_pos Lr]
   exact⟨h0,h1,fD,rfl,hf⟩
  ·rw[jF t0 fun e1=>hne (h.inj _ _ _ (e1▸ht) hi)]
   exact RD (h.mp j b0 h2 t0 ht)
theorem Ez {g:Nat} {t t':TT} {e e':Nat} {l:List t.den} {l':List t'.den} {z z':Bool} (hB:lJ B tS) (hl:tS[g]? = some (.rows t e l z)):lJ B (tS.set g (.rows t' e' l' z')):=fun k hk=>by
 obtain⟨c,hc⟩:=hB k hk
 refine⟨c,?_⟩
 rw[List.getElem?_set,if_neg]
 ·exact hc
 ·rintro rfl; rw[hl] at hc; cases hc
theorem EB {g:Nat} {t t':TT} {e e':Nat} {l:List t.den} {l':List t'.den} {z z':Bool} (hB:lJ B tS) (hl:tS[g]? = some (.rows t e l z)):lJ B ((tS.map (nW g)).set g (.rows t' e' l' z')):=fun k hk=>by
 obtain⟨c,hc⟩:=hB k hk
 refine⟨sB g c,?_⟩
 rw[List.getElem?_set,if_neg]
 ·rw[List.getElem?_map,hc]; rfl
 ·rintro rfl; rw[hl] at hc; cases hc
theorem AL:∀ {S:ak} {i:Nat} {b:DB},S[i]? = some b→S.set i b=S
 | [],_,_,h=>by simp at h
 | _::_,0,_,h=>by simp only[List.getElem?_cons_zero,Option.some.injEq] at h; rw[h]; rfl
 | a::l,n+1,b,h=>by rw[List.set_cons_succ,AL (by simpa using h)]
theorem yZ {g:Nat} {iu:List TB} (h:LU ty tt te tS o=some (g,iu)) (dr:Bool):Does P ty aD call yf B o nT te tS dr fun v' bT bU ft=>v' = .unk∧bT=te∧bU=iu∧ft=⟨some [g],true⟩:=by
 intro ι w env S ay hR hB hw hT hn hS
 unfold LU at h
 split at h
 rotate_left
 ·cases h
 rename_i t a x ho
 split at h
 rotate_left
 ·cases h
 rename_i td g' k i off v h1 h2 h3
 split at h
 rotate_left
 ·cases h
 rename_i e l h4
 split at h
 rotate_left
 ·cases h
 rename_i hc
 simp only[Bool.and_eq_true,beq_iff_eq] at hc
 obtain⟨c1,c2⟩:=hc
 split at h
 rotate_left
 ·cases h
 rename_i cs h5
 split at h
 rotate_left
 ·cases h
 rename_i y h6
 cases h
 have hg:=hU h4
 obtain⟨d,k1,k2⟩:=aS hR.env h2
 obtain⟨id,ds,rfl,m1,m2,m3,m4,m5,m6,m7⟩:=SG hR hg k2
 simp only[Option.map_eq_some_iff] at h3
 obtain⟨u,h7,h8⟩:=h3
 obtain⟨dv,k4,k5⟩:=aS hR.env h7
 have k6:=bN (tt:=tt) (t:=t) k5
 rw[h8] at k6
 have k7:=oL (Eo c1) k6
 obtain⟨pre,c,post,rfl,q1,q2,q3⟩:=rR m4 m5
 obtain⟨c',r1,r2⟩:=Cq (mE (ι:=ι) (S:=S) q2) k7 h5
 have hst:=CF c1 k6
 obtain⟨cc,m',e1,e2,e3⟩:=As h6 r2
 rw[aM e3,List.append_nil] at e1
 subst e1
 have hle:off+dv.cells.length≤c.length:=by
  unfold qh at r1
  split at r1
  ·assumption
  ·cases r1
 have hc':c'=c.take off++dv.cells++c.drop (off+dv.cells.length):=by
  unfold qh at r1
  rw[if_pos hle] at r1
  exact(Option.some.inj r1).symm
 have hlen:dv.strip.cells.length=dv.cells.length:=by rw[hst]; simp
 have kB:qh c off dv.strip.cells=some (c.take off++dv.strip.cells++c.drop (off+dv.cells.length)):=by
  unfold qh
  rw[hlen,if_pos hle]
 have hm:(c.take off++dv.strip.cells++c.drop (off+dv.cells.length)).map DV.aG=c'.map DV.aG:=by
  rw[hc',hst]
  simp only[List.map_append,List.map_map]
  congr 2
  exact List.map_congr_left fun d _=>zZ d
 have hpa:=pK e2
 have XO:dv.strip.cells.all DV.bt=true:=by
  rw[hc',List.map_append,List.map_append,List.all_append,List.all_append,← hst] at hpa
  simp only[Bool.and_eq_true] at hpa
  exact hpa.1.2
 have I5:=pK q2
 have hcr:CR k y (c.take off++dv.strip.cells++c.drop (off+dv.cells.length)):=by
  refine yC (by rw[hm]; exact e2) ?_
  rw[List.all_append,List.all_append,XO]
  simp only[Bool.and_true,Bool.and_eq_true,List.all_eq_true] at I5 ⊢
  exact⟨fun d hd=>I5 d (List.mem_of_mem_take hd),fun d hd=>I5 d (List.mem_of_mem_drop hd)⟩
 have hsz:dv.strip.cells.length=td.size:=by rw[hlen,fJ k7]; exact c2
 have vZ:kM ty S t (.er id l.length (i*k.size+off)) dv=some (S.set id (.op e k.size (pre++(c.take off++dv.strip.cells++c.drop (off+dv.cells.length))++post) false)):=by
  simp only[kM,h1,m3,hsz,XO,decide_true,Bool.and_self,if_true]
  rw[← q1,N4 kB]
  rfl
 have pg:(pre++(c.take off++dv.strip.cells++c.drop (off+dv.cells.length))++post).length=(pre++c++post).length:=by
  simp only[List.length_append,List.length_take,List.length_drop,hlen]
  omega
 refine⟨aV,_,ι,w,.unk,te,_,⟨some [id],true⟩,⟨some [g],true⟩,fun _ => ?_,fun _ => ?_,⟨fun e=>e,fun l' fC => ?_⟩,fun l' m _ hm j hj => ?_,tJ hR m1 hg m2 pg m6 m7 (q3 y _ hcr),by simp only[RT],hw,fun _ _ _=>rfl,uu m1,Ez hB hg,uo m2 (fun e=>by cases e),rfl,rfl,rfl,rfl⟩
 ·simp only[ah,ho,k1,k4,vZ,Option.map_some]
 ·simp only[aB,ho,k1,ah,k4,vZ,Option.map_some]
 ·cases fC
  exact⟨[id],rfl,fun j hj=>⟨g,by simp,by simp only[List.mem_singleton] at hj; rw[hj]; exact hw _ _ m1⟩⟩
 ·cases hm
  simp only[List.mem_singleton] at hj
  exact .inr ⟨g,hj▸m1⟩
theorem GV {v:TV} {kY:List TV} {iu:List TB} {c:Prop} (h:LS ty tt te tS o nT=some (v,kY,iu,c)) (hc:c):Does P ty aD call yf B o nT te tS false fun v' bT bU _=>v'=v∧bT=kY∧bU=iu:=by
 intro ι w env S ay hR hB hw hT hn hS
 unfold LS at h
 split at h
 ·rename_i t a b ho
  split at h
  rotate_left
  ·cases h
  rename_i e s iO agg sz z0 n m k h1 h2 h3 h4
  split at h
  rotate_left
  ·cases h
  rename_i k0 sz' z h5
  split at h
  rotate_left
  ·cases h
  rename_i x h6
  split at h
  rotate_left
  ·cases h
  rename_i Lb
  cases h
  simp only[Bool.and_eq_true,decide_eq_true_eq,beq_iff_eq] at Lb
  obtain⟨⟨⟨⟨c1,c2⟩,c3⟩,c4⟩,c5⟩:=Lb
  obtain⟨rfl,d2,d3⟩:=hc
  obtain⟨cc,m',e1,e2,e3⟩:=As h6 (pz (ι:=ι) (S:=S) z)
  rw[aM e3,List.append_nil] at e1
  subst e1
  have hi1:intOf (fM env) a=some m:=lG hR.env h2
  have hi2:intOf (fM env) b=some m:=lG hR.env h3
  have h0:0<k.size:=by omega
  have Ye:(k.agg||k.size==1)=true:=by rw[c3,c2]; exact c4
  have hb:m.toNat*iO≤dz:=by
   have:m.toNat≤1000000000:=by omega
   calc m.toNat*iO≤1000000000*100000:=Nat.mul_le_mul this c5
    _≤dz:=by decide
  have jG:=nG hR hT hn h0 Ye (e:=e) (yu e2 m.toNat)
  rw[c2] at jG
  refine⟨.gQ ay m.toNat agg,cW S ay (.op e s (List.replicate m.toNat (z.map DV.aG)).flatten false),upd ι nT ay,upd w ay nT,.so nT k,te,_,⟨none,true⟩,⟨none,true⟩,fun _ => ?_,fun hd=>(by cases hd),⟨fun e=>e,fun l hl=>(by cases hl)⟩,fun l m hl=>(by cases hl),jG,?_,nj hR hn hT hw,fun hd=>(by cases hd),oF hn (j5 hB hT),iK hB hT,lF hn,rfl,rfl,rfl⟩
  ·have hpz:=pK e2
   simp only[ah,ho,h1,hi1,hi2,h5,d2,c1,c4,hb,hpz,decide_true,Bool.and_self,if_true,show m≤140737488355328-4096 by omega]
  ·simp only[RT,upd,if_true]
   refine⟨trivial,c3.symm,e,s,_,false,by rw[aQ hn,if_pos rfl],?_⟩
   have:=fF (yu e2 m.toNat)
   rw[this,List.length_replicate,c2]
 ·rename_i t n ps ho
  split at h
  rotate_left
  ·cases h
  rename_i hh
  split at h
  rotate_left
  ·cases h
  rename_i e s iO agg sz z0 l k h1 h2 h3
  split at h
  rotate_left
  ·cases h
  rename_i k0 sz' z h4
  split at h
  rotate_left
  ·cases h
  rename_i Lb
  simp only[Bool.and_eq_true,beq_iff_eq,Bool.or_eq_true,decide_eq_true_eq] at Lb
  obtain⟨⟨⟨⟨⟨⟨c1,c2⟩,c3⟩,c4⟩,c5⟩,c6⟩,c7⟩:=Lb
  simp only[Option.map_eq_some_iff,Prod.mk.injEq] at h
  obtain⟨w0,h5,rfl,rfl,rfl,-⟩:=h
  obtain⟨ds,k1,k2⟩:=mJ hR.env h2
  obtain⟨k3,k4⟩:=yA k2 h5
  have hlen:ds.length=n:=by rw[uJ k2,c3]
  have UQ:((List.replicate n z).flatten).length=ds.length*s:=by
   rw[hlen,List.length_flatten,List.map_replicate,c4,List.sum_replicate_nat]
  have hf:=rT (pre:=[]) (post:=(List.replicate n z).flatten) c5 k3 (by simp) UQ
  rw[List.nil_append,List.nil_append] at hf
  have G7:w0.length=n:=by rw[k4,c3]
  have c7':(agg||s==1)=true:=by simpa using c7
  have sk:=qM k3
  have h0:0<k.size:=by omega
  have Ye:(k.agg||k.size==1)=true:=by rw[c6,c5]; exact c7'
  have jG:=nG hR hT hn h0 Ye (e:=e) sk
  rw[c5] at jG
  refine⟨.gQ ay n agg,cW S ay (.op e s (fQ ds) false),upd ι nT ay,upd w ay nT,.so nT k,te,_,⟨none,true⟩,⟨none,true⟩,fun _ => ?_,fun hd=>(by cases hd),⟨fun e=>e,fun l hl=>(by cases hl)⟩,fun l m hl=>(by cases hl),jG,?_,nj hR hn hT hw,fun hd=>(by cases hd),oF hn (j5 hB hT),iK hB hT,lF hn,rfl,rfl,rfl⟩
  ·simp only[ah,ho,h1,k1,h4,decide_eq_true c1,decide_eq_true c2,Bool.and_self,if_true,hf,rF k3,c7',hh]
  ·simp only[RT,upd,if_true]
   refine⟨trivial,c6.symm,e,s,_,false,by rw[aQ hn,if_pos rfl],?_⟩
   rw[fF sk,G7,c5]
 ·rename_i args ats ho
  split at h
  rotate_left
  ·cases h
  rename_i x y t u ha ht
  split at h
  rotate_left
  ·cases h
  rename_i K4
  subst K4
  split at h
  ·
   rename_i g k h2
   split at h
   rotate_left
   ·cases h
   rename_i e s iO agg sz z0 k' m ap h1 h3
   split at h
   rotate_left
   ·cases h
   rename_i I6
   subst I6
   split at h
   rotate_left
   ·cases h
   rename_i e' l k0 sz' z h4 h5
   split at h
   rotate_left
   ·cases h
   rename_i Lb
   cases h
   simp only[Bool.and_eq_true,beq_iff_eq,decide_eq_true_eq] at Lb
   obtain⟨⟨⟨c1,c2⟩,c3⟩,c4⟩:=Lb
   subst c1
   have hg:=hU h4
   obtain⟨d,k1,k2⟩:=aS hR.env h2
   obtain⟨id,ds,rfl,m1,m2,m3,m4,m5,m6⟩:=Ao hR hg k2 rfl
   simp only[Option.map_eq_some_iff] at h3
   obtain⟨uy,e1,e2⟩:=h3
   obtain⟨db,k4,k5⟩:=aS hR.env e1
   have k6:=bN (tt:=tt) (t:=t) k5
   rw[e2] at k6
   cases db<;>simp only[RT] at k6
   rename_i news tok f
   obtain⟨k6,-⟩:=k6
   have KL:=iI k6
   have iU:=ga k6
   have sk:=Er m4 (nK k6)
   have jG:=z7 hR m1 hg m2 m5 m6 sk
   have hb:(l.length+news.length)*iO≤dz:=by
    have:l.length+news.length≤1000000000:=by rw[KL]; exact hc
    calc (l.length+news.length)*iO≤1000000000*100000:=Nat.mul_le_mul this c4
     _≤dz:=by decide
   have jQ:(agg||s==1)=true:=by rw[← c3,← c2]; exact m6
   have fC:=fF m4
   have Ld:j6 ty S ay t (.gQ id l.length k'.agg) (.sl news tok f)=if news.isEmpty then some (.gQ id l.length k'.agg,S) else some (.gQ id (l.length+news.length) agg,S.set id (.op e' k'.size (ds++flat news) false)):=by
    simp only[j6,h1,h5]
    rw[if_pos,m3]
    ·simp only[c2,decide_true,Bool.and_self,if_true]
    ·simp only[Bool.and_eq_true,decide_eq_true_eq,List.all_eq_true]
     refine⟨⟨⟨⟨by omega,jQ⟩,hb⟩,?_⟩,fun r hr=>by rw[iU r hr,c2]⟩
     have:l.length+news.length≤1000000000:=by rw[KL]; exact hc
     omega
   have hst:∀ d S',j6 ty S ay t (.gQ id l.length k'.agg) (.sl news tok f)=some (d,S')→ah P ty aD call yf (fM env) o S ay=some (d,S'):=fun d S' h=>by
    simp only[ah,ho,ha,ht,if_true,k1,k4,h]
   have lQ:∀ d S',(d = .gQ id (l.length+news.length) agg)→S'=S.set id (.op e' k'.size (ds++flat news) false)→RT ι S' (.so g k') d:=fun d S' hd wD=>by
    subst hd wD
    have hlt:=(List.getElem?_eq_some_iff.1 m2).1
    simp only[RT]
    refine⟨m1,c3.symm,e',k'.size,_,false,by rw[List.getElem?_set,if_pos rfl,if_pos hlt],?_⟩
    rw[fF sk,List.length_append,KL]
   by_cases Hh:news.isEmpty=true
   ·have FC:news=[]:=by simpa using Hh
    subst FC
    have hm:m=[]:=List.eq_nil_of_length_eq_zero (by rw[← KL]; rfl)
    subst hm
    have hSS:S.set id (.op e' k'.size (ds++flat []) false)=S:=by
     rw[show flat []=[] from rfl,List.append_nil]
     exact AL m2
    rw[hSS] at jG
    rw[if_pos Hh] at Ld
    have hrt:=lQ (.gQ id l.length k'.agg) S (by rw[c3]; rfl) hSS.symm
    refine⟨_,S,ι,w,.so g k',_,_,⟨none,true⟩,⟨none,true⟩,fun _=>hst _ _ Ld,fun hd=>(by cases hd),⟨fun e=>e,fun l hl=>(by cases hl)⟩,fun l m hl=>(by cases hl),jG,hrt,hw,fun hd=>(by cases hd),Fr.refl _ _ _,?_,dZ _ _,rfl,rfl,rfl⟩
    exact EB hB hg
   ·rw[if_neg Hh] at Ld
    refine⟨_,_,ι,w,.so g k',_,_,⟨none,true⟩,⟨none,true⟩,fun _=>hst _ _ Ld,fun hd=>(by cases hd),⟨fun e=>e,fun l hl=>(by cases hl)⟩,fun l m hl=>(by cases hl),jG,lQ _ _ rfl rfl,hw,fun hd=>(by cases hd),uu m1,EB hB hg,uo m2 (fun e=>by cases e),rfl,rfl,rfl⟩
  ·
   rename_i v0 hno h2
   split at h
   rotate_left
   ·cases h
   rename_i hh
   split at h
   rotate_left
   ·cases h
   rename_i e s iO agg sz z0 k' a m ap h1 h3
   split at h
   rotate_left
   ·cases h
   rename_i k0 sz' z h5
   split at h
   rotate_left
   ·cases h
   rename_i Lb
   cases h
   simp only[Bool.and_eq_true,beq_iff_eq,decide_eq_true_eq] at Lb
   obtain⟨⟨⟨⟨⟨c0,c1⟩,c2⟩,c3⟩,c4⟩,c5⟩:=Lb
   obtain⟨d,k1,k2⟩:=aS hR.env h2
   obtain⟨f0,rfl,sG⟩:∃ f0,d = .sl [] none f0∧f0.full=true:=by
    cases v0<;>first | (cases c0; done) | skip
    ·cases d<;>simp only[RT] at k2
     obtain⟨rfl,rfl,rfl⟩:=k2
     exact⟨_,rfl,rfl⟩
    ·rename_i k9 l9 ap9
     cases l9 with
     | cons=>simp[L0] at c0
     | nil =>
      cases ap9<;>first | (simp[L0] at c0; done) | skip
      cases d<;>simp only[RT] at k2
      rename_i rows tok f
      obtain⟨q1,rfl,q2⟩:=k2
      cases rows with
      | nil=>exact⟨f,rfl,q2⟩
      | cons=>exact q1.elim
   simp only[Option.map_eq_some_iff] at h3
   obtain⟨uy,e1,e2⟩:=h3
   obtain⟨db,k4,k5⟩:=aS hR.env e1
   have k6:=bN (tt:=tt) (t:=t) k5
   rw[e2] at k6
   cases db<;>simp only[RT] at k6
   rename_i news tok f
   obtain⟨k6,-⟩:=k6
   have KL:=iI k6
   have iU:=ga k6
   have sk:=nK k6
   have h0:0<k'.size:=by omega
   have Ye:(k'.agg||k'.size==1)=true:=by rw[c3,c2]; exact c4
   have jG:=nG hR hT hn h0 Ye (e:=e) sk
   rw[c2] at jG
   have hle:news.length≤1000000000:=by rw[KL]; exact hc
   have hb:news.length*iO≤dz:=by
    calc news.length*iO≤1000000000*100000:=Nat.mul_le_mul hle c5
     _≤dz:=by decide
   have Hh:¬ (news.isEmpty=true):=by
    intro he
    have:news=[]:=by simpa using he
    rw[this] at KL
    simp at KL
   have Ld:j6 ty S ay t (.sl [] none f0) (.sl news tok f)=some (.gQ ay news.length agg,cW S ay (.op e s (flat news) false)):=by
    simp only[j6,h1,h5]
    rw[if_neg Hh,if_pos]
    simp only[Bool.and_eq_true,decide_eq_true_eq,List.all_eq_true]
    refine⟨⟨⟨⟨⟨sG,c1⟩,c4⟩,hb⟩,by omega⟩,fun r hr=>by rw[iU r hr,c2]⟩
   refine⟨.gQ ay news.length agg,cW S ay (.op e s (flat news) false),upd ι nT ay,upd w ay nT,.so nT k',te,_,⟨none,true⟩,⟨none,true⟩,fun _ => ?_,fun hd=>(by cases hd),⟨fun e=>e,fun l hl=>(by cases hl)⟩,fun l m hl=>(by cases hl),jG,?_,nj hR hn hT hw,fun hd=>(by cases hd),oF hn (j5 hB hT),iK hB hT,lF hn,rfl,rfl,rfl⟩
   ·simp only[ah,ho,ha,ht,if_true,k1,k4,hh,Ld]
   ·simp only[RT,upd,if_true]
    refine⟨trivial,c3.symm,e,s,_,false,by rw[aQ hn,if_pos rfl],?_⟩
    rw[fF sk,KL,c2]
  ·cases h
 ·cases h
end Go.Tv
end
section
namespace Go.Tv
open Go Go.Di Go.Proofs
def Au (tS:List TB):TV→TV
 | .so g t=>match tS[g]? with
  | some (.rows t' _ l z)=>if h:t'=t then (match z with
    | true => .sl t (h▸l) .no
    | false => .so g t) else .unk
  | _ => .unk
 | v=>v
def qW (te:List TV) (tS:List TB) (x:Operand):List TB :=
 match eZ te x with
 | some (.so g t)=>match gF tS g t with
  | some (e,l,false)=>tS.set g (.rows t e l true)
  | _=>tS
 | _=>tS
def Fw (te:List TV) (tS:List TB) (x:Operand):Bool :=
 match eZ te x with
 | some .unk | none=>false
 | some (.so g t)=>(gF tS g t).isSome
 | some _=>true
def Fv (ty:eS) (te:List TV) (tS:List TB) (o:Oper):Option (List TV×List TB) :=
 match ty.h o with
 | 2=>if o.op.operands.toList.all (Fw te tS) then some (te.map (Au (o.op.operands.toList.foldl (qW te) tS)),o.op.operands.toList.foldl (qW te) tS) else none
 | _=>some (te,tS)
variable {P:Program} {ty:eS} {tt:TypeId→Option TT} {ι ι' w:jR} {S S':ak} {te kY:List TV} {env:List DV} {tS iu:List TB} {aD:bq} {call:bg} {yf:dF} {o:Oper} {ay nT:Nat} {B:List Nat} {ops:Array Oper}
theorem Gr {g g':Nat} {t t':TT} {e e':Nat} {l:List t.den} {l':List t'.den} {z:Bool} (h:gF tS g t=some (e,l,z)) (h':gF tS g' t'=some (e',l',false)):(gF (tS.set g' (.rows t' e' l' true)) g t).isSome=true:=by
 have h1:=hU h
 have h2:=hU h'
 by_cases e1:g'=g
 ·subst e1
  rw[h1] at h2
  cases h2
  unfold gF
  rw[List.getElem?_set,if_pos rfl,if_pos (List.getElem?_eq_some_iff.1 h1).1]
  simp
 ·have:gF (tS.set g' (.rows t' e' l' true)) g t=gF tS g t:=by
   unfold gF
   rw[List.getElem?_set,if_neg e1]
  rw[this,h]; rfl
theorem Of {x y:Operand} (h:Fw te tS x=true):Fw te (qW te tS y) x=true:=by
 unfold Fw at h ⊢
 split at h
 ·cases h
 ·cases h
 ·rename_i g t hx
  unfold qW
  split
  ·split
   ·rename_i e' l' h2
    obtain⟨⟨e,l,z⟩,h1⟩:=Option.isSome_iff_exists.1 h
    exact Gr h1 h2
   ·exact h
  ·exact h
 ·rfl
theorem aaX (hR:bS ι te tS env S) (hB:lJ B tS) {x:Operand} (h:Fw te tS x=true):bS ι te (qW te tS x) env (mh env S x)∧lJ B (qW te tS x)∧Fr B ι S ι (mh env S x)∧∀ i,Nn i S (mh env S x):=by
 have same:qW te tS x=tS→mh env S x=S→bS ι te (qW te tS x) env (mh env S x)∧lJ B (qW te tS x)∧Fr B ι S ι (mh env S x)∧∀ i,Nn i S (mh env S x):=fun h1 h2=>by rw[h1,h2]; exact⟨hR,hB,Fr.refl _ _ _,fun i=>dZ _ _⟩
 unfold Fw at h
 split at h
 ·cases h
 ·cases h
 ·rename_i g t hx
  obtain⟨⟨e,l,z⟩,h1⟩:=Option.isSome_iff_exists.1 h
  obtain⟨d,k1,k2⟩:=aS hR.env hx
  have hg:=hU h1
  obtain⟨id,ds,rfl,m1,m2,m3,m4,m5,m6⟩:=Ao hR hg k2 rfl
  cases z with
  | true=>exact same (by simp only[qW,hx,h1]) (by simp only[mh,k1,qo,m3])
  | false =>
   have e1:qW te tS x=tS.set g (.rows t e l true):=by simp only[qW,hx,h1]
   have e2:mh env S x=S.set id (.op e t.size ds true):=by simp only[mh,k1,qo,m3]
   rw[e1,e2]
   exact⟨tJ hR m1 hg m2 rfl m5 m6 m4,Ez hB hg,uu m1,fun i=>uo m2 (fun e=>by cases e)⟩
 ·rename_i v h1 h2 hx
  obtain⟨d,k1,k2⟩:=aS hR.env hx
  refine same ?_ ?_
  ·unfold qW
   rw[hx]
   cases v<;>first | rfl | exact absurd rfl (h2 _ _)
  ·simp only[mh,k1]
   cases v<;>first | exact absurd rfl (h2 _ _) | exact absurd rfl h1 | skip
   all_goals cases d<;>simp only[RT] at k2<;>rfl
theorem YS:∀ (l:List Operand) {tS:List TB} {S:ak},bS ι te tS env S→lJ B tS→l.all (Fw te tS)=true→bS ι te (l.foldl (qW te) tS) env (l.foldl (mh env) S)∧lJ B (l.foldl (qW te) tS)∧Fr B ι S ι (l.foldl (mh env) S)∧∀ i,Nn i S (l.foldl (mh env) S)
 | [],_,S,hR,hB,_=>⟨hR,hB,Fr.refl _ _ _,fun i=>dZ _ _⟩
 | x::l,tS,S,hR,hB,h=>by
  simp only[List.all_cons,Bool.and_eq_true] at h
  obtain⟨h1,h2,h3,h4⟩:=aaX hR hB h.1
  obtain⟨k1,k2,k3,k4⟩:=YS l h1 h2 (List.all_eq_true.2 fun y hy=>Of (List.all_eq_true.1 h.2 y hy))
  refine⟨k1,k2,h3.trans k3,fun i=>⟨Nat.le_trans (h4 i).1 (k4 i).1,fun j hj hn=>(k4 i).2 j hj ((h4 i).2 j hj hn)⟩⟩
theorem Ri (hR:bS ι kY tS env S) {v:TV} {d:DV} (h:RT ι S v d):RT ι S (Au tS v) (iT S d):=by
 cases v
 case so g t =>
  simp only[Au]
  split
  ·rename_i t' e l z hg
   split
   ·rename_i ht
    obtain⟨id,ds,rfl,m1,m2,m3,m4,m5,m6⟩:=Ao hR hg h ht
    subst ht
    cases z with
    | true =>
     rw[Iy m3 m5 m6]
     simp only[RT,qq,and_true]
     exact rS m6 m4
    | false =>
     have:iT S (.gQ id l.length t'.agg) = .gQ id l.length t'.agg:=by simp only[iT,m3]
     rw[this]
     exact h
   ·simp only[RT]
  ·simp only[RT]
 case unk=>simp only[Au,RT]
 all_goals
  cases d<;>simp only[RT] at h
  simp only[Au,iT,RT]
  exact h
theorem El (hR:bS ι kY tS env S):∀ {l:List TV} {m:List DV},cG ι S l m→cG ι S (l.map (Au tS)) (m.map (iT S))
 | [],m,h=>by rw[aM h]; exact bL
 | a::l,m,h=>by
  obtain⟨d,m',rfl,h1,h2⟩:=aj h
  exact aP (Ri hR h1) (El hR h2)
theorem VT (hR:bS ι te tS env S) (hB:lJ B tS) (h:Fv ty te tS o=some (kY,iu)):bS ι kY iu (zO ty o env S).1 (zO ty o env S).2∧lJ B iu∧Fr B ι S ι (zO ty o env S).2∧Nn S.length S (zO ty o env S).2:=by
 unfold Fv at h
 unfold zO
 split at h
 ·rename_i hh
  split at h
  ·rename_i j8
   cases h
   obtain⟨h1,h2,h3,h4⟩:=YS (env:=env) _ hR hB j8
   simp only[hh]
   exact⟨⟨El h1 h1.env,h1.cells,h1.own,h1.sw,h1.inj,h1.mp⟩,h2,h3,h4 _⟩
  ·cases h
 ·rename_i hh
  cases h
  simp only[]
  exact⟨hR,hB,Fr.refl _ _ _,dZ _ _⟩
theorem kL {k:Nat} (ho:ops[k]? = some o) (hw:cV ops te o=some true) (hp:Fv ty te tS o=some (kY,iu)) {Q:List TV→List TB→Prop} {K:TV→List TV→List TB→cz→Prop} (hd:Does P ty aD call yf B o iu.length kY iu false K)
  (h:∀ v bT bU ft,K v bT bU ft→WL P ty aD call yf B ops (k+1) (jM bT o.dst v) bU Q):WL P ty aD call yf B ops k te tS Q:=by
 intro ι env S hR hB
 obtain⟨PG,Uj,hF1,hN1⟩:=VT (o:=o) hR hB hp
 generalize ql:zO ty o env S=pr at PG hF1 hN1
 obtain⟨lR,S1⟩:=pr
 obtain⟨w,XF⟩:=FH PG
 obtain⟨d,S',ι',w',v,bT,bU,f,ft,h1,-,-,-,h5,h6,-,-,h9,rX,zu,KU⟩:=hd ι w lR S1 S1.length PG Uj XF (.inr rfl) (.inr rfl) (fun e=>by cases e)
 obtain⟨az,qP,ι'',qS,qT,k1,k2,k3,k4,k5,k6⟩:=h v bT bU ft KU ι' (gC lR o.dst d) S' (jX h5 h6 _) rX
 refine⟨az,qP,ι'',qS,qT,?_,k2,k3,(hF1.trans h9).trans k4,oN hN1 (oN zu k5),k6⟩
 rw[j4 ho]
 simp only[BB,eW hR.env hw,if_true,ql,h1 rfl,k1]
end Go.Tv
end
