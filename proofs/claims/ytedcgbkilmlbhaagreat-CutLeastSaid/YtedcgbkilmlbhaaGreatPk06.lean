import Derived.Test.YtedcgbkilmlbhaaGreatPk05
section
namespace Go.Tv
open Go Go.Di Go.Proofs
def jm (tS:List TB) (g:Nat) (t:TT):Option (Nat×List t.den×Bool) :=
 match tS[g]? with
 | some (.rows t' e l z)=>if h:t'=t then some (e,h▸l,z) else none
 | _=>none
theorem jR {tS:List TB} {g:Nat} {t:TT} {e:Nat} {l:List t.den} {z:Bool} (h:jm tS g t=some (e,l,z)):tS[g]? = some (.rows t e l z):=by
 unfold jm at h
 split at h
 ·rename_i t' e' l' z' hg
  split at h
  ·rename_i ht
   subst ht
   cases h
   exact hg
  ·cases h
 ·cases h
section
variable (ty:gF) (tt:TypeId→Option TT)
def Fs (te:List TV) (tS:List TB) (o:Oper):Option (TV×Nat×Prop) :=
 match o.op with
 | .indexAddr t x i=>match ty t,gE te x,Fi te i with
  | some ⟨.slice _ s _ _,_,_⟩,some (.so g k),some n=>match jm tS g k with
   | some (_,l,_)=>if k.size==s then some (.sp g k n.toNat 0,g,0≤n∧n<(l.length:Int)) else none
   | none=>none
  | _,_,_=>none
 | .fieldAddr t x f=>match ty t,gE te x with
  | some ⟨.struct fs,_,_⟩,some (.sp g k i off)=>match fs[f]? with
   | some (o,s,_)=>if 0<s then some (.sp g k i (off+o),g,True) else none
   | none=>none
  | _,_=>none
 | .load t a=>match ty t,gE te a with
  | some d,some (.sp g k i off)=>match jm tS g k with
   | some (_,l,_)=>(xN d.k.isAgg d.size (k.cells (l.getD i k.WX)) off).map fun v=>(jo tt t v,g,True)
   | none=>none
  | _,_=>none
 | .call { callee := .builtin .len,args,argTypes }=>match args.toList,argTypes.toList with
  | [x],[t]=>match ty t,gE te x with
   | some ⟨.slice _ _ _ _,_,_⟩,some (.so g k)=>match jm tS g k with
    | some (_,l,_)=>some (.val (.int .i64 (l.length:Nat)),g,True)
    | none=>none
   | _,_=>none
  | _,_=>none
 | _=>none
def On (te:List TV) (tS:List TB) (o:Oper):Option (Nat×List TB) :=
 match o.op with
 | .store t a x=>match ty t,gE te a,(gE te x).map (jo tt t) with
  | some d,some (.sp g k i off),some v=>match jm tS g k with
   | some (e,l,false)=>if v.Ad&&v.cells.length==d.size then match NU (k.cells (l.getD i k.WX)) off v.cells with
     | some cs=>match k.of cs with
      | some (y,[])=>some (g,tS.set g (.rows k e (l.set i y) false))
      | _=>none
     | none=>none
    else none
   | _=>none
  | _,_,_=>none
 | _=>none
def Oy:TV→Bool
 | .gZ=>true
 | .sl _ [] .full=>true
 | _=>false
def Om (te:List TV) (tS:List TB) (o:Oper) (nT:Nat):Option (TV×List TV×List TB×Prop) :=
 match o.op with
 | .makeSlice t a b=>match ty t,Fi te a,Fi te b,tt t with
  | some ⟨.slice e s kF agg,_,_⟩,some n,some m,some (.sl k)=>match ty e with
   | some ⟨_,_,some z⟩=>match k.of (z.map uV) with
    | some (x,[])=>if decide (0<s)&&k.size==s&&k.agg==agg&&(agg||s==1)&&decide (kF≤100000) then
      some (.so nT k,te,qI tS nT (.rows k e (List.replicate n.toNat x) false),m=n∧0≤n∧n≤1000000000) else none
    | _=>none
   | _=>none
  | _,_,_,_=>none
 | .buildSlice t n ps=>match ty.h o with
  | 1=>match ty t,wM te ps.toList,tt t with
   | some ⟨.slice e s _ agg,_,_⟩,some l,some (.sl k)=>match ty e with
    | some ⟨_,_,some z⟩=>if decide (0<s)&&decide (n*s≤16777216)&&l.length==n&&z.length==s&&k.size==s&&k.agg==agg&&(agg||s==1) then
      (Ab k 0 l).map fun w=>(.so nT k,te,qI tS nT (.rows k e w false),True)
     else none
    | _=>none
   | _,_,_=>none
  | _=>none
 | .call { callee := .builtin .append,args,argTypes }=>match args.toList,argTypes.toList with
  | [x,y],[t,u]=>if t=u then match gE te x with
   | some (.so g k)=>match ty t,(gE te y).map (jo tt t) with
    | some ⟨.slice e s kF agg,_,_⟩,some (.sl k' m _)=>if h:k'=k then match jm tS g k,ty e with
      | some (e',l,false),some ⟨_,_,some _⟩=>if e'==e&&k.size==s&&k.agg==agg&&decide (kF≤100000) then
        some (.so g k,uR g te,(tS.map (qC g)).set g (.rows k e (l++(h▸m)) false),l.length+m.length≤1000000000) else none
      | _,_=>none
     else none
    | _,_=>none
   | some v=>match ty.h o with
    | 1=>match ty t,(gE te y).map (jo tt t) with
     | some ⟨.slice e s kF agg,_,_⟩,some (.sl k' (a::m) _)=>match ty e with
      | some ⟨_,_,some _⟩=>if Oy v&&decide (0<s)&&k'.size==s&&k'.agg==agg&&(agg||s==1)&&decide (kF≤100000) then
        some (.so nT k',te,qI tS nT (.rows k' e (a::m) false),(a::m).length≤1000000000) else none
      | _=>none
     | _,_=>none
    | _=>none
   | none=>none
   else none
  | _,_=>none
 | _=>none
end
variable {P:Program} {ty:gF} {tt:TypeId→Option TT} {ι ι' w:lW} {S S':av} {te mh:List TV} {env:List DV} {tS jh:List TB} {aI:bP} {call:bM} {yf:eW} {o:Oper} {aB nT:Nat} {B:List Nat} {ops:Array Oper}
theorem uC {t:TT}:∀ {l:List t.den} {ds:List DV} {i:Nat},eP t l ds→i<l.length→∃ pre c post,ds=pre++c++post∧pre.length=i*t.size∧CR t (l.getD i t.WX) c∧∀ y c',CR t y c'→eP t (l.set i y) (pre++c'++post)
 | [],_,_,_,h=>by simp at h
 | x::l,ds,i,hf,h=>by
  simp only[eP] at hf
  obtain⟨c,m,rfl,h1,h2⟩:=hf
  cases i with
  | zero=>exact⟨[],c,m,rfl,by simp,h1,fun y c' hc=>by simp only[List.set_cons_zero,eP]; exact⟨c',m,rfl,hc,h2⟩⟩
  | succ i =>
   obtain⟨pre,c1,post,rfl,k1,k2,k3⟩:=uC (i:=i) h2 (by simpa using h)
   refine⟨c++pre,c1,post,by simp,by rw[bU,lT h1,k1,iZ,Nat.one_mul,Nat.add_comm],by simpa using k2,fun y c' hc => ?_⟩
   simp only[List.set_cons_succ,eP]
   exact⟨c,pre++c'++post,by simp,h1,k3 y c' hc⟩
theorem Gu {t:TT}:∀ {l m:List t.den} {ds es:List DV},eP t l ds→eP t m es→eP t (l++m) (ds++es)
 | [],_,ds,_,h,k=>by simp only[eP] at h; subst h; exact k
 | x::l,m,ds,es,h,k=>by
  simp only[eP] at h
  obtain⟨c,r,rfl,h1,h2⟩:=h
  simp only[List.cons_append,eP]
  exact⟨c,r++es,by simp,h1,Gu h2 k⟩
theorem AK {t:TT} {x:t.den} {c:List DV} (h:CR t x c):∀ n,eP t (List.replicate n x) (List.replicate n c).flatten
 | 0=>by simp[eP]
 | n+1=>by
  simp only[List.replicate_succ,List.flatten_cons,eP]
  exact⟨c,_,rfl,h,AK h n⟩
theorem qp {t:TT} {agg:Bool}:∀ {l:List t.den} {rows:List DV},ek (CR t) agg l rows→eP t l (flat rows)
 | [],[],_=>by simp[flat,eP]
 | x::l,r::rows,h=>by
  simp only[flat,fP,eP]
  exact⟨r.cells,_,rfl,h.1.1,qp h.2⟩
theorem tF {t:TT}:∀ {qs:List (Nat×DV)} {i:Nat} {l:List t.den},Cu t i qs l→eP t l (iJ qs)
 | [],_,[],_=>by simp[iJ,eP]
 | (j,d)::qs,i,x::l,h=>by
  obtain⟨⟨rfl,hc⟩,h⟩:=h
  simp only[iJ,fP,eP]
  exact⟨d.strip.cells,_,rfl,hc,tF h⟩
theorem AR:∀ {t:TT} {x:t.den} {c:List DV},CR t x (c.map DV.aQ)→c.all DV.bS=true→CR t x c
 | .int _,_,c,h,hp=>by
  simp only[CR] at h ⊢
  obtain⟨d,rfl⟩:∃ d,c=[d]:=List.length_eq_one_iff.1 (by have:=congrArg List.length h; simpa using this)
  cases d<;>simp_all [DV.aQ]
 | .bool,_,c,h,hp=>by
  simp only[CR] at h ⊢
  obtain⟨d,rfl⟩:∃ d,c=[d]:=List.length_eq_one_iff.1 (by have:=congrArg List.length h; simpa using this)
  cases d<;>simp_all [DV.aQ]
 | .str,_,c,h,hp=>by
  simp only[CR] at h ⊢
  obtain⟨d,rfl⟩:∃ d,c=[d]:=List.length_eq_one_iff.1 (by have:=congrArg List.length h; simpa using this)
  cases d<;>simp_all [DV.aQ]
 | .unit,_,c,h,_=>by
  simp only[CR] at h ⊢
  simpa using h
 | .pair a b,x,c,h,hp=>by
  simp only[CR] at h ⊢
  obtain⟨c1,c2,e,h1,h2⟩:=h
  obtain⟨d1,d2,rfl,rfl,rfl⟩:=List.map_eq_append_iff.1 e
  rw[lu,aG] at hp
  exact⟨d1,d2,rfl,AR h1 hp.1,AR h2 hp.2⟩
 | .sl t,l,c,h,hp=>by
  simp only[CR] at h ⊢
  obtain⟨rows,f,e,h⟩:=h
  obtain⟨d,rfl⟩:∃ d,c=[d]:=List.length_eq_one_iff.1 (by have:=congrArg List.length e; simpa using this)
  cases d<;>simp[DV.aQ] at e
  rename_i r tok f'
  obtain⟨rfl,-⟩:=e
  cases tok with
  | some=>simp[DV.bS] at hp
  | none=>exact⟨r,f',rfl,h⟩
theorem BU (d:DV):d.aQ.aQ=d.aQ:=by cases d<;>rfl
theorem EA {v:TV} {d:DV} (hk:v.Ad=true) (h:RT ι S v d):d.strip.cells=d.cells.map DV.aQ:=by
 cases v<;>cases d<;>simp only[RT] at h<;>first | (cases hk; done) | rfl
theorem Ms {agg:Bool} {n off:Nat} {pre c post:List DV} {d:DV} (h:nv agg n c off=some d):nv agg n (pre++c++post) (pre.length+off)=some d:=by
 unfold nv at h ⊢
 cases agg with
 | true =>
  simp only[if_true,ah] at h ⊢
  obtain⟨cs,h1,rfl⟩:=h
  refine⟨cs,?_,rfl⟩
  unfold N9 at h1 ⊢
  split at h1
  ·rename_i hle
   cases h1
   rw[if_pos (by simp; omega),eV,List.drop_append,ja (by omega),List.nil_append,om,List.drop_append_of_le_length (by omega),List.take_append_of_le_length (by simp; omega)]
  ·cases h1
 | false =>
  simp only[aD,if_false] at h ⊢
  have hlt:=(aJ.1 h).1
  rw[eV,gr (by omega),om,eG hlt]
  exact h
theorem QB {off:Nat} {pre c post cs c':List DV} (h:sR c off cs=some c'):sR (pre++c++post) (pre.length+off) cs=some (pre++c'++post):=by
 unfold sR at h ⊢
 split at h
 ·rename_i hle
  cases h
  have e1:(pre++c++post).take (pre.length+off)=pre++c.take off:=by
   rw[eV,List.take_append,lB (by omega),om,List.take_append_of_le_length (by omega)]
  have e2:(pre++c++post).drop (pre.length+off+cs.length)=c.drop (off+cs.length)++post:=by
   rw[eV,fC,List.drop_append,ja (by omega),List.nil_append,om,List.drop_append_of_le_length (by omega)]
  rw[if_pos (by simp; omega),e1,e2]
  simp[eV]
 ·cases h
theorem Vy (h:cM ι te tS env S) {g i off:Nat} {t:TT} {e:Nat} {l:List t.den} {z:Bool} {d:DV} (hg:tS[g]? = some (.rows t e l z)) (hd:RT ι S (.sp g t i off) d):∃ id ds,d = .fW id l.length (i*t.size+off)∧ι g=some id∧S[id]? = some (.op e t.size ds z)∧BC S id l.length=some (e,t.size,ds,z)∧eP t l ds∧i<l.length∧0<t.size∧(t.agg||t.size==1)=true:=by
 cases d<;>simp only[RT] at hd
 rename_i id n sS
 obtain⟨h1,rfl,e',s',l',z',h2,h3,h4⟩:=hd
 obtain⟨q0,q1,ds,q2,q3⟩:=h.mp g _ hg id h1
 rw[h2] at q2
 cases q2
 have hl:=gY q3
 have hn:n=l.length:=Nat.eq_of_mul_eq_mul_right q0 (h3.trans hl)
 subst hn
 refine⟨id,l',rfl,h1,h2,?_,q3,?_,q0,q1⟩
 ·unfold BC
  rw[h2]
  simp only[h3,if_true]
 ·rw[← h3] at h4
  have:i*t.size<l.length*t.size:=by omega
  exact Nat.lt_of_mul_lt_mul_right this
theorem Bb {v:TV} {g:Nat} {c:Prop} (h:Fs ty tt te tS o=some (v,g,c)) (hc:c) (hR:cM ι te tS env S):∃ d id,(∀ aB,af P ty aI call yf (iB env) o S aB=some (d,S))∧RT ι S v d∧ι g=some id∧((∃ t a f,o.op = .fieldAddr t a f∧∃ n off,iB env a=some (.fW id n off))∨(∃ t a i,o.op = .indexAddr t a i∧∃ n ag,iB env a=some (.jG id n ag))∨(∃ t a,o.op = .load t a∧∃ n off,iB env a=some (.fW id n off))∨∃ args ats,o.op = .call { callee := .builtin .len,args,argTypes:=ats }):=by
 unfold Fs at h
 split at h
 ·rename_i t x i ho
  split at h
  ·rename_i e s kF agg sz z g' k n h1 h2 h3
   split at h
   ·rename_i e' l zz h4
    split at h
    ·rename_i h5
     cases h
     have hg:=jR h4
     obtain⟨d,k1,k2⟩:=bt hR.env h2
     obtain⟨id,ds,rfl,m1,m2,m3,m4,m5,m6⟩:=Ce hR hg k2 rfl
     have hs:k.size=s:=by simpa using h5
     have hl:=gY m4
     have hi:intOf (iB env) i=some n:=oc hR.env h3
     obtain⟨c1,c2⟩:=hc
     refine⟨.fW id l.length (n.toNat*s),id,fun aB => ?_,?_,m1,.inr (.inl ⟨t,x,i,ho,_,_,k1⟩)⟩
     ·simp only[af,ho,h1,k1,hi,m3]
      rw[if_pos ⟨c1,by omega,hs⟩]
     ·simp only[RT]
      refine⟨m1,by rw[hs]; rfl,e',k.size,ds,zz,m2,hl.symm,?_⟩
      rw[hl,← lp]
      exact ew _ (by omega)
    ·cases h
   ·cases h
  ·cases h
 ·rename_i t x f ho
  split at h
  ·rename_i fs sz z g' k i off h1 h2
   split at h
   ·rename_i of s ag hf
    split at h
    ·rename_i hs
     cases h
     obtain⟨d,k1,k2⟩:=bt hR.env h2
     cases d<;>simp only[RT] at k2
     rename_i id n sS
     obtain⟨m1,rfl,e',s',l',z',m2,m3,m4⟩:=k2
     have hop:BC S id n=some (e',s',l',z'):=by unfold BC; rw[m2]; simp only[m3,if_true]
     refine⟨.fW id n (i*k.size+off+of),id,fun aB => ?_,?_,m1,.inl ⟨t,x,f,ho,_,_,k1⟩⟩
     ·simp only[af,ho,h1,k1,hf,hop,if_pos hs]
     ·simp only[RT]
      exact⟨m1,by omega,e',s',l',z',m2,m3,m4⟩
    ·cases h
   ·cases h
  ·cases h
 ·rename_i t a ho
  split at h
  ·rename_i td g' k i off h1 h2
   split at h
   ·rename_i e' l zz h4
    simp only[ah,ax] at h
    obtain⟨u,h5,rfl,rfl,-⟩:=h
    have hg:=jR h4
    obtain⟨d,k1,k2⟩:=bt hR.env h2
    obtain⟨id,ds,rfl,m1,m2,m3,m4,m5,m6,m7⟩:=Vy hR hg k2
    obtain⟨pre,c,post,rfl,q1,q2,-⟩:=uC m4 m5
    obtain⟨d,q3,q4⟩:=oZ (nM (ι:=ι) (S:=S) q2) h5
    refine⟨d,id,fun aB => ?_,cE q4,m1,.inr (.inr (.inl ⟨t,a,ho,_,_,k1⟩))⟩
    simp only[af,ho,k1,jN,h1,m3]
    rw[← q1,Ms q3]
    rfl
   ·cases h
  ·cases h
 ·rename_i args ats ho
  split at h
  ·rename_i x t ha ht
   split at h
   ·rename_i e s kF agg sz z g' k h1 h2
    split at h
    ·rename_i e' l zz h4
     cases h
     have hg:=jR h4
     obtain⟨d,k1,k2⟩:=bt hR.env h2
     obtain⟨id,ds,rfl,m1,m2,m3,m4,m5,m6⟩:=Ce hR hg k2 rfl
     refine⟨.val (.int .i64 (l.length:Nat)),id,fun aB => ?_,by simp only[RT],m1,.inr (.inr (.inr ⟨_,_,ho⟩))⟩
     simp only[af,ho,ha,ht,h1,k1]
    ·cases h
   ·cases h
  ·cases h
 ·cases h
theorem Bl {v:TV} {g:Nat} {c:Prop} (h:Fs ty tt te tS o=some (v,g,c)) (hc:c) (dr:Bool):Does P ty aI call yf B o nT te tS dr fun v' cL cN ft=>v'=v∧cL=te∧cN=tS∧ft=⟨some [g],false⟩:=by
 intro ι w env S aB hR hB hw hT hn hS
 obtain⟨d,id,h1,h2,h3,h4⟩:=Bb (P:=P) (aI:=aI) (call:=call) (yf:=yf) h hc hR
 have hl:∃ l,aH P ty aI call yf (iB env) o S aB=some (d,S,⟨some l,false⟩)∧∀ j∈l,j=id:=by
  rcases h4 with ⟨t,a,f,ho,n,off,ha⟩ | ⟨t,a,i,ho,n,ag,ha⟩ | ⟨t,a,ho,n,off,ha⟩ | ⟨args,ats,ho⟩
  ·exact⟨[id],by simp only[aH,ho,ha,h1,Option.map_some],by simp⟩
  ·exact⟨[id],by simp only[aH,ho,ha,h1,Option.map_some],by simp⟩
  ·exact⟨[id],by simp only[aH,ho,ha,h1,Option.map_some],by simp⟩
  ·exact⟨[],by simp only[aH,ho,h1,Option.map_some],by simp⟩
 obtain⟨l,h5,h6⟩:=hl
 refine⟨d,S,ι,w,v,te,tS,⟨some l,false⟩,⟨some [g],false⟩,fun _=>h1 aB,fun _=>h5,⟨fun e=>e,fun l' js => ?_⟩,fun l' m _ hm j hj => ?_,hR,h2,hw,fun _ _ _=>rfl,Fr.refl _ _ _,hB,fJ _ _,rfl,rfl,rfl,rfl⟩
 ·cases js
  exact⟨l,rfl,fun j hj=>⟨g,by simp,by rw[h6 j hj]; exact hw _ _ h3⟩⟩
 ·cases hm
  exact .inr ⟨g,by rw[h6 j hj]; exact h3⟩
theorem PS {k:Nat} {v:TV} {g:Nat} {c:Prop} {Q:List TV→Prop} (ho:ops[k]? = some o) (hw:er ops te o=some true) (h:Fs ty tt te tS o=some (v,g,c)) (hc:c) (hq:WQ P ty aI call yf ops tS (k+1) (lY te o.dst v) Q):WQ P ty aI call yf ops tS k te Q:=by
 intro ι env S hR
 obtain⟨d,id,h1,h2,h3,h4⟩:=Bb (P:=P) (aI:=aI) (call:=call) (yf:=yf) h hc hR
 obtain⟨aC,cL,n1,n2,n3⟩:=hq ι (jj env o.dst d) S (mz hR h2 _)
 refine⟨aC,cL,?_,n2,n3⟩
 rw[mF ho]
 have hq:cS P ty aI call yf (iB env) o S=some d:=by
  rcases h4 with ⟨t,a,f,ho,n,off,ha⟩ | ⟨t,a,i,ho,n,ag,ha⟩ | ⟨t,a,ho,n,off,ha⟩ | ⟨args,ats,ho⟩<;>simp only[cS,ho,h1,Option.map_some]
 simp only[oy,gO hR.env hw,if_true,hq,n1]
end Go.Tv
end
section
namespace Go.Tv
open Go Go.Di Go.Proofs
variable {P:Program} {ty:gF} {tt:TypeId→Option TT} {ι ι' w:lW} {S S':av} {te mh:List TV} {env:List DV} {tS jh:List TB} {aI:bP} {call:bM} {yf:eW} {o:Oper} {aB nT:Nat} {B:List Nat} {ops:Array Oper}
theorem ql (h:cM ι te tS env S) (hT:wF tS nT) (hn:wG S aB) {t:TT} {e:Nat} {l:List t.den} {ds:List DV} (h0:0<t.size) (h1:(t.agg||t.size==1)=true) (hf:eP t l ds):cM (upd ι nT aB) te (qI tS nT (.rows t e l false)) env (ez S aB (.op e t.size ds false)):=by
 have K:=sE h hT hn (.op e t.size ds false)
 refine⟨bW K _ _ h.env,fun k l hk => ?_,fun k e s hk t ht => ?_,fun k k' hk => ?_,fun i j k' hi hj => ?_,fun k b hk t0 ht => ?_⟩
 ·rw[cC hT] at hk
  split at hk
  ·cases hk
  ·rename_i e
   obtain⟨k',gW,h1,h2,h3⟩:=h.cells k l hk
   exact⟨k',gW,by simp only[upd,e,if_false]; exact h1,by rw[bn hn,if_neg (h.dn hn h1)]; exact h2,bW K _ _ h3⟩
 ·rw[cC hT] at hk
  split at hk
  ·cases hk
  ·rename_i e'
   simp only[upd,e',if_false] at ht
   obtain⟨n,h1⟩:=h.own k e s hk t ht
   exact⟨n,by rw[bn hn,if_neg (h.dn hn ht)]; exact h1⟩
 ·rw[cC hT]
  split
  ·exact⟨_,rfl,fun e=>by cases e⟩
  ·rename_i e
   simp only[upd,e,if_false] at hk
   exact h.xH k k' hk
 ·unfold upd at hi hj
  split at hi<;>split at hj
  ·omega
  ·cases hi; exact(h.dn hn hj rfl).elim
  ·cases hj; exact(h.dn hn hi rfl).elim
  ·exact h.inj i j k' hi hj
 ·rw[cC hT] at hk
  split at hk
  ·rename_i e'
   cases hk
   simp only[upd,e',if_true,az] at ht
   subst ht
   rw[bn hn,if_pos rfl]
   exact⟨h0,h1,ds,rfl,hf⟩
  ·rename_i e'
   simp only[upd,e',if_false] at ht
   rw[bn hn,if_neg (h.dn hn ht)]; exact h.mp k b hk t0 ht
theorem vV (h:cM ι te tS env S) {g id:Nat} {t:TT} {e:Nat} {l l':List t.den} {ds gW:List DV} {z z':Bool} (hi:ι g=some id) (hg:tS[g]? = some (.rows t e l z)) (hS:S[id]? = some (.op e t.size ds z)) (hl:gW.length=ds.length) (h0:0<t.size) (h1:(t.agg||t.size==1)=true) (hf:eP t l' gW):cM ι te (tS.set g (.rows t e l' z')) env (S.set id (.op e t.size gW z')):=by
 have hlt:=(aJ.1 hg).1
 have NZ:=(aJ.1 hS).1
 have K:lH ι S ι (S.set id (.op e t.size gW z')) fun _=>False:=fun a b _ pK=>⟨pK,by
  rw[aP]
  split
  ·rename_i e1
   subst e1
   rw[hS]
   exact⟨fun _ _ _ h=>(nomatch h),fun e s l z h=>(by cases h; exact⟨gW,z',rfl,hl⟩)⟩
  ·exact fH rfl⟩
 have Vh:∀ j,(tS.set g (.rows t e l' z'))[j]? = if j=g then some (.rows t e l' z') else tS[j]? := fun j=>by
  rw[aP]
  by_cases e:j=g
  ·subst e; simp[hlt]
  ·rw[if_neg (Ne.symm e),if_neg e]
 have lQ:∀ j,j≠id→(S.set id (.op e t.size gW z'))[j]? = S[j]? := fun j hj=>by rw[aP,if_neg (Ne.symm hj)]
 refine⟨bW K _ _ h.env,fun j m hj => ?_,fun j e s hj t ht => ?_,fun j j' hj => ?_,h.inj,fun j b hj t0 ht => ?_⟩
 ·rw[Vh] at hj
  split at hj
  ·cases hj
  ·rename_i e
   obtain⟨j',NN,h1,h2,h3⟩:=h.cells j m hj
   exact⟨j',NN,h1,by rw[lQ j' fun e1=>e (h.inj _ _ _ (e1▸h1) hi)]; exact h2,bW K _ _ h3⟩
 ·rw[Vh] at hj
  split at hj
  ·cases hj
  ·obtain⟨n,h1⟩:=h.own j e s hj t ht
   exact⟨n,(K j t (fun e=>e) ht).2.1 _ _ _ h1⟩
 ·rw[Vh]
  split
  ·exact⟨_,rfl,by simp⟩
  ·exact h.xH j j' hj
 ·rw[Vh] at hj
  split at hj
  ·rename_i e
   subst e
   cases hj
   rw[hi] at ht
   cases ht
   rw[aP,if_pos rfl,if_pos NZ]
   exact⟨h0,h1,gW,rfl,hf⟩
  ·rename_i e
   rw[lQ t0 fun e1=>e (h.inj _ _ _ (e1▸ht) hi)]
   exact h.mp j b hj t0 ht
theorem UH {g:Nat} {b:TB} {x:Option DB} (h:XQ b x):XQ (qC g b) x:=by cases b<;>exact h
theorem Ru {g:Nat} {b:TB}:qC g b = .none→b = .none:=by cases b<;>simp[qC]
theorem BV (h:cM ι te tS env S) {g id:Nat} {t:TT} {e:Nat} {l l':List t.den} {ds gW:List DV} {z:Bool} (hi:ι g=some id) (hg:tS[g]? = some (.rows t e l z)) (hS:S[id]? = some (.op e t.size ds z)) (h0:0<t.size) (h1:(t.agg||t.size==1)=true) (hf:eP t l' gW):cM ι (uR g te) ((tS.map (qC g)).set g (.rows t e l' false)) env (S.set id (.op e t.size gW false)):=by
 have hlt:=(aJ.1 hg).1
 have NZ:=(aJ.1 hS).1
 have lQ:∀ j,j≠id→(S.set id (.op e t.size gW false))[j]? = S[j]? := fun j hj=>by rw[aP,if_neg (Ne.symm hj)]
 have K:lH ι S ι (S.set id (.op e t.size gW false)) fun k=>k=g:=fun a b ha pK=>⟨pK,fH (lQ b fun e1=>ha (h.inj _ _ _ (e1▸pK) hi))⟩
 have Vh:∀ j b,((tS.map (qC g)).set g (.rows t e l' false))[j]? = some b→(j=g∧b = .rows t e l' false)∨(j≠g∧∃ b0,tS[j]? = some b0∧b=qC g b0):=fun j b hj=>by
  rw[aP] at hj
  split at hj
  ·rename_i e1
   subst e1
   rw[if_pos (by simpa using hlt)] at hj
   cases hj
   exact .inl ⟨rfl,rfl⟩
  ·rename_i e1
   simp only[fQ,ah] at hj
   obtain⟨b0,h2,h3⟩:=hj
   exact .inr ⟨fun e=>e1 e.symm,b0,h2,h3.symm⟩
 refine⟨mw K _ _ h.env,fun j m hj => ?_,fun j e s hj t ht => ?_,fun j j' hj => ?_,h.inj,fun j b hj t0 ht => ?_⟩
 ·rcases Vh j _ hj with ⟨-,e1⟩ | ⟨hne,b0,h2,h3⟩
  ·cases e1
  ·cases b0<;>simp only[qC] at h3<;>first | (cases h3; done) | skip
   cases h3
   obtain⟨j',NN,k1,k2,k3⟩:=h.cells j _ h2
   exact⟨j',NN,k1,by rw[lQ j' fun e1=>hne (h.inj _ _ _ (e1▸k1) hi)]; exact k2,mw K _ _ k3⟩
 ·rcases Vh j _ hj with ⟨-,e1⟩ | ⟨hne,b0,h2,h3⟩
  ·cases e1
  ·cases b0<;>simp only[qC] at h3<;>first | (cases h3; done) | skip
   cases h3
   obtain⟨n,k1⟩:=h.own j _ _ h2 t ht
   exact⟨n,(K j t hne ht).2.1 _ _ _ k1⟩
 ·rw[aP]
  split
  ·rename_i e1
   rw[if_pos (by simpa using hlt)]
   exact⟨_,rfl,by simp⟩
  ·obtain⟨b,h2,h3⟩:=h.xH j j' hj
   exact⟨qC g b,by rw[fQ,h2]; rfl,fun e1=>h3 (Ru e1)⟩
 ·rcases Vh j _ hj with ⟨rfl,rfl⟩ | ⟨hne,b0,h2,rfl⟩
  ·rw[hi] at ht
   cases ht
   rw[aP,if_pos rfl,if_pos NZ]
   exact⟨h0,h1,gW,rfl,hf⟩
  ·rw[lQ t0 fun e1=>hne (h.inj _ _ _ (e1▸ht) hi)]
   exact UH (h.mp j b0 h2 t0 ht)
theorem GD {g:Nat} {t t':TT} {e e':Nat} {l:List t.den} {l':List t'.den} {z z':Bool} (hB:ow B tS) (hl:tS[g]? = some (.rows t e l z)):ow B (tS.set g (.rows t' e' l' z')):=fun k hk=>by
 obtain⟨c,hc⟩:=hB k hk
 refine⟨c,?_⟩
 rw[aP,if_neg]
 ·exact hc
 ·rintro rfl; rw[hl] at hc; cases hc
theorem GF {g:Nat} {t t':TT} {e e':Nat} {l:List t.den} {l':List t'.den} {z z':Bool} (hB:ow B tS) (hl:tS[g]? = some (.rows t e l z)):ow B ((tS.map (qC g)).set g (.rows t' e' l' z')):=fun k hk=>by
 obtain⟨c,hc⟩:=hB k hk
 refine⟨uR g c,?_⟩
 rw[aP,if_neg]
 ·rw[fQ,hc]; rfl
 ·rintro rfl; rw[hl] at hc; cases hc
theorem CB:∀ {S:av} {i:Nat} {b:DB},S[i]? = some b→S.set i b=S
 | [],_,_,h=>by simp at h
 | _::_,0,_,h=>by simp only[List.getElem?_cons_zero,az] at h; rw[h]; rfl
 | a::l,n+1,b,h=>by rw[List.set_cons_succ,CB (by simpa using h)]
theorem Bj {g:Nat} {jh:List TB} (h:On ty tt te tS o=some (g,jh)) (dr:Bool):Does P ty aI call yf B o nT te tS dr fun v' cL cN ft=>v' = .unk∧cL=te∧cN=jh∧ft=⟨some [g],true⟩:=by
 intro ι w env S aB hR hB hw hT hn hS
 unfold On at h
 split at h
 rotate_left
 ·cases h
 rename_i t a x ho
 split at h
 rotate_left
 ·cases h
 rename_i td g' k i off v h1 h2 h3
 split at h
 rotate_left
 ·cases h
 rename_i e l h4
 split at h
 rotate_left
 ·cases h
 rename_i hc
 simp only[aG,dX] at hc
 obtain⟨c1,c2⟩:=hc
 split at h
 rotate_left
 ·cases h
 rename_i cs h5
 split at h
 rotate_left
 ·cases h
 rename_i y h6
 cases h
 have hg:=jR h4
 obtain⟨d,k1,k2⟩:=bt hR.env h2
 obtain⟨id,ds,rfl,m1,m2,m3,m4,m5,m6,m7⟩:=Vy hR hg k2
 simp only[ah] at h3
 obtain⟨u,h7,h8⟩:=h3
 obtain⟨dv,k4,k5⟩:=bt hR.env h7
 have k6:=cE (tt:=tt) (t:=t) k5
 rw[h8] at k6
 have k7:=ry (Gq c1) k6
 obtain⟨pre,c,post,rfl,q1,q2,q3⟩:=uC m4 m5
 obtain⟨c',r1,r2⟩:=Ek (nM (ι:=ι) (S:=S) q2) k7 h5
 have hst:=EA c1 k6
 obtain⟨cc,m',e1,e2,e3⟩:=Ci h6 r2
 rw[aW e3,eU] at e1
 subst e1
 have hle:off+dv.cells.length≤c.length:=by
  unfold sR at r1
  split at r1
  ·assumption
  ·cases r1
 have hc':c'=c.take off++dv.cells++c.drop (off+dv.cells.length):=by
  unfold sR at r1
  rw[if_pos hle] at r1
  exact(cg r1).symm
 have hlen:dv.strip.cells.length=dv.cells.length:=by rw[hst]; simp
 have ni:sR c off dv.strip.cells=some (c.take off++dv.strip.cells++c.drop (off+dv.cells.length)):=by
  unfold sR
  rw[hlen,if_pos hle]
 have hm:(c.take off++dv.strip.cells++c.drop (off+dv.cells.length)).map DV.aQ=c'.map DV.aQ:=by
  rw[hc',hst]
  simp only[gM,List.map_map]
  congr 2
  exact List.map_congr_left fun d _=>BU d
 have hpa:=pU e2
 have ZB:dv.strip.cells.all DV.bS=true:=by
  rw[hc',gM,gM,lu,lu,← hst] at hpa
  simp only[aG] at hpa
  exact hpa.1.2
 have Lh:=pU q2
 have hcr:CR k y (c.take off++dv.strip.cells++c.drop (off+dv.cells.length)):=by
  refine AR (by rw[hm]; exact e2) ?_
  rw[lu,lu,ZB]
  simp only[Bool.and_true,aG,bh] at Lh ⊢
  exact⟨fun d hd=>Lh d (List.mem_of_mem_take hd),fun d hd=>Lh d (List.mem_of_mem_drop hd)⟩
 have hsz:dv.strip.cells.length=td.size:=by rw[hlen,ig k7]; exact c2
 have yD:nG ty S t (.fW id l.length (i*k.size+off)) dv=some (S.set id (.op e k.size (pre++(c.take off++dv.strip.cells++c.drop (off+dv.cells.length))++post) false)):=by
  simp only[nG,h1,m3,hsz,ZB,decide_true,gm,if_true]
  rw[← q1,QB ni]
  rfl
 have rS:(pre++(c.take off++dv.strip.cells++c.drop (off+dv.cells.length))++post).length=(pre++c++post).length:=by
  simp only[bU,gq,List.length_drop,hlen]
  omega
 refine⟨bz,_,ι,w,.unk,te,_,⟨some [id],true⟩,⟨some [g],true⟩,fun _ => ?_,fun _ => ?_,⟨fun e=>e,fun l' js => ?_⟩,fun l' m _ hm j hj => ?_,vV hR m1 hg m2 rS m6 m7 (q3 y _ hcr),by simp only[RT],hw,fun _ _ _=>rfl,wS m1,GD hB hg,wN m2 (fun e=>by cases e),rfl,rfl,rfl,rfl⟩
 ·simp only[af,ho,k1,k4,yD,Option.map_some]
 ·simp only[aH,ho,k1,af,k4,yD,Option.map_some]
 ·cases js
  exact⟨[id],rfl,fun j hj=>⟨g,by simp,by simp only[bJ] at hj; rw[hj]; exact hw _ _ m1⟩⟩
 ·cases hm
  simp only[bJ] at hj
  exact .inr ⟨g,hj▸m1⟩
theorem Jj {v:TV} {mh:List TV} {jh:List TB} {c:Prop} (h:Om ty tt te tS o nT=some (v,mh,jh,c)) (hc:c):Does P ty aI call yf B o nT te tS false fun v' cL cN _=>v'=v∧cL=mh∧cN=jh:=by
 intro ι w env S aB hR hB hw hT hn hS
 unfold Om at h
 split at h
 ·rename_i t a b ho
  split at h
  rotate_left
  ·cases h
  rename_i e s kF agg sz z0 n m k h1 h2 h3 h4
  split at h
  rotate_left
  ·cases h
  rename_i k0 sz' z h5
  split at h
  rotate_left
  ·cases h
  rename_i x h6
  split at h
  rotate_left
  ·cases h
  rename_i NH
  cases h
  simp only[aG,bI,dX] at NH
  obtain⟨⟨⟨⟨c1,c2⟩,c3⟩,c4⟩,c5⟩:=NH
  obtain⟨rfl,d2,d3⟩:=hc
  obtain⟨cc,m',e1,e2,e3⟩:=Ci h6 (rV (ι:=ι) (S:=S) z)
  rw[aW e3,eU] at e1
  subst e1
  have hi1:intOf (iB env) a=some m:=oc hR.env h2
  have hi2:intOf (iB env) b=some m:=oc hR.env h3
  have h0:0<k.size:=by omega
  have h01:(k.agg||k.size==1)=true:=by rw[c3,c2]; exact c4
  have hb:m.toNat*kF≤eR:=by
   have:m.toNat≤1000000000:=by omega
   calc m.toNat*kF≤1000000000*100000:=Nat.mul_le_mul this c5
    _≤eR:=by decide
  have lR:=ql hR hT hn h0 h01 (e:=e) (AK e2 m.toNat)
  rw[c2] at lR
  refine⟨.jG aB m.toNat agg,ez S aB (.op e s (List.replicate m.toNat (z.map DV.aQ)).flatten false),upd ι nT aB,upd w aB nT,.so nT k,te,_,⟨none,true⟩,⟨none,true⟩,fun _ => ?_,fun hd=>(by cases hd),⟨fun e=>e,fun l hl=>(by cases hl)⟩,fun l m hl=>(by cases hl),lR,?_,pP hR hn hT hw,fun hd=>(by cases hd),qY hn (mG hB hT),kB hB hT,nZ hn,rfl,rfl,rfl⟩
  ·have hpz:=pU e2
   simp only[af,ho,h1,hi1,hi2,h5,d2,c1,c4,hb,hpz,decide_true,gm,if_true,show m≤140737488355328-4096 by omega]
  ·simp only[RT,upd,if_true]
   refine⟨trivial,c3.symm,e,s,_,false,by rw[bn hn,if_pos rfl],?_⟩
   have:=gY (AK e2 m.toNat)
   rw[this,List.length_replicate,c2]
 ·rename_i t n ps ho
  split at h
  rotate_left
  ·cases h
  rename_i hh
  split at h
  rotate_left
  ·cases h
  rename_i e s kF agg sz z0 l k h1 h2 h3
  split at h
  rotate_left
  ·cases h
  rename_i k0 sz' z h4
  split at h
  rotate_left
  ·cases h
  rename_i NH
  simp only[aG,dX,iq,bI] at NH
  obtain⟨⟨⟨⟨⟨⟨c1,c2⟩,c3⟩,c4⟩,c5⟩,c6⟩,c7⟩:=NH
  simp only[ah,ax] at h
  obtain⟨w0,h5,rfl,rfl,rfl,-⟩:=h
  obtain⟨ds,k1,k2⟩:=pn hR.env h2
  obtain⟨k3,k4⟩:=AP k2 h5
  have hlen:ds.length=n:=by rw[xk k2,c3]
  have Xs:((List.replicate n z).flatten).length=ds.length*s:=by
   rw[hlen,List.length_flatten,List.map_replicate,c4,List.sum_replicate_nat]
  have hf:=uE (pre:=[]) (post:=(List.replicate n z).flatten) c5 k3 (by simp) Xs
  rw[List.nil_append,List.nil_append] at hf
  have Js:w0.length=n:=by rw[k4,c3]
  have c7':(agg||s==1)=true:=by simpa using c7
  have uM:=tF k3
  have h0:0<k.size:=by omega
  have h01:(k.agg||k.size==1)=true:=by rw[c6,c5]; exact c7'
  have lR:=ql hR hT hn h0 h01 (e:=e) uM
  rw[c5] at lR
  refine⟨.jG aB n agg,ez S aB (.op e s (iJ ds) false),upd ι nT aB,upd w aB nT,.so nT k,te,_,⟨none,true⟩,⟨none,true⟩,fun _ => ?_,fun hd=>(by cases hd),⟨fun e=>e,fun l hl=>(by cases hl)⟩,fun l m hl=>(by cases hl),lR,?_,pP hR hn hT hw,fun hd=>(by cases hd),qY hn (mG hB hT),kB hB hT,nZ hn,rfl,rfl,rfl⟩
  ·simp only[af,ho,h1,k1,h4,fM c1,fM c2,gm,if_true,hf,uj k3,c7',hh]
  ·simp only[RT,upd,if_true]
   refine⟨trivial,c6.symm,e,s,_,false,by rw[bn hn,if_pos rfl],?_⟩
   rw[gY uM,Js,c5]
 ·rename_i args ats ho
  split at h
  rotate_left
  ·cases h
  rename_i x y t u ha ht
  split at h
  rotate_left
  ·cases h
  rename_i Ny
  subst Ny
  split at h
  ·
   rename_i g k h2
   split at h
   rotate_left
   ·cases h
   rename_i e s kF agg sz z0 k' m ap h1 h3
   split at h
   rotate_left
   ·cases h
   rename_i Li
   subst Li
   split at h
   rotate_left
   ·cases h
   rename_i e' l k0 sz' z h4 h5
   split at h
   rotate_left
   ·cases h
   rename_i NH
   cases h
   simp only[aG,dX,bI] at NH
   obtain⟨⟨⟨c1,c2⟩,c3⟩,c4⟩:=NH
   subst c1
   have hg:=jR h4
   obtain⟨d,k1,k2⟩:=bt hR.env h2
   obtain⟨id,ds,rfl,m1,m2,m3,m4,m5,m6⟩:=Ce hR hg k2 rfl
   simp only[ah] at h3
   obtain⟨uy,e1,e2⟩:=h3
   obtain⟨db,k4,k5⟩:=bt hR.env e1
   have k6:=cE (tt:=tt) (t:=t) k5
   rw[e2] at k6
   cases db<;>simp only[RT] at k6
   rename_i news tok f
   obtain⟨k6,-⟩:=k6
   have Nd:=kz k6
   have kK:=iQ k6
   have uM:=Gu m4 (qp k6)
   have lR:=BV hR m1 hg m2 m5 m6 uM
   have hb:(l.length+news.length)*kF≤eR:=by
    have:l.length+news.length≤1000000000:=by rw[Nd]; exact hc
    calc (l.length+news.length)*kF≤1000000000*100000:=Nat.mul_le_mul this c4
     _≤eR:=by decide
   have ov:(agg||s==1)=true:=by rw[← c3,← c2]; exact m6
   have js:=gY m4
   have NJ:mH ty S aB t (.jG id l.length k'.agg) (.sl news tok f)=if news.isEmpty then some (.jG id l.length k'.agg,S) else some (.jG id (l.length+news.length) agg,S.set id (.op e' k'.size (ds++flat news) false)):=by
    simp only[mH,h1,h5]
    rw[if_pos,m3]
    ·simp only[c2,decide_true,gm,if_true]
    ·simp only[aG,bI,bh]
     refine⟨⟨⟨⟨by omega,ov⟩,hb⟩,?_⟩,fun r hr=>by rw[kK r hr,c2]⟩
     have:l.length+news.length≤1000000000:=by rw[Nd]; exact hc
     omega
   have hst:∀ d S',mH ty S aB t (.jG id l.length k'.agg) (.sl news tok f)=some (d,S')→af P ty aI call yf (iB env) o S aB=some (d,S'):=fun d S' h=>by
    simp only[af,ho,ha,ht,if_true,k1,k4,h]
   have qB:∀ d S',(d = .jG id (l.length+news.length) agg)→S'=S.set id (.op e' k'.size (ds++flat news) false)→RT ι S' (.so g k') d:=fun d S' hd yO=>by
    subst hd yO
    have hlt:=(aJ.1 m2).1
    simp only[RT]
    refine⟨m1,c3.symm,e',k'.size,_,false,by rw[aP,if_pos rfl,if_pos hlt],?_⟩
    rw[gY uM,bU,Nd]
   by_cases Jx:news.isEmpty=true
   ·have HT:news=[]:=by simpa using Jx
    subst HT
    have hm:m=[]:=dY (by rw[← Nd]; rfl)
    subst hm
    have hSS:S.set id (.op e' k'.size (ds++flat []) false)=S:=by
     rw[show flat []=[] from rfl,eU]
     exact CB m2
    rw[hSS] at lR
    rw[if_pos Jx] at NJ
    have hrt:=qB (.jG id l.length k'.agg) S (by rw[c3]; rfl) hSS.symm
    refine⟨_,S,ι,w,.so g k',_,_,⟨none,true⟩,⟨none,true⟩,fun _=>hst _ _ NJ,fun hd=>(by cases hd),⟨fun e=>e,fun l hl=>(by cases hl)⟩,fun l m hl=>(by cases hl),lR,hrt,hw,fun hd=>(by cases hd),Fr.refl _ _ _,?_,fJ _ _,rfl,rfl,rfl⟩
    exact GF hB hg
   ·rw[if_neg Jx] at NJ
    refine⟨_,_,ι,w,.so g k',_,_,⟨none,true⟩,⟨none,true⟩,fun _=>hst _ _ NJ,fun hd=>(by cases hd),⟨fun e=>e,fun l hl=>(by cases hl)⟩,fun l m hl=>(by cases hl),lR,qB _ _ rfl rfl,hw,fun hd=>(by cases hd),wS m1,GF hB hg,wN m2 (fun e=>by cases e),rfl,rfl,rfl⟩
  ·
   rename_i v0 hno h2
   split at h
   rotate_left
   ·cases h
   rename_i hh
   split at h
   rotate_left
   ·cases h
   rename_i e s kF agg sz z0 k' a m ap h1 h3
   split at h
   rotate_left
   ·cases h
   rename_i k0 sz' z h5
   split at h
   rotate_left
   ·cases h
   rename_i NH
   cases h
   simp only[aG,dX,bI] at NH
   obtain⟨⟨⟨⟨⟨c0,c1⟩,c2⟩,c3⟩,c4⟩,c5⟩:=NH
   obtain⟨d,k1,k2⟩:=bt hR.env h2
   obtain⟨f0,rfl,uX⟩:∃ f0,d = .sl [] none f0∧f0.full=true:=by
    cases v0<;>first | (cases c0; done) | skip
    ·cases d<;>simp only[RT] at k2
     obtain⟨rfl,rfl,rfl⟩:=k2
     exact⟨_,rfl,rfl⟩
    ·rename_i k9 l9 ap9
     cases l9 with
     | cons=>simp[Oy] at c0
     | nil =>
      cases ap9<;>first | (simp[Oy] at c0; done) | skip
      cases d<;>simp only[RT] at k2
      rename_i rows tok f
      obtain⟨q1,rfl,q2⟩:=k2
      cases rows with
      | nil=>exact⟨f,rfl,q2⟩
      | cons=>exact q1.elim
   simp only[ah] at h3
   obtain⟨uy,e1,e2⟩:=h3
   obtain⟨db,k4,k5⟩:=bt hR.env e1
   have k6:=cE (tt:=tt) (t:=t) k5
   rw[e2] at k6
   cases db<;>simp only[RT] at k6
   rename_i news tok f
   obtain⟨k6,-⟩:=k6
   have Nd:=kz k6
   have kK:=iQ k6
   have uM:=qp k6
   have h0:0<k'.size:=by omega
   have h01:(k'.agg||k'.size==1)=true:=by rw[c3,c2]; exact c4
   have lR:=ql hR hT hn h0 h01 (e:=e) uM
   rw[c2] at lR
   have hle:news.length≤1000000000:=by rw[Nd]; exact hc
   have hb:news.length*kF≤eR:=by
    calc news.length*kF≤1000000000*100000:=Nat.mul_le_mul hle c5
     _≤eR:=by decide
   have Jx:¬ (news.isEmpty=true):=by
    intro he
    have:news=[]:=by simpa using he
    rw[this] at Nd
    simp at Nd
   have NJ:mH ty S aB t (.sl [] none f0) (.sl news tok f)=some (.jG aB news.length agg,ez S aB (.op e s (flat news) false)):=by
    simp only[mH,h1,h5]
    rw[if_neg Jx,if_pos]
    simp only[aG,bI,bh]
    refine⟨⟨⟨⟨⟨uX,c1⟩,c4⟩,hb⟩,by omega⟩,fun r hr=>by rw[kK r hr,c2]⟩
   refine⟨.jG aB news.length agg,ez S aB (.op e s (flat news) false),upd ι nT aB,upd w aB nT,.so nT k',te,_,⟨none,true⟩,⟨none,true⟩,fun _ => ?_,fun hd=>(by cases hd),⟨fun e=>e,fun l hl=>(by cases hl)⟩,fun l m hl=>(by cases hl),lR,?_,pP hR hn hT hw,fun hd=>(by cases hd),qY hn (mG hB hT),kB hB hT,nZ hn,rfl,rfl,rfl⟩
   ·simp only[af,ho,ha,ht,if_true,k1,k4,hh,NJ]
   ·simp only[RT,upd,if_true]
    refine⟨trivial,c3.symm,e,s,_,false,by rw[bn hn,if_pos rfl],?_⟩
    rw[gY uM,Nd,c2]
  ·cases h
 ·cases h
end Go.Tv
end
section
namespace Go.Tv
open Go Go.Di Go.Proofs
def Cj (tS:List TB):TV→TV
 | .so g t=>match tS[g]? with
  | some (.rows t' _ l z)=>if h:t'=t then (match z with
    | true => .sl t (h▸l) .no
    | false => .so g t) else .unk
  | _ => .unk
 | v=>v
def tQ (te:List TV) (tS:List TB) (x:Operand):List TB :=
 match gE te x with
 | some (.so g t)=>match jm tS g t with
  | some (e,l,false)=>tS.set g (.rows t e l true)
  | _=>tS
 | _=>tS
def HO (te:List TV) (tS:List TB) (x:Operand):Bool :=
 match gE te x with
 | some .unk | none=>false
 | some (.so g t)=>(jm tS g t).isSome
 | some _=>true
def HN (ty:gF) (te:List TV) (tS:List TB) (o:Oper):Option (List TV×List TB) :=
 match ty.h o with
 | 2=>if o.op.operands.toList.all (HO te tS) then some (te.map (Cj (o.op.operands.toList.foldl (tQ te) tS)),o.op.operands.toList.foldl (tQ te) tS) else none
 | _=>some (te,tS)
variable {P:Program} {ty:gF} {tt:TypeId→Option TT} {ι ι' w:lW} {S S':av} {te mh:List TV} {env:List DV} {tS jh:List TB} {aI:bP} {call:bM} {yf:eW} {o:Oper} {aB nT:Nat} {B:List Nat} {ops:Array Oper}
theorem IL {g g':Nat} {t t':TT} {e e':Nat} {l:List t.den} {l':List t'.den} {z:Bool} (h:jm tS g t=some (e,l,z)) (h':jm tS g' t'=some (e',l',false)):(jm (tS.set g' (.rows t' e' l' true)) g t).isSome=true:=by
 have h1:=jR h
 have h2:=jR h'
 by_cases e1:g'=g
 ·subst e1
  rw[h1] at h2
  cases h2
  unfold jm
  rw[aP,if_pos rfl,if_pos (aJ.1 h1).1]
  simp
 ·have:jm (tS.set g' (.rows t' e' l' true)) g t=jm tS g t:=by
   unfold jm
   rw[aP,if_neg e1]
  rw[this,h]; rfl
theorem QT {x y:Operand} (h:HO te tS x=true):HO te (tQ te tS y) x=true:=by
 unfold HO at h ⊢
 split at h
 ·cases h
 ·cases h
 ·rename_i g t hx
  unfold tQ
  split
  ·split
   ·rename_i e' l' h2
    obtain⟨⟨e,l,z⟩,h1⟩:=Option.isSome_iff_exists.1 h
    exact IL h1 h2
   ·exact h
  ·exact h
 ·rfl
theorem adv (hR:cM ι te tS env S) (hB:ow B tS) {x:Operand} (h:HO te tS x=true):cM ι te (tQ te tS x) env (oP env S x)∧ow B (tQ te tS x)∧Fr B ι S ι (oP env S x)∧∀ i,Nn i S (oP env S x):=by
 have same:tQ te tS x=tS→oP env S x=S→cM ι te (tQ te tS x) env (oP env S x)∧ow B (tQ te tS x)∧Fr B ι S ι (oP env S x)∧∀ i,Nn i S (oP env S x):=fun h1 h2=>by rw[h1,h2]; exact⟨hR,hB,Fr.refl _ _ _,fun i=>fJ _ _⟩
 unfold HO at h
 split at h
 ·cases h
 ·cases h
 ·rename_i g t hx
  obtain⟨⟨e,l,z⟩,h1⟩:=Option.isSome_iff_exists.1 h
  obtain⟨d,k1,k2⟩:=bt hR.env hx
  have hg:=jR h1
  obtain⟨id,ds,rfl,m1,m2,m3,m4,m5,m6⟩:=Ce hR hg k2 rfl
  cases z with
  | true=>exact same (by simp only[tQ,hx,h1]) (by simp only[oP,k1,sX,m3])
  | false =>
   have e1:tQ te tS x=tS.set g (.rows t e l true):=by simp only[tQ,hx,h1]
   have e2:oP env S x=S.set id (.op e t.size ds true):=by simp only[oP,k1,sX,m3]
   rw[e1,e2]
   exact⟨vV hR m1 hg m2 rfl m5 m6 m4,GD hB hg,wS m1,fun i=>wN m2 (fun e=>by cases e)⟩
 ·rename_i v h1 h2 hx
  obtain⟨d,k1,k2⟩:=bt hR.env hx
  refine same ?_ ?_
  ·unfold tQ
   rw[hx]
   cases v<;>first | rfl | exact absurd rfl (h2 _ _)
  ·simp only[oP,k1]
   cases v<;>first | exact absurd rfl (h2 _ _) | exact absurd rfl h1 | skip
   all_goals cases d<;>simp only[RT] at k2<;>rfl
theorem aaH:∀ (l:List Operand) {tS:List TB} {S:av},cM ι te tS env S→ow B tS→l.all (HO te tS)=true→cM ι te (l.foldl (tQ te) tS) env (l.foldl (oP env) S)∧ow B (l.foldl (tQ te) tS)∧Fr B ι S ι (l.foldl (oP env) S)∧∀ i,Nn i S (l.foldl (oP env) S)
 | [],_,S,hR,hB,_=>⟨hR,hB,Fr.refl _ _ _,fun i=>fJ _ _⟩
 | x::l,tS,S,hR,hB,h=>by
  simp only[List.all_cons,aG] at h
  obtain⟨h1,h2,h3,h4⟩:=adv hR hB h.1
  obtain⟨k1,k2,k3,k4⟩:=aaH l h1 h2 (bh.2 fun y hy=>QT (bh.1 h.2 y hy))
  refine⟨k1,k2,h3.trans k3,fun i=>⟨aM (h4 i).1 (k4 i).1,fun j hj hn=>(k4 i).2 j hj ((h4 i).2 j hj hn)⟩⟩
theorem Ut (hR:cM ι mh tS env S) {v:TV} {d:DV} (h:RT ι S v d):RT ι S (Cj tS v) (kJ S d):=by
 cases v
 case so g t =>
  simp only[Cj]
  split
  ·rename_i t' e l z hg
   split
   ·rename_i ht
    obtain⟨id,ds,rfl,m1,m2,m3,m4,m5,m6⟩:=Ce hR hg h ht
    subst ht
    cases z with
    | true =>
     rw[KL m3 m5 m6]
     simp only[RT,s4,and_true]
     exact uD m6 m4
    | false =>
     have:kJ S (.jG id l.length t'.agg) = .jG id l.length t'.agg:=by simp only[kJ,m3]
     rw[this]
     exact h
   ·simp only[RT]
  ·simp only[RT]
 case unk=>simp only[Cj,RT]
 all_goals
  cases d<;>simp only[RT] at h
  simp only[Cj,kJ,RT]
  exact h
theorem Gl (hR:cM ι mh tS env S):∀ {l:List TV} {m:List DV},dg ι S l m→dg ι S (l.map (Cj tS)) (m.map (kJ S))
 | [],m,h=>by rw[aW h]; exact cz
 | a::l,m,h=>by
  obtain⟨d,m',rfl,h1,h2⟩:=ak h
  exact aY (Ut hR h1) (Gl hR h2)
theorem YD (hR:cM ι te tS env S) (hB:ow B tS) (h:HN ty te tS o=some (mh,jh)):cM ι mh jh (BM ty o env S).1 (BM ty o env S).2∧ow B jh∧Fr B ι S ι (BM ty o env S).2∧Nn S.length S (BM ty o env S).2:=by
 unfold HN at h
 unfold BM
 split at h
 ·rename_i hh
  split at h
  ·rename_i jr
   cases h
   obtain⟨h1,h2,h3,h4⟩:=aaH (env:=env) _ hR hB jr
   simp only[hh]
   exact⟨⟨Gl h1 h1.env,h1.cells,h1.own,h1.xH,h1.inj,h1.mp⟩,h2,h3,h4 _⟩
  ·cases h
 ·rename_i hh
  cases h
  simp only[]
  exact⟨hR,hB,Fr.refl _ _ _,fJ _ _⟩
theorem nF {k:Nat} (ho:ops[k]? = some o) (hw:er ops te o=some true) (hp:HN ty te tS o=some (mh,jh)) {Q:List TV→List TB→Prop} {K:TV→List TV→List TB→dh→Prop} (hd:Does P ty aI call yf B o jh.length mh jh false K)
  (h:∀ v cL cN ft,K v cL cN ft→WL P ty aI call yf B ops (k+1) (lY cL o.dst v) cN Q):WL P ty aI call yf B ops k te tS Q:=by
 intro ι env S hR hB
 obtain⟨Sq,RS,hF1,hN1⟩:=YD (o:=o) hR hB hp
 generalize uP:BM ty o env S=pr at Sq hF1 hN1
 obtain⟨oA,S1⟩:=pr
 obtain⟨w,hwk⟩:=HY Sq
 obtain⟨d,S',ι',w',v,cL,cN,f,ft,h1,-,-,-,h5,h6,-,-,h9,wB,Fe,Vr⟩:=hd ι w oA S1 S1.length Sq RS hwk (.inr rfl) (.inr rfl) (fun e=>by cases e)
 obtain⟨aC,tI,ι'',tM,tN,k1,k2,k3,k4,k5,k6⟩:=h v cL cN ft Vr ι' (jj oA o.dst d) S' (mz h5 h6 _) wB
 refine⟨aC,tI,ι'',tM,tN,?_,k2,k3,(hF1.trans h9).trans k4,rA hN1 (rA Fe k5),k6⟩
 rw[mF ho]
 simp only[Dt,gO hR.env hw,if_true,uP,h1 rfl,k1]
end Go.Tv
end
