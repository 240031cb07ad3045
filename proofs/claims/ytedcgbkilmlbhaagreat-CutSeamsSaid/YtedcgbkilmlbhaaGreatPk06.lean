import Derived.Test.YtedcgbkilmlbhaaGreatPk05
section
namespace Go.Tv
open Go Go.Di Go.Proofs
def j5 (tS:List TB) (g:Nat) (t:TT):Option (Nat×List t.den×Bool) :=
 match tS[g]? with
 | some (.rows t' e l z)=>if h:t'=t then some (e,h▸l,z) else none
 | _=>none
theorem kI {tS:List TB} {g:Nat} {t:TT} {e:Nat} {l:List t.den} {z:Bool} (h:j5 tS g t=some (e,l,z)):tS[g]? = some (.rows t e l z):=by
 unfold j5 at h
 split at h
 ·rename_i t' e' l' z' hg
  split at h
  ·rename_i ht
   subst ht
   cases h
   exact hg
  ·cases h
 ·cases h
section
variable (ty:ir) (tt:TypeId→Option TT)
def He (te:List TV) (tS:List TB) (o:Oper):Option (TV×Nat×Prop) :=
 match o.op with
 | .indexAddr t x i=>match ty t,iK te x,GU te i with
  | some ⟨.slice _ s _ _,_,_⟩,some (.so g k),some n=>match j5 tS g k with
   | some (_,l,_)=>if k.size==s then some (.sp g k n.toNat 0,g,0≤n∧n<(l.length:Int)) else none
   | none=>none
  | _,_,_=>none
 | .fieldAddr t x f=>match ty t,iK te x with
  | some ⟨.struct fs,_,_⟩,some (.sp g k i off)=>match fs[f]? with
   | some (o,s,_)=>if 0<s then some (.sp g k i (off+o),g,True) else none
   | none=>none
  | _,_=>none
 | .load t a=>match ty t,iK te a with
  | some d,some (.sp g k i off)=>match j5 tS g k with
   | some (_,l,_)=>(zf d.k.isAgg d.size (k.cells (l.getD i k.Zi)) off).map fun v=>(j6 tt t v,g,True)
   | none=>none
  | _,_=>none
 | .call { callee := .builtin .len,args,argTypes }=>match args.toList,argTypes.toList with
  | [x],[t]=>match ty t,iK te x with
   | some ⟨.slice _ _ _ _,_,_⟩,some (.so g k)=>match j5 tS g k with
    | some (_,l,_)=>some (.val (.int .i64 (l.length:Nat)),g,True)
    | none=>none
   | _,_=>none
  | _,_=>none
 | _=>none
def Qr (te:List TV) (tS:List TB) (o:Oper):Option (Nat×List TB) :=
 match o.op with
 | .store t a x=>match ty t,iK te a,(iK te x).map (j6 tt t) with
  | some d,some (.sp g k i off),some v=>match j5 tS g k with
   | some (e,l,false)=>if v.BL&&v.cells.length==d.size then match PY (k.cells (l.getD i k.Zi)) off v.cells with
     | some cs=>match k.of cs with
      | some (y,[])=>some (g,tS.set g (.rows k e (l.set i y) false))
      | _=>none
     | none=>none
    else none
   | _=>none
  | _,_,_=>none
 | _=>none
def Qy:TV→Bool
 | .gq=>true
 | .sl _ [] .full=>true
 | _=>false
def Qq (te:List TV) (tS:List TB) (o:Oper) (nT:Nat):Option (TV×List TV×List TB×Prop) :=
 match o.op with
 | .makeSlice t a b=>match ty t,GU te a,GU te b,tt t with
  | some ⟨.slice e s lK agg,_,_⟩,some n,some m,some (.sl k)=>match ty e with
   | some ⟨_,_,some z⟩=>match k.of (z.map wL) with
    | some (x,[])=>if decide (0<s)&&k.size==s&&k.agg==agg&&(agg||s==1)&&decide (lK≤100000) then
      some (.so nT k,te,sg tS nT (.rows k e (List.replicate n.toNat x) false),m=n∧0≤n∧n≤1000000000) else none
    | _=>none
   | _=>none
  | _,_,_,_=>none
 | .buildSlice t n ps=>match ty.h o with
  | 1=>match ty t,yl te ps.toList,tt t with
   | some ⟨.slice e s _ agg,_,_⟩,some l,some (.sl k)=>match ty e with
    | some ⟨_,_,some z⟩=>if decide (0<s)&&decide (n*s≤16777216)&&l.length==n&&z.length==s&&k.size==s&&k.agg==agg&&(agg||s==1) then
      (BI k 0 l).map fun w=>(.so nT k,te,sg tS nT (.rows k e w false),True)
     else none
    | _=>none
   | _,_,_=>none
  | _=>none
 | .call { callee := .builtin .append,args,argTypes }=>match args.toList,argTypes.toList with
  | [x,y],[t,u]=>if t=u then match iK te x with
   | some (.so g k)=>match ty t,(iK te y).map (j6 tt t) with
    | some ⟨.slice e s lK agg,_,_⟩,some (.sl k' m _)=>if h:k'=k then match j5 tS g k,ty e with
      | some (e',l,false),some ⟨_,_,some _⟩=>if e'==e&&k.size==s&&k.agg==agg&&decide (lK≤100000) then
        some (.so g k,wI g te,(tS.map (rR g)).set g (.rows k e (l++(h▸m)) false),l.length+m.length≤1000000000) else none
      | _,_=>none
     else none
    | _,_=>none
   | some v=>match ty.h o with
    | 1=>match ty t,(iK te y).map (j6 tt t) with
     | some ⟨.slice e s lK agg,_,_⟩,some (.sl k' (a::m) _)=>match ty e with
      | some ⟨_,_,some _⟩=>if Qy v&&decide (0<s)&&k'.size==s&&k'.agg==agg&&(agg||s==1)&&decide (lK≤100000) then
        some (.so nT k',te,sg tS nT (.rows k' e (a::m) false),(a::m).length≤1000000000) else none
      | _=>none
     | _,_=>none
    | _=>none
   | none=>none
   else none
  | _,_=>none
 | _=>none
end
variable {P:Program} {ty:ir} {tt:TypeId→Option TT} {ι ι' w:mm} {S S':ax} {te mW:List TV} {env:List DV} {tS jR:List TB} {aM:bV} {call:bP} {yf:fI} {o:Oper} {aH nT:Nat} {B:List Nat} {ops:Array Oper}
theorem vY {t:TT}:∀ {l:List t.den} {ds:List DV} {i:Nat},fF t l ds→i<l.length→∃ pre c post,ds=pre++c++post∧pre.length=i*t.size∧CR t (l.getD i t.Zi) c∧∀ y c',CR t y c'→fF t (l.set i y) (pre++c'++post)
 | [],_,_,_,h=>by simp at h
 | x::l,ds,i,hf,h=>by
  simp only[fF] at hf
  obtain⟨c,m,rfl,h1,h2⟩:=hf
  cases i with
  | zero=>exact⟨[],c,m,rfl,by simp,h1,fun y c' hc=>by simp only[List.set_cons_zero,fF]; exact⟨c',m,rfl,hc,h2⟩⟩
  | succ i =>
   obtain⟨pre,c1,post,rfl,k1,k2,k3⟩:=vY (i:=i) h2 (by simpa using h)
   refine⟨c++pre,c1,post,by simp,by rw[b9,mU h1,k1,jL,Nat.one_mul,Nat.add_comm],by simpa using k2,fun y c' hc => ?_⟩
   simp only[List.set_cons_succ,fF]
   exact⟨c,pre++c'++post,by simp,h1,k3 y c' hc⟩
theorem Iu {t:TT}:∀ {l m:List t.den} {ds es:List DV},fF t l ds→fF t m es→fF t (l++m) (ds++es)
 | [],_,ds,_,h,k=>by simp only[fF] at h; subst h; exact k
 | x::l,m,ds,es,h,k=>by
  simp only[fF] at h
  obtain⟨c,r,rfl,h1,h2⟩:=h
  simp only[List.cons_append,fF]
  exact⟨c,r++es,by simp,h1,Iu h2 k⟩
theorem Ce {t:TT} {x:t.den} {c:List DV} (h:CR t x c):∀ n,fF t (List.replicate n x) (List.replicate n c).flatten
 | 0=>by simp[fF]
 | n+1=>by
  simp only[List.replicate_succ,List.flatten_cons,fF]
  exact⟨c,_,rfl,h,Ce h n⟩
theorem rC {t:TT} {agg:Bool}:∀ {l:List t.den} {rows:List DV},eN (CR t) agg l rows→fF t l (flat rows)
 | [],[],_=>by simp[flat,fF]
 | x::l,r::rows,h=>by
  simp only[flat,fM,fF]
  exact⟨r.cells,_,rfl,h.1.1,rC h.2⟩
theorem ve {t:TT}:∀ {qs:List (Nat×DV)} {i:Nat} {l:List t.den},D7 t i qs l→fF t l (jo qs)
 | [],_,[],_=>by simp[jo,fF]
 | (j,d)::qs,i,x::l,h=>by
  obtain⟨⟨rfl,hc⟩,h⟩:=h
  simp only[jo,fM,fF]
  exact⟨d.strip.cells,_,rfl,hc,ve h⟩
theorem Ck:∀ {t:TT} {x:t.den} {c:List DV},CR t x (c.map DV.aV)→c.all DV.ck=true→CR t x c
 | .int _,_,c,h,hp=>by
  simp only[CR] at h ⊢
  obtain⟨d,rfl⟩:∃ d,c=[d]:=List.length_eq_one_iff.1 (by have:=congrArg List.length h; simpa using this)
  cases d<;>simp_all [DV.aV]
 | .bool,_,c,h,hp=>by
  simp only[CR] at h ⊢
  obtain⟨d,rfl⟩:∃ d,c=[d]:=List.length_eq_one_iff.1 (by have:=congrArg List.length h; simpa using this)
  cases d<;>simp_all [DV.aV]
 | .str,_,c,h,hp=>by
  simp only[CR] at h ⊢
  obtain⟨d,rfl⟩:∃ d,c=[d]:=List.length_eq_one_iff.1 (by have:=congrArg List.length h; simpa using this)
  cases d<;>simp_all [DV.aV]
 | .unit,_,c,h,_=>by
  simp only[CR] at h ⊢
  simpa using h
 | .pair a b,x,c,h,hp=>by
  simp only[CR] at h ⊢
  obtain⟨c1,c2,e,h1,h2⟩:=h
  obtain⟨d1,d2,rfl,rfl,rfl⟩:=List.map_eq_append_iff.1 e
  rw[mA,aI] at hp
  exact⟨d1,d2,rfl,Ck h1 hp.1,Ck h2 hp.2⟩
 | .sl t,l,c,h,hp=>by
  simp only[CR] at h ⊢
  obtain⟨rows,f,e,h⟩:=h
  obtain⟨d,rfl⟩:∃ d,c=[d]:=List.length_eq_one_iff.1 (by have:=congrArg List.length e; simpa using this)
  cases d<;>simp[DV.aV] at e
  rename_i r tok f'
  obtain⟨rfl,-⟩:=e
  cases tok with
  | some=>simp[DV.ck] at hp
  | none=>exact⟨r,f',rfl,h⟩
theorem Ds (d:DV):d.aV.aV=d.aV:=by cases d<;>rfl
theorem Gg {v:TV} {d:DV} (hk:v.BL=true) (h:RT ι S v d):d.strip.cells=d.cells.map DV.aV:=by
 cases v<;>cases d<;>simp only[RT] at h<;>first | (cases hk; done) | rfl
theorem Ot {agg:Bool} {n off:Nat} {pre c post:List DV} {d:DV} (h:ng agg n c off=some d):ng agg n (pre++c++post) (pre.length+off)=some d:=by
 unfold ng at h ⊢
 cases agg with
 | true =>
  simp only[if_true,ai] at h ⊢
  obtain⟨cs,h1,rfl⟩:=h
  refine⟨cs,?_,rfl⟩
  unfold Qd at h1 ⊢
  split at h1
  ·rename_i hle
   cases h1
   rw[if_pos (by simp; omega),gD,List.drop_append,jN (by omega),List.nil_append,o6,List.drop_append_of_le_length (by omega),List.take_append_of_le_length (by simp; omega)]
  ·cases h1
 | false =>
  simp only[aF,if_false] at h ⊢
  have hlt:=(aJ.1 h).1
  rw[gD,gF (by omega),o6,fq hlt]
  exact h
theorem SQ {off:Nat} {pre c post cs c':List DV} (h:uA c off cs=some c'):uA (pre++c++post) (pre.length+off) cs=some (pre++c'++post):=by
 unfold uA at h ⊢
 split at h
 ·rename_i hle
  cases h
  have e1:(pre++c++post).take (pre.length+off)=pre++c.take off:=by
   rw[gD,List.take_append,iE (by omega),o6,List.take_append_of_le_length (by omega)]
  have e2:(pre++c++post).drop (pre.length+off+cs.length)=c.drop (off+cs.length)++post:=by
   rw[gD,gU,List.drop_append,jN (by omega),List.nil_append,o6,List.drop_append_of_le_length (by omega)]
  rw[if_pos (by simp; omega),e1,e2]
  simp[gD]
 ·cases h
theorem X3 (h:cK ι te tS env S) {g i off:Nat} {t:TT} {e:Nat} {l:List t.den} {z:Bool} {d:DV} (hg:tS[g]? = some (.rows t e l z)) (hd:RT ι S (.sp g t i off) d):∃ id ds,d = .fC id l.length (i*t.size+off)∧ι g=some id∧S[id]? = some (.op e t.size ds z)∧Da S id l.length=some (e,t.size,ds,z)∧fF t l ds∧i<l.length∧0<t.size∧(t.agg||t.size==1)=true:=by
 cases d<;>simp only[RT] at hd
 rename_i id n uB
 obtain⟨h1,rfl,e',s',l',z',h2,h3,h4⟩:=hd
 obtain⟨q0,q1,ds,q2,q3⟩:=h.mp g _ hg id h1
 rw[h2] at q2
 cases q2
 have hl:=iS q3
 have hn:n=l.length:=Nat.eq_of_mul_eq_mul_right q0 (h3.trans hl)
 subst hn
 refine⟨id,l',rfl,h1,h2,?_,q3,?_,q0,q1⟩
 ·unfold Da
  rw[h2]
  simp only[h3,if_true]
 ·rw[← h3] at h4
  have:i*t.size<l.length*t.size:=by omega
  exact Nat.lt_of_mul_lt_mul_right this
theorem CH {v:TV} {g:Nat} {c:Prop} (h:He ty tt te tS o=some (v,g,c)) (hc:c) (hR:cK ι te tS env S):∃ d id,(∀ aH,ah P ty aM call yf (jb env) o S aH=some (d,S))∧RT ι S v d∧ι g=some id∧((∃ t a f,o.op = .fieldAddr t a f∧∃ n off,jb env a=some (.fC id n off))∨(∃ t a i,o.op = .indexAddr t a i∧∃ n ag,jb env a=some (.jD id n ag))∨(∃ t a,o.op = .load t a∧∃ n off,jb env a=some (.fC id n off))∨∃ args ats,o.op = .call { callee := .builtin .len,args,argTypes:=ats }):=by
 unfold He at h
 split at h
 ·rename_i t x i ho
  split at h
  ·rename_i e s lK agg sz z g' k n h1 h2 h3
   split at h
   ·rename_i e' l zz h4
    split at h
    ·rename_i h5
     cases h
     have hg:=kI h4
     obtain⟨d,k1,k2⟩:=bC hR.env h2
     obtain⟨id,ds,rfl,m1,m2,m3,m4,m5,m6⟩:=DN hR hg k2 rfl
     have hs:k.size=s:=by simpa using h5
     have hl:=iS m4
     have hi:intOf (jb env) i=some n:=oU hR.env h3
     obtain⟨c1,c2⟩:=hc
     refine⟨.fC id l.length (n.toNat*s),id,fun aH => ?_,?_,m1,.inr (.inl ⟨t,x,i,ho,_,_,k1⟩)⟩
     ·simp only[ah,ho,h1,k1,hi,m3]
      rw[if_pos ⟨c1,by omega,hs⟩]
     ·simp only[RT]
      refine⟨m1,by rw[hs]; rfl,e',k.size,ds,zz,m2,hl.symm,?_⟩
      rw[hl,← kX]
      exact eU _ (by omega)
    ·cases h
   ·cases h
  ·cases h
 ·rename_i t x f ho
  split at h
  ·rename_i fs sz z g' k i off h1 h2
   split at h
   ·rename_i of s ag hf
    split at h
    ·rename_i hs
     cases h
     obtain⟨d,k1,k2⟩:=bC hR.env h2
     cases d<;>simp only[RT] at k2
     rename_i id n uB
     obtain⟨m1,rfl,e',s',l',z',m2,m3,m4⟩:=k2
     have hop:Da S id n=some (e',s',l',z'):=by unfold Da; rw[m2]; simp only[m3,if_true]
     refine⟨.fC id n (i*k.size+off+of),id,fun aH => ?_,?_,m1,.inl ⟨t,x,f,ho,_,_,k1⟩⟩
     ·simp only[ah,ho,h1,k1,hf,hop,if_pos hs]
     ·simp only[RT]
      exact⟨m1,by omega,e',s',l',z',m2,m3,m4⟩
    ·cases h
   ·cases h
  ·cases h
 ·rename_i t a ho
  split at h
  ·rename_i td g' k i off h1 h2
   split at h
   ·rename_i e' l zz h4
    simp only[ai,ay] at h
    obtain⟨u,h5,rfl,rfl,-⟩:=h
    have hg:=kI h4
    obtain⟨d,k1,k2⟩:=bC hR.env h2
    obtain⟨id,ds,rfl,m1,m2,m3,m4,m5,m6,m7⟩:=X3 hR hg k2
    obtain⟨pre,c,post,rfl,q1,q2,-⟩:=vY m4 m5
    obtain⟨d,q3,q4⟩:=qf (oz (ι:=ι) (S:=S) q2) h5
    refine⟨d,id,fun aH => ?_,cN q4,m1,.inr (.inr (.inl ⟨t,a,ho,_,_,k1⟩))⟩
    simp only[ah,ho,k1,kg,h1,m3]
    rw[← q1,Ot q3]
    rfl
   ·cases h
  ·cases h
 ·rename_i args ats ho
  split at h
  ·rename_i x t ha ht
   split at h
   ·rename_i e s lK agg sz z g' k h1 h2
    split at h
    ·rename_i e' l zz h4
     cases h
     have hg:=kI h4
     obtain⟨d,k1,k2⟩:=bC hR.env h2
     obtain⟨id,ds,rfl,m1,m2,m3,m4,m5,m6⟩:=DN hR hg k2 rfl
     refine⟨.val (.int .i64 (l.length:Nat)),id,fun aH => ?_,by simp only[RT],m1,.inr (.inr (.inr ⟨_,_,ho⟩))⟩
     simp only[ah,ho,ha,ht,h1,k1]
    ·cases h
   ·cases h
  ·cases h
 ·cases h
theorem CP {v:TV} {g:Nat} {c:Prop} (h:He ty tt te tS o=some (v,g,c)) (hc:c) (dr:Bool):Does P ty aM call yf B o nT te tS dr fun v' cT cU ft=>v'=v∧cT=te∧cU=tS∧ft=⟨some [g],false⟩:=by
 intro ι w env S aH hR hB hw hT hn hS
 obtain⟨d,id,h1,h2,h3,h4⟩:=CH (P:=P) (aM:=aM) (call:=call) (yf:=yf) h hc hR
 have hl:∃ l,aL P ty aM call yf (jb env) o S aH=some (d,S,⟨some l,false⟩)∧∀ j∈l,j=id:=by
  rcases h4 with ⟨t,a,f,ho,n,off,ha⟩ | ⟨t,a,i,ho,n,ag,ha⟩ | ⟨t,a,ho,n,off,ha⟩ | ⟨args,ats,ho⟩
  ·exact⟨[id],by simp only[aL,ho,ha,h1,Option.map_some],by simp⟩
  ·exact⟨[id],by simp only[aL,ho,ha,h1,Option.map_some],by simp⟩
  ·exact⟨[id],by simp only[aL,ho,ha,h1,Option.map_some],by simp⟩
  ·exact⟨[],by simp only[aL,ho,h1,Option.map_some],by simp⟩
 obtain⟨l,h5,h6⟩:=hl
 refine⟨d,S,ι,w,v,te,tS,⟨some l,false⟩,⟨some [g],false⟩,fun _=>h1 aH,fun _=>h5,⟨fun e=>e,fun l' iy => ?_⟩,fun l' m _ hm j hj => ?_,hR,h2,hw,fun _ _ _=>rfl,Fr.refl _ _ _,hB,gu _ _,rfl,rfl,rfl,rfl⟩
 ·cases iy
  exact⟨l,rfl,fun j hj=>⟨g,by simp,by rw[h6 j hj]; exact hw _ _ h3⟩⟩
 ·cases hm
  exact .inr ⟨g,by rw[h6 j hj]; exact h3⟩
theorem R5 {k:Nat} {v:TV} {g:Nat} {c:Prop} {Q:List TV→Prop} (ho:ops[k]? = some o) (hw:eS ops te o=some true) (h:He ty tt te tS o=some (v,g,c)) (hc:c) (hq:WQ P ty aM call yf ops tS (k+1) (mZ te o.dst v) Q):WQ P ty aM call yf ops tS k te Q:=by
 intro ι env S hR
 obtain⟨d,id,h1,h2,h3,h4⟩:=CH (P:=P) (aM:=aM) (call:=call) (yf:=yf) h hc hR
 obtain⟨aD,cT,n1,n2,n3⟩:=hq ι (gV env o.dst d) S (nB hR h2 _)
 refine⟨aD,cT,?_,n2,n3⟩
 rw[nF ho]
 have hq:dc P ty aM call yf (jb env) o S=some d:=by
  rcases h4 with ⟨t,a,f,ho,n,off,ha⟩ | ⟨t,a,i,ho,n,ag,ha⟩ | ⟨t,a,ho,n,off,ha⟩ | ⟨args,ats,ho⟩<;>simp only[dc,ho,h1,Option.map_some]
 simp only[pn,iF hR.env hw,if_true,hq,n1]
end Go.Tv
end
section
namespace Go.Tv
open Go Go.Di Go.Proofs
variable {P:Program} {ty:ir} {tt:TypeId→Option TT} {ι ι' w:mm} {S S':ax} {te mW:List TV} {env:List DV} {tS jR:List TB} {aM:bV} {call:bP} {yf:fI} {o:Oper} {aH nT:Nat} {B:List Nat} {ops:Array Oper}
theorem ry (h:cK ι te tS env S) (hT:ye tS nT) (hn:yg S aH) {t:TT} {e:Nat} {l:List t.den} {ds:List DV} (h0:0<t.size) (h1:(t.agg||t.size==1)=true) (hf:fF t l ds):cK (upd ι nT aH) te (sg tS nT (.rows t e l false)) env (eV S aH (.op e t.size ds false)):=by
 have K:=uf h hT hn (.op e t.size ds false)
 refine⟨bU K _ _ h.env,fun k l hk => ?_,fun k e s hk t ht => ?_,fun k k' hk => ?_,fun i j k' hi hj => ?_,fun k b hk t0 ht => ?_⟩
 ·rw[cL hT] at hk
  split at hk
  ·cases hk
  ·rename_i e
   obtain⟨k',gR,h1,h2,h3⟩:=h.cells k l hk
   exact⟨k',gR,by simp only[upd,e,if_false]; exact h1,by rw[bz hn,if_neg (h.dI hn h1)]; exact h2,bU K _ _ h3⟩
 ·rw[cL hT] at hk
  split at hk
  ·cases hk
  ·rename_i e'
   simp only[upd,e',if_false] at ht
   obtain⟨n,h1⟩:=h.own k e s hk t ht
   exact⟨n,by rw[bz hn,if_neg (h.dI hn ht)]; exact h1⟩
 ·rw[cL hT]
  split
  ·exact⟨_,rfl,fun e=>by cases e⟩
  ·rename_i e
   simp only[upd,e,if_false] at hk
   exact h.xY k k' hk
 ·unfold upd at hi hj
  split at hi<;>split at hj
  ·omega
  ·cases hi; exact(h.dI hn hj rfl).elim
  ·cases hj; exact(h.dI hn hi rfl).elim
  ·exact h.inj i j k' hi hj
 ·rw[cL hT] at hk
  split at hk
  ·rename_i e'
   cases hk
   simp only[upd,e',if_true,aB] at ht
   subst ht
   rw[bz hn,if_pos rfl]
   exact⟨h0,h1,ds,rfl,hf⟩
  ·rename_i e'
   simp only[upd,e',if_false] at ht
   rw[bz hn,if_neg (h.dI hn ht)]; exact h.mp k b hk t0 ht
theorem xN (h:cK ι te tS env S) {g id:Nat} {t:TT} {e:Nat} {l l':List t.den} {ds gR:List DV} {z z':Bool} (hi:ι g=some id) (hg:tS[g]? = some (.rows t e l z)) (hS:S[id]? = some (.op e t.size ds z)) (hl:gR.length=ds.length) (h0:0<t.size) (h1:(t.agg||t.size==1)=true) (hf:fF t l' gR):cK ι te (tS.set g (.rows t e l' z')) env (S.set id (.op e t.size gR z')):=by
 have hlt:=(aJ.1 hg).1
 have P6:=(aJ.1 hS).1
 have K:lU ι S ι (S.set id (.op e t.size gR z')) fun _=>False:=fun a b _ pO=>⟨pO,by
  rw[aQ]
  split
  ·rename_i e1
   subst e1
   rw[hS]
   exact⟨fun _ _ _ h=>(nomatch h),fun e s l z h=>(by cases h; exact⟨gR,z',rfl,hl⟩)⟩
  ·exact fR rfl⟩
 have XM:∀ j,(tS.set g (.rows t e l' z'))[j]? = if j=g then some (.rows t e l' z') else tS[j]? := fun j=>by
  rw[aQ]
  by_cases e:j=g
  ·subst e; simp[hlt]
  ·rw[if_neg (Ne.symm e),if_neg e]
 have lQ:∀ j,j≠id→(S.set id (.op e t.size gR z'))[j]? = S[j]? := fun j hj=>by rw[aQ,if_neg (Ne.symm hj)]
 refine⟨bU K _ _ h.env,fun j m hj => ?_,fun j e s hj t ht => ?_,fun j j' hj => ?_,h.inj,fun j b hj t0 ht => ?_⟩
 ·rw[XM] at hj
  split at hj
  ·cases hj
  ·rename_i e
   obtain⟨j',Nk,h1,h2,h3⟩:=h.cells j m hj
   exact⟨j',Nk,h1,by rw[lQ j' fun e1=>e (h.inj _ _ _ (e1▸h1) hi)]; exact h2,bU K _ _ h3⟩
 ·rw[XM] at hj
  split at hj
  ·cases hj
  ·obtain⟨n,h1⟩:=h.own j e s hj t ht
   exact⟨n,(K j t (fun e=>e) ht).2.1 _ _ _ h1⟩
 ·rw[XM]
  split
  ·exact⟨_,rfl,by simp⟩
  ·exact h.xY j j' hj
 ·rw[XM] at hj
  split at hj
  ·rename_i e
   subst e
   cases hj
   rw[hi] at ht
   cases ht
   rw[aQ,if_pos rfl,if_pos P6]
   exact⟨h0,h1,gR,rfl,hf⟩
  ·rename_i e
   rw[lQ t0 fun e1=>e (h.inj _ _ _ (e1▸ht) hi)]
   exact h.mp j b hj t0 ht
theorem Xc {g:Nat} {b:TB} {x:Option DB} (h:aab b x):aab (rR g b) x:=by cases b<;>exact h
theorem TY {g:Nat} {b:TB}:rR g b = .none→b = .none:=by cases b<;>simp[rR]
theorem Dt (h:cK ι te tS env S) {g id:Nat} {t:TT} {e:Nat} {l l':List t.den} {ds gR:List DV} {z:Bool} (hi:ι g=some id) (hg:tS[g]? = some (.rows t e l z)) (hS:S[id]? = some (.op e t.size ds z)) (h0:0<t.size) (h1:(t.agg||t.size==1)=true) (hf:fF t l' gR):cK ι (wI g te) ((tS.map (rR g)).set g (.rows t e l' false)) env (S.set id (.op e t.size gR false)):=by
 have hlt:=(aJ.1 hg).1
 have P6:=(aJ.1 hS).1
 have lQ:∀ j,j≠id→(S.set id (.op e t.size gR false))[j]? = S[j]? := fun j hj=>by rw[aQ,if_neg (Ne.symm hj)]
 have K:lU ι S ι (S.set id (.op e t.size gR false)) fun k=>k=g:=fun a b ha pO=>⟨pO,fR (lQ b fun e1=>ha (h.inj _ _ _ (e1▸pO) hi))⟩
 have XM:∀ j b,((tS.map (rR g)).set g (.rows t e l' false))[j]? = some b→(j=g∧b = .rows t e l' false)∨(j≠g∧∃ b0,tS[j]? = some b0∧b=rR g b0):=fun j b hj=>by
  rw[aQ] at hj
  split at hj
  ·rename_i e1
   subst e1
   rw[if_pos (by simpa using hlt)] at hj
   cases hj
   exact .inl ⟨rfl,rfl⟩
  ·rename_i e1
   simp only[eE,ai] at hj
   obtain⟨b0,h2,h3⟩:=hj
   exact .inr ⟨fun e=>e1 e.symm,b0,h2,h3.symm⟩
 refine⟨nA K _ _ h.env,fun j m hj => ?_,fun j e s hj t ht => ?_,fun j j' hj => ?_,h.inj,fun j b hj t0 ht => ?_⟩
 ·rcases XM j _ hj with ⟨-,e1⟩ | ⟨hne,b0,h2,h3⟩
  ·cases e1
  ·cases b0<;>simp only[rR] at h3<;>first | (cases h3; done) | skip
   cases h3
   obtain⟨j',Nk,k1,k2,k3⟩:=h.cells j _ h2
   exact⟨j',Nk,k1,by rw[lQ j' fun e1=>hne (h.inj _ _ _ (e1▸k1) hi)]; exact k2,nA K _ _ k3⟩
 ·rcases XM j _ hj with ⟨-,e1⟩ | ⟨hne,b0,h2,h3⟩
  ·cases e1
  ·cases b0<;>simp only[rR] at h3<;>first | (cases h3; done) | skip
   cases h3
   obtain⟨n,k1⟩:=h.own j _ _ h2 t ht
   exact⟨n,(K j t hne ht).2.1 _ _ _ k1⟩
 ·rw[aQ]
  split
  ·rename_i e1
   rw[if_pos (by simpa using hlt)]
   exact⟨_,rfl,by simp⟩
  ·obtain⟨b,h2,h3⟩:=h.xY j j' hj
   exact⟨rR g b,by rw[eE,h2]; rfl,fun e1=>h3 (TY e1)⟩
 ·rcases XM j _ hj with ⟨rfl,rfl⟩ | ⟨hne,b0,h2,rfl⟩
  ·rw[hi] at ht
   cases ht
   rw[aQ,if_pos rfl,if_pos P6]
   exact⟨h0,h1,gR,rfl,hf⟩
  ·rw[lQ t0 fun e1=>hne (h.inj _ _ _ (e1▸ht) hi)]
   exact Xc (h.mp j b0 h2 t0 ht)
theorem IF {g:Nat} {t t':TT} {e e':Nat} {l:List t.den} {l':List t'.den} {z z':Bool} (hB:pg B tS) (hl:tS[g]? = some (.rows t e l z)):pg B (tS.set g (.rows t' e' l' z')):=fun k hk=>by
 obtain⟨c,hc⟩:=hB k hk
 refine⟨c,?_⟩
 rw[aQ,if_neg]
 ·exact hc
 ·rintro rfl; rw[hl] at hc; cases hc
theorem IG {g:Nat} {t t':TT} {e e':Nat} {l:List t.den} {l':List t'.den} {z z':Bool} (hB:pg B tS) (hl:tS[g]? = some (.rows t e l z)):pg B ((tS.map (rR g)).set g (.rows t' e' l' z')):=fun k hk=>by
 obtain⟨c,hc⟩:=hB k hk
 refine⟨wI g c,?_⟩
 rw[aQ,if_neg]
 ·rw[eE,hc]; rfl
 ·rintro rfl; rw[hl] at hc; cases hc
theorem Ee:∀ {S:ax} {i:Nat} {b:DB},S[i]? = some b→S.set i b=S
 | [],_,_,h=>by simp at h
 | _::_,0,_,h=>by simp only[List.getElem?_cons_zero,aB] at h; rw[h]; rfl
 | a::l,n+1,b,h=>by rw[List.set_cons_succ,Ee (by simpa using h)]
theorem CO {g:Nat} {jR:List TB} (h:Qr ty tt te tS o=some (g,jR)) (dr:Bool):Does P ty aM call yf B o nT te tS dr fun v' cT cU ft=>v' = .unk∧cT=te∧cU=jR∧ft=⟨some [g],true⟩:=by
 intro ι w env S aH hR hB hw hT hn hS
 unfold Qr at h
 split at h
 rotate_left
 ·cases h
 rename_i t a x ho
 split at h
 rotate_left
 ·cases h
 rename_i td g' k i off v h1 h2 h3
 split at h
 rotate_left
 ·cases h
 rename_i e l h4
 split at h
 rotate_left
 ·cases h
 rename_i hc
 simp only[aI,ek] at hc
 obtain⟨c1,c2⟩:=hc
 split at h
 rotate_left
 ·cases h
 rename_i cs h5
 split at h
 rotate_left
 ·cases h
 rename_i y h6
 cases h
 have hg:=kI h4
 obtain⟨d,k1,k2⟩:=bC hR.env h2
 obtain⟨id,ds,rfl,m1,m2,m3,m4,m5,m6,m7⟩:=X3 hR hg k2
 simp only[ai] at h3
 obtain⟨u,h7,h8⟩:=h3
 obtain⟨dv,k4,k5⟩:=bC hR.env h7
 have k6:=cN (tt:=tt) (t:=t) k5
 rw[h8] at k6
 have k7:=sP (Ir c1) k6
 obtain⟨pre,c,post,rfl,q1,q2,q3⟩:=vY m4 m5
 obtain⟨c',r1,r2⟩:=FW (oz (ι:=ι) (S:=S) q2) k7 h5
 have hst:=Gg c1 k6
 obtain⟨cc,m',e1,e2,e3⟩:=DU h6 r2
 rw[aU e3,ff] at e1
 subst e1
 have hle:off+dv.cells.length≤c.length:=by
  unfold uA at r1
  split at r1
  ·assumption
  ·cases r1
 have hc':c'=c.take off++dv.cells++c.drop (off+dv.cells.length):=by
  unfold uA at r1
  rw[if_pos hle] at r1
  exact(cA r1).symm
 have hlen:dv.strip.cells.length=dv.cells.length:=by rw[hst]; simp
 have nW:uA c off dv.strip.cells=some (c.take off++dv.strip.cells++c.drop (off+dv.cells.length)):=by
  unfold uA
  rw[hlen,if_pos hle]
 have hm:(c.take off++dv.strip.cells++c.drop (off+dv.cells.length)).map DV.aV=c'.map DV.aV:=by
  rw[hc',hst]
  simp only[gm,List.map_map]
  congr 2
  exact List.map_congr_left fun d _=>Ds d
 have hpa:=qM e2
 have hps:dv.strip.cells.all DV.ck=true:=by
  rw[hc',gm,gm,mA,mA,← hst] at hpa
  simp only[aI] at hpa
  exact hpa.1.2
 have Nd:=qM q2
 have hcr:CR k y (c.take off++dv.strip.cells++c.drop (off+dv.cells.length)):=by
  refine Ck (by rw[hm]; exact e2) ?_
  rw[mA,mA,hps]
  simp only[Bool.and_true,aI,bt] at Nd ⊢
  exact⟨fun d hd=>Nd d (List.mem_of_mem_take hd),fun d hd=>Nd d (List.mem_of_mem_drop hd)⟩
 have hsz:dv.strip.cells.length=td.size:=by rw[hlen,iB k7]; exact c2
 have Ai:oq ty S t (.fC id l.length (i*k.size+off)) dv=some (S.set id (.op e k.size (pre++(c.take off++dv.strip.cells++c.drop (off+dv.cells.length))++post) false)):=by
  simp only[oq,h1,m3,hsz,hps,decide_true,gA,if_true]
  rw[← q1,SQ nW]
  rfl
 have tB:(pre++(c.take off++dv.strip.cells++c.drop (off+dv.cells.length))++post).length=(pre++c++post).length:=by
  simp only[b9,iD,List.length_drop,hlen]
  omega
 refine⟨bh,_,ι,w,.unk,te,_,⟨some [id],true⟩,⟨some [g],true⟩,fun _ => ?_,fun _ => ?_,⟨fun e=>e,fun l' iy => ?_⟩,fun l' m _ hm j hj => ?_,xN hR m1 hg m2 tB m6 m7 (q3 y _ hcr),by simp only[RT],hw,fun _ _ _=>rfl,yu m1,IF hB hg,ym m2 (fun e=>by cases e),rfl,rfl,rfl,rfl⟩
 ·simp only[ah,ho,k1,k4,Ai,Option.map_some]
 ·simp only[aL,ho,k1,ah,k4,Ai,Option.map_some]
 ·cases iy
  exact⟨[id],rfl,fun j hj=>⟨g,by simp,by simp only[bN] at hj; rw[hj]; exact hw _ _ m1⟩⟩
 ·cases hm
  simp only[bN] at hj
  exact .inr ⟨g,hj▸m1⟩
theorem K5 {v:TV} {mW:List TV} {jR:List TB} {c:Prop} (h:Qq ty tt te tS o nT=some (v,mW,jR,c)) (hc:c):Does P ty aM call yf B o nT te tS false fun v' cT cU _=>v'=v∧cT=mW∧cU=jR:=by
 intro ι w env S aH hR hB hw hT hn hS
 unfold Qq at h
 split at h
 ·rename_i t a b ho
  split at h
  rotate_left
  ·cases h
  rename_i e s lK agg sz z0 n m k h1 h2 h3 h4
  split at h
  rotate_left
  ·cases h
  rename_i k0 sz' z h5
  split at h
  rotate_left
  ·cases h
  rename_i x h6
  split at h
  rotate_left
  ·cases h
  rename_i PJ
  cases h
  simp only[aI,bJ,ek] at PJ
  obtain⟨⟨⟨⟨c1,c2⟩,c3⟩,c4⟩,c5⟩:=PJ
  obtain⟨rfl,d2,d3⟩:=hc
  obtain⟨cc,m',e1,e2,e3⟩:=DU h6 (tG (ι:=ι) (S:=S) z)
  rw[aU e3,ff] at e1
  subst e1
  have hi1:intOf (jb env) a=some m:=oU hR.env h2
  have hi2:intOf (jb env) b=some m:=oU hR.env h3
  have h0:0<k.size:=by omega
  have h01:(k.agg||k.size==1)=true:=by rw[c3,c2]; exact c4
  have hb:m.toNat*lK≤fG:=by
   have:m.toNat≤1000000000:=by omega
   calc m.toNat*lK≤1000000000*100000:=Nat.mul_le_mul this c5
    _≤fG:=by decide
  have mP:=ry hR hT hn h0 h01 (e:=e) (Ce e2 m.toNat)
  rw[c2] at mP
  refine⟨.jD aH m.toNat agg,eV S aH (.op e s (List.replicate m.toNat (z.map DV.aV)).flatten false),upd ι nT aH,upd w aH nT,.so nT k,te,_,⟨none,true⟩,⟨none,true⟩,fun _ => ?_,fun hd=>(by cases hd),⟨fun e=>e,fun l hl=>(by cases hl)⟩,fun l m hl=>(by cases hl),mP,?_,qH hR hn hT hw,fun hd=>(by cases hd),sK hn (nG hB hT),lF hB hT,oS hn,rfl,rfl,rfl⟩
  ·have hpz:=qM e2
   simp only[ah,ho,h1,hi1,hi2,h5,d2,c1,c4,hb,hpz,decide_true,gA,if_true,show m≤140737488355328-4096 by omega]
  ·simp only[RT,upd,if_true]
   refine⟨trivial,c3.symm,e,s,_,false,by rw[bz hn,if_pos rfl],?_⟩
   have:=iS (Ce e2 m.toNat)
   rw[this,List.length_replicate,c2]
 ·rename_i t n ps ho
  split at h
  rotate_left
  ·cases h
  rename_i hh
  split at h
  rotate_left
  ·cases h
  rename_i e s lK agg sz z0 l k h1 h2 h3
  split at h
  rotate_left
  ·cases h
  rename_i k0 sz' z h4
  split at h
  rotate_left
  ·cases h
  rename_i PJ
  simp only[aI,ek,iZ,bJ] at PJ
  obtain⟨⟨⟨⟨⟨⟨c1,c2⟩,c3⟩,c4⟩,c5⟩,c6⟩,c7⟩:=PJ
  simp only[ai,ay] at h
  obtain⟨w0,h5,rfl,rfl,rfl,-⟩:=h
  obtain⟨ds,k1,k2⟩:=qn hR.env h2
  obtain⟨k3,k4⟩:=Cj k2 h5
  have hlen:ds.length=n:=by rw[yK k2,c3]
  have ZJ:((List.replicate n z).flatten).length=ds.length*s:=by
   rw[hlen,List.length_flatten,List.map_replicate,c4,List.sum_replicate_nat]
  have hf:=we (pre:=[]) (post:=(List.replicate n z).flatten) c5 k3 (by simp) ZJ
  rw[List.nil_append,List.nil_append] at hf
  have Jj:w0.length=n:=by rw[k4,c3]
  have c7':(agg||s==1)=true:=by simpa using c7
  have wC:=ve k3
  have h0:0<k.size:=by omega
  have h01:(k.agg||k.size==1)=true:=by rw[c6,c5]; exact c7'
  have mP:=ry hR hT hn h0 h01 (e:=e) wC
  rw[c5] at mP
  refine⟨.jD aH n agg,eV S aH (.op e s (jo ds) false),upd ι nT aH,upd w aH nT,.so nT k,te,_,⟨none,true⟩,⟨none,true⟩,fun _ => ?_,fun hd=>(by cases hd),⟨fun e=>e,fun l hl=>(by cases hl)⟩,fun l m hl=>(by cases hl),mP,?_,qH hR hn hT hw,fun hd=>(by cases hd),sK hn (nG hB hT),lF hB hT,oS hn,rfl,rfl,rfl⟩
  ·simp only[ah,ho,h1,k1,h4,gB c1,gB c2,gA,if_true,hf,vM k3,c7',hh]
  ·simp only[RT,upd,if_true]
   refine⟨trivial,c6.symm,e,s,_,false,by rw[bz hn,if_pos rfl],?_⟩
   rw[iS wC,Jj,c5]
 ·rename_i args ats ho
  split at h
  rotate_left
  ·cases h
  rename_i x y t u ha ht
  split at h
  rotate_left
  ·cases h
  rename_i PA
  subst PA
  split at h
  ·
   rename_i g k h2
   split at h
   rotate_left
   ·cases h
   rename_i e s lK agg sz z0 k' m ap h1 h3
   split at h
   rotate_left
   ·cases h
   rename_i Nf
   subst Nf
   split at h
   rotate_left
   ·cases h
   rename_i e' l k0 sz' z h4 h5
   split at h
   rotate_left
   ·cases h
   rename_i PJ
   cases h
   simp only[aI,ek,bJ] at PJ
   obtain⟨⟨⟨c1,c2⟩,c3⟩,c4⟩:=PJ
   subst c1
   have hg:=kI h4
   obtain⟨d,k1,k2⟩:=bC hR.env h2
   obtain⟨id,ds,rfl,m1,m2,m3,m4,m5,m6⟩:=DN hR hg k2 rfl
   simp only[ai] at h3
   obtain⟨uy,e1,e2⟩:=h3
   obtain⟨db,k4,k5⟩:=bC hR.env e1
   have k6:=cN (tt:=tt) (t:=t) k5
   rw[e2] at k6
   cases db<;>simp only[RT] at k6
   rename_i news tok f
   obtain⟨k6,-⟩:=k6
   have Pd:=lz k6
   have lT:=jA k6
   have wC:=Iu m4 (rC k6)
   have mP:=Dt hR m1 hg m2 m5 m6 wC
   have hb:(l.length+news.length)*lK≤fG:=by
    have:l.length+news.length≤1000000000:=by rw[Pd]; exact hc
    calc (l.length+news.length)*lK≤1000000000*100000:=Nat.mul_le_mul this c4
     _≤fG:=by decide
   have oJ:(agg||s==1)=true:=by rw[← c3,← c2]; exact m6
   have iy:=iS m4
   have PK:nH ty S aH t (.jD id l.length k'.agg) (.sl news tok f)=if news.isEmpty then some (.jD id l.length k'.agg,S) else some (.jD id (l.length+news.length) agg,S.set id (.op e' k'.size (ds++flat news) false)):=by
    simp only[nH,h1,h5]
    rw[if_pos,m3]
    ·simp only[c2,decide_true,gA,if_true]
    ·simp only[aI,bJ,bt]
     refine⟨⟨⟨⟨by omega,oJ⟩,hb⟩,?_⟩,fun r hr=>by rw[lT r hr,c2]⟩
     have:l.length+news.length≤1000000000:=by rw[Pd]; exact hc
     omega
   have hst:∀ d S',nH ty S aH t (.jD id l.length k'.agg) (.sl news tok f)=some (d,S')→ah P ty aM call yf (jb env) o S aH=some (d,S'):=fun d S' h=>by
    simp only[ah,ho,ha,ht,if_true,k1,k4,h]
   have pz:∀ d S',(d = .jD id (l.length+news.length) agg)→S'=S.set id (.op e' k'.size (ds++flat news) false)→RT ι S' (.so g k') d:=fun d S' hd Ax=>by
    subst hd Ax
    have hlt:=(aJ.1 m2).1
    simp only[RT]
    refine⟨m1,c3.symm,e',k'.size,_,false,by rw[aQ,if_pos rfl,if_pos hlt],?_⟩
    rw[iS wC,b9,Pd]
   by_cases Lk:news.isEmpty=true
   ·have JJ:news=[]:=by simpa using Lk
    subst JJ
    have hm:m=[]:=eF (by rw[← Pd]; rfl)
    subst hm
    have hSS:S.set id (.op e' k'.size (ds++flat []) false)=S:=by
     rw[show flat []=[] from rfl,ff]
     exact Ee m2
    rw[hSS] at mP
    rw[if_pos Lk] at PK
    have hrt:=pz (.jD id l.length k'.agg) S (by rw[c3]; rfl) hSS.symm
    refine⟨_,S,ι,w,.so g k',_,_,⟨none,true⟩,⟨none,true⟩,fun _=>hst _ _ PK,fun hd=>(by cases hd),⟨fun e=>e,fun l hl=>(by cases hl)⟩,fun l m hl=>(by cases hl),mP,hrt,hw,fun hd=>(by cases hd),Fr.refl _ _ _,?_,gu _ _,rfl,rfl,rfl⟩
    exact IG hB hg
   ·rw[if_neg Lk] at PK
    refine⟨_,_,ι,w,.so g k',_,_,⟨none,true⟩,⟨none,true⟩,fun _=>hst _ _ PK,fun hd=>(by cases hd),⟨fun e=>e,fun l hl=>(by cases hl)⟩,fun l m hl=>(by cases hl),mP,pz _ _ rfl rfl,hw,fun hd=>(by cases hd),yu m1,IG hB hg,ym m2 (fun e=>by cases e),rfl,rfl,rfl⟩
  ·
   rename_i v0 hno h2
   split at h
   rotate_left
   ·cases h
   rename_i hh
   split at h
   rotate_left
   ·cases h
   rename_i e s lK agg sz z0 k' a m ap h1 h3
   split at h
   rotate_left
   ·cases h
   rename_i k0 sz' z h5
   split at h
   rotate_left
   ·cases h
   rename_i PJ
   cases h
   simp only[aI,ek,bJ] at PJ
   obtain⟨⟨⟨⟨⟨c0,c1⟩,c2⟩,c3⟩,c4⟩,c5⟩:=PJ
   obtain⟨d,k1,k2⟩:=bC hR.env h2
   obtain⟨f0,rfl,wN⟩:∃ f0,d = .sl [] none f0∧f0.full=true:=by
    cases v0<;>first | (cases c0; done) | skip
    ·cases d<;>simp only[RT] at k2
     obtain⟨rfl,rfl,rfl⟩:=k2
     exact⟨_,rfl,rfl⟩
    ·rename_i k9 l9 ap9
     cases l9 with
     | cons=>simp[Qy] at c0
     | nil =>
      cases ap9<;>first | (simp[Qy] at c0; done) | skip
      cases d<;>simp only[RT] at k2
      rename_i rows tok f
      obtain⟨q1,rfl,q2⟩:=k2
      cases rows with
      | nil=>exact⟨f,rfl,q2⟩
      | cons=>exact q1.elim
   simp only[ai] at h3
   obtain⟨uy,e1,e2⟩:=h3
   obtain⟨db,k4,k5⟩:=bC hR.env e1
   have k6:=cN (tt:=tt) (t:=t) k5
   rw[e2] at k6
   cases db<;>simp only[RT] at k6
   rename_i news tok f
   obtain⟨k6,-⟩:=k6
   have Pd:=lz k6
   have lT:=jA k6
   have wC:=rC k6
   have h0:0<k'.size:=by omega
   have h01:(k'.agg||k'.size==1)=true:=by rw[c3,c2]; exact c4
   have mP:=ry hR hT hn h0 h01 (e:=e) wC
   rw[c2] at mP
   have hle:news.length≤1000000000:=by rw[Pd]; exact hc
   have hb:news.length*lK≤fG:=by
    calc news.length*lK≤1000000000*100000:=Nat.mul_le_mul hle c5
     _≤fG:=by decide
   have Lk:¬ (news.isEmpty=true):=by
    intro he
    have:news=[]:=by simpa using he
    rw[this] at Pd
    simp at Pd
   have PK:nH ty S aH t (.sl [] none f0) (.sl news tok f)=some (.jD aH news.length agg,eV S aH (.op e s (flat news) false)):=by
    simp only[nH,h1,h5]
    rw[if_neg Lk,if_pos]
    simp only[aI,bJ,bt]
    refine⟨⟨⟨⟨⟨wN,c1⟩,c4⟩,hb⟩,by omega⟩,fun r hr=>by rw[lT r hr,c2]⟩
   refine⟨.jD aH news.length agg,eV S aH (.op e s (flat news) false),upd ι nT aH,upd w aH nT,.so nT k',te,_,⟨none,true⟩,⟨none,true⟩,fun _ => ?_,fun hd=>(by cases hd),⟨fun e=>e,fun l hl=>(by cases hl)⟩,fun l m hl=>(by cases hl),mP,?_,qH hR hn hT hw,fun hd=>(by cases hd),sK hn (nG hB hT),lF hB hT,oS hn,rfl,rfl,rfl⟩
   ·simp only[ah,ho,ha,ht,if_true,k1,k4,hh,PK]
   ·simp only[RT,upd,if_true]
    refine⟨trivial,c3.symm,e,s,_,false,by rw[bz hn,if_pos rfl],?_⟩
    rw[iS wC,Pd,c2]
  ·cases h
 ·cases h
end Go.Tv
end
section
namespace Go.Tv
open Go Go.Di Go.Proofs
def DW (tS:List TB):TV→TV
 | .so g t=>match tS[g]? with
  | some (.rows t' _ l z)=>if h:t'=t then (match z with
    | true => .sl t (h▸l) .no
    | false => .so g t) else .unk
  | _ => .unk
 | v=>v
def vw (te:List TV) (tS:List TB) (x:Operand):List TB :=
 match iK te x with
 | some (.so g t)=>match j5 tS g t with
  | some (e,l,false)=>tS.set g (.rows t e l true)
  | _=>tS
 | _=>tS
def JF (te:List TV) (tS:List TB) (x:Operand):Bool :=
 match iK te x with
 | some .unk | none=>false
 | some (.so g t)=>(j5 tS g t).isSome
 | some _=>true
def JD (ty:ir) (te:List TV) (tS:List TB) (o:Oper):Option (List TV×List TB) :=
 match ty.h o with
 | 2=>if o.op.operands.toList.all (JF te tS) then some (te.map (DW (o.op.operands.toList.foldl (vw te) tS)),o.op.operands.toList.foldl (vw te) tS) else none
 | _=>some (te,tS)
variable {P:Program} {ty:ir} {tt:TypeId→Option TT} {ι ι' w:mm} {S S':ax} {te mW:List TV} {env:List DV} {tS jR:List TB} {aM:bV} {call:bP} {yf:fI} {o:Oper} {aH nT:Nat} {B:List Nat} {ops:Array Oper}
theorem Kz {g g':Nat} {t t':TT} {e e':Nat} {l:List t.den} {l':List t'.den} {z:Bool} (h:j5 tS g t=some (e,l,z)) (h':j5 tS g' t'=some (e',l',false)):(j5 (tS.set g' (.rows t' e' l' true)) g t).isSome=true:=by
 have h1:=kI h
 have h2:=kI h'
 by_cases e1:g'=g
 ·subst e1
  rw[h1] at h2
  cases h2
  unfold j5
  rw[aQ,if_pos rfl,if_pos (aJ.1 h1).1]
  simp
 ·have:j5 (tS.set g' (.rows t' e' l' true)) g t=j5 tS g t:=by
   unfold j5
   rw[aQ,if_neg e1]
  rw[this,h]; rfl
theorem Tc {x y:Operand} (h:JF te tS x=true):JF te (vw te tS y) x=true:=by
 unfold JF at h ⊢
 split at h
 ·cases h
 ·cases h
 ·rename_i g t hx
  unfold vw
  split
  ·split
   ·rename_i e' l' h2
    obtain⟨⟨e,l,z⟩,h1⟩:=Option.isSome_iff_exists.1 h
    exact Kz h1 h2
   ·exact h
  ·exact h
 ·rfl
theorem afg (hR:cK ι te tS env S) (hB:pg B tS) {x:Operand} (h:JF te tS x=true):cK ι te (vw te tS x) env (pR env S x)∧pg B (vw te tS x)∧Fr B ι S ι (pR env S x)∧∀ i,Nn i S (pR env S x):=by
 have same:vw te tS x=tS→pR env S x=S→cK ι te (vw te tS x) env (pR env S x)∧pg B (vw te tS x)∧Fr B ι S ι (pR env S x)∧∀ i,Nn i S (pR env S x):=fun h1 h2=>by rw[h1,h2]; exact⟨hR,hB,Fr.refl _ _ _,fun i=>gu _ _⟩
 unfold JF at h
 split at h
 ·cases h
 ·cases h
 ·rename_i g t hx
  obtain⟨⟨e,l,z⟩,h1⟩:=Option.isSome_iff_exists.1 h
  obtain⟨d,k1,k2⟩:=bC hR.env hx
  have hg:=kI h1
  obtain⟨id,ds,rfl,m1,m2,m3,m4,m5,m6⟩:=DN hR hg k2 rfl
  cases z with
  | true=>exact same (by simp only[vw,hx,h1]) (by simp only[pR,k1,uH,m3])
  | false =>
   have e1:vw te tS x=tS.set g (.rows t e l true):=by simp only[vw,hx,h1]
   have e2:pR env S x=S.set id (.op e t.size ds true):=by simp only[pR,k1,uH,m3]
   rw[e1,e2]
   exact⟨xN hR m1 hg m2 rfl m5 m6 m4,IF hB hg,yu m1,fun i=>ym m2 (fun e=>by cases e)⟩
 ·rename_i v h1 h2 hx
  obtain⟨d,k1,k2⟩:=bC hR.env hx
  refine same ?_ ?_
  ·unfold vw
   rw[hx]
   cases v<;>first | rfl | exact absurd rfl (h2 _ _)
  ·simp only[pR,k1]
   cases v<;>first | exact absurd rfl (h2 _ _) | exact absurd rfl h1 | skip
   all_goals cases d<;>simp only[RT] at k2<;>rfl
theorem acw:∀ (l:List Operand) {tS:List TB} {S:ax},cK ι te tS env S→pg B tS→l.all (JF te tS)=true→cK ι te (l.foldl (vw te) tS) env (l.foldl (pR env) S)∧pg B (l.foldl (vw te) tS)∧Fr B ι S ι (l.foldl (pR env) S)∧∀ i,Nn i S (l.foldl (pR env) S)
 | [],_,S,hR,hB,_=>⟨hR,hB,Fr.refl _ _ _,fun i=>gu _ _⟩
 | x::l,tS,S,hR,hB,h=>by
  simp only[List.all_cons,aI] at h
  obtain⟨h1,h2,h3,h4⟩:=afg hR hB h.1
  obtain⟨k1,k2,k3,k4⟩:=acw l h1 h2 (bt.2 fun y hy=>Tc (bt.1 h.2 y hy))
  refine⟨k1,k2,h3.trans k3,fun i=>⟨aS (h4 i).1 (k4 i).1,fun j hj hn=>(k4 i).2 j hj ((h4 i).2 j hj hn)⟩⟩
theorem WR (hR:cK ι mW tS env S) {v:TV} {d:DV} (h:RT ι S v d):RT ι S (DW tS v) (lS S d):=by
 cases v
 case so g t =>
  simp only[DW]
  split
  ·rename_i t' e l z hg
   split
   ·rename_i ht
    obtain⟨id,ds,rfl,m1,m2,m3,m4,m5,m6⟩:=DN hR hg h ht
    subst ht
    cases z with
    | true =>
     rw[MG m3 m5 m6]
     simp only[RT,uL,and_true]
     exact vZ m6 m4
    | false =>
     have:lS S (.jD id l.length t'.agg) = .jD id l.length t'.agg:=by simp only[lS,m3]
     rw[this]
     exact h
   ·simp only[RT]
  ·simp only[RT]
 case unk=>simp only[DW,RT]
 all_goals
  cases d<;>simp only[RT] at h
  simp only[DW,lS,RT]
  exact h
theorem Io (hR:cK ι mW tS env S):∀ {l:List TV} {m:List DV},dw ι S l m→dw ι S (l.map (DW tS)) (m.map (lS S))
 | [],m,h=>by rw[aU h]; exact cF
 | a::l,m,h=>by
  obtain⟨d,m',rfl,h1,h2⟩:=aj h
  exact aP (WR hR h1) (Io hR h2)
theorem aaZ (hR:cK ι te tS env S) (hB:pg B tS) (h:JD ty te tS o=some (mW,jR)):cK ι mW jR (Dj ty o env S).1 (Dj ty o env S).2∧pg B jR∧Fr B ι S ι (Dj ty o env S).2∧Nn S.length S (Dj ty o env S).2:=by
 unfold JD at h
 unfold Dj
 split at h
 ·rename_i hh
  split at h
  ·rename_i jF
   cases h
   obtain⟨h1,h2,h3,h4⟩:=acw (env:=env) _ hR hB jF
   simp only[hh]
   exact⟨⟨Io h1 h1.env,h1.cells,h1.own,h1.xY,h1.inj,h1.mp⟩,h2,h3,h4 _⟩
  ·cases h
 ·rename_i hh
  cases h
  simp only[]
  exact⟨hR,hB,Fr.refl _ _ _,gu _ _⟩
theorem om {k:Nat} (ho:ops[k]? = some o) (hw:eS ops te o=some true) (hp:JD ty te tS o=some (mW,jR)) {Q:List TV→List TB→Prop} {K:TV→List TV→List TB→dD→Prop} (hd:Does P ty aM call yf B o jR.length mW jR false K)
  (h:∀ v cT cU ft,K v cT cU ft→WL P ty aM call yf B ops (k+1) (mZ cT o.dst v) cU Q):WL P ty aM call yf B ops k te tS Q:=by
 intro ι env S hR hB
 obtain⟨Pk,Nj,hF1,hN1⟩:=aaZ (o:=o) hR hB hp
 generalize wF:Dj ty o env S=pr at Pk hF1 hN1
 obtain⟨mH,S1⟩:=pr
 obtain⟨w,hwk⟩:=JP Pk
 obtain⟨d,S',ι',w',v,cT,cU,f,ft,h1,-,-,-,h5,h6,-,-,h9,x6,GQ,XW⟩:=hd ι w mH S1 S1.length Pk Nj hwk (.inr rfl) (.inr rfl) (fun e=>by cases e)
 obtain⟨aD,vk,ι'',vq,vr,k1,k2,k3,k4,k5,k6⟩:=h v cT cU ft XW ι' (gV mH o.dst d) S' (nB h5 h6 _) x6
 refine⟨aD,vk,ι'',vq,vr,?_,k2,k3,(hF1.trans h9).trans k4,sS hN1 (sS GQ k5),k6⟩
 rw[nF ho]
 simp only[E8,iF hR.env hw,if_true,wF,h1 rfl,k1]
end Go.Tv
end
