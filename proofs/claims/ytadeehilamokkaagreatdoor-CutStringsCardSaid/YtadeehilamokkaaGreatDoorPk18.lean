import Derived.Test.YtadeehilamokkaaGreatDoorPk17
set_option maxHeartbeats 1000000
namespace Go.Di
open Go
variable {P:Program} {ty:fo} {x:Cx} {w':World} {aD:bT} {call:bg} {yf:dx} {ρd:Operand->Option DV} {ρ:Operand->Value} {o:Oper} {aB:Nat}
theorem Ht{s:Nat}:∀{rows:cn}(_:∀r∈rows,r.cells.length=s)(h:Nat),flat (rows.take h)=(flat rows).take (h*s)
 |[],_,h=>by simp[flat]
 |r::rows,hs,0=>by simp[flat]
 |r::rows,hs,h+1=>by
  have h0:=hs r ae;have ih:=Ht (rows:=rows) (λr hr=>hs r (by simp[hr])) h;simp only[flat]at ih;simp only[List.take_succ_cons,flat,dm,ih];have e1:r.cells.take ((h+1)*s)=r.cells:=List.take_of_length_le (by rw[h0,ni];omega);have e2:(h+1)*s-s=h*s:=by rw[ni];omega
  rw[List.take_append,h0,e1,e2]
theorem Hy{s:Nat}:∀{rows:cn}(_:∀r∈rows,r.cells.length=s)(l:Nat),flat (rows.drop l)=(flat rows).drop (l*s)
 |[],_,l=>by simp[flat]
 |r::rows,hs,0=>ae
 |r::rows,hs,l+1=>by
  have h0:=hs r ae;have ih:=Hy (rows:=rows) (λr hr=>hs r (by simp[hr])) l;simp only[flat]at ih;simp only[List.drop_succ_cons,flat,dm,ih];have e1:r.cells.drop ((l+1)*s)=[]:=List.drop_of_length_le (by rw[h0,ni];omega);have e2:(l+1)*s-s=l*s:=by rw[ni];omega
  rw[yW,h0,e1,e2,gu]
theorem Bm{ρd:Operand->Option DV}{ρ:Operand->Value}(hρ:xw x ρd ρ){a:Operand}{we n:Nat}{d:Nat}(h:gQ ρd (some a) d we=some n)(y:Nat)(hy:we<=y)(code:BoundsCode)(w:World):n<=we/\(Instr.sliceBound (ρ a) y code).run P w=.ok n w:=by unfold gQ at h;simp only at h;split at h;rename_i i hi;split at h;rename_i hc;cases h;obtain⟨k,hk⟩:=nJ hρ hi;refine⟨hc.2,?_⟩;have Ae:0<=i/\i<=(y:Int):=⟨hc.1,ab⟩;simp only[Instr.sliceBound,hk,asIntOf,Sem.run_bind,Sem.run_pure,Result.andThen_ok,Ae,and_self,if_true];cases h;cases h
theorem WN{rows:cn}{tok:Option Nat}{f:SF}{A:Option Addr}{n cap:Nat}(h:RV x (.sl rows tok f) (.slice A n cap)):∀b,Nk rows f=some b->A.isNone=b:=by
 intro b hb;cases h with
 |sl hv hr h1 h2 h3 hsp h4=>
  unfold Nk at hb;split at hb;exact h2.2 b hb;rename_i hne;cases hb;cases A with
  |none=>have:=h3 rfl;have h0:rows=[]:=eE ab;exact absurd (by simp[h0]) hne
  |some ad=>rfl
theorem TE(eV:j6 P ty){op:BinOp}{t:TypeId}{a b:Operand}{d:DV}(hρ:xw x ρd ρ)(h:DO ty op t (ρd a) (ρd b)=some d):
  ∃v,(do eqGuard op t a b (ρ a) (ρ b);binOp op t (ρ a) (ρ b):Sem Value).run P x.w=.ok v x.w/\RV x d v:=by
 unfold DO at h;split at h;rename_i rows tok f adz f2 ha hb;have ra:=hρ a _ ha;have rb:=hρ b _ hb;generalize ρ a=va at ra⊢;generalize ρ b=vb at rb⊢;split at h;rename_i e s iU agg sz z c htt hn;obtain⟨hk,it,-,-,-⟩:=bZ (eV t _ htt);obtain⟨hu,-⟩:=lW hk;have ra0:=ra;have rb0:=rb;cases ra with
 |@sl _ _ _ A cap s1 vs1 Rw Ad k1 k2 k3 k4 k5=>
  cases rb with
  |@sl _ _ _ A2 tD s2 vs2 Zo J3 m1 m2 m3 m4 m5=>
   have hA:=WN ra0 c hn;have hA2:=m2.2 true rfl;have:A2=none:=by simpa using hA2
   subst this;have heq:(Op.equal t (.slice A rows.length cap) (.slice none 0 tD)).run P x.w=.ok c x.w:=by subst hA;obtain⟨n,qc⟩:∃n,Op.maxDepth=n+1:=⟨9999,rfl⟩;cases A<;>simp only[Op.equal,qc,Op.equalIn,Sem.run_bind,run_underlying hu,Result.andThen_ok,Sem.run_pure,Option.isNone_none,Option.isNone_some]
   split at h;cases h;exact⟨.bool c,by simp[eqGuard,binOp,heq],.val rfl⟩;cases h;exact⟨.bool (!c),by simp[eqGuard,binOp,heq],.val rfl⟩;cases h
 cases h;cases h
theorem Yq(eV:j6 P ty)(hR:Rel x)(hρ:xw x ρd ρ){t e:TypeId}{s iU sz:Nat}{agg:Bool}{z:Option cn}(htt:ty t=some ⟨.slice e s iU agg,sz,z⟩){rows:cn}{tok:Option Nat}{full:SF}{va:Value}(ha:RV x (.sl rows tok full) va)(mw:∀r∈rows,r.cells.length=s)
  {lo hi mx:Option Operand} {m h l:Nat} {d:DV} (hm:gQ ρd mx rows.length rows.length=some m) (hh:gQ ρd hi rows.length m=some h) (hl:gQ ρd lo 0 h=some l) (hhm:(hi.isNone&&mx.isSome)=false) (hd:rY rows full l h (mx.map λ_=>m)=some d):
  Yields x ((do pure (.value (<-Instr.sliceAt t va (lo.map ρ) (hi.map ρ) (mx.map ρ))):Sem Next).run P x.w) d x.S:=by
 obtain⟨hk,it,-,-,-⟩:=bZ (eV t _ htt);obtain⟨hu,ie,tn,rS,-,-⟩:=lW hk;have x7:=gT mw;have Gc:=ha;cases ha with
 |@sl _ _ _ A cap s1 vs1 Rw Ad k1 k2 k3 k4 k5=>
  obtain⟨-,-,-,-,-,hsp,hpR,ws,hwl,Uo,hc,-⟩:=ur Gc mw;have agr:=WN Gc;have hbm:m<=rows.length/\∃M,(∀w:World,(match mx.map ρ with|some v=>Instr.sliceBound v cap .slice3Acap|none=>pure cap:Sem Nat).run P w=.ok M w)/\m<=M/\M<=cap/\(mx.isSome=true->M=m)/\(mx=none->M=cap/\m=rows.length):=by
   cases mx with
   |none=>simp only[gQ,aF]at hm;subst hm;exact⟨ai _,cap,λw=>rfl,k1,ai _,ae,λ_=>⟨rfl,rfl⟩⟩
   |some a=>have:=λw=>Bm (P:=P) hρ hm cap k1 .slice3Acap w;exact⟨(this default).1,m,λw=>(this w).2,ai _,bt (this default).1 k1,λ_=>rfl,ae⟩
  obtain⟨hmr,M,hM,hmM,hMc,hMs,hMn⟩:=hbm;have hbh:h<=rows.length/\h<=M/\∀w:World,(match hi.map ρ,mx.map ρ with|some v,some _=>Instr.sliceBound v M .slice3B|some v,none=>Instr.sliceBound v M .sliceAcap|none,none=>pure rows.length|none,some _=>stuck "Slice: max without high":Sem Nat).run P w=.ok h w:=by
   cases hi with
   |none=>
    cases mx with
    |none=>simp only[gQ,aF]at hh;subst hh;exact⟨ai _,by rw[(hMn rfl).1];exact k1,λw=>rfl⟩
    |some a=>simp at hhm
   |some b=>
    have q1:=λc w=>Bm (P:=P) hρ hh M hmM c w;have q2:=(q1 .slice3B default).1;refine⟨bt q2 hmr,bt q2 hmM,λw=>?_⟩;cases mx with
    |none=>exact(q1 .sliceAcap w).2
    |some a=>exact(q1 .slice3B w).2
  obtain⟨hhr,hhM,hH⟩:=hbh;have hbl:l<=h/\∀w:World,(match lo.map ρ with|some v=>Instr.sliceBound v h (if(mx.map ρ).isSome then .slice3C else .sliceB)|none=>pure 0:Sem Nat).run P w=.ok l w:=by
   cases lo with
   |none=>simp only[gQ,aF]at hl;subst hl;exact⟨gm _,λw=>rfl⟩
   |some a=>have q1:=λc w=>Bm (P:=P) hρ hl h (ai _) c w;exact⟨(q1 .slice3C default).1,λw=>(q1 _ w).2⟩
  obtain⟨hlh,hL⟩:=hbl;have hA':∀A',A'=(if M=l then A else A.map (·.add (l*s)))->(A'=none->M-l=0)/\(∀ad,A'=some ad->0<M-l->ad.spot=none):=by
   intro A' hA;subst hA;split
   grind
   cases A with
   |none=>have:=k3 rfl;exact⟨λ_=>ab,ae⟩
   |some ad=>refine⟨ae,λad' h hp=>?_⟩;simp only[ay,aF]at h;subst h;have:=k4 ad rfl ab;obtain⟨b,o,sp⟩:=ad;simp only at this;subst this;rw[iA]
  have agq:∀(ady:Option Nat)(Kt:SF),(Kt.full=true->M-l=h-l)/\Wh Kt A->ady=none->RV x (.sl ((rows.take h).drop l) ady Kt) (.slice (if M=l then A else A.map (·.add (l*s))) (h-l) (M-l)):=by
   intro ady Kt yx ai3;subst ai3;obtain⟨hA1,hA2⟩:=hA' _ rfl;have hlen:((rows.take h).drop l).length=h-l:=by simp;omega
   have afr:∀r∈(rows.take h).drop l,r.cells.length=s:=λr hr=>mw r (vC (List.mem_of_mem_drop hr));have akb:flat ((rows.take h).drop l)=((flat rows).take (h*s)).drop (l*s):=by rw[Hy (λr hr=>mw r (vC hr)),Ht mw]
   have dB:∀j c,(flat ((rows.take h).drop l))[j]? =some c->(flat rows)[l*s+j]? =some c/\l*s+j<h*s:=by grind
   have hv:View x ((rows.take h).drop l) (if M=l then A else A.map (·.add (l*s))) s (λj=>ws.getD (l*s+j) undef):=by
    refine⟨afr,λj c hcj=>?_⟩;obtain⟨q1,q2⟩:=dB j c hcj;obtain⟨b,o,r1,r2,r3⟩:=hc _ _ q1;refine⟨hpR c (bY q1),b,o+l*s,?_,by rw[fS];exact r2,by rw[fS];exact r3⟩;have hlt:l<h:=by grind
    rw[if_neg ab,r1];simp only[ay,iA]
   have:=RV.sl (tok:=none) (full:=Kt) (cap:=M-l) hv (λj c hcj=>Uo _ _ (dB j c hcj).1) (by rw[hlen];omega) ⟨λhf=>by rw[hlen];exact yx.1 hf,λb hb=>by rw[<-yx.2 b hb];split<;>simp⟩ hA1 hA2 (λt ht=>nomatch ht);rw[hlen]at this;exact this
  have hrun:(Instr.sliceAt t (.slice A rows.length cap) (lo.map ρ) (hi.map ρ) (mx.map ρ)).run P x.w=.ok (.slice (if M=l then A else A.map (·.add (l*s))) (h-l) (M-l)) x.w:=by
   have hb:(Instr.sliceBounds true rows.length cap (lo.map ρ) (hi.map ρ) (mx.map ρ)).run P x.w=.ok (l,h,M) x.w:=by
    have hM':=hM x.w;have hH':=hH x.w;have RB:=hL x.w;unfold Instr.sliceBounds
    revert hM' hH' RB hhm
    cases mx<;>cases hi<;>cases lo<;>intro hM' hH' RB hhm<;>
     simp only[lV,ay,Sem.run_pure,Result.ok.injEq,and_true,Option.isSome_some,Option.isSome_none,Option.isNone_none,gq,Bool.true_eq_false,if_true,aJ,if_false]at hM' hH' RB hhm⊢<;>
     (try subst hM')<;>(try subst hH')<;>(try subst RB)<;>simp only[Sem.run_bind,Result.andThen_ok,Sem.run_pure, *]
   unfold Instr.sliceAt;simp only[Sem.run_bind,run_underlying hu,Result.andThen_ok,Instr.slice,hb,run_sizeOf tn,Sem.run_pure,rS]
  unfold rY at hd;rw[if_pos hlh]at hd;cases mx with
  |none=>simp only[lV,aF]at hd;subst hd;refine aQ hR hrun (agq _ _ ⟨λhf=>?_,agr⟩ rfl);simp only[aC,dQ]at hf;rw[(hMn rfl).1,k2.1 hf.1,hf.2]
  |some a=>
   simp only[ay]at hd;by_cases hc:h<=m;rw[if_pos hc]at hd;simp only[aF]at hd;subst hd;refine aQ hR hrun (agq _ _ ⟨λhf=>?_,agr⟩ rfl);simp only[dQ]at hf;rw[hMs rfl,hf]
   grind
theorem KW(hρ:xw x ρd ρ):∀{a:Option Operand}{v:Option Value},wC ρd a=some v->a.map ρ=v
 |none,v,h=>by simp only[wC,aF]at h;subst h;rfl
 |some a,v,h=>by simp only[wC,af]at h;obtain⟨u,h1,rfl⟩:=h;simp[dF hρ h1]
def Op.lone:Op->Bool
 |.call {callee:=.builtin _,.. }=>true
 |.call _=>false
 |_=>true
theorem Sy(eV:j6 P ty)(hR:Rel x)(hn:FD x.S aB)(hρ:xw x ρd ρ)(hop:Op.lone o.op=true){d:DV}{S':aj}(h:ah P ty aD call yf ρd o x.S aB=some (d,S')):Yields x ((execOp ρ o).run P x.w) d S':=by
 obtain⟨dst,op,type,pos,after,guard⟩:=o;cases op with
 |move a=>simp only[ah,af,az]at h;obtain⟨d',h1,rfl,rfl⟩:=h;exact⟨ρ a,x,.inl rfl,rfl,hR,bE.refl x,hρ a _ h1⟩
 |assign a=>simp only[ah,af,az]at h;obtain⟨d',h1,rfl,rfl⟩:=h;exact⟨ρ a,x,.inl rfl,rfl,hR,bE.refl x,hρ a _ h1⟩
 |pick c a b=>
  simp only[ah]at h;split at h;rename_i t hc;have hcv:=nX (hρ c _ hc);simp only[af,az]at h;obtain⟨d',h1,rfl,rfl⟩:=h;cases t with
  |true=>exact⟨ρ a,x,.inl (by simp[execOp,hcv,asBool]),rfl,hR,bE.refl x,hρ a _ h1⟩
  |false=>exact⟨ρ b,x,.inl (by simp[execOp,hcv,asBool]),rfl,hR,bE.refl x,hρ b _ h1⟩
  cases h
 |alloc e=>simp only[ah]at h;split at h;rename_i hk;cases h;exact Ys eV hR hn hk;cases h
 |box e a=>simp only[ah]at h;split at h;rename_i d' h1;cases h;exact afb hR hn (hρ a _ h1);cases h
 |build t ps=>simp only[ah]at h;split at h;rename_i hk hl;simp only[af,az]at h;obtain⟨cs,h1,rfl,rfl⟩:=h;exact CE eV hR hρ hk hl h1;rename_i hk hl;simp only[af,az]at h;obtain⟨cs,h1,rfl,rfl⟩:=h;exact Fs eV hR hρ hk hl h1;cases h
 |buildSlice t n ps=>simp only[ah]at h;split at h;rename_i e s iU agg sz z0 l hk hl;split at h;rename_i k sz' z he;split at h;rename_i hc;simp only[aC,bR]at hc;split at h;rename_i cs hf;split at h;rename_i hp;simp only[aC,jK,dQ]at hp;split at h;cases h;exact Tt eV hR hn hρ hk hl he hc.1 hc.2 hf hp.1;cases h;exact FZ eV hR hρ hk hl he hc.1 hc.2 hf hp.1 hp.2;cases h;cases h;cases h;cases h;cases h
 |makeSlice t a b=>simp only[ah]at h;split at h;rename_i e s iU agg sz z0 n m hk ha hb;split at h;rename_i k sz' z he;split at h;rename_i hc;simp only[aC,jK,dQ,bR]at hc;obtain⟨⟨⟨⟨⟨⟨h0,rfl⟩,hs⟩,-⟩,h1⟩,h2⟩,h3⟩:=hc;cases h;obtain⟨kd,hka⟩:=nJ hρ ha;obtain⟨kd',hkb⟩:=nJ hρ hb;have h4:=JF (kd:=kd) (kd':=kd') eV hR hn hk he h0 hs h1 h2 h3;rw[<-hka,<-hkb]at h4;exact h4;cases h;cases h;cases h
 |load t a=>simp only[ah]at h;split at h;rename_i a' h1;simp only[af,az]at h;obtain⟨d',h2,rfl,rfl⟩:=h;obtain⟨v,h3,h4⟩:=LG eV hR (hρ a _ h1) h2;exact aQ hR h3 h4;cases h
 |store t a v=>simp only[ah]at h;split at h;rename_i a' v' h1 h2;simp only[af,az]at h;obtain⟨S2,h3,rfl,rfl⟩:=h;obtain⟨y,h4,h5,h6,h7⟩:=Sw eV hR (hρ a _ h1) (hρ v _ h2) h3;exact KL h4 h5 h6 h7;cases h
 |nilCheck a=>
  simp only[ah]at h;split at h;rename_i id off h1;cases h;have:=hρ a _ h1;generalize hv:ρ a=v at this;cases this with
  |ptr hS=>exact⟨_,x,.inl (by simp only[execOp,hv];rfl),rfl,hR,bE.refl x,.ptr hS⟩
  cases h
 |binOp op t a b u=>simp only[ah]at h;split at h;rename_i va vb h1 h2;simp only[af,az]at h;obtain⟨d',h3,rfl,rfl⟩:=h;obtain⟨v,h4,h5⟩:=jO (x:=x) h3 x.w;rw[<-dF hρ h1,<-dF hρ h2]at h4;exact aQ hR h4 h5;simp only[af,az]at h;obtain⟨d',h3,rfl,rfl⟩:=h;obtain⟨v,h4,h5⟩:=TE eV hρ h3;exact aQ hR h4 h5
 |unOp op t a=>simp only[ah]at h;split at h;rename_i va h1;simp only[af,az]at h;obtain⟨d',h3,rfl,rfl⟩:=h;obtain⟨v,h4,h5⟩:=jO (x:=x) h3 x.w;rw[<-dF hρ h1]at h4;exact aQ hR h4 h5;cases h
 |convert s t a=>simp only[ah]at h;split at h;rename_i va h1;split at h;rename_i d' h3;cases h;obtain⟨v,h4,h5⟩:=jO (x:=x) h3 x.w;rw[<-dF hρ h1]at h4;exact aQ hR h4 h5;simp only[af,az]at h;obtain⟨d',h3,rfl,rfl⟩:=h;have h4:=Yr hR h3;rw[<-dF hρ h1]at h4;exact h4;split at h;rename_i rows tok f ha;simp only[af,az]at h;obtain⟨d',h3,rfl,rfl⟩:=h;exact afa hR h3 (hρ a _ ha);cases h
 |makeInterface t a=>simp only[ah]at h;split at h;rename_i va h1;simp only[af,az]at h;obtain⟨d',h3,rfl,rfl⟩:=h;obtain⟨v,h4,h5⟩:=jO (x:=x) h3 x.w;rw[<-dF hρ h1]at h4;exact aQ hR h4 h5;cases h
 |makeFunc fn fs cs=>
  cases fn with
  |func f=>simp only[ah]at h;split at h;rename_i a b h1 h2;cases h;have e1:=xz hρ h1;have e2:=xz hρ h2;refine aQ hR (v:=.func (.func f) (fs.map ρ) (cs.map ρ)) rfl (.fn (by simpa using e1.1) (by simpa using e2.1) (λj c hc=>?_) (λj c hc=>?_));have:=e1.2 j c hc;simpa [aW]using this;have:=e2.2 j c hc;simpa [aW]using this;cases h
  |_=>simp[ah]at h
 |slice t a lo hi mx=>simp only[ah]at h;split at h;rename_i s sz z rows tok full hk ha;split at h;cases h;rename_i mw;simp only[oH,Bool.not_eq_false,aU,bR]at mw;split at h;rename_i m hm;split at h;rename_i h' hh;split at h;rename_i l hl;split at h;cases h;rename_i hhm;simp only[af,az]at h;obtain⟨d',h3,rfl,rfl⟩:=h;exact Yq eV hR hρ hk (hρ a _ ha) mw hm hh hl (by simpa using hhm) h3;cases h;cases h;cases h;rename_i b hk ha;split at h;rename_i l hh hl hhi;simp only[af,az]at h;obtain⟨d',h3,rfl,rfl⟩:=h;obtain⟨v,h4,h5⟩:=jO (x:=x) h3 x.w;rw[<-nX (hρ a _ ha),<-KW hρ hl,<-KW hρ hhi]at h4;exact aQ hR h4 h5;cases h;cases h
 |fieldAddr t a f=>
  simp only[ah]at h;split at h;rename_i fs sz z id off hk ha;split at h;rename_i o s agg hf;split at h;rename_i hs;cases h;have:=hρ a _ ha;generalize hv:ρ a=v at this;cases this with
  |ptr hS=>exact aQ hR (by rw[hv];exact sU eV hk hf hs _ _ _) (.ptr hS)
  cases h;cases h;rename_i fs sz z rows i off hk ha;split at h;rename_i o s agg hf;split at h;rename_i hs;cases h;have:=hρ a _ ha;generalize hv:ρ a=v at this;cases this with
  |eU Rw Zo=>refine aQ hR (by rw[hv];exact sU eV hk hf hs _ _ _) ?_;rw[fS,fS];exact .eU Rw Zo
  cases h;cases h;rename_i fs sz z id n off hk ha;split at h;rename_i o s agg q hf hop;obtain⟨e,s',l,zz⟩:=q;obtain⟨hS,HY⟩:=lZ hop;split at h;rename_i hs;cases h;have:=hρ a _ ha;generalize hv:ρ a=v at this;cases this with
  |@fV _ _ _ e1 s1 l1 z1 _ CO JR hA=>
   obtain⟨rfl,rfl,rfl,rfl⟩:e=e1/\s'=s1/\l=l1/\zz=z1:=by rw[hS]at CO;cases CO;exact⟨rfl,rfl,rfl,rfl⟩
   have hA:=hA HY;subst hA;exact aQ hR (by rw[hv];exact sU eV hk hf hs _ _ _) (.fV hS JR λ_=>rfl)
  cases h;cases h;cases h
 |field t a f=>simp only[ah]at h;split at h;rename_i fs sz z l hk ha;split at h;rename_i off s agg hf;simp only[af,az]at h;obtain⟨d',h3,rfl,rfl⟩:=h;obtain⟨arr,hv,Uo⟩:=Qi (hρ a _ ha);obtain⟨tH,i,hi,-,-⟩:=bZ (eV t _ hk);obtain⟨fields,hu,hfs,hff⟩:=AM tH;obtain⟨fd,h4,h5,inf,h6,h7,h8,d0,h9⟩:=hff f _ hf;simp only at h5 h7 h8;obtain⟨v,wz,Ge⟩:=Qx (x:=x) h6 h9 h7 h8 Uo h3 x.w;refine aQ hR (v:=v) ?_ Ge;simp only[Instr.field,hv,Sem.run_bind,run_underlying hu,Result.andThen_ok,h4,asAgg,Sem.run_pure,h5,wz];cases h;cases h
 |indexAddr t a i=>
  simp only[ah]at h;split at h;rename_i e s iU agg sz z rows tok full n hk ha hi;split at h;rename_i h0;split at h;rename_i r hr;split at h;rename_i hs;cases h;obtain⟨kd,Us⟩:=nJ hρ hi;have:=hρ a _ ha;generalize hv:ρ a=v at this;cases this with
  |@sl _ _ _ A cap s1 vs Rw Zo k1 k2 k3 k4 k5=>
   have hlt:n.toNat<rows.length:=(aI.1 hr).1;cases A with
   |none=>have:=k3 rfl;omega
   |some ad=>
    obtain⟨b,o,sp⟩:=ad;have:sp=none:=k4 _ rfl ab;subst this;have HW:s1=s:=by rw[<-hs];exact(Rw.1 r (bY hr)).symm
    subst HW;refine aQ hR (by rw[hv,Us];exact E8 eV hk h0 hlt _ _ _) ?_;have:=RV.eU (i:=n.toNat) (off:=0) Rw Zo;simpa using this
  cases h;cases h;cases h;rename_i k s agg sz z id off n hk ha hi;split at h;rename_i h0;cases h;obtain⟨kd,Us⟩:=nJ hρ hi;have:=hρ a _ ha;generalize hv:ρ a=v at this;cases this with
  |ptr hS=>exact aQ hR (by rw[hv,Us];exact B2 eV hk h0.1 h0.2 _ _ _) (.ptr hS)
  cases h;rename_i k s agg sz z rows j off n hk ha hi;split at h;rename_i h0;cases h;obtain⟨kd,Us⟩:=nJ hρ hi;have:=hρ a _ ha;generalize hv:ρ a=v at this;cases this with
  |eU Rw Zo=>refine aQ hR (by rw[hv,Us];exact B2 eV hk h0.1 h0.2 _ _ _) ?_;rw[fS,fS];exact .eU Rw Zo
  cases h;rename_i e s iU agg sz z id m ag n hk ha hi;split at h;rename_i q1 s' l zz hop;obtain⟨hS,HY⟩:=lZ hop;split at h;rename_i h0;obtain⟨h0,h1,rfl⟩:=h0;cases h;obtain⟨kd,Us⟩:=nJ hρ hi;have:=hρ a _ ha;generalize hv:ρ a=v at this;cases this with
  |@jB _ _ _ e1 s1 l1 z1 _ _ CO JR hA=>
   obtain⟨rfl,rfl,rfl,rfl⟩:q1=e1/\s'=s1/\l=l1/\zz=z1:=by rw[hS]at CO;cases CO;exact⟨rfl,rfl,rfl,rfl⟩
   obtain⟨rfl,rfl⟩:=hA HY;exact aQ hR (by rw[hv,Us];exact E8 eV hk h0 h1 _ _ _) (.fV hS ab λ_=>by rw[eO])
  cases h;cases h;cases h
 |index t a i=>simp only[ah]at h;split at h;rename_i k s agg sz z l n hk ha hi;split at h;rename_i h0;simp only[af,az]at h;obtain⟨d',h3,rfl,rfl⟩:=h;obtain⟨kd,Us⟩:=nJ hρ hi;obtain⟨arr,hv,Uo⟩:=Qi (hρ a _ ha);obtain⟨tH,it,hit,-,-⟩:=bZ (eV t _ hk);obtain⟨e,hu,ie,tn,rS,HZ,d0,hu2⟩:=zc tH;obtain⟨v,wz,Ge⟩:=Qx (x:=x) tn hu2 rS HZ Uo h3 x.w;refine aQ hR (v:=v) ?_ Ge;have hc:0<=n/\n<(k:Int):=⟨h0.1,ab⟩;simp only[Instr.index,hv,Us,asIntOf,Sem.run_bind,Sem.run_pure,run_underlying hu,Result.andThen_ok,hc,and_self,if_true,run_sizeOf tn,rS,wz];cases h;rename_i b n hk ha hi;split at h;rename_i iv h1;simp only[af,az]at h;obtain⟨d',h3,rfl,rfl⟩:=h;obtain⟨v,h4,h5⟩:=jO (x:=x) h3 x.w;rw[<-nX (hρ a _ ha),<-dF hρ h1]at h4;exact aQ hR h4 h5;cases h;cases h
 |makeMap t r=>
  cases r with
  |none=>simp only[ah,aF,az]at h;obtain⟨rfl,rfl⟩:=h;exact OG hR hn
  |some a=>simp[ah]at h
 |lookup t m k ok=>
  simp only[ah]at h;split at h;rename_i id kv hm hk;split at h;rename_i es hS;simp only[af,kN,az]at h;obtain⟨d',⟨v,h1,h2⟩,rfl,rfl⟩:=h;have:=hρ m _ hm;generalize hv:ρ m=vm at this;cases this with
  |map _=>have h3:=Tq hR hS h1 h2;rw[<-hv,<-dF hρ hk]at h3;exact h3
  cases h;cases h
 |mapUpdate t m k a=>
  simp only[ah]at h;split at h;rename_i id kv vv hm hk ha;split at h;rename_i es hS;split at h;rename_i r hr;simp only[af,az]at h;obtain⟨es',h1,rfl,rfl⟩:=h;have:=hρ m _ hm;generalize hv:ρ m=vm at this;cases this with
  |map _=>have h3:=JE hR hS hr h1;rw[<-hv,<-dF hρ hk,<-dF hρ ha]at h3;exact h3
  cases h;cases h;cases h
 |extract a i=>
  simp only[ah]at h;split at h;rename_i l ha;simp only[af,az]at h;obtain⟨d',h3,rfl,rfl⟩:=h;have:=hρ a _ ha;generalize hv:ρ a=v at this;cases this with
  |@tup _ vs hs hr=>
   have hlt:i<vs.size:=by rw[hs];exact(aI.1 h3).1
   refine aQ hR (v:=vs[i]) (by rw[hv];simp[Instr.extract,hlt]) ?_;simpa [aW,hlt]using hr i _ h3
  cases h
 |call c=>
  obtain⟨callee,args,ats⟩:=c;cases callee with
  |builtin b=>
   simp only[ah]at h;have hex:∀w:World,(execOp ρ ⟨dst,.call ⟨.builtin b,args,ats⟩,type,pos,after,guard⟩).run P w=(Go.builtin b ats type (args.map λ|.const _=>true|_=>false) (args.map ρ)).run P w:=λw=>by simp only[execOp,resolve,Sem.run_bind,Sem.run_pure,Result.andThen_ok,invoke];rfl
   rw[hex];split at h;rename_i a t qh aav;have ea:args=#[a]:=by rw[<-y8 (xs:=args),qh]
   have et:ats=#[t]:=by rw[<-y8 (xs:=ats),aav]
   subst ea et;split at h;rename_i e s iU agg sz z rows tok full hk ha;cases h;obtain⟨tH,it,hit,-,-⟩:=bZ (eV t _ hk);obtain⟨hu,-⟩:=lW tH;have:=hρ a _ ha;generalize hv:ρ a=v at this;cases this with
   |sl _ _ _ _ _ _ _=>exact aQ hR (v:=.int .i64 rows.length) (by simp[Builtin.len_,hv,run_underlying hu,goInt]) (.val rfl)
   rename_i e s iU agg sz z id n ag hk ha;cases h;obtain⟨tH,it,hit,-,-⟩:=bZ (eV t _ hk);obtain⟨hu,-⟩:=lW tH;have:=hρ a _ ha;generalize hv:ρ a=v at this;cases this with
   |jB _ _ _=>exact aQ hR (v:=.int .i64 n) (by simp[Builtin.len_,hv,run_underlying hu,goInt]) (.val rfl)
   rename_i n s agg sz z hk;cases h;obtain⟨tH,it,hit,-,-⟩:=bZ (eV t _ hk);obtain⟨e,hu,-⟩:=zc tH;exact aQ hR (v:=.int .i64 n) (by simp[Builtin.len_,run_underlying hu,goInt]) (.val rfl);rename_i v ha hno;simp only[af,az]at h;obtain⟨d',h3,rfl,rfl⟩:=h;obtain⟨v',h4,h5⟩:=jO (x:=x) h3 x.w;have:=nX (hρ a _ ha);refine aQ hR (v:=v') ?_ h5;simpa [this]using h4;cases h;rename_i a b t u qh aav;have ea:args=#[a,b]:=by rw[<-y8 (xs:=args),qh]
   have et:ats=#[t,u]:=by rw[<-y8 (xs:=ats),aav]
   subst ea et;split at h;rename_i Un;subst Un;split at h;rename_i da db ha hb;have e2:Array.map ρ #[a,b]=#[ρ a,ρ b]:=ae
   rw[e2];split at h;exact E9 (u:=type) eV hR hn (hρ a _ ha) (hρ b _ hb) h;split at h;exact E9 (u:=type) eV hR hn (hρ a _ ha) (hρ b _ hb) h;exact Tu (u:=type) eV hR hn (hρ a _ ha) (hρ b _ hb) h;cases h;cases h;rename_i xs qh;split at h;rename_i vs h1;simp only[af,az]at h;obtain⟨d',h3,rfl,rfl⟩:=h;simp only[kN]at h1;obtain⟨ds,h4,h5⟩:=h1;have h6:=xz hρ h4;have h7:=AU (x:=x) (vs:=args.toList.map ρ) h5 (by simpa using h6.1) λj c hc=>by simpa [aW,aK]using h6.2 j c hc
   obtain⟨v',h8,h9⟩:=jO (x:=x) h3 x.w;refine aQ hR (v:=v') ?_ h9;have e2:(List.map ρ args.toList).toArray=Array.map ρ args:=Array.toList_inj.1 ae;rw[<-h7,e2]at h8;exact h8;cases h;rename_i xs qh;split at h;rename_i vs h1;simp only[af,az]at h;obtain⟨d',h3,rfl,rfl⟩:=h;simp only[kN]at h1;obtain⟨ds,h4,h5⟩:=h1;have h6:=xz hρ h4;have h7:=AU (x:=x) (vs:=args.toList.map ρ) h5 (by simpa using h6.1) λj c hc=>by simpa [aW,aK]using h6.2 j c hc
   obtain⟨v',h8,h9⟩:=jO (x:=x) h3 x.w;refine aQ hR (v:=v') ?_ h9;have e2:(List.map ρ args.toList).toArray=Array.map ρ args:=Array.toList_inj.1 ae;rw[<-h7,e2]at h8;exact h8;cases h;cases h
  |_=>simp[Op.lone]at hop
 |_=>simp[ah]at h
end Go.Di
