import Derived.Test.YtadeehilamokkaaGreatDoorPk16
set_option maxHeartbeats 1000000
namespace Go.Di
open Go
variable {P:Program} {ty:fo} {x:Cx} {w':World} {aD:bR} {call:aY} {yf:di} {ρd:Operand->Option DV} {ρ:Operand->Value} {o:Oper} {aB:Nat}
theorem GI{s:Nat}:∀{rows:cj}(_:∀r∈rows,r.cells.length=s)(h:Nat),flat (rows.take h)=(flat rows).take (h*s)
 |[],_,h=>by simp[flat]
 |r::rows,hs,0=>by simp[flat]
 |r::rows,hs,h+1=>by
  have h0:=hs r ab;have ih:=GI (rows:=rows) (λr hr=>hs r (by simp[hr])) h;simp only[flat]at ih;simp only[List.take_succ_cons,flat,de,ih];have e1:r.cells.take ((h+1)*s)=r.cells:=List.take_of_length_le (by rw[h0,mD];omega);have e2:(h+1)*s-s=h*s:=by rw[mD];omega
  rw[List.take_append,h0,e1,e2]
theorem GN{s:Nat}:∀{rows:cj}(_:∀r∈rows,r.cells.length=s)(l:Nat),flat (rows.drop l)=(flat rows).drop (l*s)
 |[],_,l=>by simp[flat]
 |r::rows,hs,0=>ab
 |r::rows,hs,l+1=>by
  have h0:=hs r ab;have ih:=GN (rows:=rows) (λr hr=>hs r (by simp[hr])) l;simp only[flat]at ih;simp only[List.drop_succ_cons,flat,de,ih];have e1:r.cells.drop ((l+1)*s)=[]:=List.drop_of_length_le (by rw[h0,mD];omega);have e2:(l+1)*s-s=l*s:=by rw[mD];omega
  rw[ym,h0,e1,e2,gm]
theorem AJ{ρd:Operand->Option DV}{ρ:Operand->Value}(hρ:wF x ρd ρ){a:Operand}{Ht n:Nat}{d:Nat}(h:gI ρd (some a) d Ht=some n)(y:Nat)(hy:Ht<=y)(code:BoundsCode)(w:World):n<=Ht/\(Instr.sliceBound (ρ a) y code).run P w=.ok n w:=by unfold gI at h;simp only at h;split at h;rename_i i hi;split at h;rename_i hc;cases h;obtain⟨k,hk⟩:=mY hρ hi;refine⟨hc.2,?_⟩;have zo:0<=i/\i<=(y:Int):=⟨hc.1,U⟩;simp only[Instr.sliceBound,hk,asIntOf,Sem.run_bind,Sem.run_pure,Result.andThen_ok,zo,and_self,if_true];cases h;cases h
theorem Vn{rows:cj}{tok:Option Nat}{f:SF}{A:Option Addr}{n cap:Nat}(h:RV x (.sl rows tok f) (.slice A n cap)):∀b,Mq rows f=some b->A.isNone=b:=by
 intro b hb;cases h with
 |sl hv hr h1 h2 h3 hsp h4=>
  unfold Mq at hb;split at hb;exact h2.2 b hb;rename_i hne;cases hb;cases A with
  |none=>have:=h3 rfl;have h0:rows=[]:=eP U;exact absurd (by simp[h0]) hne
  |some ad=>rfl
theorem Sa(eV:jP P ty){op:BinOp}{t:TypeId}{a b:Operand}{d:DV}(hρ:wF x ρd ρ)(h:Df ty op t (ρd a) (ρd b)=some d):
  ∃v,(do eqGuard op t a b (ρ a) (ρ b);binOp op t (ρ a) (ρ b):Sem Value).run P x.w=.ok v x.w/\RV x d v:=by
 unfold Df at h;split at h;rename_i rows tok f abZ f2 ha hb;have ra:=hρ a _ ha;have rb:=hρ b _ hb;generalize ρ a=va at ra⊢;generalize ρ b=vb at rb⊢;split at h;rename_i e s kN agg sz z c htt hn;obtain⟨hk,it,-,-,-⟩:=bW (eV t _ htt);obtain⟨hu,-⟩:=lu hk;have ra0:=ra;have rb0:=rb;cases ra with
 |@sl _ _ _ A cap s1 vs1 Qo zn k1 k2 k3 k4 k5=>
  cases rb with
  |@sl _ _ _ A2 sU s2 vs2 X2 Jm m1 m2 m3 m4 m5=>
   have hA:=Vn ra0 c hn;have hA2:=m2.2 true rfl;have:A2=none:=by simpa using hA2
   subst this;have heq:(Op.equal t (.slice A rows.length cap) (.slice none 0 sU)).run P x.w=.ok c x.w:=by subst hA;obtain⟨n,pz⟩:∃n,Op.maxDepth=n+1:=⟨9999,rfl⟩;cases A<;>simp only[Op.equal,pz,Op.equalIn,Sem.run_bind,run_underlying hu,Result.andThen_ok,Sem.run_pure,Option.isNone_none,Option.isNone_some]
   split at h;cases h;exact⟨.bool c,by simp[eqGuard,binOp,heq],.val rfl⟩;cases h;exact⟨.bool (!c),by simp[eqGuard,binOp,heq],.val rfl⟩;cases h
 cases h;cases h
theorem W6(eV:jP P ty)(hR:Rel x)(hρ:wF x ρd ρ){t e:TypeId}{s kN sz:Nat}{agg:Bool}{z:Option cj}(htt:ty t=some ⟨.slice e s kN agg,sz,z⟩){rows:cj}{tok:Option Nat}{full:SF}{va:Value}(ha:RV x (.sl rows tok full) va)(lN:∀r∈rows,r.cells.length=s)
  {lo hi mx:Option Operand} {m h l:Nat} {d:DV} (hm:gI ρd mx rows.length rows.length=some m) (hh:gI ρd hi rows.length m=some h) (hl:gI ρd lo 0 h=some l) (hhm:(hi.isNone&&mx.isSome)=false) (hd:rz rows full l h (mx.map λ_=>m)=some d):
  Yields x ((do pure (.value (<-Instr.sliceAt t va (lo.map ρ) (hi.map ρ) (mx.map ρ))):Sem Next).run P x.w) d x.S:=by
 obtain⟨hk,it,-,-,-⟩:=bW (eV t _ htt);obtain⟨hu,ie,sZ,q8,-,-⟩:=lu hk;have xy:=gK lN;have Hl:=ha;cases ha with
 |@sl _ _ _ A cap s1 vs1 Qo zn k1 k2 k3 k4 k5=>
  obtain⟨-,-,-,-,-,hsp,hpR,ws,hwl,SU,hc,-⟩:=tM Hl lN;have aeN:=Vn Hl;have hbm:m<=rows.length/\∃M,(∀w:World,(match mx.map ρ with|some v=>Instr.sliceBound v cap .slice3Acap|none=>pure cap:Sem Nat).run P w=.ok M w)/\m<=M/\M<=cap/\(mx.isSome=true->M=m)/\(mx=none->M=cap/\m=rows.length):=by
   cases mx with
   |none=>simp only[gI,aF]at hm;subst hm;exact⟨ai _,cap,λw=>rfl,k1,ai _,ab,λ_=>⟨rfl,rfl⟩⟩
   |some a=>have:=λw=>AJ (P:=P) hρ hm cap k1 .slice3Acap w;exact⟨(this default).1,m,λw=>(this w).2,ai _,bz (this default).1 k1,λ_=>rfl,ab⟩
  obtain⟨hmr,M,hM,hmM,hMc,hMs,hMn⟩:=hbm;have hbh:h<=rows.length/\h<=M/\∀w:World,(match hi.map ρ,mx.map ρ with|some v,some _=>Instr.sliceBound v M .slice3B|some v,none=>Instr.sliceBound v M .sliceAcap|none,none=>pure rows.length|none,some _=>stuck "Slice: max without high":Sem Nat).run P w=.ok h w:=by
   cases hi with
   |none=>
    cases mx with
    |none=>simp only[gI,aF]at hh;subst hh;exact⟨ai _,by rw[(hMn rfl).1];exact k1,λw=>rfl⟩
    |some a=>simp at hhm
   |some b=>
    have q1:=λc w=>AJ (P:=P) hρ hh M hmM c w;have q2:=(q1 .slice3B default).1;refine⟨bz q2 hmr,bz q2 hmM,λw=>?_⟩;cases mx with
    |none=>exact(q1 .sliceAcap w).2
    |some a=>exact(q1 .slice3B w).2
  obtain⟨hhr,hhM,hH⟩:=hbh;have hbl:l<=h/\∀w:World,(match lo.map ρ with|some v=>Instr.sliceBound v h (if(mx.map ρ).isSome then .slice3C else .sliceB)|none=>pure 0:Sem Nat).run P w=.ok l w:=by
   cases lo with
   |none=>simp only[gI,aF]at hl;subst hl;exact⟨gU _,λw=>rfl⟩
   |some a=>have q1:=λc w=>AJ (P:=P) hρ hl h (ai _) c w;exact⟨(q1 .slice3C default).1,λw=>(q1 _ w).2⟩
  obtain⟨hlh,hL⟩:=hbl;have hA':∀A',A'=(if M=l then A else A.map (·.add (l*s)))->(A'=none->M-l=0)/\(∀ad,A'=some ad->0<M-l->ad.spot=none):=by
   intro A' hA;subst hA;split
   grind
   cases A with
   |none=>have:=k3 rfl;exact⟨λ_=>U,ab⟩
   |some ad=>refine⟨ab,λad' h hp=>?_⟩;simp only[az,aF]at h;subst h;have:=k4 ad rfl U;obtain⟨b,o,sp⟩:=ad;simp only at this;subst this;rw[ij]
  have aeM:∀(abY:Option Nat)(JJ:SF),(JJ.full=true->M-l=h-l)/\UZ JJ A->abY=none->RV x (.sl ((rows.take h).drop l) abY JJ) (.slice (if M=l then A else A.map (·.add (l*s))) (h-l) (M-l)):=by
   intro abY JJ xQ ahh;subst ahh;obtain⟨hA1,hA2⟩:=hA' _ rfl;have hlen:((rows.take h).drop l).length=h-l:=by simp;omega
   have adQ:∀r∈(rows.take h).drop l,r.cells.length=s:=λr hr=>lN r (yy (List.mem_of_mem_drop hr));have air:flat ((rows.take h).drop l)=((flat rows).take (h*s)).drop (l*s):=by rw[GN (λr hr=>lN r (yy hr)),GI lN]
   have dw:∀j c,(flat ((rows.take h).drop l))[j]? =some c->(flat rows)[l*s+j]? =some c/\l*s+j<h*s:=by grind
   have hv:View x ((rows.take h).drop l) (if M=l then A else A.map (·.add (l*s))) s (λj=>ws.getD (l*s+j) undef):=by
    refine⟨adQ,λj c hcj=>?_⟩;obtain⟨q1,q2⟩:=dw j c hcj;obtain⟨b,o,r1,r2,r3⟩:=hc _ _ q1;refine⟨hpR c (bV q1),b,o+l*s,?_,by rw[fO];exact r2,by rw[fO];exact r3⟩;have hlt:l<h:=by grind
    rw[if_neg U,r1];simp only[az,ij]
   have:=RV.sl (tok:=none) (full:=JJ) (cap:=M-l) hv (λj c hcj=>SU _ _ (dw j c hcj).1) (by rw[hlen];omega) ⟨λhf=>by rw[hlen];exact xQ.1 hf,λb hb=>by rw[<-xQ.2 b hb];split<;>simp⟩ hA1 hA2 (λt ht=>nomatch ht);rw[hlen]at this;exact this
  have hrun:(Instr.sliceAt t (.slice A rows.length cap) (lo.map ρ) (hi.map ρ) (mx.map ρ)).run P x.w=.ok (.slice (if M=l then A else A.map (·.add (l*s))) (h-l) (M-l)) x.w:=by
   have hb:(Instr.sliceBounds true rows.length cap (lo.map ρ) (hi.map ρ) (mx.map ρ)).run P x.w=.ok (l,h,M) x.w:=by
    have hM':=hM x.w;have hH':=hH x.w;have Qr:=hL x.w;unfold Instr.sliceBounds
    revert hM' hH' Qr hhm
    cases mx<;>cases hi<;>cases lo<;>intro hM' hH' Qr hhm<;>
     simp only[lg,az,Sem.run_pure,Result.ok.injEq,and_true,Option.isSome_some,Option.isSome_none,Option.isNone_none,gh,Bool.true_eq_false,if_true,aJ,if_false]at hM' hH' Qr hhm⊢<;>
     (try subst hM')<;>(try subst hH')<;>(try subst Qr)<;>simp only[Sem.run_bind,Result.andThen_ok,Sem.run_pure, *]
   unfold Instr.sliceAt;simp only[Sem.run_bind,run_underlying hu,Result.andThen_ok,Instr.slice,hb,run_sizeOf sZ,Sem.run_pure,q8]
  unfold rz at hd;rw[if_pos hlh]at hd;cases mx with
  |none=>simp only[lg,aF]at hd;subst hd;refine aQ hR hrun (aeM _ _ ⟨λhf=>?_,aeN⟩ rfl);simp only[aC,dL]at hf;rw[(hMn rfl).1,k2.1 hf.1,hf.2]
  |some a=>
   simp only[az]at hd;by_cases hc:h<=m;rw[if_pos hc]at hd;simp only[aF]at hd;subst hd;refine aQ hR hrun (aeM _ _ ⟨λhf=>?_,aeN⟩ rfl);simp only[dL]at hf;rw[hMs rfl,hf]
   grind
theorem J7(hρ:wF x ρd ρ):∀{a:Option Operand}{v:Option Value},AZ ρd a=some v->a.map ρ=v
 |none,v,h=>by simp only[AZ,aF]at h;subst h;rfl
 |some a,v,h=>by simp only[AZ,af]at h;obtain⟨u,h1,rfl⟩:=h;simp[dW hρ h1]
def Op.lone:Op->Bool
 |.call {callee:=.builtin _,.. }=>true
 |.call _=>false
 |_=>true
theorem Q5(eV:jP P ty)(hR:Rel x)(hn:E3 x.S aB)(hρ:wF x ρd ρ)(hop:Op.lone o.op=true){d:DV}{S':aj}(h:ah P ty aD call yf ρd o x.S aB=some (d,S')):Yields x ((execOp ρ o).run P x.w) d S':=by
 obtain⟨dst,op,type,pos,after,guard⟩:=o;cases op with
 |move a=>simp only[ah,af,ay]at h;obtain⟨d',h1,rfl,rfl⟩:=h;exact⟨ρ a,x,.inl rfl,rfl,hR,bE.refl x,hρ a _ h1⟩
 |assign a=>simp only[ah,af,ay]at h;obtain⟨d',h1,rfl,rfl⟩:=h;exact⟨ρ a,x,.inl rfl,rfl,hR,bE.refl x,hρ a _ h1⟩
 |pick c a b=>
  simp only[ah]at h;split at h;rename_i t hc;have hcv:=oM (hρ c _ hc);simp only[af,ay]at h;obtain⟨d',h1,rfl,rfl⟩:=h;cases t with
  |true=>exact⟨ρ a,x,.inl (by simp[execOp,hcv,asBool]),rfl,hR,bE.refl x,hρ a _ h1⟩
  |false=>exact⟨ρ b,x,.inl (by simp[execOp,hcv,asBool]),rfl,hR,bE.refl x,hρ b _ h1⟩
  cases h
 |alloc e=>simp only[ah]at h;split at h;rename_i hk;cases h;exact W8 eV hR hn hk;cases h
 |box e a=>simp only[ah]at h;split at h;rename_i d' h1;cases h;exact adC hR hn (hρ a _ h1);cases h
 |build t ps=>simp only[ah]at h;split at h;rename_i hk hl;simp only[af,ay]at h;obtain⟨cs,h1,rfl,rfl⟩:=h;exact B6 eV hR hρ hk hl h1;rename_i hk hl;simp only[af,ay]at h;obtain⟨cs,h1,rfl,rfl⟩:=h;exact EW eV hR hρ hk hl h1;cases h
 |buildSlice t n ps=>simp only[ah]at h;split at h;rename_i e s kN agg sz z0 l hk hl;split at h;rename_i k sz' z he;split at h;rename_i hc;simp only[aC,bP]at hc;split at h;rename_i cs hf;split at h;rename_i hp;simp only[aC,jw,dL]at hp;split at h;cases h;exact RQ eV hR hn hρ hk hl he hc.1 hc.2 hf hp.1;cases h;exact Fu eV hR hρ hk hl he hc.1 hc.2 hf hp.1 hp.2;cases h;cases h;cases h;cases h;cases h
 |makeSlice t a b=>simp only[ah]at h;split at h;rename_i e s kN agg sz z0 n m hk ha hb;split at h;rename_i k sz' z he;split at h;rename_i hc;simp only[aC,jw,dL,bP]at hc;obtain⟨⟨⟨⟨⟨⟨h0,rfl⟩,hs⟩,-⟩,h1⟩,h2⟩,h3⟩:=hc;cases h;obtain⟨kd,hka⟩:=mY hρ ha;obtain⟨kd',hkb⟩:=mY hρ hb;have h4:=I1 (kd:=kd) (kd':=kd') eV hR hn hk he h0 hs h1 h2 h3;rw[<-hka,<-hkb]at h4;exact h4;cases h;cases h;cases h
 |load t a=>simp only[ah]at h;split at h;rename_i a' h1;simp only[af,ay]at h;obtain⟨d',h2,rfl,rfl⟩:=h;obtain⟨v,h3,h4⟩:=KT eV hR (hρ a _ h1) h2;exact aQ hR h3 h4;cases h
 |store t a v=>simp only[ah]at h;split at h;rename_i a' v' h1 h2;simp only[af,ay]at h;obtain⟨S2,h3,rfl,rfl⟩:=h;obtain⟨y,h4,h5,h6,h7⟩:=Q4 eV hR (hρ a _ h1) (hρ v _ h2) h3;exact JX h4 h5 h6 h7;cases h
 |nilCheck a=>
  simp only[ah]at h;split at h;rename_i id off h1;cases h;have:=hρ a _ h1;generalize hv:ρ a=v at this;cases this with
  |ptr hS=>exact⟨_,x,.inl (by simp only[execOp,hv];rfl),rfl,hR,bE.refl x,.ptr hS⟩
  cases h
 |binOp op t a b u=>simp only[ah]at h;split at h;rename_i va vb h1 h2;simp only[af,ay]at h;obtain⟨d',h3,rfl,rfl⟩:=h;obtain⟨v,h4,h5⟩:=jB (x:=x) h3 x.w;rw[<-dW hρ h1,<-dW hρ h2]at h4;exact aQ hR h4 h5;simp only[af,ay]at h;obtain⟨d',h3,rfl,rfl⟩:=h;obtain⟨v,h4,h5⟩:=Sa eV hρ h3;exact aQ hR h4 h5
 |unOp op t a=>simp only[ah]at h;split at h;rename_i va h1;simp only[af,ay]at h;obtain⟨d',h3,rfl,rfl⟩:=h;obtain⟨v,h4,h5⟩:=jB (x:=x) h3 x.w;rw[<-dW hρ h1]at h4;exact aQ hR h4 h5;cases h
 |convert s t a=>simp only[ah]at h;split at h;rename_i va h1;split at h;rename_i d' h3;cases h;obtain⟨v,h4,h5⟩:=jB (x:=x) h3 x.w;rw[<-dW hρ h1]at h4;exact aQ hR h4 h5;simp only[af,ay]at h;obtain⟨d',h3,rfl,rfl⟩:=h;have h4:=W7 hR h3;rw[<-dW hρ h1]at h4;exact h4;cases h
 |makeInterface t a=>simp only[ah]at h;split at h;rename_i va h1;simp only[af,ay]at h;obtain⟨d',h3,rfl,rfl⟩:=h;obtain⟨v,h4,h5⟩:=jB (x:=x) h3 x.w;rw[<-dW hρ h1]at h4;exact aQ hR h4 h5;cases h
 |makeFunc fn fs cs=>
  cases fn with
  |func f=>simp only[ah]at h;split at h;rename_i a b h1 h2;cases h;have e1:=wJ hρ h1;have e2:=wJ hρ h2;refine aQ hR (v:=.func (.func f) (fs.map ρ) (cs.map ρ)) rfl (.fn (by simpa using e1.1) (by simpa using e2.1) (λj c hc=>?_) (λj c hc=>?_));have:=e1.2 j c hc;simpa [aU]using this;have:=e2.2 j c hc;simpa [aU]using this;cases h
  |_=>simp[ah]at h
 |slice t a lo hi mx=>simp only[ah]at h;split at h;rename_i s sz z rows tok full hk ha;split at h;cases h;rename_i lN;simp only[nY,Bool.not_eq_false,aR,bP]at lN;split at h;rename_i m hm;split at h;rename_i h' hh;split at h;rename_i l hl;split at h;cases h;rename_i hhm;simp only[af,ay]at h;obtain⟨d',h3,rfl,rfl⟩:=h;exact W6 eV hR hρ hk (hρ a _ ha) lN hm hh hl (by simpa using hhm) h3;cases h;cases h;cases h;rename_i b hk ha;split at h;rename_i l hh hl hhi;simp only[af,ay]at h;obtain⟨d',h3,rfl,rfl⟩:=h;obtain⟨v,h4,h5⟩:=jB (x:=x) h3 x.w;rw[<-oM (hρ a _ ha),<-J7 hρ hl,<-J7 hρ hhi]at h4;exact aQ hR h4 h5;cases h;cases h
 |fieldAddr t a f=>
  simp only[ah]at h;split at h;rename_i fs sz z id off hk ha;split at h;rename_i o s agg hf;split at h;rename_i hs;cases h;have:=hρ a _ ha;generalize hv:ρ a=v at this;cases this with
  |ptr hS=>exact aQ hR (by rw[hv];exact sx eV hk hf hs _ _ _) (.ptr hS)
  cases h;cases h;rename_i fs sz z rows i off hk ha;split at h;rename_i o s agg hf;split at h;rename_i hs;cases h;have:=hρ a _ ha;generalize hv:ρ a=v at this;cases this with
  |eU Qo X2=>refine aQ hR (by rw[hv];exact sx eV hk hf hs _ _ _) ?_;rw[fO,fO];exact .eU Qo X2
  cases h;cases h;rename_i fs sz z id n off hk ha;split at h;rename_i o s agg q hf hop;obtain⟨e,s',l,zz⟩:=q;obtain⟨hS,Hh⟩:=lC hop;split at h;rename_i hs;cases h;have:=hρ a _ ha;generalize hv:ρ a=v at this;cases this with
  |@fS _ _ _ e1 s1 l1 z1 _ Ci Jc hA=>
   obtain⟨rfl,rfl,rfl,rfl⟩:e=e1/\s'=s1/\l=l1/\zz=z1:=by rw[hS]at Ci;cases Ci;exact⟨rfl,rfl,rfl,rfl⟩
   have hA:=hA Hh;subst hA;exact aQ hR (by rw[hv];exact sx eV hk hf hs _ _ _) (.fS hS Jc λ_=>rfl)
  cases h;cases h;cases h
 |field t a f=>simp only[ah]at h;split at h;rename_i fs sz z l hk ha;split at h;rename_i off s agg hf;simp only[af,ay]at h;obtain⟨d',h3,rfl,rfl⟩:=h;obtain⟨arr,hv,SU⟩:=O4 (hρ a _ ha);obtain⟨sY,i,hi,-,-⟩:=bW (eV t _ hk);obtain⟨fields,hu,hfs,hff⟩:=Ab sY;obtain⟨fd,h4,h5,inf,h6,h7,h8,d0,h9⟩:=hff f _ hf;simp only at h5 h7 h8;obtain⟨v,vE,FJ⟩:=Pn (x:=x) h6 h9 h7 h8 SU h3 x.w;refine aQ hR (v:=v) ?_ FJ;simp only[Instr.field,hv,Sem.run_bind,run_underlying hu,Result.andThen_ok,h4,asAgg,Sem.run_pure,h5,vE];cases h;cases h
 |indexAddr t a i=>
  simp only[ah]at h;split at h;rename_i e s kN agg sz z rows tok full n hk ha hi;split at h;rename_i h0;split at h;rename_i r hr;split at h;rename_i hs;cases h;obtain⟨kd,S6⟩:=mY hρ hi;have:=hρ a _ ha;generalize hv:ρ a=v at this;cases this with
  |@sl _ _ _ A cap s1 vs Qo X2 k1 k2 k3 k4 k5=>
   have hlt:n.toNat<rows.length:=(aI.1 hr).1;cases A with
   |none=>have:=k3 rfl;omega
   |some ad=>
    obtain⟨b,o,sp⟩:=ad;have:sp=none:=k4 _ rfl U;subst this;have He:s1=s:=by rw[<-hs];exact(Qo.1 r (bV hr)).symm
    subst He;refine aQ hR (by rw[hv,S6];exact EF eV hk h0 hlt _ _ _) ?_;have:=RV.eU (i:=n.toNat) (off:=0) Qo X2;simpa using this
  cases h;cases h;cases h;rename_i k s agg sz z id off n hk ha hi;split at h;rename_i h0;cases h;obtain⟨kd,S6⟩:=mY hρ hi;have:=hρ a _ ha;generalize hv:ρ a=v at this;cases this with
  |ptr hS=>exact aQ hR (by rw[hv,S6];exact Bw eV hk h0.1 h0.2 _ _ _) (.ptr hS)
  cases h;rename_i k s agg sz z rows j off n hk ha hi;split at h;rename_i h0;cases h;obtain⟨kd,S6⟩:=mY hρ hi;have:=hρ a _ ha;generalize hv:ρ a=v at this;cases this with
  |eU Qo X2=>refine aQ hR (by rw[hv,S6];exact Bw eV hk h0.1 h0.2 _ _ _) ?_;rw[fO,fO];exact .eU Qo X2
  cases h;rename_i e s kN agg sz z id m ag n hk ha hi;split at h;rename_i q1 s' l zz hop;obtain⟨hS,Hh⟩:=lC hop;split at h;rename_i h0;obtain⟨h0,h1,rfl⟩:=h0;cases h;obtain⟨kd,S6⟩:=mY hρ hi;have:=hρ a _ ha;generalize hv:ρ a=v at this;cases this with
  |@jl _ _ _ e1 s1 l1 z1 _ _ Ci Jc hA=>
   obtain⟨rfl,rfl,rfl,rfl⟩:q1=e1/\s'=s1/\l=l1/\zz=z1:=by rw[hS]at Ci;cases Ci;exact⟨rfl,rfl,rfl,rfl⟩
   obtain⟨rfl,rfl⟩:=hA Hh;exact aQ hR (by rw[hv,S6];exact EF eV hk h0 h1 _ _ _) (.fS hS U λ_=>by rw[eN])
  cases h;cases h;cases h
 |index t a i=>simp only[ah]at h;split at h;rename_i k s agg sz z l n hk ha hi;split at h;rename_i h0;simp only[af,ay]at h;obtain⟨d',h3,rfl,rfl⟩:=h;obtain⟨kd,S6⟩:=mY hρ hi;obtain⟨arr,hv,SU⟩:=O4 (hρ a _ ha);obtain⟨sY,it,hit,-,-⟩:=bW (eV t _ hk);obtain⟨e,hu,ie,sZ,q8,Hj,d0,hu2⟩:=yC sY;obtain⟨v,vE,FJ⟩:=Pn (x:=x) sZ hu2 q8 Hj SU h3 x.w;refine aQ hR (v:=v) ?_ FJ;have hc:0<=n/\n<(k:Int):=⟨h0.1,U⟩;simp only[Instr.index,hv,S6,asIntOf,Sem.run_bind,Sem.run_pure,run_underlying hu,Result.andThen_ok,hc,and_self,if_true,run_sizeOf sZ,q8,vE];cases h;rename_i b n hk ha hi;split at h;rename_i iv h1;simp only[af,ay]at h;obtain⟨d',h3,rfl,rfl⟩:=h;obtain⟨v,h4,h5⟩:=jB (x:=x) h3 x.w;rw[<-oM (hρ a _ ha),<-dW hρ h1]at h4;exact aQ hR h4 h5;cases h;cases h
 |makeMap t r=>
  cases r with
  |none=>simp only[ah,aF,ay]at h;obtain⟨rfl,rfl⟩:=h;exact NG hR hn
  |some a=>simp[ah]at h
 |lookup t m k ok=>
  simp only[ah]at h;split at h;rename_i id kv hm hk;split at h;rename_i es hS;simp only[af,lq,ay]at h;obtain⟨d',⟨v,h1,h2⟩,rfl,rfl⟩:=h;have:=hρ m _ hm;generalize hv:ρ m=vm at this;cases this with
  |map _=>have h3:=RP hR hS h1 h2;rw[<-hv,<-dW hρ hk]at h3;exact h3
  cases h;cases h
 |mapUpdate t m k a=>
  simp only[ah]at h;split at h;rename_i id kv vv hm hk ha;split at h;rename_i es hS;split at h;rename_i r hr;simp only[af,ay]at h;obtain⟨es',h1,rfl,rfl⟩:=h;have:=hρ m _ hm;generalize hv:ρ m=vm at this;cases this with
  |map _=>have h3:=IZ hR hS hr h1;rw[<-hv,<-dW hρ hk,<-dW hρ ha]at h3;exact h3
  cases h;cases h;cases h
 |extract a i=>
  simp only[ah]at h;split at h;rename_i l ha;simp only[af,ay]at h;obtain⟨d',h3,rfl,rfl⟩:=h;have:=hρ a _ ha;generalize hv:ρ a=v at this;cases this with
  |@tup _ vs hs hr=>
   have hlt:i<vs.size:=by rw[hs];exact(aI.1 h3).1
   refine aQ hR (v:=vs[i]) (by rw[hv];simp[Instr.extract,hlt]) ?_;simpa [aU,hlt]using hr i _ h3
  cases h
 |call c=>
  obtain⟨callee,args,ats⟩:=c;cases callee with
  |builtin b=>
   simp only[ah]at h;have hex:∀w:World,(execOp ρ ⟨dst,.call ⟨.builtin b,args,ats⟩,type,pos,after,guard⟩).run P w=(Go.builtin b ats type (args.map λ|.const _=>true|_=>false) (args.map ρ)).run P w:=λw=>by simp only[execOp,resolve,Sem.run_bind,Sem.run_pure,Result.andThen_ok,invoke];rfl
   rw[hex];split at h;rename_i a t pG Zb;have ea:args=#[a]:=by rw[<-yx (xs:=args),pG]
   have et:ats=#[t]:=by rw[<-yx (xs:=ats),Zb]
   subst ea et;split at h;rename_i e s kN agg sz z rows tok full hk ha;cases h;obtain⟨sY,it,hit,-,-⟩:=bW (eV t _ hk);obtain⟨hu,-⟩:=lu sY;have:=hρ a _ ha;generalize hv:ρ a=v at this;cases this with
   |sl _ _ _ _ _ _ _=>exact aQ hR (v:=.int .i64 rows.length) (by simp[Builtin.len_,hv,run_underlying hu,goInt]) (.val rfl)
   rename_i e s kN agg sz z id n ag hk ha;cases h;obtain⟨sY,it,hit,-,-⟩:=bW (eV t _ hk);obtain⟨hu,-⟩:=lu sY;have:=hρ a _ ha;generalize hv:ρ a=v at this;cases this with
   |jl _ _ _=>exact aQ hR (v:=.int .i64 n) (by simp[Builtin.len_,hv,run_underlying hu,goInt]) (.val rfl)
   rename_i n s agg sz z hk;cases h;obtain⟨sY,it,hit,-,-⟩:=bW (eV t _ hk);obtain⟨e,hu,-⟩:=yC sY;exact aQ hR (v:=.int .i64 n) (by simp[Builtin.len_,run_underlying hu,goInt]) (.val rfl);rename_i v ha hno;simp only[af,ay]at h;obtain⟨d',h3,rfl,rfl⟩:=h;obtain⟨v',h4,h5⟩:=jB (x:=x) h3 x.w;have:=oM (hρ a _ ha);refine aQ hR (v:=v') ?_ h5;simpa [this]using h4;cases h;rename_i a b t u pG Zb;have ea:args=#[a,b]:=by rw[<-yx (xs:=args),pG]
   have et:ats=#[t,u]:=by rw[<-yx (xs:=ats),Zb]
   subst ea et;split at h;rename_i SS;subst SS;split at h;rename_i da db ha hb;have e2:Array.map ρ #[a,b]=#[ρ a,ρ b]:=ab
   rw[e2];split at h;exact EG (u:=type) eV hR hn (hρ a _ ha) (hρ b _ hb) h;split at h;exact EG (u:=type) eV hR hn (hρ a _ ha) (hρ b _ hb) h;exact RR (u:=type) eV hR hn (hρ a _ ha) (hρ b _ hb) h;cases h;cases h;rename_i xs pG;split at h;rename_i vs h1;simp only[af,ay]at h;obtain⟨d',h3,rfl,rfl⟩:=h;simp only[lq]at h1;obtain⟨ds,h4,h5⟩:=h1;have h6:=wJ hρ h4;have h7:=Ag (x:=x) (vs:=args.toList.map ρ) h5 (by simpa using h6.1) λj c hc=>by simpa [aU,aP]using h6.2 j c hc
   obtain⟨v',h8,h9⟩:=jB (x:=x) h3 x.w;refine aQ hR (v:=v') ?_ h9;have e2:(List.map ρ args.toList).toArray=Array.map ρ args:=Array.toList_inj.1 ab;rw[<-h7,e2]at h8;exact h8;cases h;rename_i xs pG;split at h;rename_i vs h1;simp only[af,ay]at h;obtain⟨d',h3,rfl,rfl⟩:=h;simp only[lq]at h1;obtain⟨ds,h4,h5⟩:=h1;have h6:=wJ hρ h4;have h7:=Ag (x:=x) (vs:=args.toList.map ρ) h5 (by simpa using h6.1) λj c hc=>by simpa [aU,aP]using h6.2 j c hc
   obtain⟨v',h8,h9⟩:=jB (x:=x) h3 x.w;refine aQ hR (v:=v') ?_ h9;have e2:(List.map ρ args.toList).toArray=Array.map ρ args:=Array.toList_inj.1 ab;rw[<-h7,e2]at h8;exact h8;cases h;cases h
  |_=>simp[Op.lone]at hop
 |_=>simp[ah]at h
end Go.Di
