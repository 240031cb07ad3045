import Derived.Test.YtadeehilamokkaaGreatDoorPk07
namespace Go.Tv
open Go Go.Di Go.Proofs
variable {P:Program} {ty:fo} {tt:TypeId->cJ} {ι ι' w:kW} {S S':aj} {te:cp} {env:cn} {tS:cx} {aD:bT} {call:bg} {yf:dx} {o:Oper} {aB nT:Nat} {B L:cy}
def wB:TV->cy
 |.ptr k _=>[k]
 |_=>[]
def iJ:TV->cy
 |.ptr k _=>[k]
 |.fn _ a b=>a.flatMap wB++b.flatMap wB
 |_=>[]
def Gi(tS:cx)(k:Nat):cy:=
 match tS[k]? with
 |some (.cells l)=>l.flatMap iJ
 |_=>[]
def wH(tS:cx)(X:cy):cy:=X++(X.flatMap (Gi tS)).filter λi=>!X.contains i
def fK(tS:cx)(A:cp):cy:=wH tS (wH tS (wH tS (A.flatMap iJ)))
def BG(X:cy):TV->Bool
 |.ptr k _=>X.contains k
 |v=>kG v
def V7(X:cy):TV->Bool
 |.ptr k _=>X.contains k
 |.fn _ a b=>a.all (BG X)&&b.all (BG X)
 |v=>kG v
def Gv(X:cy):TV->Bool
 |.ptr k _=>X.contains k
 |.fn _ a b=>a.all (BG X)&&b.all (BG X)
 |v=>eu v
def tc(tS:cx)(X:cy)(k:Nat):Bool:=
 match tS[k]? with
 |some (.cells l)=>l.all (V7 X)
 |_=>false
abbrev mB(ι:kW)(k:Nat):Nat:=(ι k).getD 0
theorem Sk{X:cy}{v:TV}{d:DV}(hg:BG X v=true)(h:RT ι S v d):Vh d=(wB v).map (mB ι)/\∀k∈wB v,∃k',ι k=some k':=by
 cases v<;>first|(cases hg;done)|skip
 cases d<;>simp only[RT]at h;exact⟨rfl,by simp[wB]⟩;cases d<;>simp only[RT]at h;exact⟨rfl,by simp[wB]⟩;cases d<;>simp only[RT]at h;exact⟨by simp[Vh,wB,mB,h.1],by simp[wB,h.1]⟩
theorem xC{X:cy}:∀{l:cp}{m:cn},l.all (BG X)=true->cq ι S l m->m.flatMap Vh=(l.flatMap wB).map (mB ι)/\∀k∈l.flatMap wB,∃k',ι k=some k'
 |[],m,_,h=>by rw[aO h];exact⟨rfl,ae⟩
 |a::l,m,hp,h=>by obtain⟨d,m',rfl,h1,h2⟩:=ax h;simp only[cg,aC]at hp;obtain⟨k1,k2⟩:=Sk hp.1 h1;obtain⟨k3,k4⟩:=xC hp.2 h2;refine⟨by rw[dm,dm,eY,k1,k3],λk hk=>?_⟩;rw[dm,iQ]at hk;exact hk.elim (k2 k) (k4 k)
theorem GG{X:cy}{g:FuncId}{a b:cp}{d:DV}(hg:(a.all (BG X)&&b.all (BG X))=true)(h:RT ι S (.fn g a b) d):Al d=(iJ (.fn g a b)).map (mB ι)/\∀k∈iJ (.fn g a b),∃k',ι k=some k':=by simp only[aC]at hg;cases d<;>simp only[RT]at h;obtain⟨k1,k2⟩:=xC hg.1 h.2.1;obtain⟨k3,k4⟩:=xC hg.2 h.2.2;refine⟨by simp only[Al,iJ,eY,k1,k3],λk hk=>?_⟩;simp only[iJ,iQ]at hk;exact hk.elim (k2 k) (k4 k)
theorem Sl{X:cy}{v:TV}{d:DV}(hg:V7 X v=true)(h:RT ι S v d):Al d=(iJ v).map (mB ι)/\∀k∈iJ v,∃k',ι k=some k':=by
 cases v<;>first|(cases hg;done)|exact GG hg h|skip
 cases d<;>simp only[RT]at h;exact⟨rfl,by simp[iJ]⟩;cases d<;>simp only[RT]at h;exact⟨rfl,by simp[iJ]⟩;cases d<;>simp only[RT]at h;exact⟨by simp[Al,iJ,mB,h.1],by simp[iJ,h.1]⟩
theorem Sq{X:cy}{v:TV}{d:DV}(hg:Gv X v=true)(h:RT ι S v d):Al d=(iJ v).map (mB ι)/\∀k∈iJ v,∃k',ι k=some k':=by
 cases v<;>first|(cases hg;done)|exact GG hg h|skip
 all_goals cases d<;>simp only[RT]at h
 all_goals first
  |exact⟨rfl,by simp[iJ]⟩
  |exact⟨by simp[Al,iJ,mB,h.1],by simp[iJ,h.1]⟩
theorem AO{G:TV->Bool}(hG:∀v d,G v=true->RT ι S v d->Al d=(iJ v).map (mB ι)/\∀k∈iJ v,∃k',ι k=some k'):∀{l:cp}{m:cn},l.all G=true->cq ι S l m->m.flatMap Al=(l.flatMap iJ).map (mB ι)/\∀k∈l.flatMap iJ,∃k',ι k=some k'
 |[],m,_,h=>by rw[aO h];exact⟨rfl,ae⟩
 |a::l,m,hp,h=>by obtain⟨d,m',rfl,h1,h2⟩:=ax h;simp only[cg,aC]at hp;obtain⟨k1,k2⟩:=hG _ _ hp.1 h1;obtain⟨k3,k4⟩:=AO hG hp.2 h2;refine⟨by rw[dm,dm,eY,k1,k3],λk hk=>?_⟩;rw[dm,iQ]at hk;exact hk.elim (k2 k) (k4 k)
theorem Sn(hR:bO ι te tS env S){X:cy}{k:Nat}(hg:tc tS X k=true):Ii S (mB ι k)=(Gi tS k).map (mB ι)/\∀j∈Gi tS k,∃k',ι j=some k':=by
 unfold tc at hg;split at hg;rename_i l hl;obtain⟨k',ds,h1,h2,h3⟩:=hR.cells k l hl;have e:mB ι k=k':=by simp[mB,h1]
 have:=AO (G:=V7 X) (λv d=>Sl) hg h3;simp only[Ii,Gi,e,h2,hl];exact this;cases hg
theorem Ep(hR:bO ι te tS env S){X Z:cy}(hX:∀k∈X,tc tS Z k=true)(hd:∀k∈X,∃k',ι k=some k'):qZ S (X.map (mB ι))=(wH tS X).map (mB ι)/\∀k∈wH tS X,∃k',ι k=some k':=by
 have key:∀{Y:cy},(∀k∈Y,tc tS Z k=true)->(Y.map (mB ι)).flatMap (Ii S)=(Y.flatMap (Gi tS)).map (mB ι)/\∀k∈Y.flatMap (Gi tS),∃k',ι k=some k':=by
  intro Y;induction Y with
  |nil=>intro _;exact⟨rfl,ae⟩
  |cons a Y ih=>intro h;obtain⟨k1,k2⟩:=Sn hR (h a (gO ..));obtain⟨k3,k4⟩:=ih λk hk=>h k (nt _ hk);refine⟨by rw[aZ,dm,dm,eY,k1,k3],λk hk=>?_⟩;rw[dm,iQ]at hk;exact hk.elim (k2 k) (k4 k)
 obtain⟨k1,k2⟩:=key hX;have RS:∀k,(∃k',ι k=some k')->(X.map (mB ι)).contains (mB ι k)=X.contains k:=λk ⟨k',hk⟩=>by
  rw[Bool.eq_iff_iff,List.contains_iff_mem,List.contains_iff_mem,fQ];refine⟨λ⟨j,h1,h2⟩=>?_,λh=>⟨k,h,rfl⟩⟩;obtain⟨j',hj⟩:=hd j h1;have e:j'=k':=by simpa [mB,hj,hk]using h2
  obtain rfl:=hR.inj j k k' (e▸hj) hk;exact h1
 have hf:∀{Y:cy},(∀k∈Y,∃k',ι k=some k')->(Y.map (mB ι)).filter (λi=>!(X.map (mB ι)).contains i)=(Y.filter λi=>!X.contains i).map (mB ι):=by
  intro Y;induction Y with
  |nil=>intro _;rfl
  |cons a Y ih=>intro h;rw[aZ,List.filter_cons,List.filter_cons,RS a (h a (gO ..)),ih λk hk=>h k (nt _ hk)];split<;>rfl
 refine⟨by unfold qZ wH;rw[k1,hf k2,eY],λk hk=>?_⟩;unfold wH at hk;rw[iQ,List.mem_filter]at hk;exact hk.elim (hd k) λh=>k2 k h.1
theorem SS(hR:bO ι te tS env S){A:cp}{m:cn}(hA:A.all (Gv (fK tS A))=true)(hg:(fK tS A).all (tc tS (fK tS A))=true)(hv:cq ι S A m):jd S m=(fK tS A).map (mB ι)/\∀k∈fK tS A,∃k',ι k=some k':=by have h3:∀k∈fK tS A,tc tS (fK tS A) k=true:=aU.1 hg;have h2:∀k∈wH tS (wH tS (A.flatMap iJ)),tc tS (fK tS A) k=true:=λk hk=>h3 k (qC _ hk);have h1:∀k∈wH tS (A.flatMap iJ),tc tS (fK tS A) k=true:=λk hk=>h2 k (qC _ hk);have h0:∀k∈A.flatMap iJ,tc tS (fK tS A) k=true:=λk hk=>h1 k (qC _ hk);obtain⟨e0,d0⟩:=AO (G:=Gv (fK tS A)) (λv d=>Sq) hA hv;obtain⟨e1,d1⟩:=Ep hR h0 d0;obtain⟨e2,d2⟩:=Ep hR h1 d1;obtain⟨e3,d3⟩:=Ep hR h2 d2;refine⟨?_,d3⟩;unfold jd fK;rw[e0,e1,e2,e3]
section
variable {ρ:Nat->Option Nat} (hρ:∀k j,ρ k=some j->ι' j=ι k)
include hρ
theorem GN{v v':TV}{d:DV}(h:UI ρ v=some v')(hv:RT ι S v d):RT ι' S' v' d.aM:=by unfold UI at h;split at h;simp only[af]at h;obtain⟨j,h1,rfl⟩:=h;cases d<;>simp only[RT,DV.aM]at hv⊢;exact⟨(hρ _ _ h1).trans hv.1,hv.2⟩;split at h;rename_i hp;cases h;exact(uP hp hv).2;cases h
theorem xH:∀{l l':cp}{m:cn},Aj ρ l=some l'->cq ι S l m->cq ι' S' l' (m.map DV.aM)
 |[],l',m,h,hv=>by cases h;rw[aO hv];exact bJ
 |v::l,l',m,h,hv=>by obtain⟨d,m',rfl,h1,h2⟩:=ax hv;simp only[Aj]at h;split at h;rename_i a b e1 e2;cases h;exact aP (GN hρ e1 h1) (xH e2 h2);cases h
theorem GO{g:FuncId}{a b x y:cp}{d:DV}(e1:Aj ρ a=some x)(e2:Aj ρ b=some y)(hv:RT ι S (.fn g a b) d):RT ι' S' (.fn g x y) (cW d)/\jb d=cW d:=by cases d<;>simp only[RT]at hv;exact⟨by simp only[cW,RT];exact⟨hv.1,xH hρ e1 hv.2.1,xH hρ e2 hv.2.2⟩,rfl⟩
theorem SJ{v v':TV}{d:DV}(h:Pk ρ v=some v')(hv:RT ι S v d):RT ι' S' v' (cW d):=by
 unfold Pk at h;split at h;split at h;rename_i x y e1 e2;cases h;exact(GO hρ e1 e2 hv).1;cases h;cases h;cases d<;>simp only[RT,cW,DV.aM]at hv⊢;obtain⟨rfl,-,-⟩:=hv;exact⟨trivial,trivial⟩;rename_i hno _;have:cW d=d.aM:=by
  cases d<;>first|rfl|skip
  cases v<;>simp only[RT]at hv;simp[UI,kG]at h
  grind
 rw[this];exact GN hρ h hv
theorem EW:∀{l l':cp}{m:cn},Dq ρ l=some l'->cq ι S l m->cq ι' S' l' (m.map cW)
 |[],l',m,h,hv=>by cases h;rw[aO hv];exact bJ
 |v::l,l',m,h,hv=>by obtain⟨d,m',rfl,h1,h2⟩:=ax hv;simp only[Dq]at h;split at h;rename_i a b e1 e2;cases h;exact aP (SJ hρ e1 h1) (EW e2 h2);cases h
theorem EU{l l':cp}{m:cn}(h:Ct ρ l=some l')(hv:cq ι S l m):cq ι' S' l' (m.map cW):=EW hρ (Iu h) hv
theorem GQ{t:cJ}{v v':TV}{d:DV}(h:rnA ρ t v=some v')(hv:RT ι S v d):RT ι' S' v' (jb d):=by
 unfold rnA at h;split at h;simp only[af]at h;obtain⟨j,h1,rfl⟩:=h;cases d<;>simp only[RT,jb,DV.strip,DV.cZ]at hv⊢;exact⟨(hρ _ _ h1).trans hv.1,hv.2⟩;unfold Pk at h;simp only at h;split at h;rename_i x y e1 e2;cases h;obtain⟨k1,k2⟩:=GO (S':=S') hρ e1 e2 hv;rw[k2];exact k1
 cases h;rename_i aks Vl;split at h;rename_i hp;cases h;have:jb d=d.strip:=by
  cases d<;>first|rfl|skip
  cases v<;>simp only[RT]at hv;cases hp;cases hp
 rw[this];exact(js hp hv).2.2;cases h
theorem xI:∀{ts:List cJ}{l l':cp}{m:cn},tM ρ ts l=some l'->cq ι S l m->cq ι' S' l' (m.map jb)
 |_,[],l',m,h,hv=>by simp only[tM]at h;cases h;rw[aO hv];exact bJ
 |[],v::l,l',m,h,hv=>by obtain⟨d,m',rfl,h1,h2⟩:=ax hv;simp only[tM]at h;split at h;rename_i a b e1 e2;cases h;exact aP (GQ hρ e1 h1) (xI e2 h2);cases h
 |t::ts,v::l,l',m,h,hv=>by obtain⟨d,m',rfl,h1,h2⟩:=ax hv;simp only[tM]at h;split at h;rename_i a b e1 e2;cases h;exact aP (GQ hρ e1 h1) (xI e2 h2);cases h
end
section
variable {ρ:Nat->Option Nat} {R:cy} (hρ:∀k j,ρ k=some j->∃k',ι k=some k'/\k'∈R)
include hρ
theorem WJ{v v':TV}{d:DV}(h:UI ρ v=some v')(hv:RT ι S v d):ZJ R d.aM=true:=by
 unfold UI at h;split at h;simp only[af]at h;obtain⟨j,h1,rfl⟩:=h;cases d<;>simp only[RT]at hv;obtain⟨k',h2,h3⟩:=hρ _ _ h1;rw[hv.1]at h2;cases h2;simpa [ZJ,DV.aM]using h3;split at h;rename_i hp;have:=(uP (ι':=ι) (S':=S) hp hv).1;generalize d.aM=c at this;cases c<;>first|exact this|cases this
 cases h
theorem Jd:∀{l l':cp}{m:cn},Aj ρ l=some l'->cq ι S l m->(m.map DV.aM).all (ZJ R)=true
 |[],l',m,h,hv=>by rw[aO hv];rfl
 |v::l,l',m,h,hv=>by
  obtain⟨d,m',rfl,h1,h2⟩:=ax hv;simp only[Aj]at h;split at h;rename_i a b e1 e2;rw[aZ,cg,WJ hρ e1 h1,Jd e2 h2];rfl
  cases h
theorem WK{g:FuncId}{a b x y:cp}{d:DV}(e1:Aj ρ a=some x)(e2:Aj ρ b=some y)(hv:RT ι S (.fn g a b) d):MT R (cW d)=true/\okA R (jb d)=true:=by cases d<;>simp only[RT]at hv;have h1:=Jd hρ e1 hv.2.1;have h2:=Jd hρ e2 hv.2.2;exact⟨by simp only[MT,cW,h1,h2];rfl,by simp only[okA,jb,h1,h2];rfl⟩
theorem aff{v v':TV}{d:DV}(h:Pk ρ v=some v')(hv:RT ι S v d):MT R (cW d)=true:=by
 unfold Pk at h;split at h;split at h;rename_i x y e1 e2;exact(WK hρ e1 e2 hv).1;cases h;cases d<;>simp only[RT]at hv;rfl;rename_i hno Vl;have:=WJ hρ h hv;cases v<;>first|exact(hno _ _ _ rfl).elim|exact(Vl rfl).elim|(simp[UI,kG]at h;done)|skip
 all_goals cases d<;>simp only[RT]at hv
 all_goals exact this
theorem QE:∀{l l':cp}{m:cn},Dq ρ l=some l'->cq ι S l m->(m.map cW).all (MT R)=true
 |[],l',m,h,hv=>by rw[aO hv];rfl
 |v::l,l',m,h,hv=>by
  obtain⟨d,m',rfl,h1,h2⟩:=ax hv;simp only[Dq]at h;split at h;rename_i a b e1 e2;rw[aZ,cg,aff hρ e1 h1,QE e2 h2];rfl
  cases h
theorem QD{l l':cp}{m:cn}(h:Ct ρ l=some l')(hv:cq ι S l m):(m.map cW).all (MT R)=true:=QE hρ (Iu h) hv
theorem WM{t:cJ}{v v':TV}{d:DV}(h:rnA ρ t v=some v')(hv:RT ι S v d):okA R (jb d)=true:=by
 unfold rnA at h;split at h;simp only[af]at h;obtain⟨j,h1,rfl⟩:=h;cases d<;>simp only[RT]at hv;obtain⟨k',h2,h3⟩:=hρ _ _ h1;rw[hv.1]at h2;cases h2;simpa [okA,jb,DV.strip,DV.cZ]using h3;unfold Pk at h;simp only at h;split at h;rename_i x y e1 e2;exact(WK hρ e1 e2 hv).2;cases h;split at h
 .rename_i hp;have:=(js (t:=none) (ι':=ι) (S':=S) hp hv).1;cases v<;>first|(cases hp;done)|skip
  all_goals cases d<;>simp only[RT]at hv
  all_goals exact this
 cases h
theorem Je:∀{ts:List cJ}{l l':cp}{m:cn},tM ρ ts l=some l'->cq ι S l m->(m.map jb).all (okA R)=true
 |_,[],l',m,h,hv=>by rw[aO hv];rfl
 |[],v::l,l',m,h,hv=>by
  obtain⟨d,m',rfl,h1,h2⟩:=ax hv;simp only[tM]at h;split at h;rename_i a b e1 e2;rw[aZ,cg,WM hρ e1 h1,Je e2 h2];rfl
  cases h
 |t::ts,v::l,l',m,h,hv=>by
  obtain⟨d,m',rfl,h1,h2⟩:=ax hv;simp only[tM]at h;split at h;rename_i a b e1 e2;rw[aZ,cg,WM hρ e1 h1,Je e2 h2];rfl
  cases h
end
theorem yK{S:aj}{R:cy}{k:Nat}{l:cn}(hk:k∈R)(h:S[k]? =some (.cells l)):(s8 S R)[k]? =some (.cells (l.map cW)):=by simp only[s8,oI,h,ay,VR,if_pos (show R.contains k=true by simpa using hk)]
theorem iF{S S1:aj}{R:cy}{k:Nat}(hk:k∉R):(kZ S S1 R)[k]? =S[k]? :=by simp only[kZ,oI,if_neg (show¬R.contains k=true by simpa using hk)];exact Option.map_id'
theorem Bo{S S1:aj}{R:cy}{k:Nat}{l l':cn}(hk:k∈R)(h:S[k]? =some (.cells l))(h1:S1[k]? =some (.cells l')):(kZ S S1 R)[k]? =some (.cells (l'.map cW)):=by simp only[kZ,oI,h,ay,if_pos (show R.contains k=true by simpa using hk),Wd,h1]
def C5:cp->Bool
 |.ptr _ _::r=>r.any isRef
 |.unk::_=>false
 |_=>true
theorem Tw{A:cp}{m:cn}{g:FuncId}(h:C5 A=true)(hv:cq ι S A m):pn call g m S=none:=by
 cases A with
 |nil=>rw[aO hv];rfl
 |cons v l=>
  obtain⟨d,m',rfl,h1,h2⟩:=ax hv;unfold pn;split
  .rename_i i off rest e;cases e;split
   .rw[if_neg];intro hc;simp only[aC]at hc;have hr:l.any isRef=true:=by cases v<;>first|(cases h;done)|exact h|(simp only[RT]at h1)
    have:=mO hr h2;rw[this]at hc;cases hc.1
   rfl
  rfl
theorem MI{f:Operand}{args:Array Operand}{argTypes:Array TypeId}{g:FuncId}{fs cs xs targs:cp}{tP:List cp}{Q:TV->List cp->Prop}(hop:o.op=.call {callee:=.value f,args,argTypes})(hh:ty.h o≠1)(hf:eL te f=some (.fn g fs cs))(ha:lD te args.toList=some xs)
  (Dh:nodupB L=true) (hL:∀k,k∈fK tS (fs++xs++cs)↔k∈L) (hne:L≠[]) (hA:(fs++xs++cs).all (Gv (fK tS (fs++xs++cs)))=true) (hg:(fK tS (fs++xs++cs)).all (tc tS (fK tS (fs++xs++cs)))=true) (hno:C5 (fs++xs++cs)=true)
  (hn:tM (loc L) (fM tt fs argTypes) (fs++xs++cs)=some targs) (hr:(fs++xs++cs).any isRef=true) (hb:J7 (loc L) tS L=some tP) (hs:Gx call g targs tP Q) (hq:∀v t,Q v t->∃tB,Ib L t=some tB):
  Does P ty aD call yf B o nT te tS true λv bS bK ft=>∃HR tB,Q v HR/\Ib L HR=some tB/\bS=te/\bK=yc L tB tS/\ft=⟨some L,true⟩:=by
 intro ι w env S aB hR hB hw hT RR hS;obtain⟨xe,iB,F5,k1,k2,k3⟩:=ig hR.env hf ha;obtain⟨hl,UR⟩:=zi hb;obtain⟨WW,aas⟩:=SS hR hA hg k3;generalize hRR:jd S (xe++F5++iB)=R at WW;have lF:∀i,i∈R↔∃k,k∈L/\ι k=some i:=λi=>by rw[WW,fQ];refine⟨λ⟨k,h1,h2⟩=>?_,λ⟨k,h1,h2⟩=>⟨k,(hL k).2 h1,by simp[mB,h2]⟩⟩;obtain⟨k',hk⟩:=aas k h1;exact⟨k,(hL k).1 h1,by rw[hk,<-h2];simp[mB,hk]⟩
 have hρ:∀k j,loc L k=some j->∃k',ι k=some k'/\k'∈R:=λk j h=>by have hk:k∈L:=bY (iO h);obtain⟨k',h1⟩:=aas k ((hL k).2 hk);exact⟨k',h1,(lF k').2 ⟨k,hk,h1⟩⟩
 have dB:∀k,k∈L->∃j c c' k0 ds,loc L k=some j/\L[j]? =some k/\tS[k]? =some (.cells c)/\Ct (loc L) c=some c'/\tP[j]? =some c'/\ι k=some k0/\S[k0]? =some (.cells ds)/\cq ι S c ds:=λk hk=>by obtain⟨j,hj⟩:=vr hk;obtain⟨c,c',h1,h2,h3⟩:=UR j k (iO hj);obtain⟨k0,ds,h4,h5,h6⟩:=hR.cells k c h1;exact⟨j,c,c',k0,ds,hj,iO hj,h1,h2,h3,h4,h5,h6⟩
 have aax:∀k k0,k∈L->ι k=some k0->k0∈R:=λk k0 h1 h2=>(lF k0).2 ⟨k,h1,h2⟩;have hc:bO (wh L ι) targs (tP.map .cells) ((xe++F5++iB).map jb) (s8 S R):=by
  refine⟨xI (λk j h=>uD h) hn k3,λj l hj=>?_,λj e s hj=>?_,λj k' hj=>?_,λi j k' hi hj=>?_,λj b hj t _=>?_⟩;simp only[cH,af,TB.cells.injEq]at hj;obtain⟨c',h1,rfl⟩:=hj;have hlt:j<L.length:=hl▸(aI.1 h1).1;have Cn:L[j]? =some L[j]:=aT hlt;obtain⟨c,c2,q1,q2,q3⟩:=UR j _ Cn;rw[h1]at q3;cases q3;obtain⟨k',ds,m1,m2,m3⟩:=hR.cells _ _ q1;exact⟨k',ds.map cW,by simp[wh,Cn,m1],yK (aax _ _ (bY Cn) m1) m2,EU (λk j h=>uD h) q2 m3⟩;simp at hj;unfold wh at hj;cases Cn:L[j]? with
  |none=>rw[Cn]at hj;cases hj
  |some k=>grind
  unfold wh at hi hj;cases Uy:L[i]? with
  |none=>rw[Uy]at hi;cases hi
  |some a=>
   cases Cn:L[j]? with
   |none=>rw[Cn]at hj;cases hj
   |some b=>rw[Uy]at hi;rw[Cn]at hj;obtain rfl:=hR.inj a b k' hi hj;exact Eo Dh Uy Cn
  simp only[cH,af]at hj;obtain⟨c,-,rfl⟩:=hj;trivial
 obtain⟨d,S1,ι1,v,HR,n1,n2,n3,n4,n5,n6,n7,n8⟩:=hs _ _ _ hc;obtain⟨tB,Z1⟩:=hq _ _ n8;obtain⟨b1,b2⟩:=Ef Z1;have tY:∀j k,L[j]? =some k->ι1 j=ι k:=λj k hj=>by have:=(aI.1 hj).1;rw[n6.base j (by simp;omega)];simp[wh,hj]
 have hρ1:∀j k,(λj=>L[j]?) j=some k->∃k',ι1 j=some k'/\k'∈R:=λj k hj=>by have hk:k∈L:=bY hj;obtain⟨k',h1⟩:=aas k ((hL k).2 hk);exact⟨k',by rw[tY j k hj];exact h1,aax k k' hk h1⟩
 have W4:∀k,k∈L->∃j c c' k0 ds,loc L k=some j/\tB[j]? =some c/\Ct (λj=>L[j]?) c'=some c/\ι k=some k0/\S1[k0]? =some (.cells ds)/\cq ι1 S1 c' ds:=λk hk=>by obtain⟨j,hj⟩:=vr hk;have hjl:j<L.length:=(aI.1 (iO hj)).1;have hjb:tB[j]? =some tB[j]:=aT ab;obtain⟨c',h1,h2⟩:=b2 j _ hjb;obtain⟨k',iu,m1,m2,m3⟩:=n5 j c' (by simp[h1]);rw[tY j k (iO hj)]at m1;exact⟨j,_,c',k',iu,hj,hjb,h2,m1,m2,m3⟩
 obtain⟨r1,r2⟩:=Ca (ι':=ι) (S':=kZ S S1 R) n3 n2;have hm:nZ call g (xe++F5++iB) S=some (R,d.strip,S1):=by
  unfold nZ;rw[hRR];have e1:R.isEmpty=false:=by
   obtain⟨k,l,rfl⟩:=List.exists_cons_of_ne_nil hne;obtain⟨k',h1⟩:=aas k ((hL k).2 (gO ..));have:=aax k k' (gO ..) h1;cases R with
   |nil=>cases this
   |cons _ _=>rfl
  have e2:=Je hρ hn k3;have e3:R.all (kK S R)=true:=aU.2 λi hi=>by obtain⟨k,h1,h2⟩:=(lF i).1 hi;obtain⟨j,c,c',k0,ds,p1,p2,p3,p4,p5,p6,p7,p8⟩:=dB k h1;rw[h2]at p6;cases p6;unfold kK;rw[p7];exact QD hρ p4 p8
  have e4:R.all (kK S1 R)=true:=aU.2 λi hi=>by obtain⟨k,h1,h2⟩:=(lF i).1 hi;obtain⟨j,c,c',k0,ds,p1,p2,p3,p4,p5,p6⟩:=W4 k h1;rw[h2]at p4;cases p4;unfold kK;rw[p5];exact QD (ι:=ι1) hρ1 p3 p6
  rw[e1,e2,e3];simp only[yV,gq,if_true,n1,r1,e4]
 have hlt:∀k∈L,k<tS.length:=λk hk=>by obtain⟨j,c,c',k0,ds,p1,p2,p3,-⟩:=dB k hk;exact(aI.1 p3).1
 have aR:∀k,(yc L tB tS)[k]? =match loc L k with|some j=>(tB[j]?).map TB.cells|none=>tS[k]? :=λk=>Eg Dh ab hlt
 have ajf:∀k k0,k∉L->ι k=some k0->k0∉R:=λk k0 hk h0 hi=>by obtain⟨a,h1,h2⟩:=(lF k0).1 hi;exact hk (hR.inj a k k0 h2 h0▸h1)
 have lM:∀k k0,k∉L->ι k=some k0->(kZ S S1 R)[k0]? =S[k0]? :=λk k0 hk h0=>iF (ajf k k0 hk h0);have K:iY ι S ι (kZ S S1 R) λ_=>False:=λk k0 _ hk=>⟨hk,by by_cases F9:k∈L;obtain⟨j,c,c',k1,ds,p1,p2,p3,p4,p5,p6,p7,p8⟩:=dB k F9;rw[p6]at hk;cases hk;exact vt (by rw[p7];simp) (by rw[p7];simp) (by rw[p7];simp);exact dz (lM k k0 F9 hk)⟩;have ZQ:=mO hr k3;have ho:=Tw (call:=call) (g:=g) hno k3;refine⟨d.strip,kZ S S1 R,ι,w,v,te,yc L tB tS,⟨some R,true⟩,⟨some L,true⟩,λhd=>bj,λ_=>?_,⟨λe=>e,λl hl=>?_⟩,λl m hl hm j hj=>?_,?_,r2,hw,λ_ _ _=>rfl,⟨λk0 hl hno=>iF λhi=>?_,λk k0 hk=>.inl ⟨k,hk⟩,λ_ _=>rfl⟩,λk hk=>?_,⟨by simp[kZ],λj hj dU=>?_⟩,HR,tB,n8,Z1,rfl,rfl,rfl⟩;simp only[aH,hop,k1,k2,if_neg hh,ZQ,aJ,if_false,ho,hm];cases hl;refine⟨R,rfl,λi hi=>?_⟩;obtain⟨k,h1,h2⟩:=(lF i).1 hi;exact⟨k,h1,hw _ _ h2⟩
 grind
 refine⟨bn K _ _ hR.env,λk l hk=>?_,λk e s hk t ht=>?_,λk k0 hk=>?_,hR.inj,λk b hk t ht=>?_⟩;rw[aR]at hk;split at hk;rename_i j hj;have hkL:k∈L:=bY (iO hj);obtain⟨j2,c,c',k0,ds,p1,p2,p3,p4,p5,p6⟩:=W4 k hkL;rw[hj]at p1;cases p1;rw[p2]at hk;simp only[ay,aF,TB.cells.injEq]at hk;subst hk;obtain⟨-,-,-,k2,ds2,-,-,-,-,-,q6,q7,-⟩:=dB k hkL;rw[p4]at q6;cases q6;refine⟨k0,ds.map cW,p4,Bo (aax k k0 hkL p4) q7 p5,EU (ι:=ι1) (ρ:=λj=>L[j]?) (λa b pV=>(tY a b pV).symm) p3 p6⟩;rename_i hno;obtain⟨k0,M8,q1,q2,q3⟩:=hR.cells k l hk;exact⟨k0,M8,q1,by rw[lM k k0 (zy hno) q1];exact q2,bn K _ _ q3⟩;rw[aR]at hk;split at hk;simp at hk;obtain⟨n,q1⟩:=hR.own k e s hk t ht;exact⟨n,(K k t (λe=>e) ht).2.1 _ _ _ q1⟩;rw[aR];split
 grind
 exact hR.qH k k0 hk;rw[aR]at hk;split at hk;simp only[af]at hk;obtain⟨c,-,rfl⟩:=hk;trivial;rename_i hno;rw[lM k t (zy hno) ht];exact hR.mp k b hk t ht
 grind
 rw[aR];split;rename_i j hj;have hjl:j<tB.length:=by grind
 exact⟨some tB[j],by simp[hjl,lQ]⟩;exact hB k hk;rw[iF]
 grind
 grind
end Go.Tv
namespace Go.Tv
open Go Go.Di Go.Proofs
variable {P:Program} {ty:fo} {tt:TypeId->cJ} {ι ι' w:kW} {S S':aj} {te:cp} {env:cn} {tS:cx} {aD:bT} {call:bg} {yf:dx} {o:Oper} {aB nT:Nat} {B L:cy}
def aiX(n:Nat):TV->Option TV
 |.sl t l _=>some (.sl t l .no)
 |v=>Pk (λk=>if k<n then some k else none) v
def acX(n:Nat):cp->Option cp
 |[]=>some []
 |v::l=>match qO v with
  |true=>if kG v&&l.all kG then some (v::l)else none
  |false=>match aiX n v,acX n l with
   |some a,some b=>some (a::b)
   |_,_=>none
def VS(n:Nat)(tS:cx):cy->Option (List cp)
 |[]=>some []
 |k::l=>match tS[k]? with
  |some (.cells c)=>match acX n c,VS n tS l with
   |some a,some b=>some (a::b)
   |_,_=>none
  |_=>none
def akK(ty:fo)(rs:List ResultVar)(lE:List cJ)(n:Nat)(Q:TV->List cp->Prop)(e:DX)(te:cp)(tS:cx):Prop:=
 (match e with|.exit _=>False|_=>True)/\∃vs HR,xo ty te tS rs=some vs/\vs.all eu=true/\BH (kC (bL lE vs))=true/\VS n tS (List.range n)=some HR/\Q (kC (bL lE vs)) HR
def dedup:cy->cy
 |[]=>[]
 |a::l=>if(dedup l).contains a then dedup l else a::dedup l
theorem vR:∀{l:cy}{k:Nat},k∈dedup l↔k∈l
 |[],_=>Iff.rfl
 |a::l,k=>by unfold dedup;split;rename_i h;rw[vR,aV];have ha:a∈l:=vR.1 (by simpa using h);exact⟨.inr,λh=>h.elim (λe=>e▸ha) id⟩;rw[aV,aV,vR]
theorem uS:∀{l:cy},nodupB (dedup l)=true
 |[]=>rfl
 |a::l=>by unfold dedup;split;exact uS;rename_i h;simp only[nodupB,uS,qx,oH];simpa using h
def WO(tt:TypeId->cJ)(md:Nat)(tS:cx)(A:cp)(ts:List cJ)(X L:cy):Option (cp×List cp):=
 if A.any isRef&&!L.isEmpty&&(md==0||(A.all (Gv X)&&X.all (tc tS X)&&C5 A))then
  match tM (loc L) ts A,J7 (loc L) tS L with
  |some targs,some tP=>some (targs,tP)
  |_,_=>none
 else none
def NQ(tt:TypeId->cJ)(md:Nat)(te:cp)(tS:cx)(o:Oper):Option (FuncId×cy×cp×List cp):=
 match o.op with
 |.call {callee:=.value f,args,argTypes}=>match eL te f,lD te args.toList with
  |some (.fn g fs cs),some xs=>match WO tt md tS (fs++xs++cs) (fM tt fs argTypes) (fK tS (fs++xs++cs)) (dedup (fK tS (fs++xs++cs)))with
   |some (targs,tP)=>some (g,dedup (fK tS (fs++xs++cs)),targs,tP)
   |none=>none
  |_,_=>none
 |_=>none
theorem TL{md:Nat}{g:FuncId}{targs:cp}{tP:List cp}(h:NQ tt md te tS o=some (g,L,targs,tP)):
  ∃f args argTypes fs cs xs,o.op=.call {callee:=.value f,args,argTypes}/\eL te f=some (.fn g fs cs)/\lD te args.toList=some xs/\nodupB L=true/\(∀k,k∈fK tS (fs++xs++cs)↔k∈L)/\L≠[]/\tM (loc L) (fM tt fs argTypes) (fs++xs++cs)=some targs/\(fs++xs++cs).any isRef=true/\J7 (loc L) tS L=some tP/\
   (md≠0->(fs++xs++cs).all (Gv (fK tS (fs++xs++cs)))=true/\(fK tS (fs++xs++cs)).all (tc tS (fK tS (fs++xs++cs)))=true/\C5 (fs++xs++cs)=true):=by
 unfold NQ at h;split at h;rename_i f args argTypes hop;split at h;rename_i g' fs cs xs h1 h2;split at h;rename_i aj0 HR h3;cases h;unfold WO at h3;split at h3;rename_i hc;simp only[aC,jK,dQ,oH]at hc;obtain⟨⟨c1,c2⟩,c3⟩:=hc;split at h3;rename_i a b e1 e2;cases h3;refine⟨f,args,argTypes,fs,cs,xs,hop,h1,h2,uS,λk=>vR.symm,λe=>(by rw[e]at c2;cases c2),e1,c1,e2,λhm=>?_⟩;obtain⟨⟨c4,c5⟩,c6⟩:=c3.resolve_left hm;exact⟨c4,c5,c6⟩;cases h3;cases h3;cases h;cases h;cases h
end Go.Tv
namespace Go.Tv
open Go Go.Di Go.Proofs
def jI(tS:cx)(k:Nat):Bool:=
 match tS[k]? with
 |some (.cells _)=>true
 |_=>false
mutual
def dY(tS:cx):TV->TV
 |.sl t l (.oS _)=>.sl t l .no
 |.sl t l (.Ci _)=>.sl t l .no
 |.ptr id off=>match jI tS id with
  |true=>.ptr id off
  |false=>.unk
 |.mp id=>.unk
 |.so _ _=>.unk
 |.sp _ _ _ _=>.unk
 |.nN _ _ _=>.unk
 |.agg l=>.agg (fI tS l)
 |.tup l=>.tup (fI tS l)
 |.fn f a b=>.fn f (fI tS a) (fI tS b)
 |v=>v
def fI(tS:cx):cp->cp
 |[]=>[]
 |a::l=>dY tS a::fI tS l
end
def dh:Nat->cx->cy
 |_,[]=>[]
 |i,.cells _::l=>i::dh (i+1) l
 |i,.loop::l=>i::dh (i+1) l
 |i,_::l=>dh (i+1) l
variable {P:Program} {ty:fo} {tt:TypeId->cJ} {ι ι' w:kW} {S S':aj} {te:cp} {env:cn} {tS:cx} {aD:bT} {call:bg} {yf:dx} {o:Oper} {aB nT:Nat} {B:cy}
theorem uL{k:Nat}:∀{tS:cx}{i:Nat},k∈dh i tS↔i<=k/\∃c,tS[k-i]? =some (lQ c)
 |[],i=>by simp[dh]
 |b::l,i=>by
  have ih:=uL (k:=k) (tS:=l) (i:=i+1);have hs:∀(c:Option cp),i+1<=k->((b::l)[k-i]? =some (lQ c)↔l[k-(i+1)]? =some (lQ c)):=λc h=>by rw[show k-i=(k-(i+1))+1 by omega,List.getElem?_cons_succ]
  have yes:∀c0,b=lQ c0->((k=i\/k∈dh (i+1) l)↔i<=k/\∃c,(b::l)[k-i]? =some (lQ c)):=λc0 hb=>by
   rw[ih];constructor
   grind
   grind
  have no:(∀c,b≠lQ c)->(k∈dh (i+1) l↔i<=k/\∃c,(b::l)[k-i]? =some (lQ c)):=λhb=>by
   rw[ih];constructor
   grind
   grind
  cases b with
  |cells c0=>simp only[dh,aV];exact yes (some c0) rfl
  |loop=>simp only[dh,aV];exact yes none rfl
  |none=>simp only[dh];exact no λc e=>by cases c<;>cases e
  |map kt0 c0=>simp only[dh];exact no λc e=>by cases c<;>cases e
  |rows t0 e0 c0 z0=>simp only[dh];exact no λc e=>by cases c<;>cases e
  |own e0 s0=>simp only[dh];exact no λc e=>by cases c<;>cases e
theorem rB{k:Nat}{c:Option cp}(h:tS[k]? =some (lQ c)):k∈dh 0 tS:=uL.2 ⟨gm _,c,h⟩
theorem LJ{k:Nat}{c:cp}(h:tS[k]? =some (.cells c)):k∈dh 0 tS:=rB (c:=some c) h
theorem WV:oy (dh 0 tS) tS:=λ_ hk=>(uL.1 hk).2
mutual
theorem Qk(hi:∀k,jI tS k=true->ι' k=ι k):∀(v:TV)(d:DV),RT ι S v d->RT ι' S' (dY tS v) d
 |.unk,_,_=>by simp only[dY,RT]
 |.val _,d,k=>by cases d<;>simp only[RT,dY]at k⊢;exact k
 |.jD,d,k=>by cases d<;>simp only[RT,dY]at k⊢;exact k
 |.agg l,d,k=>by cases d<;>simp only[RT,dY]at k⊢;exact jN hi l _ k
 |.tup l,d,k=>by cases d<;>simp only[RT,dY]at k⊢;exact jN hi l _ k
 |.sl t l .no,d,k=>by cases d<;>simp only[RT,dY]at k⊢;exact k
 |.sl t l .full,d,k=>by cases d<;>simp only[RT,dY]at k⊢;exact k
 |.sl t l (.stop _),d,k=>by cases d<;>simp only[RT,dY]at k⊢;exact⟨k.1,trivial⟩
 |.sl t l (.Ci g),d,k=>by cases d<;>simp only[RT,dY]at k⊢;exact⟨k.1,trivial⟩
 |.sl t l (.oS g),d,k=>by cases d<;>simp only[RT,dY]at k⊢;exact⟨k.1,trivial⟩
 |.ptr id off,d,k=>by cases d<;>simp only[RT]at k;simp only[dY];split;rename_i hc;simp only[RT];exact⟨(hi _ hc).trans k.1,k.2⟩;simp only[RT]
 |.eU t l i off,d,k=>by cases d<;>simp only[RT,dY]at k⊢;exact k
 |.mp id,d,_=>by simp only[RT,dY]
 |.so g t,d,_=>by simp only[RT,dY]
 |.sp g t i off,d,_=>by simp only[RT,dY]
 |.nN _ _ _,d,_=>by simp only[RT,dY]
 |.fn f a b,d,k=>by cases d<;>simp only[RT,dY]at k⊢;exact⟨k.1,jN hi a _ k.2.1,jN hi b _ k.2.2⟩
theorem jN(hi:∀k,jI tS k=true->ι' k=ι k):∀(l:cp)(m:cn),cq ι S l m->cq ι' S' (fI tS l) m
 |[],m,k=>by rw[aO k];simp only[fI];exact bJ
 |a::l,m,k=>by obtain⟨d,m',rfl,h1,h2⟩:=ax k;simp only[fI];exact aP (Qk hi a d h1) (jN hi l m' h2)
end
end Go.Tv
namespace Go.Tv
open Go Go.Di Go.Proofs
variable {P:Program} {ty:fo} {ι ι' w:kW} {S S':aj} {te:cp} {env:cn} {tS:cx} {aD:bT} {call:bg} {yf:dx} {B:cy}
def oc:cp->List (Tmp×TV)->cp
 |te,[]=>te
 |te,(t,v)::l=>oc (te.set t v) l
theorem Qd:∀{ps:List Tmp}{te:cp}{env:cn}{xs:cp}{ds:cn},cq ι S te env->cq ι S xs ds->cq ι S (oc te (ps.zip xs)) (s4 env (ps.zip ds))
 |[],te,env,xs,ds,h,k=>by simpa [oc,s4]using h
 |p::ps,te,env,[],ds,h,k=>by rw[aO k];simpa [oc,s4]using h
 |p::ps,te,env,x::xs,ds,h,k=>by obtain⟨d,m,rfl,k1,k2⟩:=ax k;simp only[List.zip_cons_cons,oc,s4];exact Qd (I3 p h k1) k2
def Dz(ι:kW)(k:Nat):kW:=λj=>if j=k then none else ι j
theorem yR{k j:Nat}(h:j≠k):Dz ι k j=ι j:=if_neg h
theorem gd{k j id:Nat}(h:Dz ι k j=some id):j≠k/\ι j=some id:=by
 unfold Dz at h;split at h;cases h
 grind
theorem Lc(h:bO ι te tS env S){k:Nat}(hr:(eM te++od tS).contains k=false):bO (Dz ι k) te (tS.set k .none) env S:=by
 have hk:∀j,j∈eM te++od tS->j≠k:=λj hj e=>by
  subst e;have:(eM te++od tS).contains j=true:=by simpa using hj
  rw[this]at hr;cases hr
 have aR:∀j b,(tS.set k .none)[j]? =some b->b≠.none->j≠k/\tS[j]? =some b:=λj b hj hb=>by
  rw[aN]at hj;split at hj
  grind
  grind
 refine⟨kH _ _ (λj hj=>yR (hk j (qC _ hj))) h.env,λj l hj=>?_,λj e s hj t ht=>?_,λj k' hj=>?_,λi j k' hi hj=>h.inj i j k' (gd hi).2 (gd hj).2,λj b hj t ht=>?_⟩;obtain⟨h1,h2⟩:=aR j _ hj ae;obtain⟨k',ds,n1,n2,n3⟩:=h.cells j l h2;exact⟨k',ds,(yR h1).trans n1,n2,kH _ _ (λi hi=>yR (hk i (List.mem_append_right _ (A9 h2 hi)))) n3⟩;obtain⟨h1,h2⟩:=aR j _ hj ae;exact h.own j e s h2 t (gd ht).2;obtain⟨h1,h2⟩:=gd hj;obtain⟨b,h3,h4⟩:=h.qH j k' h2;exact⟨b,by rw[aN,if_neg λe=>h1 e.symm];exact h3,h4⟩;by_cases hb:b=.none;subst hb;trivial
 exact h.mp j b (aR j b hj hb).2 t (gd ht).2
theorem A4(h:bO ι te tS env S){id:Nat}{b:DB}(hn:∀k,ι k≠some id):bO ι te tS env (S.set id b):=by
 have hg:∀{k k'},ι k=some k'->(S.set id b)[k']? =S[k']? :=λ{k k'} hk=>by rw[aN,if_neg (λ(e:id=k')=>hn k (by rw[e];exact hk))]
 have K:iY ι S ι (S.set id b) λ_=>False:=λk k' _ hk=>⟨hk,dz (hg hk)⟩;refine⟨bn K _ _ h.env,λk l hk=>?_,λk e s hk t ht=>?_,h.qH,h.inj,λk c hk t ht=>by rw[hg ht];exact h.mp k c hk t ht⟩;obtain⟨k',ds,n1,n2,n3⟩:=h.cells k l hk;exact⟨k',ds,n1,(hg n1).trans n2,bn K _ _ n3⟩;obtain⟨n,h1⟩:=h.own k e s hk t ht;exact⟨n,(hg ht).trans h1⟩
theorem Lb{k id:Nat}{r:GA}(h:bO ι te tS env S)(hk:tS[k]? =some .none)(hn:∀k,ι k≠some id)(hid:S[id]? =some (.loop r))(hrr:r.st=.ready/\r.j5=none):bO (upd ι k id) te (tS.set k .loop) env S:=by
 have hno:ι k=none:=by
  cases e:ι k with
  |none=>rfl
  |some k'=>obtain⟨b,h1,h2⟩:=h.qH k k' e;rw[hk]at h1;cases h1;exact absurd rfl h2
 have hlt:=(aI.1 hk).1;have hu:∀{j k'},ι j=some k'->upd ι k id j=some k':=λ{j k'} hj=>by
  unfold upd;rw[if_neg];exact hj
  grind
 have K:iY ι S (upd ι k id) S λ_=>False:=λj k' _ hj=>⟨hu hj,dz rfl⟩;have cG:∀{j k'},upd ι k id j=some k'->(j=k/\k'=id)\/(j≠k/\ι j=some k'):=λ{j k'} hj=>by
  unfold upd at hj;split at hj
  grind
  grind
 have aR:∀{j b},(tS.set k .loop)[j]? =some b->(j=k/\b=.loop)\/(j≠k/\tS[j]? =some b):=λ{j b} hj=>by
  rw[aN]at hj;split at hj
  grind
  grind
 refine⟨bn K _ _ h.env,λj l hj=>?_,λj e s hj t ht=>?_,λj k' hj=>?_,λi j k' hi hj=>?_,λj b hj t ht=>?_⟩;rcases aR hj with ⟨-,e⟩|⟨h1,h2⟩;cases e;obtain⟨k',ds,n1,n2,n3⟩:=h.cells j l h2;exact⟨k',ds,hu n1,n2,bn K _ _ n3⟩;rcases aR hj with ⟨-,e⟩|⟨h1,h2⟩;cases e;rcases cG ht with ⟨e,-⟩|⟨-,h3⟩
 grind
 exact h.own j _ _ h2 t h3;rcases cG hj with ⟨rfl,rfl⟩|⟨h1,h2⟩
 grind
 obtain⟨b,h3,h4⟩:=h.qH j k' h2;exact⟨b,by rw[aN,if_neg λe=>h1 e.symm];exact h3,h4⟩;rcases cG hi with ⟨rfl,rfl⟩|⟨h1,h2⟩<;>rcases cG hj with ⟨rfl,h3⟩|⟨h4,h5⟩;rfl
 grind
 grind
 exact h.inj i j k' h2 h5;rcases aR hj with ⟨rfl,rfl⟩|⟨h1,h2⟩;rcases cG ht with ⟨-,rfl⟩|⟨h3,-⟩;exact⟨r,hid,hrr⟩
 grind
 rcases cG ht with ⟨e,-⟩|⟨-,h3⟩
 grind
 exact h.mp j b h2 t h3
theorem XY{k id Bv:Nat}{rU:FuncId}{Ac xs:cp}{ps:List Tmp}{ox body:Code}{Ao bV:cn}{K:cx->Prop}(hR:bO ι xs tS bV S)(hB:oy B tS)(hkB:k∉B)(hk:ι k=some id)(htk:tS[k]? =some .loop)(hS:S[id]? =some (.loop ⟨.ready,none,rU,Ao,ps,ox,body,Bv⟩))(hE:cq ι S Ac Ao)
  (hlen:xs.length=ps.length) (hr:(eM (oc Ac (ps.zip xs))++od tS).contains k=false)
  (h:WT P ty aD call yf B LL rU true ox (oc Ac (ps.zip xs)) (tS.set k .none) λe mh iq=>e=.normal/\WT P ty aD call yf B LL rU true body mh iq λe _ jA=>e=.normal/\jA[k]? =some .none/\K jA):
  ∃S' ι' jA,um P ty aD call yf LL id bV S=some (.val (.bool true),S')/\bO ι' [] (jA.set k .loop) [] S'/\oy B (jA.set k .loop)/\Fr B ι S ι' S'/\Nn S.length S S'/\S'[id]? =S[id]? /\ι' k=some id/\K jA:=by
 have hRe:bO ι (oc Ac (ps.zip xs)) tS (s4 Ao (ps.zip bV)) S:=⟨Qd hE hR.env,hR.cells,hR.own,hR.qH,hR.inj,hR.mp⟩;have RE:∀j∈B,j≠k:=λj hj e=>hkB (e▸hj);have hB0:oy B (tS.set k .none):=λj hj=>by obtain⟨l,h1⟩:=hB j hj;exact⟨l,by rw[aN,if_neg λe=>RE j hj e.symm];exact h1⟩
 have ZT:Lv S id:=⟨_,hS,ae⟩;have ajm:∀j,Dz ι k j≠some id:=λj hj=>by obtain⟨h1,h2⟩:=gd hj;exact h1 (hR.inj j k id h2 hk)
 obtain⟨e1,nW,S1,ι1,mh,iq,a1,a2,a3,a4,a5,rfl,h2⟩:=h _ _ S (Lc hRe hr) hB0;have b1:S1[id]? =S[id]? :=a4.rest id ZT ajm;have b2:∀j,ι1 j≠some id:=λj hj=>by
  rcases a4.ours j id hj with ⟨i,hi⟩|hn
  grind
  grind
 have agj:id<S1.length:=by grind
 obtain⟨e2,aeg,S2,ι2,UF,jA,c1,c2,c3,c4,c5,rfl,c6,c7⟩:=h2 _ _ (S1.set id (.loop ⟨.busy,none,rU,Ao,ps,ox,body,Bv⟩)) (A4 a2 b2) a3;have Dj:Lv (S1.set id (.loop ⟨.busy,none,rU,Ao,ps,ox,body,Bv⟩)) id:=⟨_,by rw[aN,if_pos rfl,if_pos agj],ae⟩;have d1:S2[id]? =some (.loop ⟨.busy,none,rU,Ao,ps,ox,body,Bv⟩):=by rw[c4.rest id Dj b2,aN,if_pos rfl,if_pos agj]
 have d2:∀j,ι2 j≠some id:=λj hj=>by
  rcases c4.ours j id hj with ⟨i,hi⟩|hn
  grind
  grind
 have ajn:=(aI.1 d1).1;have d3:(S2.set id (.loop ⟨.ready,none,rU,Ao,ps,ox,body,Bv⟩))[id]? =some (.loop ⟨.ready,none,rU,Ao,ps,ox,body,Bv⟩):=by rw[aN,if_pos rfl,if_pos ajn]
 have aao:∀j,j≠id->(S1.set id (.loop ⟨.busy,none,rU,Ao,ps,ox,body,Bv⟩))[j]? =S1[j]? :=λj hj=>by rw[aN,if_neg λe=>hj e.symm]
 have agh:∀j,j≠id->(S2.set id (.loop ⟨.ready,none,rU,Ao,ps,ox,body,Bv⟩))[j]? =S2[j]? :=λj hj=>by rw[aN,if_neg λe=>hj e.symm]
 have c2':bO ι2 [] jA [] S2:=⟨bJ,c2.cells,c2.own,c2.qH,c2.inj,c2.mp⟩;have Ga:ι2 k=none:=by
  cases e:ι2 k with
  |none=>rfl
  |some k'=>obtain⟨b,h3,h4⟩:=c2.qH k k' e;rw[c6]at h3;cases h3;exact absurd rfl h4
 have hRn:=Lb (A4 (b:=.loop ⟨.ready,none,rU,Ao,ps,ox,body,Bv⟩) c2' d2) c6 d2 d3 ⟨rfl,rfl⟩;refine⟨_,_,jA,?_,hRn,λj hj=>?_,⟨λk' hl hn=>?_,λj k' hj=>?_,λj hj=>?_⟩,⟨?_,λj hj dU=>?_⟩,by rw[d3,hS],by simp[upd],c7⟩;have hdl:bV.length=ps.length:=by have:=gY hR.env;omega
 unfold um;rw[hS];simp only[hdl,if_true,a1];rw[hS]at b1;simp only[b1,if_true,c1,d1];obtain⟨l,h3⟩:=c3 j hj;exact⟨l,by rw[aN,if_neg λe=>RE j hj e.symm];exact h3⟩;have hne:k'≠id:=λe=>hn k (e▸hk);have h3:=a4.rest k' hl λj hj=>hn j (gd hj).2;have ajj:Lv (S1.set id (.loop ⟨.busy,none,rU,Ao,ps,ox,body,Bv⟩)) k':=by obtain⟨b,h4,h5⟩:=hl;exact⟨b,(aao k' hne).trans (h3.trans h4),h5⟩
 have h6:=c4.rest k' ajj λj hj=>by
  rcases a4.ours j k' hj with ⟨i,hi⟩|h7;exact hn i (gd hi).2
  grind
 rw[agh k' hne,h6,aao k' hne,h3];unfold upd at hj;split at hj
 grind
 by_cases hl:Lv S k';by_cases hn:∃j,ι j=some k'
 grind
 have hne:k'≠id:=λe=>hn ⟨k,e▸hk⟩;have h3:=a4.rest k' hl λj hj=>hn ⟨j,(gd hj).2⟩;rcases c4.ours j k' hj with ⟨i,hi⟩|h7;rcases a4.ours i k' hi with ⟨i',RA⟩|h8;exact .inl ⟨i',(gd RA).2⟩
 grind
 refine(h7 ?_).elim;obtain⟨b,h4,h5⟩:=hl;exact⟨b,(aao k' hne).trans (h3.trans h4),h5⟩
 grind
 unfold upd;rw[if_neg (RE j hj),c4.base j hj,a4.base j hj,yR (RE j hj)];have h3:=a5.1;have h4:=c5.1;simp only[List.length_set]at h4⊢;omega;have hne:j≠id:=λe=>by rw[e,hS]at dU;cases dU
 have hlt:=(aI.1 dU).1;have h3:=a5.2 j hj dU;have h4:=c5.2 j (by simp only[List.length_set];have:=a5.1;omega) ((aao j hne).trans h3);rw[agh j hne];exact h4
end Go.Tv
namespace Go.Tv
open Go Go.Di Go.Proofs
variable {P:Program} {ty:fo} {tt:TypeId->cJ} {ι ι' w:kW} {S S':aj} {te:cp} {env:cn} {tS:cx} {aD Ig:bT} {call yA:bg} {yf ZC:dx} {o:Oper} {aB nT:Nat} {B:cy}
def o5(k:Nat):Nat->cx->cx->cx
 |i,b::l,c::m=>(match b,c with
  |.cells _,.cells x=>.cells x
  |_,.loop=>if i=k then .loop else .none
  |_,_=>.none)::o5 k (i+1) l m
 |_,_,_=>[]
theorem vu{k:Nat}:∀{i:Nat}{l m:cx},Cq (o5 k i l m) m
 |_,[],m=>by unfold o5;exact .nil
 |_,_::_,[]=>by unfold o5;exact .nil
 |i,b::l,c::m=>by unfold o5;split;exact .cells (u6.refl _) vu;split;exact .loop vu;exact .none vu;exact .none vu
theorem Rb{k:Nat}:∀{i:Nat}{l m:cx}{j:Nat}{b:TB},(o5 k i l m)[j]? =some b->b=.none\/(∃c x,l[j]? =some (.cells c)/\b=.cells x)\/(i+j=k/\b=.loop)
 |_,[],_,_,_,h=>by simp[o5]at h
 |_,_::_,[],_,_,h=>by simp[o5]at h
 |i,a::l,c::m,0,b,h=>by
  unfold o5 at h;simp only[dH,aF]at h;subst h;split;exact .inr (.inl ⟨_,_,rfl,rfl⟩)
  grind
  grind
 |i,a::l,c::m,j+1,b,h=>by
  unfold o5 at h;rcases Rb (l:=l) (m:=m) (i:=i+1) (j:=j) (by simpa using h)with h|⟨c,x,h1,h2⟩|⟨h1,h2⟩
  grind
  grind
  grind
def uc(tS:cx)(k:Nat):TV->TV
 |.nN k' fn t=>if k'=k then .nN k' fn (fI tS t)else .unk
 |v=>dY tS v
theorem XX{k id:Nat}(hi:∀j,jI tS j=true->ι' j=ι j)(hk:ι k=some id)(oT:ι' k=some id)(hS:S'[id]? =S[id]?){v:TV}{d:DV}(h:RT ι S v d):RT ι' S' (uc tS k v) d:=by unfold uc;split;rename_i k' fn t;split;rename_i e;subst e;cases d<;>simp only[RT]at h⊢;obtain⟨h1,ps,a,b,env,Bv,h4,h2,h3⟩:=h;rw[hk]at h1;cases h1;exact⟨oT,ps,a,b,env,Bv,h4,hS.trans h2,jN hi _ _ h3⟩;simp only[RT];exact Qk hi _ _ h
theorem GM{k id:Nat}(hi:∀j,jI tS j=true->ι' j=ι j)(hk:ι k=some id)(oT:ι' k=some id)(hS:S'[id]? =S[id]?):∀{l:cp}{m:cn},cq ι S l m->cq ι' S' (l.map (uc tS k)) m
 |[],m,h=>by rw[aO h];exact bJ
 |a::l,m,h=>by obtain⟨d,m',rfl,h1,h2⟩:=ax h;exact aP (XX hi hk oT hS h1) (GM hi hk oT hS h2)
def nY(k:Nat)(tS:cx):cy:=(dh 0 tS).filter (·!=k)
theorem Iv{k j:Nat}:j∈nY k tS↔j∈dh 0 tS/\j≠k:=by simp[nY]
theorem O6{f:Operand}{args:Array Operand}{argTypes:Array TypeId}{k:Nat}{rU:FuncId}{Ac xs:cp}{ps:List Tmp}{ox body:Code}{K:cx->Prop}{dr:Bool}(hop:o.op=.call {callee:=.value f,args,argTypes})(hyf:yf=um P ty Ig yA ZC LL)(hf:eL te f=some (.nN k rU Ac))(hrf:Cu rU=some (ps,ox,body))(ha:lD te args.toList=some xs)
  (htk:tS[k]? =some .loop) (hlen:xs.length=ps.length) (hr:(eM (oc Ac (ps.zip xs))++od tS).contains k=false)
  (h:WT P ty Ig yA ZC (nY k tS) LL rU true ox (oc Ac (ps.zip xs)) (tS.set k .none) λe mh iq=>e=.normal/\WT P ty Ig yA ZC (nY k tS) LL rU true body mh iq λe _ jA=>e=.normal/\jA[k]? =some .none/\K jA)
  (hK:∀jA,K jA->okB (te.map (uc tS k)) (o5 k 0 tS (jA.set k .loop))=true/\∀j∈dh 0 tS,lJ (o5 k 0 tS (jA.set k .loop)) j=true):
  Does P ty aD call yf B o nT te tS dr λv bS bK ft=>∃jA,K jA/\v=.val (.bool true)/\bS=te.map (uc tS k)/\bK=o5 k 0 tS (jA.set k .loop)/\ft=⟨none,true⟩:=by
 intro ι w env S aB hR hB hw hT Dh hS;obtain⟨d,k1,k2⟩:=bp hR.env hf;obtain⟨F5,k3,k4⟩:=sA hR.env ha;cases d<;>simp only[RT]at k2;rename_i id;obtain⟨hk,ps',akF,akg,Ao,Bv,age,hl,hE⟩:=k2;rw[hrf]at age;cases age;obtain⟨S',ι',jA,a1,a2,a3,a4,a5,a6,a7,a8⟩:=XY (K:=K) (B:=nY k tS) ⟨k4,hR.cells,hR.own,hR.qH,hR.inj,hR.mp⟩ (λj hj=>WV j (Iv.1 hj).1) (λh=>(Iv.1 h).2 rfl) hk htk hl hE hlen hr h;obtain⟨c1,c2⟩:=hK jA a8
 replace c2:∀j∈B,lJ (o5 k 0 tS (jA.set k .loop)) j=true:=λj hj=>by obtain⟨l,h1⟩:=hB j hj;exact c2 j (rB h1)
 have dB:∀j,jI tS j=true->ι' j=ι j:=λj hj=>by
  unfold jI at hj;split at hj;rename_i c hc;exact a4.base j (Iv.2 ⟨LJ hc,λe=>by rw[e,htk]at hc;cases hc⟩)
  cases hj
 have Cm:bO ι' (te.map (uc tS k)) (jA.set k .loop) env S':=⟨GM dB hk a7 a6 hR.env,a2.cells,a2.own,a2.qH,a2.inj,a2.mp⟩;have Vi:∀j,j∈B->j≠k->j∈nY k tS:=λj hj hjk=>by obtain⟨l,h1⟩:=hB j hj;exact Iv.2 ⟨rB h1,hjk⟩
 have hkl:(jA.set k TB.loop)[k]? =some .loop:=by obtain⟨b,q1,-⟩:=a2.qH k id a7;have:=(aI.1 q1).1;rw[aN,if_pos rfl,if_pos (by simpa using this)]
 have hBy:oy B (jA.set k .loop):=λj hj=>by
  by_cases e:j=k;subst e;exact⟨none,hkl⟩
  exact a3 j (Vi j hj e)
 have hBc:=zI vu hBy c2;obtain⟨ι1,e1,e2,e3⟩:=zk Cm (u6.refl _) vu c1 hBc;have hold:∀j k',ι1 j=some k'->ι j=some k':=λj k' hj=>by
  rw[e3]at hj;split at hj;rename_i ZT;unfold lJ at ZT;cases hc:(o5 k 0 tS (jA.set k .loop))[j]? with
  |none=>rw[hc]at ZT;cases ZT
  |some b=>
   rcases Rb hc with rfl|⟨c,x,h1,-⟩|⟨h1,-⟩
   grind
   rw[dB j (by unfold jI;rw[h1])]at hj;exact hj
   grind
  cases hj
 have hst:ah P ty aD call yf (ir env) o S aB=some (.val (.bool true),S'):=by subst hyf;simp only[ah,hop,k1,k3,a1]
 refine⟨.val (.bool true),S',ι1,w,.val (.bool true),te.map (uc tS k),o5 k 0 tS (jA.set k .loop),⟨none,true⟩,⟨none,true⟩,λ_=>hst,λ_=>?_,⟨λe=>e,λl hl=>bc⟩,λl m hl=>bc,e1,by simp only[RT],λj k' hj=>hw j k' (hold j k' hj),λ_ _ _=>rfl,⟨λk' hl hn=>a4.rest k' hl hn,λj k' hj=>.inl ⟨j,hold j k' hj⟩,λj hj=>?_⟩,hBc,⟨a5.1,λj hj dU=>?_⟩,jA,a8,rfl,rfl,rfl,rfl⟩;subst hyf;simp only[aH,hop,k1,k3,a1,ay];rw[e2.base j hj];by_cases e:j=k
 grind
 exact a4.base j (Vi j hj e);have:=(aI.1 dU).1;exact a5.2 j ab dU
end Go.Tv
