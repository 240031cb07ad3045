import Derived.Test.YtedcgbkilmlbhaaPk07
namespace Go.Tv
open Go Go.Di Go.Proofs
variable {P:Program} {ty:fR} {tt:TypeId->Option TT} {ι ι' w:kY} {S S':ai} {te:List TV} {env:List DV} {tS:List TB} {aK:bR} {call:bt} {yf:ej} {o:Oper} {aF nT:Nat} {B L:List Nat}
def wF:TV->List Nat
 |.ptr k _=>[k]
 |_=>[]
def jg:TV->List Nat
 |.ptr k _=>[k]
 |.fn _ a b=>a.flatMap wF++b.flatMap wF
 |_=>[]
def F7(tS:List TB)(k:Nat):List Nat:=
 match tS[k]? with
 |some (.cells l)=>l.flatMap jg
 |_=>[]
def wI(tS:List TB)(X:List Nat):List Nat:=X++(X.flatMap (F7 tS)).filter λi=>!X.contains i
def gb(tS:List TB)(A:List TV):List Nat:=wI tS (wI tS (wI tS (A.flatMap jg)))
def BC(X:List Nat):TV->Bool
 |.ptr k _=>X.contains k
 |v=>kL v
def UH(X:List Nat):TV->Bool
 |.ptr k _=>X.contains k
 |.fn _ a b=>a.all (BC X)&&b.all (BC X)
 |v=>kL v
def Gk(X:List Nat):TV->Bool
 |.ptr k _=>X.contains k
 |.fn _ a b=>a.all (BC X)&&b.all (BC X)
 |v=>eM v
def tL(tS:List TB)(X:List Nat)(k:Nat):Bool:=
 match tS[k]? with
 |some (.cells l)=>l.all (UH X)
 |_=>false
abbrev mV(ι:kY)(k:Nat):Nat:=(ι k).getD 0
theorem Ra{X:List Nat}{v:TV}{d:DV}(hg:BC X v=true)(h:RT ι S v d):TE d=(wF v).map (mV ι)/\∀k∈wF v,∃k',ι k=some k':=by
 cases v<;>first|(cases hg;done)|skip
 .cases d<;>simp only[RT]at h;exact⟨rfl,by simp[wF]⟩
 .cases d<;>simp only[RT]at h;exact⟨rfl,by simp[wF]⟩
 cases d<;>simp only[RT]at h;exact⟨by simp[TE,wF,mV,h.1],by simp[wF,h.1]⟩
theorem xH{X:List Nat}:∀{l:List TV}{m:List DV},l.all (BC X)=true->cK ι S l m->m.flatMap TE=(l.flatMap wF).map (mV ι)/\∀k∈l.flatMap wF,∃k',ι k=some k'
 |[],m,_,h=>by rw[aR h];exact⟨rfl,by simp⟩
 |a::l,m,hp,h=>by obtain⟨d,m',rfl,h1,h2⟩:=aj h;simp only[cG,aC]at hp;obtain⟨k1,k2⟩:=Ra hp.1 h1;obtain⟨k3,k4⟩:=xH hp.2 h2;refine⟨by rw[cT,cT,dY,k1,k3],λk hk=>?_⟩;rw[cT,eY]at hk;exact hk.elim (k2 k) (k4 k)
theorem Gw{X:List Nat}{g:FuncId}{a b:List TV}{d:DV}(hg:(a.all (BC X)&&b.all (BC X))=true)(h:RT ι S (.fn g a b) d):Al d=(jg (.fn g a b)).map (mV ι)/\∀k∈jg (.fn g a b),∃k',ι k=some k':=by simp only[aC]at hg;cases d<;>simp only[RT]at h;obtain⟨k1,k2⟩:=xH hg.1 h.2.1;obtain⟨k3,k4⟩:=xH hg.2 h.2.2;refine⟨by simp only[Al,jg,dY,k1,k3],λk hk=>?_⟩;simp only[jg,eY]at hk;exact hk.elim (k2 k) (k4 k)
theorem Rb{X:List Nat}{v:TV}{d:DV}(hg:UH X v=true)(h:RT ι S v d):Al d=(jg v).map (mV ι)/\∀k∈jg v,∃k',ι k=some k':=by
 cases v<;>first|(cases hg;done)|exact Gw hg h|skip
 .cases d<;>simp only[RT]at h;exact⟨rfl,by simp[jg]⟩
 .cases d<;>simp only[RT]at h;exact⟨rfl,by simp[jg]⟩
 cases d<;>simp only[RT]at h;exact⟨by simp[Al,jg,mV,h.1],by simp[jg,h.1]⟩
theorem Re{X:List Nat}{v:TV}{d:DV}(hg:Gk X v=true)(h:RT ι S v d):Al d=(jg v).map (mV ι)/\∀k∈jg v,∃k',ι k=some k':=by
 cases v<;>first|(cases hg;done)|exact Gw hg h|skip
 all_goals cases d<;>simp only[RT]at h
 all_goals first
  |exact⟨rfl,by simp[jg]⟩
  |exact⟨by simp[Al,jg,mV,h.1],by simp[jg,h.1]⟩
theorem AL{G:TV->Bool}(hG:∀v d,G v=true->RT ι S v d->Al d=(jg v).map (mV ι)/\∀k∈jg v,∃k',ι k=some k'):∀{l:List TV}{m:List DV},l.all G=true->cK ι S l m->m.flatMap Al=(l.flatMap jg).map (mV ι)/\∀k∈l.flatMap jg,∃k',ι k=some k'
 |[],m,_,h=>by rw[aR h];exact⟨rfl,by simp⟩
 |a::l,m,hp,h=>by obtain⟨d,m',rfl,h1,h2⟩:=aj h;simp only[cG,aC]at hp;obtain⟨k1,k2⟩:=hG _ _ hp.1 h1;obtain⟨k3,k4⟩:=AL hG hp.2 h2;refine⟨by rw[cT,cT,dY,k1,k3],λk hk=>?_⟩;rw[cT,eY]at hk;exact hk.elim (k2 k) (k4 k)
theorem Rc(hR:bT ι te tS env S){X:List Nat}{k:Nat}(hg:tL tS X k=true):HR S (mV ι k)=(F7 tS k).map (mV ι)/\∀j∈F7 tS k,∃k',ι j=some k':=by
 unfold tL at hg;split at hg
 .rename_i l hl;obtain⟨k',ds,h1,h2,h3⟩:=hR.cells k l hl;have e:mV ι k=k':=by simp[mV,h1]
  have:=AL (G:=UH X) (λv d=>Rb) hg h3;simp only[HR,F7,e,h2,hl];exact this
 cases hg
theorem Ed(hR:bT ι te tS env S){X Z:List Nat}(hX:∀k∈X,tL tS Z k=true)(hd:∀k∈X,∃k',ι k=some k'):rI S (X.map (mV ι))=(wI tS X).map (mV ι)/\∀k∈wI tS X,∃k',ι k=some k':=by
 have key:∀{Y:List Nat},(∀k∈Y,tL tS Z k=true)->(Y.map (mV ι)).flatMap (HR S)=(Y.flatMap (F7 tS)).map (mV ι)/\∀k∈Y.flatMap (F7 tS),∃k',ι k=some k':=by
  intro Y;induction Y with
  |nil=>intro _;exact⟨rfl,by simp⟩
  |cons a Y ih=>intro h;obtain⟨k1,k2⟩:=Rc hR (h a (fH ..));obtain⟨k3,k4⟩:=ih λk hk=>h k (jZ _ hk);refine⟨by rw[bn,cT,cT,dY,k1,k3],λk hk=>?_⟩;rw[cT,eY]at hk;exact hk.elim (k2 k) (k4 k)
 obtain⟨k1,k2⟩:=key hX;have QV:∀k,(∃k',ι k=some k')->(X.map (mV ι)).contains (mV ι k)=X.contains k:=λk ⟨k',hk⟩=>by
  rw[Bool.eq_iff_iff,List.contains_iff_mem,List.contains_iff_mem,dM];refine⟨λ⟨j,h1,h2⟩=>?_,λh=>⟨k,h,rfl⟩⟩;obtain⟨j',hj⟩:=hd j h1;have e:j'=k':=by simpa [mV,hj,hk]using h2
  obtain rfl:=hR.inj j k k' (e▸hj) hk;exact h1
 have hf:∀{Y:List Nat},(∀k∈Y,∃k',ι k=some k')->(Y.map (mV ι)).filter (λi=>!(X.map (mV ι)).contains i)=(Y.filter λi=>!X.contains i).map (mV ι):=by
  intro Y;induction Y with
  |nil=>intro _;rfl
  |cons a Y ih=>intro h;rw[bn,List.filter_cons,List.filter_cons,QV a (h a (fH ..)),ih λk hk=>h k (jZ _ hk)];split<;>rfl
 refine⟨by unfold rI wI;rw[k1,hf k2,dY],λk hk=>?_⟩;unfold wI at hk;rw[eY,List.mem_filter]at hk;exact hk.elim (hd k) λh=>k2 k h.1
theorem Rz(hR:bT ι te tS env S){A:List TV}{m:List DV}(hA:A.all (Gk (gb tS A))=true)(hg:(gb tS A).all (tL tS (gb tS A))=true)(hv:cK ι S A m):jC S m=(gb tS A).map (mV ι)/\∀k∈gb tS A,∃k',ι k=some k':=by have h3:∀k∈gb tS A,tL tS (gb tS A) k=true:=aX.1 hg;have h2:∀k∈wI tS (wI tS (A.flatMap jg)),tL tS (gb tS A) k=true:=λk hk=>h3 k (qM _ hk);have h1:∀k∈wI tS (A.flatMap jg),tL tS (gb tS A) k=true:=λk hk=>h2 k (qM _ hk);have h0:∀k∈A.flatMap jg,tL tS (gb tS A) k=true:=λk hk=>h1 k (qM _ hk);obtain⟨e0,d0⟩:=AL (G:=Gk (gb tS A)) (λv d=>Re) hA hv;obtain⟨e1,d1⟩:=Ed hR h0 d0;obtain⟨e2,d2⟩:=Ed hR h1 d1;obtain⟨e3,d3⟩:=Ed hR h2 d2;refine⟨?_,d3⟩;unfold jC gb;rw[e0,e1,e2,e3]
section
variable {ρ:Nat->Option Nat} (hρ:∀k j,ρ k=some j->ι' j=ι k)
include hρ
theorem GF{v v':TV}{d:DV}(h:S4 ρ v=some v')(hv:RT ι S v d):RT ι' S' v' d.aO:=by
 unfold S4 at h;split at h;.simp only[af]at h;obtain⟨j,h1,rfl⟩:=h;cases d<;>simp only[RT,DV.aO]at hv⊢;exact⟨(hρ _ _ h1).trans hv.1,hv.2⟩
 split at h;.rename_i hp;cases h;exact(vg hp hv).2
 cases h
theorem xM:∀{l l':List TV}{m:List DV},Aj ρ l=some l'->cK ι S l m->cK ι' S' l' (m.map DV.aO)
 |[],l',m,h,hv=>by cases h;rw[aR hv];exact bO
 |v::l,l',m,h,hv=>by
  obtain⟨d,m',rfl,h1,h2⟩:=aj hv;simp only[Aj]at h;split at h;.rename_i a b e1 e2;cases h;exact aT (GF hρ e1 h1) (xM e2 h2)
  cases h
theorem GG{g:FuncId}{a b x y:List TV}{d:DV}(e1:Aj ρ a=some x)(e2:Aj ρ b=some y)(hv:RT ι S (.fn g a b) d):RT ι' S' (.fn g x y) (dz d)/\jB d=dz d:=by cases d<;>simp only[RT]at hv;exact⟨by simp only[dz,RT];exact⟨hv.1,xM hρ e1 hv.2.1,xM hρ e2 hv.2.2⟩,rfl⟩
theorem Rs{v v':TV}{d:DV}(h:Oi ρ v=some v')(hv:RT ι S v d):RT ι' S' v' (dz d):=by
 unfold Oi at h;split at h
 .split at h;.rename_i x y e1 e2;cases h;exact(GG hρ e1 e2 hv).1
  cases h
 .cases h;cases d<;>simp only[RT,dz,DV.aO]at hv⊢;obtain⟨rfl,-,-⟩:=hv;exact⟨trivial,trivial⟩
 rename_i hno _;have:dz d=d.aO:=by
  cases d<;>first|rfl|skip
  cases v<;>simp only[RT]at hv;.simp[S4,kL]at h
  exact(hno _ _ _ rfl).elim
 rw[this];exact GF hρ h hv
theorem EJ:∀{l l':List TV}{m:List DV},De ρ l=some l'->cK ι S l m->cK ι' S' l' (m.map dz)
 |[],l',m,h,hv=>by cases h;rw[aR hv];exact bO
 |v::l,l',m,h,hv=>by
  obtain⟨d,m',rfl,h1,h2⟩:=aj hv;simp only[De]at h;split at h;.rename_i a b e1 e2;cases h;exact aT (Rs hρ e1 h1) (EJ e2 h2)
  cases h
theorem EI{l l':List TV}{m:List DV}(h:Cp ρ l=some l')(hv:cK ι S l m):cK ι' S' l' (m.map dz):=EJ hρ (Ic h) hv
theorem GI{t:Option TT}{v v':TV}{d:DV}(h:rnA ρ t v=some v')(hv:RT ι S v d):RT ι' S' v' (jB d):=by
 unfold rnA at h;split at h;.simp only[af]at h;obtain⟨j,h1,rfl⟩:=h;cases d<;>simp only[RT,jB,DV.strip,DV.dA]at hv⊢;exact⟨(hρ _ _ h1).trans hv.1,hv.2⟩
 .unfold Oi at h;simp only at h;split at h;.rename_i x y e1 e2;cases h;obtain⟨k1,k2⟩:=GG (S':=S') hρ e1 e2 hv;rw[k2];exact k1
  cases h
 rename_i aiP TJ;split at h
 .rename_i hp;cases h;have:jB d=d.strip:=by
   cases d<;>first|rfl|skip
   cases v<;>simp only[RT]at hv;.cases hp
   cases hp
  rw[this];exact(jM hp hv).2.2
 cases h
theorem xN:∀{ts:List (Option TT)}{l l':List TV}{m:List DV},uo ρ ts l=some l'->cK ι S l m->cK ι' S' l' (m.map jB)
 |_,[],l',m,h,hv=>by simp only[uo]at h;cases h;rw[aR hv];exact bO
 |[],v::l,l',m,h,hv=>by
  obtain⟨d,m',rfl,h1,h2⟩:=aj hv;simp only[uo]at h;split at h;.rename_i a b e1 e2;cases h;exact aT (GI hρ e1 h1) (xN e2 h2)
  cases h
 |t::ts,v::l,l',m,h,hv=>by
  obtain⟨d,m',rfl,h1,h2⟩:=aj hv;simp only[uo]at h;split at h;.rename_i a b e1 e2;cases h;exact aT (GI hρ e1 h1) (xN e2 h2)
  cases h
end
section
variable {ρ:Nat->Option Nat} {R:List Nat} (hρ:∀k j,ρ k=some j->∃k',ι k=some k'/\k'∈R)
include hρ
theorem Vg{v v':TV}{d:DV}(h:S4 ρ v=some v')(hv:RT ι S v d):Yz R d.aO=true:=by
 unfold S4 at h;split at h;.simp only[af]at h;obtain⟨j,h1,rfl⟩:=h;cases d<;>simp only[RT]at hv;obtain⟨k',h2,h3⟩:=hρ _ _ h1;rw[hv.1]at h2;cases h2;simpa [Yz,DV.aO]using h3
 split at h;.rename_i hp;have:=(vg (ι':=ι) (S':=S) hp hv).1;generalize d.aO=c at this;cases c<;>first|exact this|cases this
 cases h
theorem IZ:∀{l l':List TV}{m:List DV},Aj ρ l=some l'->cK ι S l m->(m.map DV.aO).all (Yz R)=true
 |[],l',m,h,hv=>by rw[aR hv];rfl
 |v::l,l',m,h,hv=>by
  obtain⟨d,m',rfl,h1,h2⟩:=aj hv;simp only[Aj]at h;split at h;.rename_i a b e1 e2;rw[bn,cG,Vg hρ e1 h1,IZ e2 h2];rfl
  cases h
theorem Vh{g:FuncId}{a b x y:List TV}{d:DV}(e1:Aj ρ a=some x)(e2:Aj ρ b=some y)(hv:RT ι S (.fn g a b) d):Ml R (dz d)=true/\okA R (jB d)=true:=by cases d<;>simp only[RT]at hv;have h1:=IZ hρ e1 hv.2.1;have h2:=IZ hρ e2 hv.2.2;exact⟨by simp only[Ml,dz,h1,h2];rfl,by simp only[okA,jB,h1,h2];rfl⟩
theorem aet{v v':TV}{d:DV}(h:Oi ρ v=some v')(hv:RT ι S v d):Ml R (dz d)=true:=by
 unfold Oi at h;split at h
 .split at h;.rename_i x y e1 e2;exact(Vh hρ e1 e2 hv).1
  cases h
 .cases d<;>simp only[RT]at hv;rfl
 rename_i hno TJ;have:=Vg hρ h hv;cases v<;>first|exact(hno _ _ _ rfl).elim|exact(TJ rfl).elim|(simp[S4,kL]at h;done)|skip
 all_goals cases d<;>simp only[RT]at hv
 all_goals exact this
theorem PE:∀{l l':List TV}{m:List DV},De ρ l=some l'->cK ι S l m->(m.map dz).all (Ml R)=true
 |[],l',m,h,hv=>by rw[aR hv];rfl
 |v::l,l',m,h,hv=>by
  obtain⟨d,m',rfl,h1,h2⟩:=aj hv;simp only[De]at h;split at h;.rename_i a b e1 e2;rw[bn,cG,aet hρ e1 h1,PE e2 h2];rfl
  cases h
theorem PC{l l':List TV}{m:List DV}(h:Cp ρ l=some l')(hv:cK ι S l m):(m.map dz).all (Ml R)=true:=PE hρ (Ic h) hv
theorem Vi{t:Option TT}{v v':TV}{d:DV}(h:rnA ρ t v=some v')(hv:RT ι S v d):okA R (jB d)=true:=by
 unfold rnA at h;split at h;.simp only[af]at h;obtain⟨j,h1,rfl⟩:=h;cases d<;>simp only[RT]at hv;obtain⟨k',h2,h3⟩:=hρ _ _ h1;rw[hv.1]at h2;cases h2;simpa [okA,jB,DV.strip,DV.dA]using h3
 .unfold Oi at h;simp only at h;split at h;.rename_i x y e1 e2;exact(Vh hρ e1 e2 hv).2
  cases h
 split at h
 .rename_i hp;have:=(jM (t:=none) (ι':=ι) (S':=S) hp hv).1;cases v<;>first|(cases hp;done)|skip
  all_goals cases d<;>simp only[RT]at hv
  all_goals exact this
 cases h
theorem I1:∀{ts:List (Option TT)}{l l':List TV}{m:List DV},uo ρ ts l=some l'->cK ι S l m->(m.map jB).all (okA R)=true
 |_,[],l',m,h,hv=>by rw[aR hv];rfl
 |[],v::l,l',m,h,hv=>by
  obtain⟨d,m',rfl,h1,h2⟩:=aj hv;simp only[uo]at h;split at h;.rename_i a b e1 e2;rw[bn,cG,Vi hρ e1 h1,I1 e2 h2];rfl
  cases h
 |t::ts,v::l,l',m,h,hv=>by
  obtain⟨d,m',rfl,h1,h2⟩:=aj hv;simp only[uo]at h;split at h;.rename_i a b e1 e2;rw[bn,cG,Vi hρ e1 h1,I1 e2 h2];rfl
  cases h
end
theorem yP{S:ai}{R:List Nat}{k:Nat}{l:List DV}(hk:k∈R)(h:S[k]? =some (.cells l)):(tI S R)[k]? =some (.cells (l.map dz)):=by simp only[tI,o5,h,ay,Us,if_pos (show R.contains k=true by simpa using hk)]
theorem iX{S S1:ai}{R:List Nat}{k:Nat}(hk:k∉R):(lH S S1 R)[k]? =S[k]? :=by simp only[lH,o5,if_neg (show¬R.contains k=true by simpa using hk)];exact Option.map_id'
theorem Bh{S S1:ai}{R:List Nat}{k:Nat}{l l':List DV}(hk:k∈R)(h:S[k]? =some (.cells l))(h1:S1[k]? =some (.cells l')):(lH S S1 R)[k]? =some (.cells (l'.map dz)):=by simp only[lH,o5,h,ay,if_pos (show R.contains k=true by simpa using hk),UM,h1]
def CS:List TV->Bool
 |.ptr _ _::r=>r.any isRef
 |.unk::_=>false
 |_=>true
theorem RY{A:List TV}{m:List DV}{g:FuncId}(h:CS A=true)(hv:cK ι S A m):pQ call g m S=none:=by
 cases A with
 |nil=>rw[aR hv];rfl
 |cons v l=>
  obtain⟨d,m',rfl,h1,h2⟩:=aj hv;unfold pQ;split
  .rename_i i off rest e;cases e;split
   .rw[if_neg];intro hc;simp only[aC]at hc;have hr:l.any isRef=true:=by cases v<;>first|(cases h;done)|exact h|(simp only[RT]at h1)
    have:=nu hr h2;rw[this]at hc;cases hc.1
   rfl
  rfl
theorem L4{f:Operand}{args:Array Operand}{argTypes:Array TypeId}{g:FuncId}{fs cs xs targs:List TV}{tP:List (List TV)}{Q:TV->List (List TV)->Prop}(hop:o.op=.call {callee:=.value f,args,argTypes})(hh:ty.h o≠1)(hf:fK te f=some (.fn g fs cs))(ha:lS te args.toList=some xs)
  (Fe:mW L=true) (hL:∀k,k∈gb tS (fs++xs++cs)↔k∈L) (hne:L≠[]) (hA:(fs++xs++cs).all (Gk (gb tS (fs++xs++cs)))=true) (hg:(gb tS (fs++xs++cs)).all (tL tS (gb tS (fs++xs++cs)))=true) (hno:CS (fs++xs++cs)=true)
  (hn:uo (loc L) (gf tt fs argTypes) (fs++xs++cs)=some targs) (hr:(fs++xs++cs).any isRef=true) (hb:JP (loc L) tS L=some tP) (hs:BI call g targs tP Q) (hq:∀v t,Q v t->∃tB,HN L t=some tB):
  Does P ty aK call yf B o nT te tS true λv bX bN ft=>∃Fo tB,Q v Fo/\HN L Fo=some tB/\bX=te/\bN=yl L tB tS/\ft=⟨some L,true⟩:=by
 intro ι w env S aF hR hB hw hT QU hS;obtain⟨xh,lC,Fj,k1,k2,k3⟩:=iL hR.env hf ha;obtain⟨hl,SK⟩:=zu hb;obtain⟨Vq,Zb⟩:=Rz hR hA hg k3;generalize hRR:jC S (xh++Fj++lC)=R at Vq;have mO:∀i,i∈R↔∃k,k∈L/\ι k=some i:=λi=>by rw[Vq,dM];refine⟨λ⟨k,h1,h2⟩=>?_,λ⟨k,h1,h2⟩=>⟨k,(hL k).2 h1,by simp[mV,h2]⟩⟩;obtain⟨k',hk⟩:=Zb k h1;exact⟨k,(hL k).1 h1,by rw[hk,<-h2];simp[mV,hk]⟩
 have hρ:∀k j,loc L k=some j->∃k',ι k=some k'/\k'∈R:=λk j h=>by have hk:k∈L:=cr (gX h);obtain⟨k',h1⟩:=Zb k ((hL k).2 hk);exact⟨k',h1,(mO k').2 ⟨k,hk,h1⟩⟩
 have jh:∀k,k∈L->∃j c c' k0 ds,loc L k=some j/\L[j]? =some k/\tS[k]? =some (.cells c)/\Cp (loc L) c=some c'/\tP[j]? =some c'/\ι k=some k0/\S[k0]? =some (.cells ds)/\cK ι S c ds:=λk hk=>by obtain⟨j,hj⟩:=vG hk;obtain⟨c,c',h1,h2,h3⟩:=SK j k (gX hj);obtain⟨k0,ds,h4,h5,h6⟩:=hR.cells k c h1;exact⟨j,c,c',k0,ds,hj,gX hj,h1,h2,h3,h4,h5,h6⟩
 have Ze:∀k k0,k∈L->ι k=some k0->k0∈R:=λk k0 h1 h2=>(mO k0).2 ⟨k,h1,h2⟩;have hc:bT (wB L ι) targs (tP.map .cells) ((xh++Fj++lC).map jB) (tI S R):=by
  refine⟨xN (λk j h=>uV h) hn k3,λj l hj=>?_,λj e s hj=>?_,λj k' hj=>?_,λi j k' hi hj=>?_,λj b hj t _=>?_⟩;.simp only[cM,af,TB.cells.injEq]at hj;obtain⟨c',h1,rfl⟩:=hj;have hlt:j<L.length:=hl▸(aA.1 h1).1;have Ai:L[j]? =some L[j]:=bP hlt;obtain⟨c,c2,q1,q2,q3⟩:=SK j _ Ai;rw[h1]at q3;cases q3;obtain⟨k',ds,m1,m2,m3⟩:=hR.cells _ _ q1;exact⟨k',ds.map dz,by simp[wB,Ai,m1],yP (Ze _ _ (cr Ai) m1) m2,EI (λk j h=>uV h) q2 m3⟩
  .simp at hj
  .unfold wB at hj;cases Ai:L[j]? with
   |none=>rw[Ai]at hj;cases hj
   |some k=>obtain⟨c,c2,q1,q2,q3⟩:=SK j k Ai;exact⟨.cells c2,by simp[q3],by simp⟩
  .unfold wB at hi hj;cases SP:L[i]? with
   |none=>rw[SP]at hi;cases hi
   |some a=>
    cases Ai:L[j]? with
    |none=>rw[Ai]at hj;cases hj
    |some b=>rw[SP]at hi;rw[Ai]at hj;obtain rfl:=hR.inj a b k' hi hj;exact Ec Fe SP Ai
  simp only[cM,af]at hj;obtain⟨c,-,rfl⟩:=hj;trivial
 obtain⟨d,S1,ι1,v,Fo,n1,n2,n3,n4,n5,n6,n7,n8⟩:=hs _ _ _ hc;obtain⟨tB,hbk⟩:=hq _ _ n8;obtain⟨b1,b2⟩:=D6 hbk;have uz:∀j k,L[j]? =some k->ι1 j=ι k:=λj k hj=>by have:=(aA.1 hj).1;rw[n6.base j (by simp;omega)];simp[wB,hj]
 have hρ1:∀j k,(λj=>L[j]?) j=some k->∃k',ι1 j=some k'/\k'∈R:=λj k hj=>by have hk:k∈L:=cr hj;obtain⟨k',h1⟩:=Zb k ((hL k).2 hk);exact⟨k',by rw[uz j k hj];exact h1,Ze k k' hk h1⟩
 have Vw:∀k,k∈L->∃j c c' k0 ds,loc L k=some j/\tB[j]? =some c/\Cp (λj=>L[j]?) c'=some c/\ι k=some k0/\S1[k0]? =some (.cells ds)/\cK ι1 S1 c' ds:=λk hk=>by obtain⟨j,hj⟩:=vG hk;have Ya:j<L.length:=(aA.1 (gX hj)).1;have hjb:tB[j]? =some tB[j]:=bP (by omega);obtain⟨c',h1,h2⟩:=b2 j _ hjb;obtain⟨k',iC,m1,m2,m3⟩:=n5 j c' (by simp[h1]);rw[uz j k (gX hj)]at m1;exact⟨j,_,c',k',iC,hj,hjb,h2,m1,m2,m3⟩
 obtain⟨r1,r2⟩:=B7 (ι':=ι) (S':=lH S S1 R) n3 n2;have hm:ov call g (xh++Fj++lC) S=some (R,d.strip,S1):=by
  unfold ov;rw[hRR];have e1:R.isEmpty=false:=by
   obtain⟨k,l,rfl⟩:=List.exists_cons_of_ne_nil hne;obtain⟨k',h1⟩:=Zb k ((hL k).2 (fH ..));have:=Ze k k' (fH ..) h1;cases R with
   |nil=>cases this
   |cons _ _=>rfl
  have e2:=I1 hρ hn k3;have e3:R.all (kS S R)=true:=aX.2 λi hi=>by obtain⟨k,h1,h2⟩:=(mO i).1 hi;obtain⟨j,c,c',k0,ds,p1,p2,p3,p4,p5,p6,p7,p8⟩:=jh k h1;rw[h2]at p6;cases p6;unfold kS;rw[p7];exact PC hρ p4 p8
  have e4:R.all (kS S1 R)=true:=aX.2 λi hi=>by obtain⟨k,h1,h2⟩:=(mO i).1 hi;obtain⟨j,c,c',k0,ds,p1,p2,p3,p4,p5,p6⟩:=Vw k h1;rw[h2]at p4;cases p4;unfold kS;rw[p5];exact PC (ι:=ι1) hρ1 p3 p6
  rw[e1,e2,e3];simp only[vL,fT,if_true,n1,r1,e4]
 have hlt:∀k∈L,k<tS.length:=λk hk=>by obtain⟨j,c,c',k0,ds,p1,p2,p3,-⟩:=jh k hk;exact(aA.1 p3).1
 have bg:∀k,(yl L tB tS)[k]? =match loc L k with|some j=>(tB[j]?).map TB.cells|none=>tS[k]? :=λk=>D7 Fe (by omega) hlt
 have ahG:∀k k0,k∉L->ι k=some k0->k0∉R:=λk k0 hk h0 hi=>by obtain⟨a,h1,h2⟩:=(mO k0).1 hi;exact hk (hR.inj a k k0 h2 h0▸h1)
 have lF:∀k k0,k∉L->ι k=some k0->(lH S S1 R)[k0]? =S[k0]? :=λk k0 hk h0=>iX (ahG k k0 hk h0);have K:jy ι S ι (lH S S1 R) λ_=>False:=λk k0 _ hk=>⟨hk,by
  by_cases FY:k∈L;.obtain⟨j,c,c',k1,ds,p1,p2,p3,p4,p5,p6,p7,p8⟩:=jh k FY;rw[p6]at hk;cases hk;exact vH (by rw[p7];simp) (by rw[p7];simp) (by rw[p7];simp)
  exact dO (lF k k0 FY hk)⟩
 have YE:=nu hr k3;have ho:=RY (call:=call) (g:=g) hno k3;refine⟨d.strip,lH S S1 R,ι,w,v,te,yl L tB tS,⟨some R,true⟩,⟨some L,true⟩,λhd=>(by cases hd),λ_=>?_,⟨λe=>e,λl hl=>?_⟩,λl m hl hm j hj=>?_,?_,r2,hw,λ_ _ _=>rfl,⟨λk0 hl hno=>iX λhi=>?_,λk k0 hk=>.inl ⟨k,hk⟩,λ_ _=>rfl⟩,λk hk=>?_,⟨by simp[lH],λj hj dm=>?_⟩,Fo,tB,n8,hbk,rfl,rfl,rfl⟩;.simp only[aM,hop,k1,k2,if_neg hh,YE,aI,if_false,ho,hm]
 .cases hl;refine⟨R,rfl,λi hi=>?_⟩;obtain⟨k,h1,h2⟩:=(mO i).1 hi;exact⟨k,h1,hw _ _ h2⟩
 .cases hm;obtain⟨k,h1,h2⟩:=(mO j).1 hj;exact .inr ⟨k,h2⟩
 .refine⟨bu K _ _ hR.env,λk l hk=>?_,λk e s hk t ht=>?_,λk k0 hk=>?_,hR.inj,λk b hk t ht=>?_⟩
  .rw[bg]at hk;split at hk;.rename_i j hj;have hkL:k∈L:=cr (gX hj);obtain⟨j2,c,c',k0,ds,p1,p2,p3,p4,p5,p6⟩:=Vw k hkL;rw[hj]at p1;cases p1;rw[p2]at hk;simp only[ay,aB,TB.cells.injEq]at hk;subst hk;obtain⟨-,-,-,k2,ds2,-,-,-,-,-,q6,q7,-⟩:=jh k hkL;rw[p4]at q6;cases q6;refine⟨k0,ds.map dz,p4,Bh (Ze k k0 hkL p4) q7 p5,EI (ι:=ι1) (ρ:=λj=>L[j]?) (λa b qv=>(uz a b qv).symm) p3 p6⟩
   rename_i hno;obtain⟨k0,Mw,q1,q2,q3⟩:=hR.cells k l hk;exact⟨k0,Mw,q1,by rw[lF k k0 (zD hno) q1];exact q2,bu K _ _ q3⟩
  .rw[bg]at hk;split at hk;.simp at hk
   obtain⟨n,q1⟩:=hR.own k e s hk t ht;exact⟨n,(K k t (λe=>e) ht).2.1 _ _ _ q1⟩
  .rw[bg];split
   .rename_i j hj;have Ya:j<tB.length:=by have:=(aA.1 (gX hj)).1;omega
    exact⟨.cells tB[j],by simp[Ya],by simp⟩
   exact hR.ql k k0 hk
  rw[bg]at hk;split at hk;.simp only[af]at hk;obtain⟨c,-,rfl⟩:=hk;trivial
  rename_i hno;rw[lF k t (zD hno) ht];exact hR.mp k b hk t ht
 .obtain⟨k,-,h2⟩:=(mO k0).1 hi;exact hno _ h2
 .rw[bg];split
  .rename_i j hj;have Ya:j<tB.length:=by have:=(aA.1 (gX hj)).1;omega
   exact⟨some tB[j],by simp[Ya,lq]⟩
  exact hB k hk
 rw[iX];.exact dm
 intro hi;obtain⟨k,h1,h2⟩:=(mO j).1 hi;obtain⟨-,-,-,k0,ds,-,-,-,-,-,q6,q7,-⟩:=jh k h1;rw[h2]at q6;cases q6;rw[dm]at q7;cases q7
end Go.Tv
namespace Go.Tv
open Go Go.Di Go.Proofs
variable {P:Program} {ty:fR} {tt:TypeId->Option TT} {ι ι' w:kY} {S S':ai} {te:List TV} {env:List DV} {tS:List TB} {aK:bR} {call:bt} {yf:ej} {o:Oper} {aF nT:Nat} {B L:List Nat}
def acM(n:Nat):TV->Option TV
 |.sl t l _=>some (.sl t l .no)
 |v=>Oi (λk=>if k<n then some k else none) v
def J1(n:Nat):List TV->Option (List TV)
 |[]=>some []
 |v::l=>match qZ v with
  |true=>if kL v&&l.all kL then some (v::l)else none
  |false=>match acM n v,J1 n l with
   |some a,some b=>some (a::b)
   |_,_=>none
def J2(n:Nat)(tS:List TB):List Nat->Option (List (List TV))
 |[]=>some []
 |k::l=>match tS[k]? with
  |some (.cells c)=>match J1 n c,J2 n tS l with
   |some a,some b=>some (a::b)
   |_,_=>none
  |_=>none
theorem aay{n:Nat}{v v':TV}{d:DV}(h:acM n v=some v')(hv:RT ι S v d):RT ι S v' d:=by
 unfold acM at h;split at h;.cases h;cases d<;>simp only[RT]at hv⊢;exact⟨hv.1,trivial⟩
 exact M5 (λk j hk=>by
  split at hk;.cases hk;rfl
  cases hk) h hv
theorem La{n:Nat}:∀{l l':List TV}{m:List DV},J1 n l=some l'->cK ι S l m->cK ι S l' m
 |[],l',m,h,hv=>by cases h;rw[aR hv];exact bO
 |v::l,l',m,h,hv=>by
  simp only[J1]at h;split at h
  .split at h;.cases h;exact hv
   cases h
  obtain⟨d,m',rfl,h1,h2⟩:=aj hv;split at h;.rename_i a b e1 e2;cases h;exact aT (aay e1 h1) (La e2 h2)
  cases h
theorem GY{n:Nat}:∀{L:List Nat}{tP:List (List TV)},J2 n tS L=some tP->tP.length=L.length/\∀(j:Nat) c',tP[j]? =some c'->∃k c,L[j]? =some k/\tS[k]? =some (TB.cells c)/\J1 n c=some c'
 |[],tP,h=>by cases h;exact⟨rfl,by simp⟩
 |a::L,tP,h=>by
  simp only[J2]at h;split at h
  .rename_i c hc;split at h
   .rename_i x y e1 e2;cases h;obtain⟨h1,h2⟩:=GY e2;refine⟨by simp[h1],λj c' hj=>?_⟩;cases j with
    |zero=>simp only[bY,aB]at hj;subst hj;exact⟨a,c,rfl,hc,e1⟩
    |succ j=>simpa using h2 j c' (by simpa using hj)
   cases h
  cases h
def adz(ty:fR)(rs:List ResultVar)(iY:List (Option TT))(n:Nat)(Q:TV->List (List TV)->Prop)(e:DX)(te:List TV)(tS:List TB):Prop:=
 (match e with|.exit _=>False|_=>True)/\∃vs Fo,xu ty te tS rs=some vs/\vs.all eM=true/\BF (kA (bL iY vs))=true/\J2 n tS (List.range n)=some Fo/\Q (kA (bL iY vs)) Fo
theorem Xk{bH:bR}{L n:Nat}{f:FuncId}{fn:Func}{c:Code}{targs:List TV}{tP:List (List TV)}{iY:List (Option TT)}{Q:TV->List (List TV)->Prop}(hf:P.funcs[f]? =some fn)(hb:fn.body=some c)
  (h:WT P ty (ym P ty bH L n) (pU P ty bH L n) (yfN P ty bH L n) (List.range tP.length) L f false c (targs++List.replicate (fn.ntmps-targs.length) .unk) (tP.map .cells) (adz ty fn.results.toList iY tP.length Q)):BI (pU P ty bH L (n+1)) f targs tP Q:=by
 intro ι bJ S hR;have hlen:=gE hR.env;have mP:bT ι (targs++List.replicate (fn.ntmps-targs.length) .unk) (tP.map .cells) (bJ++List.replicate (fn.ntmps-bJ.length) bF) S:=
  ⟨er hR.env (by rw[hlen];exact sM _ _),hR.cells,hR.own,hR.ql,hR.inj,hR.mp⟩
 obtain⟨e,aL,S',ι',bX,bN,h1,h2,h3,h4,h5,h6⟩:=h ι _ S mP (λk hk=>(by
  have hk:k<tP.length:=by simpa using hk
  exact⟨some tP[k],by simp[hk,lq]⟩))
 obtain⟨h6,vs,Fo,h7,h8,h9,ue,h13⟩:=h6;obtain⟨ds,k1,k2⟩:=sN h2 h7;obtain⟨hl,hg⟩:=GY ue;refine⟨oneOf ds,S',ι',_,Fo,?_,GM (ts:=iY) h8 k2,h9,by simpa using hl,λj l hj=>?_,h4,h5,h13⟩
 .simp only[pU,dx,hf,tN,hb];have HJ:cU P ty (kJ bH (dx P ty bH L n).1) (dx P ty bH L n).1 (dx P ty bH L n).2 L f false c (bJ++List.replicate (fn.ntmps-bJ.length) bF) S=some (e,aL,S'):=h1;rw[HJ];cases e with
  |normal=>simp only[k1,ay]
  |ret=>simp only[k1,ay]
  |exit id=>exact h6.elim
 simp only[cM,af,TB.cells.injEq]at hj;obtain⟨c',q1,rfl⟩:=hj;obtain⟨k,c0,q2,q3,q4⟩:=hg j c' q1;have:k=j:=by
  rw[List.getElem?_range]at q2;.cases q2;rfl
  have:=(aA.1 q2).1;simpa using this
 subst this;obtain⟨k',iC,m1,m2,m3⟩:=h2.cells k c0 q3;exact⟨k',iC,m1,m2,La q4 m3⟩
def dedup:List Nat->List Nat
 |[]=>[]
 |a::l=>if(dedup l).contains a then dedup l else a::dedup l
theorem wh:∀{l:List Nat}{k:Nat},k∈dedup l↔k∈l
 |[],_=>Iff.rfl
 |a::l,k=>by
  unfold dedup;split;.rename_i h;rw[wh,bw];have ha:a∈l:=wh.1 (by simpa using h);exact⟨.inr,λh=>h.elim (λe=>e▸ha) id⟩
  rw[bw,bw,wh]
theorem vk:∀{l:List Nat},mW (dedup l)=true
 |[]=>rfl
 |a::l=>by
  unfold dedup;split;.exact vk
  rename_i h;simp only[mW,vk,sS,nI];simpa using h
def Vk(tt:TypeId->Option TT)(md:Nat)(tS:List TB)(A:List TV)(ts:List (Option TT))(X L:List Nat):Option (List TV×List (List TV)):=
 if A.any isRef&&!L.isEmpty&&(md==0||(A.all (Gk X)&&X.all (tL tS X)&&CS A))then
  match uo (loc L) ts A,JP (loc L) tS L with
  |some targs,some tP=>some (targs,tP)
  |_,_=>none
 else none
def Nc(tt:TypeId->Option TT)(md:Nat)(te:List TV)(tS:List TB)(o:Oper):Option (FuncId×List Nat×List TV×List (List TV)):=
 match o.op with
 |.call {callee:=.value f,args,argTypes}=>match fK te f,lS te args.toList with
  |some (.fn g fs cs),some xs=>match Vk tt md tS (fs++xs++cs) (gf tt fs argTypes) (gb tS (fs++xs++cs)) (dedup (gb tS (fs++xs++cs)))with
   |some (targs,tP)=>some (g,dedup (gb tS (fs++xs++cs)),targs,tP)
   |none=>none
  |_,_=>none
 |_=>none
theorem R6{md:Nat}{g:FuncId}{targs:List TV}{tP:List (List TV)}(h:Nc tt md te tS o=some (g,L,targs,tP)):
  ∃f args argTypes fs cs xs,o.op=.call {callee:=.value f,args,argTypes}/\fK te f=some (.fn g fs cs)/\lS te args.toList=some xs/\mW L=true/\(∀k,k∈gb tS (fs++xs++cs)↔k∈L)/\L≠[]/\uo (loc L) (gf tt fs argTypes) (fs++xs++cs)=some targs/\(fs++xs++cs).any isRef=true/\JP (loc L) tS L=some tP/\
   (md≠0->(fs++xs++cs).all (Gk (gb tS (fs++xs++cs)))=true/\(gb tS (fs++xs++cs)).all (tL tS (gb tS (fs++xs++cs)))=true/\CS (fs++xs++cs)=true):=by
 unfold Nc at h;split at h
 .rename_i f args argTypes hop;split at h
  .rename_i g' fs cs xs h1 h2;split at h
   .rename_i air Fo h3;cases h;unfold Vk at h3;split at h3
    .rename_i hc;simp only[aC,gY,dX,nI]at hc;obtain⟨⟨c1,c2⟩,c3⟩:=hc;split at h3;.rename_i a b e1 e2;cases h3;refine⟨f,args,argTypes,fs,cs,xs,hop,h1,h2,vk,λk=>wh.symm,λe=>(by rw[e]at c2;cases c2),e1,c1,e2,λhm=>?_⟩;obtain⟨⟨c4,c5⟩,c6⟩:=c3.resolve_left hm;exact⟨c4,c5,c6⟩
     cases h3
    cases h3
   cases h
  cases h
 cases h
end Go.Tv
namespace Go.Tv
open Go Go.Di Go.Proofs
def jV(tS:List TB)(k:Nat):Bool:=
 match tS[k]? with
 |some (.cells _)=>true
 |_=>false
mutual
def eD(tS:List TB):TV->TV
 |.sl t l (.je _)=>.sl t l .no
 |.sl t l (.Cf _)=>.sl t l .no
 |.ptr id off=>match jV tS id with
  |true=>.ptr id off
  |false=>.unk
 |.mp id=>.unk
 |.so _ _=>.unk
 |.sp _ _ _ _=>.unk
 |.od _ _ _=>.unk
 |.agg l=>.agg (ga tS l)
 |.tup l=>.tup (ga tS l)
 |.fn f a b=>.fn f (ga tS a) (ga tS b)
 |v=>v
def ga(tS:List TB):List TV->List TV
 |[]=>[]
 |a::l=>eD tS a::ga tS l
end
def dF:Nat->List TB->List Nat
 |_,[]=>[]
 |i,.cells _::l=>i::dF (i+1) l
 |i,.loop::l=>i::dF (i+1) l
 |i,_::l=>dF (i+1) l
variable {P:Program} {ty:fR} {tt:TypeId->Option TT} {ι ι' w:kY} {S S':ai} {te:List TV} {env:List DV} {tS:List TB} {aK:bR} {call:bt} {yf:ej} {o:Oper} {aF nT:Nat} {B:List Nat}
theorem u9{k:Nat}:∀{tS:List TB}{i:Nat},k∈dF i tS↔i<=k/\∃c,tS[k-i]? =some (lq c)
 |[],i=>by simp[dF]
 |b::l,i=>by
  have ih:=u9 (k:=k) (tS:=l) (i:=i+1);have hs:∀(c:Option (List TV)),i+1<=k->((b::l)[k-i]? =some (lq c)↔l[k-(i+1)]? =some (lq c)):=λc h=>by rw[show k-i=(k-(i+1))+1 by omega,List.getElem?_cons_succ]
  have yes:∀c0,b=lq c0->((k=i\/k∈dF (i+1) l)↔i<=k/\∃c,(b::l)[k-i]? =some (lq c)):=λc0 hb=>by
   rw[ih];constructor
   .rintro(rfl|⟨h1,c,h2⟩);.exact⟨ak _,c0,by simp[hb]⟩
    exact⟨by omega,c,(hs c h1).2 h2⟩
   rintro⟨h1,c,h2⟩;by_cases e:k=i;.exact .inl e
   exact .inr ⟨by omega,c,(hs c (by omega)).1 h2⟩
  have no:(∀c,b≠lq c)->(k∈dF (i+1) l↔i<=k/\∃c,(b::l)[k-i]? =some (lq c)):=λhb=>by
   rw[ih];constructor;.rintro⟨h1,c,h2⟩;exact⟨by omega,c,(hs c h1).2 h2⟩
   rintro⟨h1,c,h2⟩;by_cases e:k=i;.subst e;simp only[Nat.sub_self,bY,aB]at h2;exact(hb c h2).elim
   exact⟨by omega,c,(hs c (by omega)).1 h2⟩
  cases b with
  |cells c0=>simp only[dF,bw];exact yes (some c0) rfl
  |loop=>simp only[dF,bw];exact yes none rfl
  |none=>simp only[dF];exact no λc e=>by cases c<;>cases e
  |map kt0 c0=>simp only[dF];exact no λc e=>by cases c<;>cases e
  |rows t0 e0 c0 z0=>simp only[dF];exact no λc e=>by cases c<;>cases e
  |own e0 s0=>simp only[dF];exact no λc e=>by cases c<;>cases e
theorem rR{k:Nat}{c:Option (List TV)}(h:tS[k]? =some (lq c)):k∈dF 0 tS:=u9.2 ⟨kT _,c,h⟩
theorem Lh{k:Nat}{c:List TV}(h:tS[k]? =some (.cells c)):k∈dF 0 tS:=rR (c:=some c) h
theorem Vp:oE (dF 0 tS) tS:=λ_ hk=>(u9.1 hk).2
mutual
theorem Ph(hi:∀k,jV tS k=true->ι' k=ι k):∀(v:TV)(d:DV),RT ι S v d->RT ι' S' (eD tS v) d
 |.unk,_,_=>by simp only[eD,RT]
 |.val _,d,k=>by cases d<;>simp only[RT,eD]at k⊢;exact k
 |.ax,d,k=>by cases d<;>simp only[RT,eD]at k⊢;exact k
 |.agg l,d,k=>by cases d<;>simp only[RT,eD]at k⊢;exact j4 hi l _ k
 |.tup l,d,k=>by cases d<;>simp only[RT,eD]at k⊢;exact j4 hi l _ k
 |.sl t l .no,d,k=>by cases d<;>simp only[RT,eD]at k⊢;exact k
 |.sl t l .full,d,k=>by cases d<;>simp only[RT,eD]at k⊢;exact k
 |.sl t l (.stop _),d,k=>by cases d<;>simp only[RT,eD]at k⊢;exact⟨k.1,trivial⟩
 |.sl t l (.Cf g),d,k=>by cases d<;>simp only[RT,eD]at k⊢;exact⟨k.1,trivial⟩
 |.sl t l (.je g),d,k=>by cases d<;>simp only[RT,eD]at k⊢;exact⟨k.1,trivial⟩
 |.ptr id off,d,k=>by
  cases d<;>simp only[RT]at k;simp only[eD];split;.rename_i hc;simp only[RT];exact⟨(hi _ hc).trans k.1,k.2⟩
  simp only[RT]
 |.fq t l i off,d,k=>by cases d<;>simp only[RT,eD]at k⊢;exact k
 |.mp id,d,_=>by simp only[RT,eD]
 |.so g t,d,_=>by simp only[RT,eD]
 |.sp g t i off,d,_=>by simp only[RT,eD]
 |.od _ _ _,d,_=>by simp only[RT,eD]
 |.fn f a b,d,k=>by cases d<;>simp only[RT,eD]at k⊢;exact⟨k.1,j4 hi a _ k.2.1,j4 hi b _ k.2.2⟩
theorem j4(hi:∀k,jV tS k=true->ι' k=ι k):∀(l:List TV)(m:List DV),cK ι S l m->cK ι' S' (ga tS l) m
 |[],m,k=>by rw[aR k];simp only[ga];exact bO
 |a::l,m,k=>by obtain⟨d,m',rfl,h1,h2⟩:=aj k;simp only[ga];exact aT (Ph hi a d h1) (j4 hi l m' h2)
end
end Go.Tv
namespace Go.Tv
open Go Go.Di Go.Proofs
variable {P:Program} {ty:fR} {ι ι' w:kY} {S S':ai} {te:List TV} {env:List DV} {tS:List TB} {aK:bR} {call:bt} {yf:ej} {B:List Nat}
def oz:List TV->List (Tmp×TV)->List TV
 |te,[]=>te
 |te,(t,v)::l=>oz (te.set t v) l
theorem O8:∀{ps:List Tmp}{te:List TV}{env:List DV}{xs:List TV}{ds:List DV},cK ι S te env->cK ι S xs ds->cK ι S (oz te (ps.zip xs)) (tF env (ps.zip ds))
 |[],te,env,xs,ds,h,k=>by simpa [oz,tF]using h
 |p::ps,te,env,[],ds,h,k=>by rw[aR k];simpa [oz,tF]using h
 |p::ps,te,env,x::xs,ds,h,k=>by obtain⟨d,m,rfl,k1,k2⟩:=aj k;simp only[List.zip_cons_cons,oz,tF];exact O8 (IK p h k1) k2
def Dp(ι:kY)(k:Nat):kY:=λj=>if j=k then none else ι j
theorem yW{k j:Nat}(h:j≠k):Dp ι k j=ι j:=if_neg h
theorem gB{k j id:Nat}(h:Dp ι k j=some id):j≠k/\ι j=some id:=by
 unfold Dp at h;split at h;.cases h
 exact⟨‹_›,h⟩
theorem KR(h:bT ι te tS env S){k:Nat}(hr:(eW te++oA tS).contains k=false):bT (Dp ι k) te (tS.set k .none) env S:=by
 have hk:∀j,j∈eW te++oA tS->j≠k:=λj hj e=>by
  subst e;have:(eW te++oA tS).contains j=true:=by simpa using hj
  rw[this]at hr;cases hr
 have bg:∀j b,(tS.set k .none)[j]? =some b->b≠.none->j≠k/\tS[j]? =some b:=λj b hj hb=>by
  rw[aH]at hj;split at hj
  .split at hj;.cases hj;exact absurd rfl hb
   cases hj
  rename_i e;exact⟨λe'=>e e'.symm,hj⟩
 refine⟨kM _ _ (λj hj=>yW (hk j (qM _ hj))) h.env,λj l hj=>?_,λj e s hj t ht=>?_,λj k' hj=>?_,λi j k' hi hj=>h.inj i j k' (gB hi).2 (gB hj).2,λj b hj t ht=>?_⟩;.obtain⟨h1,h2⟩:=bg j _ hj (by simp);obtain⟨k',ds,n1,n2,n3⟩:=h.cells j l h2;exact⟨k',ds,(yW h1).trans n1,n2,kM _ _ (λi hi=>yW (hk i (List.mem_append_right _ (A3 h2 hi)))) n3⟩
 .obtain⟨h1,h2⟩:=bg j _ hj (by simp);exact h.own j e s h2 t (gB ht).2
 .obtain⟨h1,h2⟩:=gB hj;obtain⟨b,h3,h4⟩:=h.ql j k' h2;exact⟨b,by rw[aH,if_neg λe=>h1 e.symm];exact h3,h4⟩
 by_cases hb:b=.none;.subst hb;trivial
 exact h.mp j b (bg j b hj hb).2 t (gB ht).2
theorem AZ(h:bT ι te tS env S){id:Nat}{b:DB}(hn:∀k,ι k≠some id):bT ι te tS env (S.set id b):=by
 have hg:∀{k k'},ι k=some k'->(S.set id b)[k']? =S[k']? :=λ{k k'} hk=>by rw[aH,if_neg (λ(e:id=k')=>hn k (by rw[e];exact hk))]
 have K:jy ι S ι (S.set id b) λ_=>False:=λk k' _ hk=>⟨hk,dO (hg hk)⟩;refine⟨bu K _ _ h.env,λk l hk=>?_,λk e s hk t ht=>?_,h.ql,h.inj,λk c hk t ht=>by rw[hg ht];exact h.mp k c hk t ht⟩;.obtain⟨k',ds,n1,n2,n3⟩:=h.cells k l hk;exact⟨k',ds,n1,(hg n1).trans n2,bu K _ _ n3⟩
 obtain⟨n,h1⟩:=h.own k e s hk t ht;exact⟨n,(hg ht).trans h1⟩
theorem KQ{k id:Nat}{r:Gq}(h:bT ι te tS env S)(hk:tS[k]? =some .none)(hn:∀k,ι k≠some id)(hid:S[id]? =some (.loop r))(hrr:r.st=.ready/\r.kz=none):bT (upd ι k id) te (tS.set k .loop) env S:=by
 have hno:ι k=none:=by
  cases e:ι k with
  |none=>rfl
  |some k'=>obtain⟨b,h1,h2⟩:=h.ql k k' e;rw[hk]at h1;cases h1;exact absurd rfl h2
 have hlt:=(aA.1 hk).1;have hu:∀{j k'},ι j=some k'->upd ι k id j=some k':=λ{j k'} hj=>by
  unfold upd;rw[if_neg];.exact hj
  rintro rfl;rw[hno]at hj;cases hj
 have K:jy ι S (upd ι k id) S λ_=>False:=λj k' _ hj=>⟨hu hj,dO rfl⟩;have cQ:∀{j k'},upd ι k id j=some k'->(j=k/\k'=id)\/(j≠k/\ι j=some k'):=λ{j k'} hj=>by
  unfold upd at hj;split at hj;.rename_i e;cases hj;exact .inl ⟨e,rfl⟩
  rename_i e;exact .inr ⟨e,hj⟩
 have bg:∀{j b},(tS.set k .loop)[j]? =some b->(j=k/\b=.loop)\/(j≠k/\tS[j]? =some b):=λ{j b} hj=>by
  rw[aH]at hj;split at hj
  .rename_i e;first|(rw[if_pos hlt]at hj;cases hj)|cases hj
   exact .inl ⟨e.symm,rfl⟩
  rename_i e;exact .inr ⟨λe'=>e e'.symm,hj⟩
 refine⟨bu K _ _ h.env,λj l hj=>?_,λj e s hj t ht=>?_,λj k' hj=>?_,λi j k' hi hj=>?_,λj b hj t ht=>?_⟩
 .rcases bg hj with ⟨-,e⟩|⟨h1,h2⟩;.cases e
  obtain⟨k',ds,n1,n2,n3⟩:=h.cells j l h2;exact⟨k',ds,hu n1,n2,bu K _ _ n3⟩
 .rcases bg hj with ⟨-,e⟩|⟨h1,h2⟩;.cases e
  rcases cQ ht with ⟨e,-⟩|⟨-,h3⟩;.exact absurd e h1
  exact h.own j _ _ h2 t h3
 .rcases cQ hj with ⟨rfl,rfl⟩|⟨h1,h2⟩;.exact⟨.loop,by rw[aH,if_pos rfl,if_pos hlt],by simp⟩
  obtain⟨b,h3,h4⟩:=h.ql j k' h2;exact⟨b,by rw[aH,if_neg λe=>h1 e.symm];exact h3,h4⟩
 .rcases cQ hi with ⟨rfl,rfl⟩|⟨h1,h2⟩<;>rcases cQ hj with ⟨rfl,h3⟩|⟨h4,h5⟩;.rfl
  .exact(hn _ h5).elim
  .subst h3;exact(hn _ h2).elim
  exact h.inj i j k' h2 h5
 rcases bg hj with ⟨rfl,rfl⟩|⟨h1,h2⟩
 .rcases cQ ht with ⟨-,rfl⟩|⟨h3,-⟩;.exact⟨r,hid,hrr⟩
  exact absurd rfl h3
 rcases cQ ht with ⟨e,-⟩|⟨-,h3⟩;.exact absurd e h1
 exact h.mp j b h2 t h3
theorem Wu{k id Bp:Nat}{sC:FuncId}{Ad xs:List TV}{ps:List Tmp}{oD body:Code}{Aq bJ:List DV}{K:List TB->Prop}(hR:bT ι xs tS bJ S)(hB:oE B tS)(hkB:k∉B)(hk:ι k=some id)(htk:tS[k]? =some .loop)(hS:S[id]? =some (.loop ⟨.ready,none,sC,Aq,ps,oD,body,Bp⟩))(hE:cK ι S Ad Aq)
  (hlen:xs.length=ps.length) (hr:(eW (oz Ad (ps.zip xs))++oA tS).contains k=false)
  (h:WT P ty aK call yf B LL sC true oD (oz Ad (ps.zip xs)) (tS.set k .none) λe mI iM=>e=.normal/\WT P ty aK call yf B LL sC true body mI iM λe _ jQ=>e=.normal/\jQ[k]? =some .none/\K jQ):
  ∃S' ι' jQ,uK P ty aK call yf LL id bJ S=some (.val (.bool true),S')/\bT ι' [] (jQ.set k .loop) [] S'/\oE B (jQ.set k .loop)/\Fr B ι S ι' S'/\Nn S.length S S'/\S'[id]? =S[id]? /\ι' k=some id/\K jQ:=by
 have hRe:bT ι (oz Ad (ps.zip xs)) tS (tF Aq (ps.zip bJ)) S:=⟨O8 hE hR.env,hR.cells,hR.own,hR.ql,hR.inj,hR.mp⟩;have QE:∀j∈B,j≠k:=λj hj e=>hkB (e▸hj);have hB0:oE B (tS.set k .none):=λj hj=>by obtain⟨l,h1⟩:=hB j hj;exact⟨l,by rw[aH,if_neg λe=>QE j hj e.symm];exact h1⟩
 have hlv:Lv S id:=⟨_,hS,by simp⟩;have afv:∀j,Dp ι k j≠some id:=λj hj=>by obtain⟨h1,h2⟩:=gB hj;exact h1 (hR.inj j k id h2 hk)
 obtain⟨e1,qo,S1,ι1,mI,iM,a1,a2,a3,a4,a5,rfl,h2⟩:=h _ _ S (KR hRe hr) hB0;have b1:S1[id]? =S[id]? :=a4.rest id hlv afv;have b2:∀j,ι1 j≠some id:=λj hj=>by
  rcases a4.ours j id hj with ⟨i,hi⟩|hn;.exact afv i hi
  exact hn hlv
 have afw:id<S1.length:=by rw[hS]at b1;exact(aA.1 b1).1
 obtain⟨e2,adk,S2,ι2,SZ,jQ,c1,c2,c3,c4,c5,rfl,c6,c7⟩:=h2 _ _ (S1.set id (.loop ⟨.busy,none,sC,Aq,ps,oD,body,Bp⟩)) (AZ a2 b2) a3;have Ff:Lv (S1.set id (.loop ⟨.busy,none,sC,Aq,ps,oD,body,Bp⟩)) id:=⟨_,by rw[aH,if_pos rfl,if_pos afw],by simp⟩;have d1:S2[id]? =some (.loop ⟨.busy,none,sC,Aq,ps,oD,body,Bp⟩):=by rw[c4.rest id Ff b2,aH,if_pos rfl,if_pos afw]
 have d2:∀j,ι2 j≠some id:=λj hj=>by
  rcases c4.ours j id hj with ⟨i,hi⟩|hn;.exact b2 i hi
  exact hn Ff
 have ahM:=(aA.1 d1).1;have d3:(S2.set id (.loop ⟨.ready,none,sC,Aq,ps,oD,body,Bp⟩))[id]? =some (.loop ⟨.ready,none,sC,Aq,ps,oD,body,Bp⟩):=by rw[aH,if_pos rfl,if_pos ahM]
 have Y7:∀j,j≠id->(S1.set id (.loop ⟨.busy,none,sC,Aq,ps,oD,body,Bp⟩))[j]? =S1[j]? :=λj hj=>by rw[aH,if_neg λe=>hj e.symm]
 have afs:∀j,j≠id->(S2.set id (.loop ⟨.ready,none,sC,Aq,ps,oD,body,Bp⟩))[j]? =S2[j]? :=λj hj=>by rw[aH,if_neg λe=>hj e.symm]
 have c2':bT ι2 [] jQ [] S2:=⟨bO,c2.cells,c2.own,c2.ql,c2.inj,c2.mp⟩;have JB:ι2 k=none:=by
  cases e:ι2 k with
  |none=>rfl
  |some k'=>obtain⟨b,h3,h4⟩:=c2.ql k k' e;rw[c6]at h3;cases h3;exact absurd rfl h4
 have hRn:=KQ (AZ (b:=.loop ⟨.ready,none,sC,Aq,ps,oD,body,Bp⟩) c2' d2) c6 d2 d3 ⟨rfl,rfl⟩;refine⟨_,_,jQ,?_,hRn,λj hj=>?_,⟨λk' hl hn=>?_,λj k' hj=>?_,λj hj=>?_⟩,⟨?_,λj hj dm=>?_⟩,by rw[d3,hS],by simp[upd],c7⟩
 .have hdl:bJ.length=ps.length:=by have:=gE hR.env;omega
  unfold uK;rw[hS];simp only[hdl,if_true,a1];rw[hS]at b1;simp only[b1,if_true,c1,d1]
 .obtain⟨l,h3⟩:=c3 j hj;exact⟨l,by rw[aH,if_neg λe=>QE j hj e.symm];exact h3⟩
 .have hne:k'≠id:=λe=>hn k (e▸hk);have h3:=a4.rest k' hl λj hj=>hn j (gB hj).2;have ahJ:Lv (S1.set id (.loop ⟨.busy,none,sC,Aq,ps,oD,body,Bp⟩)) k':=by obtain⟨b,h4,h5⟩:=hl;exact⟨b,(Y7 k' hne).trans (h3.trans h4),h5⟩
  have h6:=c4.rest k' ahJ λj hj=>by
   rcases a4.ours j k' hj with ⟨i,hi⟩|h7;.exact hn i (gB hi).2
   exact h7 hl
  rw[afs k' hne,h6,Y7 k' hne,h3]
 .unfold upd at hj;split at hj;.cases hj;exact .inl ⟨k,hk⟩
  by_cases hl:Lv S k'
  .by_cases hn:∃j,ι j=some k';.exact .inl hn
   have hne:k'≠id:=λe=>hn ⟨k,e▸hk⟩;have h3:=a4.rest k' hl λj hj=>hn ⟨j,(gB hj).2⟩;rcases c4.ours j k' hj with ⟨i,hi⟩|h7
   .rcases a4.ours i k' hi with ⟨i',Fg⟩|h8;.exact .inl ⟨i',(gB Fg).2⟩
    exact(h8 hl).elim
   refine(h7 ?_).elim;obtain⟨b,h4,h5⟩:=hl;exact⟨b,(Y7 k' hne).trans (h3.trans h4),h5⟩
  exact .inr hl
 .unfold upd;rw[if_neg (QE j hj),c4.base j hj,a4.base j hj,yW (QE j hj)]
 .have h3:=a5.1;have h4:=c5.1;simp only[List.length_set]at h4⊢;omega
 have hne:j≠id:=λe=>by rw[e,hS]at dm;cases dm
 have hlt:=(aA.1 dm).1;have h3:=a5.2 j hj dm;have h4:=c5.2 j (by simp only[List.length_set];have:=a5.1;omega) ((Y7 j hne).trans h3);rw[afs j hne];exact h4
end Go.Tv
namespace Go.Tv
open Go Go.Di Go.Proofs
variable {P:Program} {ty:fR} {tt:TypeId->Option TT} {ι ι' w:kY} {S S':ai} {te:List TV} {env:List DV} {tS:List TB} {aK HP:bR} {call yH:bt} {yf Yq:ej} {o:Oper} {aF nT:Nat} {B:List Nat}
def pJ(k:Nat):Nat->List TB->List TB->List TB
 |i,b::l,c::m=>(match b,c with
  |.cells _,.cells x=>.cells x
  |_,.loop=>if i=k then .loop else .none
  |_,_=>.none)::pJ k (i+1) l m
 |_,_,_=>[]
theorem vI{k:Nat}:∀{i:Nat}{l m:List TB},Ck (pJ k i l m) m
 |_,[],m=>by unfold pJ;exact .nil
 |_,_::_,[]=>by unfold pJ;exact .nil
 |i,b::l,c::m=>by
  unfold pJ;split;.exact .cells (kF.refl _) vI
  .split;.exact .loop vI
   exact .none vI
  exact .none vI
theorem Qh{k:Nat}:∀{i:Nat}{l m:List TB}{j:Nat}{b:TB},(pJ k i l m)[j]? =some b->b=.none\/(∃c x,l[j]? =some (.cells c)/\b=.cells x)\/(i+j=k/\b=.loop)
 |_,[],_,_,_,h=>by simp[pJ]at h
 |_,_::_,[],_,_,h=>by simp[pJ]at h
 |i,a::l,c::m,0,b,h=>by
  unfold pJ at h;simp only[bY,aB]at h;subst h;split;.exact .inr (.inl ⟨_,_,rfl,rfl⟩)
  .split;.rename_i e;exact .inr (.inr ⟨by omega,rfl⟩)
   exact .inl rfl
  exact .inl rfl
 |i,a::l,c::m,j+1,b,h=>by
  unfold pJ at h;rcases Qh (l:=l) (m:=m) (i:=i+1) (j:=j) (by simpa using h)with h|⟨c,x,h1,h2⟩|⟨h1,h2⟩;.exact .inl h
  .exact .inr (.inl ⟨c,x,by simpa using h1,h2⟩)
  exact .inr (.inr ⟨by omega,h2⟩)
def uB(tS:List TB)(k:Nat):TV->TV
 |.od k' fn t=>if k'=k then .od k' fn (ga tS t)else .unk
 |v=>eD tS v
theorem Wt{k id:Nat}(hi:∀j,jV tS j=true->ι' j=ι j)(hk:ι k=some id)(pG:ι' k=some id)(hS:S'[id]? =S[id]?){v:TV}{d:DV}(h:RT ι S v d):RT ι' S' (uB tS k v) d:=by
 unfold uB;split
 .rename_i k' fn t;split;.rename_i e;subst e;cases d<;>simp only[RT]at h⊢;obtain⟨h1,ps,a,b,env,Bp,h4,h2,h3⟩:=h;rw[hk]at h1;cases h1;exact⟨pG,ps,a,b,env,Bp,h4,hS.trans h2,j4 hi _ _ h3⟩
  simp only[RT]
 exact Ph hi _ _ h
theorem GD{k id:Nat}(hi:∀j,jV tS j=true->ι' j=ι j)(hk:ι k=some id)(pG:ι' k=some id)(hS:S'[id]? =S[id]?):∀{l:List TV}{m:List DV},cK ι S l m->cK ι' S' (l.map (uB tS k)) m
 |[],m,h=>by rw[aR h];exact bO
 |a::l,m,h=>by obtain⟨d,m',rfl,h1,h2⟩:=aj h;exact aT (Wt hi hk pG hS h1) (GD hi hk pG hS h2)
def ou(k:Nat)(tS:List TB):List Nat:=(dF 0 tS).filter (·!=k)
theorem Ie{k j:Nat}:j∈ou k tS↔j∈dF 0 tS/\j≠k:=by simp[ou]
theorem N9{f:Operand}{args:Array Operand}{argTypes:Array TypeId}{k:Nat}{sC:FuncId}{Ad xs:List TV}{ps:List Tmp}{oD body:Code}{K:List TB->Prop}{dr:Bool}(hop:o.op=.call {callee:=.value f,args,argTypes})(hyf:yf=uK P ty HP yH Yq LL)(hf:fK te f=some (.od k sC Ad))(hrf:Cq sC=some (ps,oD,body))(ha:lS te args.toList=some xs)
  (htk:tS[k]? =some .loop) (hlen:xs.length=ps.length) (hr:(eW (oz Ad (ps.zip xs))++oA tS).contains k=false)
  (h:WT P ty HP yH Yq (ou k tS) LL sC true oD (oz Ad (ps.zip xs)) (tS.set k .none) λe mI iM=>e=.normal/\WT P ty HP yH Yq (ou k tS) LL sC true body mI iM λe _ jQ=>e=.normal/\jQ[k]? =some .none/\K jQ)
  (hK:∀jQ,K jQ->okB (te.map (uB tS k)) (pJ k 0 tS (jQ.set k .loop))=true/\∀j∈dF 0 tS,lX (pJ k 0 tS (jQ.set k .loop)) j=true):
  Does P ty aK call yf B o nT te tS dr λv bX bN ft=>∃jQ,K jQ/\v=.val (.bool true)/\bX=te.map (uB tS k)/\bN=pJ k 0 tS (jQ.set k .loop)/\ft=⟨none,true⟩:=by
 intro ι w env S aF hR hB hw hT Fe hS;obtain⟨d,k1,k2⟩:=bE hR.env hf;obtain⟨Fj,k3,k4⟩:=sQ hR.env ha;cases d<;>simp only[RT]at k2;rename_i id;obtain⟨hk,ps',ai1,aiC,Aq,Bp,afo,hl,hE⟩:=k2;rw[hrf]at afo;cases afo;obtain⟨S',ι',jQ,a1,a2,a3,a4,a5,a6,a7,a8⟩:=Wu (K:=K) (B:=ou k tS) ⟨k4,hR.cells,hR.own,hR.ql,hR.inj,hR.mp⟩ (λj hj=>Vp j (Ie.1 hj).1) (λh=>(Ie.1 h).2 rfl) hk htk hl hE hlen hr h;obtain⟨c1,c2⟩:=hK jQ a8
 replace c2:∀j∈B,lX (pJ k 0 tS (jQ.set k .loop)) j=true:=λj hj=>by obtain⟨l,h1⟩:=hB j hj;exact c2 j (rR h1)
 have jh:∀j,jV tS j=true->ι' j=ι j:=λj hj=>by
  unfold jV at hj;split at hj;.rename_i c hc;exact a4.base j (Ie.2 ⟨Lh hc,λe=>by rw[e,htk]at hc;cases hc⟩)
  cases hj
 have Db:bT ι' (te.map (uB tS k)) (jQ.set k .loop) env S':=⟨GD jh hk a7 a6 hR.env,a2.cells,a2.own,a2.ql,a2.inj,a2.mp⟩;have MI:∀j,j∈B->j≠k->j∈ou k tS:=λj hj hjk=>by obtain⟨l,h1⟩:=hB j hj;exact Ie.2 ⟨rR h1,hjk⟩
 have hkl:(jQ.set k TB.loop)[k]? =some .loop:=by obtain⟨b,q1,-⟩:=a2.ql k id a7;have:=(aA.1 q1).1;rw[aH,if_pos rfl,if_pos (by simpa using this)]
 have hBy:oE B (jQ.set k .loop):=λj hj=>by
  by_cases e:j=k;.subst e;exact⟨none,hkl⟩
  exact a3 j (MI j hj e)
 have hBc:=zI vI hBy c2;obtain⟨ι1,e1,e2,e3⟩:=zw Db (kF.refl _) vI c1 hBc;have hold:∀j k',ι1 j=some k'->ι j=some k':=λj k' hj=>by
  rw[e3]at hj;split at hj
  .rename_i hlv;unfold lX at hlv;cases hc:(pJ k 0 tS (jQ.set k .loop))[j]? with
   |none=>rw[hc]at hlv;cases hlv
   |some b=>
    rcases Qh hc with rfl|⟨c,x,h1,-⟩|⟨h1,-⟩;.rw[hc]at hlv;cases hlv
    .rw[jh j (by unfold jV;rw[h1])]at hj;exact hj
    have:j=k:=by omega
    subst this;rw[a7]at hj;rw[hk];exact hj
  cases hj
 have hst:ah P ty aK call yf (jr env) o S aF=some (.val (.bool true),S'):=by subst hyf;simp only[ah,hop,k1,k3,a1]
 refine⟨.val (.bool true),S',ι1,w,.val (.bool true),te.map (uB tS k),pJ k 0 tS (jQ.set k .loop),⟨none,true⟩,⟨none,true⟩,λ_=>hst,λ_=>?_,⟨λe=>e,λl hl=>(by cases hl)⟩,λl m hl=>(by cases hl),e1,by simp only[RT],λj k' hj=>hw j k' (hold j k' hj),λ_ _ _=>rfl,⟨λk' hl hn=>a4.rest k' hl hn,λj k' hj=>.inl ⟨j,hold j k' hj⟩,λj hj=>?_⟩,hBc,⟨a5.1,λj hj dm=>?_⟩,jQ,a8,rfl,rfl,rfl,rfl⟩;.subst hyf;simp only[aM,hop,k1,k3,a1,ay]
 .rw[e2.base j hj];by_cases e:j=k;.rw[e,a7,hk]
  exact a4.base j (MI j hj e)
 have:=(aA.1 dm).1;exact a5.2 j (by omega) dm
end Go.Tv
