import Derived.Test.YtadeehilamokkaaGreatDoorPk07
namespace Go.Tv
open Go Go.Di Go.Proofs
variable {P:Program} {ty:fo} {tt:TypeId->cy} {ι ι' w:kB} {S S':aj} {te:cn} {env:cj} {tS:cp} {aD:bR} {call:aY} {yf:di} {o:Oper} {aB nT:Nat} {B L:cx}
def vF:TV->cx
 |.ptr k _=>[k]
 |_=>[]
def iC:TV->cx
 |.ptr k _=>[k]
 |.fn _ a b=>a.flatMap vF++b.flatMap vF
 |_=>[]
def FN(tS:cp)(k:Nat):cx:=
 match tS[k]? with
 |some (.cells l)=>l.flatMap iC
 |_=>[]
def vJ(tS:cp)(X:cx):cx:=X++(X.flatMap (FN tS)).filter λi=>!X.contains i
def fH(tS:cp)(A:cn):cx:=vJ tS (vJ tS (vJ tS (A.flatMap iC)))
def Be(X:cx):TV->Bool
 |.ptr k _=>X.contains k
 |v=>jZ v
def UO(X:cx):TV->Bool
 |.ptr k _=>X.contains k
 |.fn _ a b=>a.all (Be X)&&b.all (Be X)
 |v=>jZ v
def FX(X:cx):TV->Bool
 |.ptr k _=>X.contains k
 |.fn _ a b=>a.all (Be X)&&b.all (Be X)
 |v=>dY v
def sL(tS:cp)(X:cx)(k:Nat):Bool:=
 match tS[k]? with
 |some (.cells l)=>l.all (UO X)
 |_=>false
abbrev lQ(ι:kB)(k:Nat):Nat:=(ι k).getD 0
theorem QY{X:cx}{v:TV}{d:DV}(hg:Be X v=true)(h:RT ι S v d):T7 d=(vF v).map (lQ ι)/\∀k∈vF v,∃k',ι k=some k':=by
 cases v<;>first|(cases hg;done)|skip
 cases d<;>simp only[RT]at h;exact⟨rfl,by simp[vF]⟩;cases d<;>simp only[RT]at h;exact⟨rfl,by simp[vF]⟩;cases d<;>simp only[RT]at h;exact⟨by simp[T7,vF,lQ,h.1],by simp[vF,h.1]⟩
theorem wM{X:cx}:∀{l:cn}{m:cj},l.all (Be X)=true->cz ι S l m->m.flatMap T7=(l.flatMap vF).map (lQ ι)/\∀k∈l.flatMap vF,∃k',ι k=some k'
 |[],m,_,h=>by rw[aN h];exact⟨rfl,ab⟩
 |a::l,m,hp,h=>by obtain⟨d,m',rfl,h1,h2⟩:=ax h;simp only[cA,aC]at hp;obtain⟨k1,k2⟩:=QY hp.1 h1;obtain⟨k3,k4⟩:=wM hp.2 h2;refine⟨by rw[de,de,iI,k1,k3],λk hk=>?_⟩;rw[de,gV]at hk;exact hk.elim (k2 k) (k4 k)
theorem F7{X:cx}{g:FuncId}{a b:cn}{d:DV}(hg:(a.all (Be X)&&b.all (Be X))=true)(h:RT ι S (.fn g a b) d):zB d=(iC (.fn g a b)).map (lQ ι)/\∀k∈iC (.fn g a b),∃k',ι k=some k':=by simp only[aC]at hg;cases d<;>simp only[RT]at h;obtain⟨k1,k2⟩:=wM hg.1 h.2.1;obtain⟨k3,k4⟩:=wM hg.2 h.2.2;refine⟨by simp only[zB,iC,iI,k1,k3],λk hk=>?_⟩;simp only[iC,gV]at hk;exact hk.elim (k2 k) (k4 k)
theorem QZ{X:cx}{v:TV}{d:DV}(hg:UO X v=true)(h:RT ι S v d):zB d=(iC v).map (lQ ι)/\∀k∈iC v,∃k',ι k=some k':=by
 cases v<;>first|(cases hg;done)|exact F7 hg h|skip
 cases d<;>simp only[RT]at h;exact⟨rfl,by simp[iC]⟩;cases d<;>simp only[RT]at h;exact⟨rfl,by simp[iC]⟩;cases d<;>simp only[RT]at h;exact⟨by simp[zB,iC,lQ,h.1],by simp[iC,h.1]⟩
theorem Q1{X:cx}{v:TV}{d:DV}(hg:FX X v=true)(h:RT ι S v d):zB d=(iC v).map (lQ ι)/\∀k∈iC v,∃k',ι k=some k':=by
 cases v<;>first|(cases hg;done)|exact F7 hg h|skip
 all_goals cases d<;>simp only[RT]at h
 all_goals first
  |exact⟨rfl,by simp[iC]⟩
  |exact⟨by simp[zB,iC,lQ,h.1],by simp[iC,h.1]⟩
theorem Ac{G:TV->Bool}(hG:∀v d,G v=true->RT ι S v d->zB d=(iC v).map (lQ ι)/\∀k∈iC v,∃k',ι k=some k'):∀{l:cn}{m:cj},l.all G=true->cz ι S l m->m.flatMap zB=(l.flatMap iC).map (lQ ι)/\∀k∈l.flatMap iC,∃k',ι k=some k'
 |[],m,_,h=>by rw[aN h];exact⟨rfl,ab⟩
 |a::l,m,hp,h=>by obtain⟨d,m',rfl,h1,h2⟩:=ax h;simp only[cA,aC]at hp;obtain⟨k1,k2⟩:=hG _ _ hp.1 h1;obtain⟨k3,k4⟩:=Ac hG hp.2 h2;refine⟨by rw[de,de,iI,k1,k3],λk hk=>?_⟩;rw[de,gV]at hk;exact hk.elim (k2 k) (k4 k)
theorem Q0(hR:bL ι te tS env S){X:cx}{k:Nat}(hg:sL tS X k=true):Hx S (lQ ι k)=(FN tS k).map (lQ ι)/\∀j∈FN tS k,∃k',ι j=some k':=by
 unfold sL at hg;split at hg;rename_i l hl;obtain⟨k',ds,h1,h2,h3⟩:=hR.cells k l hl;have e:lQ ι k=k':=by simp[lQ,h1]
 have:=Ac (G:=UO X) (λv d=>QZ) hg h3;simp only[Hx,FN,e,h2,hl];exact this;cases hg
theorem DR(hR:bL ι te tS env S){X Z:cx}(hX:∀k∈X,sL tS Z k=true)(hd:∀k∈X,∃k',ι k=some k'):qB S (X.map (lQ ι))=(vJ tS X).map (lQ ι)/\∀k∈vJ tS X,∃k',ι k=some k':=by
 have key:∀{Y:cx},(∀k∈Y,sL tS Z k=true)->(Y.map (lQ ι)).flatMap (Hx S)=(Y.flatMap (FN tS)).map (lQ ι)/\∀k∈Y.flatMap (FN tS),∃k',ι k=some k':=by
  intro Y;induction Y with
  |nil=>intro _;exact⟨rfl,ab⟩
  |cons a Y ih=>intro h;obtain⟨k1,k2⟩:=Q0 hR (h a (gG ..));obtain⟨k3,k4⟩:=ih λk hk=>h k (mH _ hk);refine⟨by rw[bg,de,de,iI,k1,k3],λk hk=>?_⟩;rw[de,gV]at hk;exact hk.elim (k2 k) (k4 k)
 obtain⟨k1,k2⟩:=key hX;have QH:∀k,(∃k',ι k=some k')->(X.map (lQ ι)).contains (lQ ι k)=X.contains k:=λk ⟨k',hk⟩=>by
  rw[Bool.eq_iff_iff,List.contains_iff_mem,List.contains_iff_mem,eO];refine⟨λ⟨j,h1,h2⟩=>?_,λh=>⟨k,h,rfl⟩⟩;obtain⟨j',hj⟩:=hd j h1;have e:j'=k':=by simpa [lQ,hj,hk]using h2
  obtain rfl:=hR.inj j k k' (e▸hj) hk;exact h1
 have hf:∀{Y:cx},(∀k∈Y,∃k',ι k=some k')->(Y.map (lQ ι)).filter (λi=>!(X.map (lQ ι)).contains i)=(Y.filter λi=>!X.contains i).map (lQ ι):=by
  intro Y;induction Y with
  |nil=>intro _;rfl
  |cons a Y ih=>intro h;rw[bg,List.filter_cons,List.filter_cons,QH a (h a (gG ..)),ih λk hk=>h k (mH _ hk)];split<;>rfl
 refine⟨by unfold qB vJ;rw[k1,hf k2,iI],λk hk=>?_⟩;unfold vJ at hk;rw[gV,List.mem_filter]at hk;exact hk.elim (hd k) λh=>k2 k h.1
theorem Rr(hR:bL ι te tS env S){A:cn}{m:cj}(hA:A.all (FX (fH tS A))=true)(hg:(fH tS A).all (sL tS (fH tS A))=true)(hv:cz ι S A m):iU S m=(fH tS A).map (lQ ι)/\∀k∈fH tS A,∃k',ι k=some k':=by have h3:∀k∈fH tS A,sL tS (fH tS A) k=true:=aR.1 hg;have h2:∀k∈vJ tS (vJ tS (A.flatMap iC)),sL tS (fH tS A) k=true:=λk hk=>h3 k (pY _ hk);have h1:∀k∈vJ tS (A.flatMap iC),sL tS (fH tS A) k=true:=λk hk=>h2 k (pY _ hk);have h0:∀k∈A.flatMap iC,sL tS (fH tS A) k=true:=λk hk=>h1 k (pY _ hk);obtain⟨e0,d0⟩:=Ac (G:=FX (fH tS A)) (λv d=>Q1) hA hv;obtain⟨e1,d1⟩:=DR hR h0 d0;obtain⟨e2,d2⟩:=DR hR h1 d1;obtain⟨e3,d3⟩:=DR hR h2 d2;refine⟨?_,d3⟩;unfold iU fH;rw[e0,e1,e2,e3]
section
variable {ρ:Nat->Option Nat} (hρ:∀k j,ρ k=some j->ι' j=ι k)
include hρ
theorem Gf{v v':TV}{d:DV}(h:Tt ρ v=some v')(hv:RT ι S v d):RT ι' S' v' d.aL:=by unfold Tt at h;split at h;simp only[af]at h;obtain⟨j,h1,rfl⟩:=h;cases d<;>simp only[RT,DV.aL]at hv⊢;exact⟨(hρ _ _ h1).trans hv.1,hv.2⟩;split at h;rename_i hp;cases h;exact(um hp hv).2;cases h
theorem wS:∀{l l':cn}{m:cj},zx ρ l=some l'->cz ι S l m->cz ι' S' l' (m.map DV.aL)
 |[],l',m,h,hv=>by cases h;rw[aN hv];exact bH
 |v::l,l',m,h,hv=>by obtain⟨d,m',rfl,h1,h2⟩:=ax hv;simp only[zx]at h;split at h;rename_i a b e1 e2;cases h;exact aO (Gf hρ e1 h1) (wS e2 h2);cases h
theorem Gg{g:FuncId}{a b x y:cn}{d:DV}(e1:zx ρ a=some x)(e2:zx ρ b=some y)(hv:RT ι S (.fn g a b) d):RT ι' S' (.fn g x y) (cS d)/\iT d=cS d:=by cases d<;>simp only[RT]at hv;exact⟨by simp only[cS,RT];exact⟨hv.1,wS hρ e1 hv.2.1,wS hρ e2 hv.2.2⟩,rfl⟩
theorem Rg{v v':TV}{d:DV}(h:Og ρ v=some v')(hv:RT ι S v d):RT ι' S' v' (cS d):=by
 unfold Og at h;split at h;split at h;rename_i x y e1 e2;cases h;exact(Gg hρ e1 e2 hv).1;cases h;cases h;cases d<;>simp only[RT,cS,DV.aL]at hv⊢;obtain⟨rfl,-,-⟩:=hv;exact⟨trivial,trivial⟩;rename_i hno _;have:cS d=d.aL:=by
  cases d<;>first|rfl|skip
  cases v<;>simp only[RT]at hv;simp[Tt,jZ]at h
  grind
 rw[this];exact Gf hρ h hv
theorem Eu:∀{l l':cn}{m:cj},CW ρ l=some l'->cz ι S l m->cz ι' S' l' (m.map cS)
 |[],l',m,h,hv=>by cases h;rw[aN hv];exact bH
 |v::l,l',m,h,hv=>by obtain⟨d,m',rfl,h1,h2⟩:=ax hv;simp only[CW]at h;split at h;rename_i a b e1 e2;cases h;exact aO (Rg hρ e1 h1) (Eu e2 h2);cases h
theorem Et{l l':cn}{m:cj}(h:BT ρ l=some l')(hv:cz ι S l m):cz ι' S' l' (m.map cS):=Eu hρ (HL h) hv
theorem Gi{t:cy}{v v':TV}{d:DV}(h:rnA ρ t v=some v')(hv:RT ι S v d):RT ι' S' v' (iT d):=by
 unfold rnA at h;split at h;simp only[af]at h;obtain⟨j,h1,rfl⟩:=h;cases d<;>simp only[RT,iT,DV.strip,DV.cT]at hv⊢;exact⟨(hρ _ _ h1).trans hv.1,hv.2⟩;unfold Og at h;simp only at h;split at h;rename_i x y e1 e2;cases h;obtain⟨k1,k2⟩:=Gg (S':=S') hρ e1 e2 hv;rw[k2];exact k1
 cases h;rename_i aiI Ub;split at h;rename_i hp;cases h;have:iT d=d.strip:=by
  cases d<;>first|rfl|skip
  cases v<;>simp only[RT]at hv;cases hp;cases hp
 rw[this];exact(jf hp hv).2.2;cases h
theorem wT:∀{ts:List cy}{l l':cn}{m:cj},s7 ρ ts l=some l'->cz ι S l m->cz ι' S' l' (m.map iT)
 |_,[],l',m,h,hv=>by simp only[s7]at h;cases h;rw[aN hv];exact bH
 |[],v::l,l',m,h,hv=>by obtain⟨d,m',rfl,h1,h2⟩:=ax hv;simp only[s7]at h;split at h;rename_i a b e1 e2;cases h;exact aO (Gi hρ e1 h1) (wT e2 h2);cases h
 |t::ts,v::l,l',m,h,hv=>by obtain⟨d,m',rfl,h1,h2⟩:=ax hv;simp only[s7]at h;split at h;rename_i a b e1 e2;cases h;exact aO (Gi hρ e1 h1) (wT e2 h2);cases h
end
section
variable {ρ:Nat->Option Nat} {R:cx} (hρ:∀k j,ρ k=some j->∃k',ι k=some k'/\k'∈R)
include hρ
theorem Vk{v v':TV}{d:DV}(h:Tt ρ v=some v')(hv:RT ι S v d):Yq R d.aL=true:=by
 unfold Tt at h;split at h;simp only[af]at h;obtain⟨j,h1,rfl⟩:=h;cases d<;>simp only[RT]at hv;obtain⟨k',h2,h3⟩:=hρ _ _ h1;rw[hv.1]at h2;cases h2;simpa [Yq,DV.aL]using h3;split at h;rename_i hp;have:=(um (ι':=ι) (S':=S) hp hv).1;generalize d.aL=c at this;cases c<;>first|exact this|cases this
 cases h
theorem It:∀{l l':cn}{m:cj},zx ρ l=some l'->cz ι S l m->(m.map DV.aL).all (Yq R)=true
 |[],l',m,h,hv=>by rw[aN hv];rfl
 |v::l,l',m,h,hv=>by
  obtain⟨d,m',rfl,h1,h2⟩:=ax hv;simp only[zx]at h;split at h;rename_i a b e1 e2;rw[bg,cA,Vk hρ e1 h1,It e2 h2];rfl
  cases h
theorem Vl{g:FuncId}{a b x y:cn}{d:DV}(e1:zx ρ a=some x)(e2:zx ρ b=some y)(hv:RT ι S (.fn g a b) d):L8 R (cS d)=true/\okA R (iT d)=true:=by cases d<;>simp only[RT]at hv;have h1:=It hρ e1 hv.2.1;have h2:=It hρ e2 hv.2.2;exact⟨by simp only[L8,cS,h1,h2];rfl,by simp only[okA,iT,h1,h2];rfl⟩
theorem adG{v v':TV}{d:DV}(h:Og ρ v=some v')(hv:RT ι S v d):L8 R (cS d)=true:=by
 unfold Og at h;split at h;split at h;rename_i x y e1 e2;exact(Vl hρ e1 e2 hv).1;cases h;cases d<;>simp only[RT]at hv;rfl;rename_i hno Ub;have:=Vk hρ h hv;cases v<;>first|exact(hno _ _ _ rfl).elim|exact(Ub rfl).elim|(simp[Tt,jZ]at h;done)|skip
 all_goals cases d<;>simp only[RT]at hv
 all_goals exact this
theorem Pw:∀{l l':cn}{m:cj},CW ρ l=some l'->cz ι S l m->(m.map cS).all (L8 R)=true
 |[],l',m,h,hv=>by rw[aN hv];rfl
 |v::l,l',m,h,hv=>by
  obtain⟨d,m',rfl,h1,h2⟩:=ax hv;simp only[CW]at h;split at h;rename_i a b e1 e2;rw[bg,cA,adG hρ e1 h1,Pw e2 h2];rfl
  cases h
theorem Pv{l l':cn}{m:cj}(h:BT ρ l=some l')(hv:cz ι S l m):(m.map cS).all (L8 R)=true:=Pw hρ (HL h) hv
theorem Vm{t:cy}{v v':TV}{d:DV}(h:rnA ρ t v=some v')(hv:RT ι S v d):okA R (iT d)=true:=by
 unfold rnA at h;split at h;simp only[af]at h;obtain⟨j,h1,rfl⟩:=h;cases d<;>simp only[RT]at hv;obtain⟨k',h2,h3⟩:=hρ _ _ h1;rw[hv.1]at h2;cases h2;simpa [okA,iT,DV.strip,DV.cT]using h3;unfold Og at h;simp only at h;split at h;rename_i x y e1 e2;exact(Vl hρ e1 e2 hv).2;cases h;split at h
 .rename_i hp;have:=(jf (t:=none) (ι':=ι) (S':=S) hp hv).1;cases v<;>first|(cases hp;done)|skip
  all_goals cases d<;>simp only[RT]at hv
  all_goals exact this
 cases h
theorem Iu:∀{ts:List cy}{l l':cn}{m:cj},s7 ρ ts l=some l'->cz ι S l m->(m.map iT).all (okA R)=true
 |_,[],l',m,h,hv=>by rw[aN hv];rfl
 |[],v::l,l',m,h,hv=>by
  obtain⟨d,m',rfl,h1,h2⟩:=ax hv;simp only[s7]at h;split at h;rename_i a b e1 e2;rw[bg,cA,Vm hρ e1 h1,Iu e2 h2];rfl
  cases h
 |t::ts,v::l,l',m,h,hv=>by
  obtain⟨d,m',rfl,h1,h2⟩:=ax hv;simp only[s7]at h;split at h;rename_i a b e1 e2;rw[bg,cA,Vm hρ e1 h1,Iu e2 h2];rfl
  cases h
end
theorem x8{S:aj}{R:cx}{k:Nat}{l:cj}(hk:k∈R)(h:S[k]? =some (.cells l)):(sJ S R)[k]? =some (.cells (l.map cS)):=by simp only[sJ,oc,h,az,UB,if_pos (show R.contains k=true by simpa using hk)]
theorem iy{S S1:aj}{R:cx}{k:Nat}(hk:k∉R):(kF S S1 R)[k]? =S[k]? :=by simp only[kF,oc,if_neg (show¬R.contains k=true by simpa using hk)];exact Option.map_id'
theorem AL{S S1:aj}{R:cx}{k:Nat}{l l':cj}(hk:k∈R)(h:S[k]? =some (.cells l))(h1:S1[k]? =some (.cells l')):(kF S S1 R)[k]? =some (.cells (l'.map cS)):=by simp only[kF,oc,h,az,if_pos (show R.contains k=true by simpa using hk),UX,h1]
def CA:cn->Bool
 |.ptr _ _::r=>r.any isRef
 |.unk::_=>false
 |_=>true
theorem RS{A:cn}{m:cj}{g:FuncId}(h:CA A=true)(hv:cz ι S A m):oG call g m S=none:=by
 cases A with
 |nil=>rw[aN hv];rfl
 |cons v l=>
  obtain⟨d,m',rfl,h1,h2⟩:=ax hv;unfold oG;split
  .rename_i i off rest e;cases e;split
   .rw[if_neg];intro hc;simp only[aC]at hc;have hr:l.any isRef=true:=by cases v<;>first|(cases h;done)|exact h|(simp only[RT]at h1)
    have:=mb hr h2;rw[this]at hc;cases hc.1
   rfl
  rfl
theorem LR{f:Operand}{args:Array Operand}{argTypes:Array TypeId}{g:FuncId}{fs cs xs targs:cn}{tP:List cn}{Q:TV->List cn->Prop}(hop:o.op=.call {callee:=.value f,args,argTypes})(hh:ty.h o≠1)(hf:fe te f=some (.fn g fs cs))(ha:kP te args.toList=some xs)
  (CN:nodupB L=true) (hL:∀k,k∈fH tS (fs++xs++cs)↔k∈L) (hne:L≠[]) (hA:(fs++xs++cs).all (FX (fH tS (fs++xs++cs)))=true) (hg:(fH tS (fs++xs++cs)).all (sL tS (fH tS (fs++xs++cs)))=true) (hno:CA (fs++xs++cs)=true)
  (hn:s7 (loc L) (fJ tt fs argTypes) (fs++xs++cs)=some targs) (hr:(fs++xs++cs).any isRef=true) (hb:Jq (loc L) tS L=some tP) (hs:FZ call g targs tP Q) (hq:∀v t,Q v t->∃tB,Hs L t=some tB):
  Does P ty aD call yf B o nT te tS true λv bO bI ft=>∃G5 tB,Q v G5/\Hs L G5=some tB/\bO=te/\bI=xE L tB tS/\ft=⟨some L,true⟩:=by
 intro ι w env S aB hR hB hw hT QG hS;obtain⟨wm,iq,FC,k1,k2,k3⟩:=gY hR.env hf ha;obtain⟨hl,TG⟩:=yG hb;obtain⟨Vt,Y8⟩:=Rr hR hA hg k3;generalize hRR:iU S (wm++FC++iq)=R at Vt;have kR:∀i,i∈R↔∃k,k∈L/\ι k=some i:=λi=>by rw[Vt,eO];refine⟨λ⟨k,h1,h2⟩=>?_,λ⟨k,h1,h2⟩=>⟨k,(hL k).2 h1,by simp[lQ,h2]⟩⟩;obtain⟨k',hk⟩:=Y8 k h1;exact⟨k,(hL k).1 h1,by rw[hk,<-h2];simp[lQ,hk]⟩
 have hρ:∀k j,loc L k=some j->∃k',ι k=some k'/\k'∈R:=λk j h=>by have hk:k∈L:=bV (iH h);obtain⟨k',h1⟩:=Y8 k ((hL k).2 hk);exact⟨k',h1,(kR k').2 ⟨k,hk,h1⟩⟩
 have dw:∀k,k∈L->∃j c c' k0 ds,loc L k=some j/\L[j]? =some k/\tS[k]? =some (.cells c)/\BT (loc L) c=some c'/\tP[j]? =some c'/\ι k=some k0/\S[k0]? =some (.cells ds)/\cz ι S c ds:=λk hk=>by obtain⟨j,hj⟩:=uM hk;obtain⟨c,c',h1,h2,h3⟩:=TG j k (iH hj);obtain⟨k0,ds,h4,h5,h6⟩:=hR.cells k c h1;exact⟨j,c,c',k0,ds,hj,iH hj,h1,h2,h3,h4,h5,h6⟩
 have Zd:∀k k0,k∈L->ι k=some k0->k0∈R:=λk k0 h1 h2=>(kR k0).2 ⟨k,h1,h2⟩;have hc:bL (vw L ι) targs (tP.map .cells) ((wm++FC++iq).map iT) (sJ S R):=by
  refine⟨wT (λk j h=>tW h) hn k3,λj l hj=>?_,λj e s hj=>?_,λj k' hj=>?_,λi j k' hi hj=>?_,λj b hj t _=>?_⟩;simp only[cI,af,TB.cells.injEq]at hj;obtain⟨c',h1,rfl⟩:=hj;have hlt:j<L.length:=hl▸(aI.1 h1).1;have BP:L[j]? =some L[j]:=bn hlt;obtain⟨c,c2,q1,q2,q3⟩:=TG j _ BP;rw[h1]at q3;cases q3;obtain⟨k',ds,m1,m2,m3⟩:=hR.cells _ _ q1;exact⟨k',ds.map cS,by simp[vw,BP,m1],x8 (Zd _ _ (bV BP) m1) m2,Et (λk j h=>tW h) q2 m3⟩;simp at hj;unfold vw at hj;cases BP:L[j]? with
  |none=>rw[BP]at hj;cases hj
  |some k=>grind
  unfold vw at hi hj;cases Te:L[i]? with
  |none=>rw[Te]at hi;cases hi
  |some a=>
   cases BP:L[j]? with
   |none=>rw[BP]at hj;cases hj
   |some b=>rw[Te]at hi;rw[BP]at hj;obtain rfl:=hR.inj a b k' hi hj;exact DO CN Te BP
  simp only[cI,af]at hj;obtain⟨c,-,rfl⟩:=hj;trivial
 obtain⟨d,S1,ι1,v,G5,n1,n2,n3,n4,n5,n6,n7,n8⟩:=hs _ _ _ hc;obtain⟨tB,YI⟩:=hq _ _ n8;obtain⟨b1,b2⟩:=DF YI;have tn:∀j k,L[j]? =some k->ι1 j=ι k:=λj k hj=>by have:=(aI.1 hj).1;rw[n6.base j (by simp;omega)];simp[vw,hj]
 have hρ1:∀j k,(λj=>L[j]?) j=some k->∃k',ι1 j=some k'/\k'∈R:=λj k hj=>by have hk:k∈L:=bV hj;obtain⟨k',h1⟩:=Y8 k ((hL k).2 hk);exact⟨k',by rw[tn j k hj];exact h1,Zd k k' hk h1⟩
 have Vy:∀k,k∈L->∃j c c' k0 ds,loc L k=some j/\tB[j]? =some c/\BT (λj=>L[j]?) c'=some c/\ι k=some k0/\S1[k0]? =some (.cells ds)/\cz ι1 S1 c' ds:=λk hk=>by obtain⟨j,hj⟩:=uM hk;have hjl:j<L.length:=(aI.1 (iH hj)).1;have hjb:tB[j]? =some tB[j]:=bn U;obtain⟨c',h1,h2⟩:=b2 j _ hjb;obtain⟨k',hU,m1,m2,m3⟩:=n5 j c' (by simp[h1]);rw[tn j k (iH hj)]at m1;exact⟨j,_,c',k',hU,hj,hjb,h2,m1,m2,m3⟩
 obtain⟨r1,r2⟩:=BG (ι':=ι) (S':=kF S S1 R) n3 n2;have hm:nA call g (wm++FC++iq) S=some (R,d.strip,S1):=by
  unfold nA;rw[hRR];have e1:R.isEmpty=false:=by
   obtain⟨k,l,rfl⟩:=List.exists_cons_of_ne_nil hne;obtain⟨k',h1⟩:=Y8 k ((hL k).2 (gG ..));have:=Zd k k' (gG ..) h1;cases R with
   |nil=>cases this
   |cons _ _=>rfl
  have e2:=Iu hρ hn k3;have e3:R.all (j6 S R)=true:=aR.2 λi hi=>by obtain⟨k,h1,h2⟩:=(kR i).1 hi;obtain⟨j,c,c',k0,ds,p1,p2,p3,p4,p5,p6,p7,p8⟩:=dw k h1;rw[h2]at p6;cases p6;unfold j6;rw[p7];exact Pv hρ p4 p8
  have e4:R.all (j6 S1 R)=true:=aR.2 λi hi=>by obtain⟨k,h1,h2⟩:=(kR i).1 hi;obtain⟨j,c,c',k0,ds,p1,p2,p3,p4,p5,p6⟩:=Vy k h1;rw[h2]at p4;cases p4;unfold j6;rw[p5];exact Pv (ι:=ι1) hρ1 p3 p6
  rw[e1,e2,e3];simp only[CH,gh,if_true,n1,r1,e4]
 have hlt:∀k∈L,k<tS.length:=λk hk=>by obtain⟨j,c,c',k0,ds,p1,p2,p3,-⟩:=dw k hk;exact(aI.1 p3).1
 have aS:∀k,(xE L tB tS)[k]? =match loc L k with|some j=>(tB[j]?).map TB.cells|none=>tS[k]? :=λk=>DG CN U hlt
 have aht:∀k k0,k∉L->ι k=some k0->k0∉R:=λk k0 hk h0 hi=>by obtain⟨a,h1,h2⟩:=(kR k0).1 hi;exact hk (hR.inj a k k0 h2 h0▸h1)
 have kW:∀k k0,k∉L->ι k=some k0->(kF S S1 R)[k0]? =S[k0]? :=λk k0 hk h0=>iy (aht k k0 hk h0);have K:iQ ι S ι (kF S S1 R) λ_=>False:=λk k0 _ hk=>⟨hk,by by_cases FG:k∈L;obtain⟨j,c,c',k1,ds,p1,p2,p3,p4,p5,p6,p7,p8⟩:=dw k FG;rw[p6]at hk;cases hk;exact uN (by rw[p7];simp) (by rw[p7];simp) (by rw[p7];simp);exact dm (kW k k0 FG hk)⟩;have Yx:=mb hr k3;have ho:=RS (call:=call) (g:=g) hno k3;refine⟨d.strip,kF S S1 R,ι,w,v,te,xE L tB tS,⟨some R,true⟩,⟨some L,true⟩,λhd=>bc,λ_=>?_,⟨λe=>e,λl hl=>?_⟩,λl m hl hm j hj=>?_,?_,r2,hw,λ_ _ _=>rfl,⟨λk0 hl hno=>iy λhi=>?_,λk k0 hk=>.inl ⟨k,hk⟩,λ_ _=>rfl⟩,λk hk=>?_,⟨by simp[kF],λj hj dN=>?_⟩,G5,tB,n8,YI,rfl,rfl,rfl⟩;simp only[aH,hop,k1,k2,if_neg hh,Yx,aJ,if_false,ho,hm];cases hl;refine⟨R,rfl,λi hi=>?_⟩;obtain⟨k,h1,h2⟩:=(kR i).1 hi;exact⟨k,h1,hw _ _ h2⟩
 grind
 refine⟨bh K _ _ hR.env,λk l hk=>?_,λk e s hk t ht=>?_,λk k0 hk=>?_,hR.inj,λk b hk t ht=>?_⟩;rw[aS]at hk;split at hk;rename_i j hj;have hkL:k∈L:=bV (iH hj);obtain⟨j2,c,c',k0,ds,p1,p2,p3,p4,p5,p6⟩:=Vy k hkL;rw[hj]at p1;cases p1;rw[p2]at hk;simp only[az,aF,TB.cells.injEq]at hk;subst hk;obtain⟨-,-,-,k2,ds2,-,-,-,-,-,q6,q7,-⟩:=dw k hkL;rw[p4]at q6;cases q6;refine⟨k0,ds.map cS,p4,AL (Zd k k0 hkL p4) q7 p5,Et (ι:=ι1) (ρ:=λj=>L[j]?) (λa b o7=>(tn a b o7).symm) p3 p6⟩;rename_i hno;obtain⟨k0,Mi,q1,q2,q3⟩:=hR.cells k l hk;exact⟨k0,Mi,q1,by rw[kW k k0 (yN hno) q1];exact q2,bh K _ _ q3⟩;rw[aS]at hk;split at hk;simp at hk;obtain⟨n,q1⟩:=hR.own k e s hk t ht;exact⟨n,(K k t (λe=>e) ht).2.1 _ _ _ q1⟩;rw[aS];split
 grind
 exact hR.qc k k0 hk;rw[aS]at hk;split at hk;simp only[af]at hk;obtain⟨c,-,rfl⟩:=hk;trivial;rename_i hno;rw[kW k t (yN hno) ht];exact hR.mp k b hk t ht
 grind
 rw[aS];split;rename_i j hj;have hjl:j<tB.length:=by grind
 exact⟨some tB[j],by simp[hjl,kX]⟩;exact hB k hk;rw[iy]
 grind
 grind
end Go.Tv
namespace Go.Tv
open Go Go.Di Go.Proofs
variable {P:Program} {ty:fo} {tt:TypeId->cy} {ι ι' w:kB} {S S':aj} {te:cn} {env:cj} {tS:cp} {aD:bR} {call:aY} {yf:di} {o:Oper} {aB nT:Nat} {B L:cx}
def ahb(n:Nat):TV->Option TV
 |.sl t l _=>some (.sl t l .no)
 |v=>Og (λk=>if k<n then some k else none) v
def abo(n:Nat):cn->Option cn
 |[]=>some []
 |v::l=>match qn v with
  |true=>if jZ v&&l.all jZ then some (v::l)else none
  |false=>match ahb n v,abo n l with
   |some a,some b=>some (a::b)
   |_,_=>none
def UC(n:Nat)(tS:cp):cx->Option (List cn)
 |[]=>some []
 |k::l=>match tS[k]? with
  |some (.cells c)=>match abo n c,UC n tS l with
   |some a,some b=>some (a::b)
   |_,_=>none
  |_=>none
def ai1(ty:fo)(rs:List ResultVar)(kQ:List cy)(n:Nat)(Q:TV->List cn->Prop)(e:DX)(te:cn)(tS:cp):Prop:=
 (match e with|.exit _=>False|_=>True)/\∃vs G5,wB ty te tS rs=some vs/\vs.all dY=true/\Bf (jV (bK kQ vs))=true/\UC n tS (List.range n)=some G5/\Q (jV (bK kQ vs)) G5
def dedup:cx->cx
 |[]=>[]
 |a::l=>if(dedup l).contains a then dedup l else a::dedup l
theorem vn:∀{l:cx}{k:Nat},k∈dedup l↔k∈l
 |[],_=>Iff.rfl
 |a::l,k=>by unfold dedup;split;rename_i h;rw[vn,aX];have ha:a∈l:=vn.1 (by simpa using h);exact⟨.inr,λh=>h.elim (λe=>e▸ha) id⟩;rw[aX,aX,vn]
theorem ur:∀{l:cx},nodupB (dedup l)=true
 |[]=>rfl
 |a::l=>by unfold dedup;split;exact ur;rename_i h;simp only[nodupB,ur,rL,nY];simpa using h
def Vo(tt:TypeId->cy)(md:Nat)(tS:cp)(A:cn)(ts:List cy)(X L:cx):Option (cn×List cn):=
 if A.any isRef&&!L.isEmpty&&(md==0||(A.all (FX X)&&X.all (sL tS X)&&CA A))then
  match s7 (loc L) ts A,Jq (loc L) tS L with
  |some targs,some tP=>some (targs,tP)
  |_,_=>none
 else none
def MP(tt:TypeId->cy)(md:Nat)(te:cn)(tS:cp)(o:Oper):Option (FuncId×cx×cn×List cn):=
 match o.op with
 |.call {callee:=.value f,args,argTypes}=>match fe te f,kP te args.toList with
  |some (.fn g fs cs),some xs=>match Vo tt md tS (fs++xs++cs) (fJ tt fs argTypes) (fH tS (fs++xs++cs)) (dedup (fH tS (fs++xs++cs)))with
   |some (targs,tP)=>some (g,dedup (fH tS (fs++xs++cs)),targs,tP)
   |none=>none
  |_,_=>none
 |_=>none
theorem Sf{md:Nat}{g:FuncId}{targs:cn}{tP:List cn}(h:MP tt md te tS o=some (g,L,targs,tP)):
  ∃f args argTypes fs cs xs,o.op=.call {callee:=.value f,args,argTypes}/\fe te f=some (.fn g fs cs)/\kP te args.toList=some xs/\nodupB L=true/\(∀k,k∈fH tS (fs++xs++cs)↔k∈L)/\L≠[]/\s7 (loc L) (fJ tt fs argTypes) (fs++xs++cs)=some targs/\(fs++xs++cs).any isRef=true/\Jq (loc L) tS L=some tP/\
   (md≠0->(fs++xs++cs).all (FX (fH tS (fs++xs++cs)))=true/\(fH tS (fs++xs++cs)).all (sL tS (fH tS (fs++xs++cs)))=true/\CA (fs++xs++cs)=true):=by
 unfold MP at h;split at h;rename_i f args argTypes hop;split at h;rename_i g' fs cs xs h1 h2;split at h;rename_i aif G5 h3;cases h;unfold Vo at h3;split at h3;rename_i hc;simp only[aC,jw,dL,nY]at hc;obtain⟨⟨c1,c2⟩,c3⟩:=hc;split at h3;rename_i a b e1 e2;cases h3;refine⟨f,args,argTypes,fs,cs,xs,hop,h1,h2,ur,λk=>vn.symm,λe=>(by rw[e]at c2;cases c2),e1,c1,e2,λhm=>?_⟩;obtain⟨⟨c4,c5⟩,c6⟩:=c3.resolve_left hm;exact⟨c4,c5,c6⟩;cases h3;cases h3;cases h;cases h;cases h
end Go.Tv
namespace Go.Tv
open Go Go.Di Go.Proofs
def js(tS:cp)(k:Nat):Bool:=
 match tS[k]? with
 |some (.cells _)=>true
 |_=>false
mutual
def dR(tS:cp):TV->TV
 |.sl t l (.o5 _)=>.sl t l .no
 |.sl t l (.BM _)=>.sl t l .no
 |.ptr id off=>match js tS id with
  |true=>.ptr id off
  |false=>.unk
 |.mp id=>.unk
 |.so _ _=>.unk
 |.sp _ _ _ _=>.unk
 |.nj _ _ _=>.unk
 |.agg l=>.agg (fG tS l)
 |.tup l=>.tup (fG tS l)
 |.fn f a b=>.fn f (fG tS a) (fG tS b)
 |v=>v
def fG(tS:cp):cn->cn
 |[]=>[]
 |a::l=>dR tS a::fG tS l
end
def cZ:Nat->cp->cx
 |_,[]=>[]
 |i,.cells _::l=>i::cZ (i+1) l
 |i,.loop::l=>i::cZ (i+1) l
 |i,_::l=>cZ (i+1) l
variable {P:Program} {ty:fo} {tt:TypeId->cy} {ι ι' w:kB} {S S':aj} {te:cn} {env:cj} {tS:cp} {aD:bR} {call:aY} {yf:di} {o:Oper} {aB nT:Nat} {B:cx}
theorem ug{k:Nat}:∀{tS:cp}{i:Nat},k∈cZ i tS↔i<=k/\∃c,tS[k-i]? =some (kX c)
 |[],i=>by simp[cZ]
 |b::l,i=>by
  have ih:=ug (k:=k) (tS:=l) (i:=i+1);have hs:∀(c:Option cn),i+1<=k->((b::l)[k-i]? =some (kX c)↔l[k-(i+1)]? =some (kX c)):=λc h=>by rw[show k-i=(k-(i+1))+1 by omega,List.getElem?_cons_succ]
  have yes:∀c0,b=kX c0->((k=i\/k∈cZ (i+1) l)↔i<=k/\∃c,(b::l)[k-i]? =some (kX c)):=λc0 hb=>by
   rw[ih];constructor
   grind
   grind
  have no:(∀c,b≠kX c)->(k∈cZ (i+1) l↔i<=k/\∃c,(b::l)[k-i]? =some (kX c)):=λhb=>by
   rw[ih];constructor
   grind
   grind
  cases b with
  |cells c0=>simp only[cZ,aX];exact yes (some c0) rfl
  |loop=>simp only[cZ,aX];exact yes none rfl
  |none=>simp only[cZ];exact no λc e=>by cases c<;>cases e
  |map kt0 c0=>simp only[cZ];exact no λc e=>by cases c<;>cases e
  |rows t0 e0 c0 z0=>simp only[cZ];exact no λc e=>by cases c<;>cases e
  |own e0 s0=>simp only[cZ];exact no λc e=>by cases c<;>cases e
theorem qK{k:Nat}{c:Option cn}(h:tS[k]? =some (kX c)):k∈cZ 0 tS:=ug.2 ⟨gU _,c,h⟩
theorem KY{k:Nat}{c:cn}(h:tS[k]? =some (.cells c)):k∈cZ 0 tS:=qK (c:=some c) h
theorem Vs:nM (cZ 0 tS) tS:=λ_ hk=>(ug.1 hk).2
mutual
theorem O6(hi:∀k,js tS k=true->ι' k=ι k):∀(v:TV)(d:DV),RT ι S v d->RT ι' S' (dR tS v) d
 |.unk,_,_=>by simp only[dR,RT]
 |.val _,d,k=>by cases d<;>simp only[RT,dR]at k⊢;exact k
 |.jo,d,k=>by cases d<;>simp only[RT,dR]at k⊢;exact k
 |.agg l,d,k=>by cases d<;>simp only[RT,dR]at k⊢;exact jA hi l _ k
 |.tup l,d,k=>by cases d<;>simp only[RT,dR]at k⊢;exact jA hi l _ k
 |.sl t l .no,d,k=>by cases d<;>simp only[RT,dR]at k⊢;exact k
 |.sl t l .full,d,k=>by cases d<;>simp only[RT,dR]at k⊢;exact k
 |.sl t l (.stop _),d,k=>by cases d<;>simp only[RT,dR]at k⊢;exact⟨k.1,trivial⟩
 |.sl t l (.BM g),d,k=>by cases d<;>simp only[RT,dR]at k⊢;exact⟨k.1,trivial⟩
 |.sl t l (.o5 g),d,k=>by cases d<;>simp only[RT,dR]at k⊢;exact⟨k.1,trivial⟩
 |.ptr id off,d,k=>by cases d<;>simp only[RT]at k;simp only[dR];split;rename_i hc;simp only[RT];exact⟨(hi _ hc).trans k.1,k.2⟩;simp only[RT]
 |.eU t l i off,d,k=>by cases d<;>simp only[RT,dR]at k⊢;exact k
 |.mp id,d,_=>by simp only[RT,dR]
 |.so g t,d,_=>by simp only[RT,dR]
 |.sp g t i off,d,_=>by simp only[RT,dR]
 |.nj _ _ _,d,_=>by simp only[RT,dR]
 |.fn f a b,d,k=>by cases d<;>simp only[RT,dR]at k⊢;exact⟨k.1,jA hi a _ k.2.1,jA hi b _ k.2.2⟩
theorem jA(hi:∀k,js tS k=true->ι' k=ι k):∀(l:cn)(m:cj),cz ι S l m->cz ι' S' (fG tS l) m
 |[],m,k=>by rw[aN k];simp only[fG];exact bH
 |a::l,m,k=>by obtain⟨d,m',rfl,h1,h2⟩:=ax k;simp only[fG];exact aO (O6 hi a d h1) (jA hi l m' h2)
end
end Go.Tv
namespace Go.Tv
open Go Go.Di Go.Proofs
variable {P:Program} {ty:fo} {ι ι' w:kB} {S S':aj} {te:cn} {env:cj} {tS:cp} {aD:bR} {call:aY} {yf:di} {B:cx}
def nD:cn->List (Tmp×TV)->cn
 |te,[]=>te
 |te,(t,v)::l=>nD (te.set t v) l
theorem O0:∀{ps:List Tmp}{te:cn}{env:cj}{xs:cn}{ds:cj},cz ι S te env->cz ι S xs ds->cz ι S (nD te (ps.zip xs)) (sF env (ps.zip ds))
 |[],te,env,xs,ds,h,k=>by simpa [nD,sF]using h
 |p::ps,te,env,[],ds,h,k=>by rw[aN k];simpa [nD,sF]using h
 |p::ps,te,env,x::xs,ds,h,k=>by obtain⟨d,m,rfl,k1,k2⟩:=ax k;simp only[List.zip_cons_cons,nD,sF];exact O0 (Ij p h k1) k2
def C4(ι:kB)(k:Nat):kB:=λj=>if j=k then none else ι j
theorem yg{k j:Nat}(h:j≠k):C4 ι k j=ι j:=if_neg h
theorem ga{k j id:Nat}(h:C4 ι k j=some id):j≠k/\ι j=some id:=by
 unfold C4 at h;split at h;cases h
 grind
theorem Ko(h:bL ι te tS env S){k:Nat}(hr:(eL te++nE tS).contains k=false):bL (C4 ι k) te (tS.set k .none) env S:=by
 have hk:∀j,j∈eL te++nE tS->j≠k:=λj hj e=>by
  subst e;have:(eL te++nE tS).contains j=true:=by simpa using hj
  rw[this]at hr;cases hr
 have aS:∀j b,(tS.set k .none)[j]? =some b->b≠.none->j≠k/\tS[j]? =some b:=λj b hj hb=>by
  rw[aM]at hj;split at hj
  grind
  grind
 refine⟨j3 _ _ (λj hj=>yg (hk j (pY _ hj))) h.env,λj l hj=>?_,λj e s hj t ht=>?_,λj k' hj=>?_,λi j k' hi hj=>h.inj i j k' (ga hi).2 (ga hj).2,λj b hj t ht=>?_⟩;obtain⟨h1,h2⟩:=aS j _ hj ab;obtain⟨k',ds,n1,n2,n3⟩:=h.cells j l h2;exact⟨k',ds,(yg h1).trans n1,n2,j3 _ _ (λi hi=>yg (hk i (List.mem_append_right _ (Au h2 hi)))) n3⟩;obtain⟨h1,h2⟩:=aS j _ hj ab;exact h.own j e s h2 t (ga ht).2;obtain⟨h1,h2⟩:=ga hj;obtain⟨b,h3,h4⟩:=h.qc j k' h2;exact⟨b,by rw[aM,if_neg λe=>h1 e.symm];exact h3,h4⟩;by_cases hb:b=.none;subst hb;trivial
 exact h.mp j b (aS j b hj hb).2 t (ga ht).2
theorem Am(h:bL ι te tS env S){id:Nat}{b:DB}(hn:∀k,ι k≠some id):bL ι te tS env (S.set id b):=by
 have hg:∀{k k'},ι k=some k'->(S.set id b)[k']? =S[k']? :=λ{k k'} hk=>by rw[aM,if_neg (λ(e:id=k')=>hn k (by rw[e];exact hk))]
 have K:iQ ι S ι (S.set id b) λ_=>False:=λk k' _ hk=>⟨hk,dm (hg hk)⟩;refine⟨bh K _ _ h.env,λk l hk=>?_,λk e s hk t ht=>?_,h.qc,h.inj,λk c hk t ht=>by rw[hg ht];exact h.mp k c hk t ht⟩;obtain⟨k',ds,n1,n2,n3⟩:=h.cells k l hk;exact⟨k',ds,n1,(hg n1).trans n2,bh K _ _ n3⟩;obtain⟨n,h1⟩:=h.own k e s hk t ht;exact⟨n,(hg ht).trans h1⟩
theorem Kn{k id:Nat}{r:F2}(h:bL ι te tS env S)(hk:tS[k]? =some .none)(hn:∀k,ι k≠some id)(hid:S[id]? =some (.loop r))(hrr:r.st=.ready/\r.jO=none):bL (upd ι k id) te (tS.set k .loop) env S:=by
 have hno:ι k=none:=by
  cases e:ι k with
  |none=>rfl
  |some k'=>obtain⟨b,h1,h2⟩:=h.qc k k' e;rw[hk]at h1;cases h1;exact absurd rfl h2
 have hlt:=(aI.1 hk).1;have hu:∀{j k'},ι j=some k'->upd ι k id j=some k':=λ{j k'} hj=>by
  unfold upd;rw[if_neg];exact hj
  grind
 have K:iQ ι S (upd ι k id) S λ_=>False:=λj k' _ hj=>⟨hu hj,dm rfl⟩;have cB:∀{j k'},upd ι k id j=some k'->(j=k/\k'=id)\/(j≠k/\ι j=some k'):=λ{j k'} hj=>by
  unfold upd at hj;split at hj
  grind
  grind
 have aS:∀{j b},(tS.set k .loop)[j]? =some b->(j=k/\b=.loop)\/(j≠k/\tS[j]? =some b):=λ{j b} hj=>by
  rw[aM]at hj;split at hj
  grind
  grind
 refine⟨bh K _ _ h.env,λj l hj=>?_,λj e s hj t ht=>?_,λj k' hj=>?_,λi j k' hi hj=>?_,λj b hj t ht=>?_⟩;rcases aS hj with ⟨-,e⟩|⟨h1,h2⟩;cases e;obtain⟨k',ds,n1,n2,n3⟩:=h.cells j l h2;exact⟨k',ds,hu n1,n2,bh K _ _ n3⟩;rcases aS hj with ⟨-,e⟩|⟨h1,h2⟩;cases e;rcases cB ht with ⟨e,-⟩|⟨-,h3⟩
 grind
 exact h.own j _ _ h2 t h3;rcases cB hj with ⟨rfl,rfl⟩|⟨h1,h2⟩
 grind
 obtain⟨b,h3,h4⟩:=h.qc j k' h2;exact⟨b,by rw[aM,if_neg λe=>h1 e.symm];exact h3,h4⟩;rcases cB hi with ⟨rfl,rfl⟩|⟨h1,h2⟩<;>rcases cB hj with ⟨rfl,h3⟩|⟨h4,h5⟩;rfl
 grind
 grind
 exact h.inj i j k' h2 h5;rcases aS hj with ⟨rfl,rfl⟩|⟨h1,h2⟩;rcases cB ht with ⟨-,rfl⟩|⟨h3,-⟩;exact⟨r,hid,hrr⟩
 grind
 rcases cB ht with ⟨e,-⟩|⟨-,h3⟩
 grind
 exact h.mp j b h2 t h3
theorem Ww{k id AW:Nat}{rm:FuncId}{zk xs:cn}{ps:List Tmp}{nL body:Code}{zD bT:cj}{K:cp->Prop}(hR:bL ι xs tS bT S)(hB:nM B tS)(hkB:k∉B)(hk:ι k=some id)(htk:tS[k]? =some .loop)(hS:S[id]? =some (.loop ⟨.ready,none,rm,zD,ps,nL,body,AW⟩))(hE:cz ι S zk zD)
  (hlen:xs.length=ps.length) (hr:(eL (nD zk (ps.zip xs))++nE tS).contains k=false)
  (h:WT P ty aD call yf B LL rm true nL (nD zk (ps.zip xs)) (tS.set k .none) λe lG gZ=>e=.normal/\WT P ty aD call yf B LL rm true body lG gZ λe _ jk=>e=.normal/\jk[k]? =some .none/\K jk):
  ∃S' ι' jk,tJ P ty aD call yf LL id bT S=some (.val (.bool true),S')/\bL ι' [] (jk.set k .loop) [] S'/\nM B (jk.set k .loop)/\Fr B ι S ι' S'/\Nn S.length S S'/\S'[id]? =S[id]? /\ι' k=some id/\K jk:=by
 have hRe:bL ι (nD zk (ps.zip xs)) tS (sF zD (ps.zip bT)) S:=⟨O0 hE hR.env,hR.cells,hR.own,hR.qc,hR.inj,hR.mp⟩;have Qt:∀j∈B,j≠k:=λj hj e=>hkB (e▸hj);have hB0:nM B (tS.set k .none):=λj hj=>by obtain⟨l,h1⟩:=hB j hj;exact⟨l,by rw[aM,if_neg λe=>Qt j hj e.symm];exact h1⟩
 have Yz:Lv S id:=⟨_,hS,ab⟩;have ahA:∀j,C4 ι k j≠some id:=λj hj=>by obtain⟨h1,h2⟩:=ga hj;exact h1 (hR.inj j k id h2 hk)
 obtain⟨e1,nw,S1,ι1,lG,gZ,a1,a2,a3,a4,a5,rfl,h2⟩:=h _ _ S (Ko hRe hr) hB0;have b1:S1[id]? =S[id]? :=a4.rest id Yz ahA;have b2:∀j,ι1 j≠some id:=λj hj=>by
  rcases a4.ours j id hj with ⟨i,hi⟩|hn
  grind
  grind
 have aeF:id<S1.length:=by grind
 obtain⟨e2,acM,S2,ι2,Tn,jk,c1,c2,c3,c4,c5,rfl,c6,c7⟩:=h2 _ _ (S1.set id (.loop ⟨.busy,none,rm,zD,ps,nL,body,AW⟩)) (Am a2 b2) a3;have CO:Lv (S1.set id (.loop ⟨.busy,none,rm,zD,ps,nL,body,AW⟩)) id:=⟨_,by rw[aM,if_pos rfl,if_pos aeF],ab⟩;have d1:S2[id]? =some (.loop ⟨.busy,none,rm,zD,ps,nL,body,AW⟩):=by rw[c4.rest id CO b2,aM,if_pos rfl,if_pos aeF]
 have d2:∀j,ι2 j≠some id:=λj hj=>by
  rcases c4.ours j id hj with ⟨i,hi⟩|hn
  grind
  grind
 have ahB:=(aI.1 d1).1;have d3:(S2.set id (.loop ⟨.ready,none,rm,zD,ps,nL,body,AW⟩))[id]? =some (.loop ⟨.ready,none,rm,zD,ps,nL,body,AW⟩):=by rw[aM,if_pos rfl,if_pos ahB]
 have Y4:∀j,j≠id->(S1.set id (.loop ⟨.busy,none,rm,zD,ps,nL,body,AW⟩))[j]? =S1[j]? :=λj hj=>by rw[aM,if_neg λe=>hj e.symm]
 have aeD:∀j,j≠id->(S2.set id (.loop ⟨.ready,none,rm,zD,ps,nL,body,AW⟩))[j]? =S2[j]? :=λj hj=>by rw[aM,if_neg λe=>hj e.symm]
 have c2':bL ι2 [] jk [] S2:=⟨bH,c2.cells,c2.own,c2.qc,c2.inj,c2.mp⟩;have FH:ι2 k=none:=by
  cases e:ι2 k with
  |none=>rfl
  |some k'=>obtain⟨b,h3,h4⟩:=c2.qc k k' e;rw[c6]at h3;cases h3;exact absurd rfl h4
 have hRn:=Kn (Am (b:=.loop ⟨.ready,none,rm,zD,ps,nL,body,AW⟩) c2' d2) c6 d2 d3 ⟨rfl,rfl⟩;refine⟨_,_,jk,?_,hRn,λj hj=>?_,⟨λk' hl hn=>?_,λj k' hj=>?_,λj hj=>?_⟩,⟨?_,λj hj dN=>?_⟩,by rw[d3,hS],by simp[upd],c7⟩;have hdl:bT.length=ps.length:=by have:=gR hR.env;omega
 unfold tJ;rw[hS];simp only[hdl,if_true,a1];rw[hS]at b1;simp only[b1,if_true,c1,d1];obtain⟨l,h3⟩:=c3 j hj;exact⟨l,by rw[aM,if_neg λe=>Qt j hj e.symm];exact h3⟩;have hne:k'≠id:=λe=>hn k (e▸hk);have h3:=a4.rest k' hl λj hj=>hn j (ga hj).2;have ahx:Lv (S1.set id (.loop ⟨.busy,none,rm,zD,ps,nL,body,AW⟩)) k':=by obtain⟨b,h4,h5⟩:=hl;exact⟨b,(Y4 k' hne).trans (h3.trans h4),h5⟩
 have h6:=c4.rest k' ahx λj hj=>by
  rcases a4.ours j k' hj with ⟨i,hi⟩|h7;exact hn i (ga hi).2
  grind
 rw[aeD k' hne,h6,Y4 k' hne,h3];unfold upd at hj;split at hj
 grind
 by_cases hl:Lv S k';by_cases hn:∃j,ι j=some k'
 grind
 have hne:k'≠id:=λe=>hn ⟨k,e▸hk⟩;have h3:=a4.rest k' hl λj hj=>hn ⟨j,(ga hj).2⟩;rcases c4.ours j k' hj with ⟨i,hi⟩|h7;rcases a4.ours i k' hi with ⟨i',X5⟩|h8;exact .inl ⟨i',(ga X5).2⟩
 grind
 refine(h7 ?_).elim;obtain⟨b,h4,h5⟩:=hl;exact⟨b,(Y4 k' hne).trans (h3.trans h4),h5⟩
 grind
 unfold upd;rw[if_neg (Qt j hj),c4.base j hj,a4.base j hj,yg (Qt j hj)];have h3:=a5.1;have h4:=c5.1;simp only[List.length_set]at h4⊢;omega;have hne:j≠id:=λe=>by rw[e,hS]at dN;cases dN
 have hlt:=(aI.1 dN).1;have h3:=a5.2 j hj dN;have h4:=c5.2 j (by simp only[List.length_set];have:=a5.1;omega) ((Y4 j hne).trans h3);rw[aeD j hne];exact h4
end Go.Tv
namespace Go.Tv
open Go Go.Di Go.Proofs
variable {P:Program} {ty:fo} {tt:TypeId->cy} {ι ι' w:kB} {S S':aj} {te:cn} {env:cj} {tS:cp} {aD Hv:bR} {call xU:aY} {yf Yi:di} {o:Oper} {aB nT:Nat} {B:cx}
def oA(k:Nat):Nat->cp->cp->cp
 |i,b::l,c::m=>(match b,c with
  |.cells _,.cells x=>.cells x
  |_,.loop=>if i=k then .loop else .none
  |_,_=>.none)::oA k (i+1) l m
 |_,_,_=>[]
theorem uP{k:Nat}:∀{i:Nat}{l m:cp},BR (oA k i l m) m
 |_,[],m=>by unfold oA;exact .nil
 |_,_::_,[]=>by unfold oA;exact .nil
 |i,b::l,c::m=>by unfold oA;split;exact .cells (uD.refl _) uP;split;exact .loop uP;exact .none uP;exact .none uP
theorem P6{k:Nat}:∀{i:Nat}{l m:cp}{j:Nat}{b:TB},(oA k i l m)[j]? =some b->b=.none\/(∃c x,l[j]? =some (.cells c)/\b=.cells x)\/(i+j=k/\b=.loop)
 |_,[],_,_,_,h=>by simp[oA]at h
 |_,_::_,[],_,_,h=>by simp[oA]at h
 |i,a::l,c::m,0,b,h=>by
  unfold oA at h;simp only[dB,aF]at h;subst h;split;exact .inr (.inl ⟨_,_,rfl,rfl⟩)
  grind
  grind
 |i,a::l,c::m,j+1,b,h=>by
  unfold oA at h;rcases P6 (l:=l) (m:=m) (i:=i+1) (j:=j) (by simpa using h)with h|⟨c,x,h1,h2⟩|⟨h1,h2⟩
  grind
  grind
  grind
def tw(tS:cp)(k:Nat):TV->TV
 |.nj k' fn t=>if k'=k then .nj k' fn (fG tS t)else .unk
 |v=>dR tS v
theorem Wv{k id:Nat}(hi:∀j,js tS j=true->ι' j=ι j)(hk:ι k=some id)(ox:ι' k=some id)(hS:S'[id]? =S[id]?){v:TV}{d:DV}(h:RT ι S v d):RT ι' S' (tw tS k v) d:=by unfold tw;split;rename_i k' fn t;split;rename_i e;subst e;cases d<;>simp only[RT]at h⊢;obtain⟨h1,ps,a,b,env,AW,h4,h2,h3⟩:=h;rw[hk]at h1;cases h1;exact⟨ox,ps,a,b,env,AW,h4,hS.trans h2,jA hi _ _ h3⟩;simp only[RT];exact O6 hi _ _ h
theorem Ge{k id:Nat}(hi:∀j,js tS j=true->ι' j=ι j)(hk:ι k=some id)(ox:ι' k=some id)(hS:S'[id]? =S[id]?):∀{l:cn}{m:cj},cz ι S l m->cz ι' S' (l.map (tw tS k)) m
 |[],m,h=>by rw[aN h];exact bH
 |a::l,m,h=>by obtain⟨d,m',rfl,h1,h2⟩:=ax h;exact aO (Wv hi hk ox hS h1) (Ge hi hk ox hS h2)
def ny(k:Nat)(tS:cp):cx:=(cZ 0 tS).filter (·!=k)
theorem HM{k j:Nat}:j∈ny k tS↔j∈cZ 0 tS/\j≠k:=by simp[ny]
theorem N4{f:Operand}{args:Array Operand}{argTypes:Array TypeId}{k:Nat}{rm:FuncId}{zk xs:cn}{ps:List Tmp}{nL body:Code}{K:cp->Prop}{dr:Bool}(hop:o.op=.call {callee:=.value f,args,argTypes})(hyf:yf=tJ P ty Hv xU Yi LL)(hf:fe te f=some (.nj k rm zk))(hrf:BU rm=some (ps,nL,body))(ha:kP te args.toList=some xs)
  (htk:tS[k]? =some .loop) (hlen:xs.length=ps.length) (hr:(eL (nD zk (ps.zip xs))++nE tS).contains k=false)
  (h:WT P ty Hv xU Yi (ny k tS) LL rm true nL (nD zk (ps.zip xs)) (tS.set k .none) λe lG gZ=>e=.normal/\WT P ty Hv xU Yi (ny k tS) LL rm true body lG gZ λe _ jk=>e=.normal/\jk[k]? =some .none/\K jk)
  (hK:∀jk,K jk->okB (te.map (tw tS k)) (oA k 0 tS (jk.set k .loop))=true/\∀j∈cZ 0 tS,kU (oA k 0 tS (jk.set k .loop)) j=true):
  Does P ty aD call yf B o nT te tS dr λv bO bI ft=>∃jk,K jk/\v=.val (.bool true)/\bO=te.map (tw tS k)/\bI=oA k 0 tS (jk.set k .loop)/\ft=⟨none,true⟩:=by
 intro ι w env S aB hR hB hw hT CN hS;obtain⟨d,k1,k2⟩:=bt hR.env hf;obtain⟨FC,k3,k4⟩:=rI hR.env ha;cases d<;>simp only[RT]at k2;rename_i id;obtain⟨hk,ps',aiW,aiw,zD,AW,aeB,hl,hE⟩:=k2;rw[hrf]at aeB;cases aeB;obtain⟨S',ι',jk,a1,a2,a3,a4,a5,a6,a7,a8⟩:=Ww (K:=K) (B:=ny k tS) ⟨k4,hR.cells,hR.own,hR.qc,hR.inj,hR.mp⟩ (λj hj=>Vs j (HM.1 hj).1) (λh=>(HM.1 h).2 rfl) hk htk hl hE hlen hr h;obtain⟨c1,c2⟩:=hK jk a8
 replace c2:∀j∈B,kU (oA k 0 tS (jk.set k .loop)) j=true:=λj hj=>by obtain⟨l,h1⟩:=hB j hj;exact c2 j (qK h1)
 have dw:∀j,js tS j=true->ι' j=ι j:=λj hj=>by
  unfold js at hj;split at hj;rename_i c hc;exact a4.base j (HM.2 ⟨KY hc,λe=>by rw[e,htk]at hc;cases hc⟩)
  cases hj
 have BO:bL ι' (te.map (tw tS k)) (jk.set k .loop) env S':=⟨Ge dw hk a7 a6 hR.env,a2.cells,a2.own,a2.qc,a2.inj,a2.mp⟩;have T8:∀j,j∈B->j≠k->j∈ny k tS:=λj hj hjk=>by obtain⟨l,h1⟩:=hB j hj;exact HM.2 ⟨qK h1,hjk⟩
 have hkl:(jk.set k TB.loop)[k]? =some .loop:=by obtain⟨b,q1,-⟩:=a2.qc k id a7;have:=(aI.1 q1).1;rw[aM,if_pos rfl,if_pos (by simpa using this)]
 have hBy:nM B (jk.set k .loop):=λj hj=>by
  by_cases e:j=k;subst e;exact⟨none,hkl⟩
  exact a3 j (T8 j hj e)
 have hBc:=yU uP hBy c2;obtain⟨ι1,e1,e2,e3⟩:=yH BO (uD.refl _) uP c1 hBc;have hold:∀j k',ι1 j=some k'->ι j=some k':=λj k' hj=>by
  rw[e3]at hj;split at hj;rename_i Yz;unfold kU at Yz;cases hc:(oA k 0 tS (jk.set k .loop))[j]? with
  |none=>rw[hc]at Yz;cases Yz
  |some b=>
   rcases P6 hc with rfl|⟨c,x,h1,-⟩|⟨h1,-⟩
   grind
   rw[dw j (by unfold js;rw[h1])]at hj;exact hj
   grind
  cases hj
 have hst:ah P ty aD call yf (iN env) o S aB=some (.val (.bool true),S'):=by subst hyf;simp only[ah,hop,k1,k3,a1]
 refine⟨.val (.bool true),S',ι1,w,.val (.bool true),te.map (tw tS k),oA k 0 tS (jk.set k .loop),⟨none,true⟩,⟨none,true⟩,λ_=>hst,λ_=>?_,⟨λe=>e,λl hl=>aE⟩,λl m hl=>aE,e1,by simp only[RT],λj k' hj=>hw j k' (hold j k' hj),λ_ _ _=>rfl,⟨λk' hl hn=>a4.rest k' hl hn,λj k' hj=>.inl ⟨j,hold j k' hj⟩,λj hj=>?_⟩,hBc,⟨a5.1,λj hj dN=>?_⟩,jk,a8,rfl,rfl,rfl,rfl⟩;subst hyf;simp only[aH,hop,k1,k3,a1,az];rw[e2.base j hj];by_cases e:j=k
 grind
 exact a4.base j (T8 j hj e);have:=(aI.1 dN).1;exact a5.2 j U dN
end Go.Tv
