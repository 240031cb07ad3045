import Derived.Test.YtedcgbkilmlbhaaPk07
namespace Go.Tv
open Go Go.Di Go.Proofs
variable {P:Program} {ty:fP} {tt:TypeId->Option TT} {ι ι' w:lq} {S S':ai} {te:List TV} {env:List DV} {tS:List TB} {aI:bS} {call:bt} {yf:ew} {o:Oper} {aD nT:Nat} {B L:List Nat}
def wV:TV->List Nat
 |.ptr k _=>[k]
 |_=>[]
def jl:TV->List Nat
 |.ptr k _=>[k]
 |.fn _ a b=>a.flatMap wV++b.flatMap wV
 |_=>[]
def Gh(tS:List TB)(k:Nat):List Nat:=
 match tS[k]? with
 |some (.cells l)=>l.flatMap jl
 |_=>[]
def wY(tS:List TB)(X:List Nat):List Nat:=X++(X.flatMap (Gh tS)).filter λi=>!X.contains i
def gh(tS:List TB)(A:List TV):List Nat:=wY tS (wY tS (wY tS (A.flatMap jl)))
def BV(X:List Nat):TV->Bool
 |.ptr k _=>X.contains k
 |v=>kQ v
def UY(X:List Nat):TV->Bool
 |.ptr k _=>X.contains k
 |.fn _ a b=>a.all (BV X)&&b.all (BV X)
 |v=>kQ v
def Gv(X:List Nat):TV->Bool
 |.ptr k _=>X.contains k
 |.fn _ a b=>a.all (BV X)&&b.all (BV X)
 |v=>eG v
def tQ(tS:List TB)(X:List Nat)(k:Nat):Bool:=
 match tS[k]? with
 |some (.cells l)=>l.all (UY X)
 |_=>false
abbrev mZ(ι:lq)(k:Nat):Nat:=(ι k).getD 0
theorem Rs{X:List Nat}{v:TV}{d:DV}(hg:BV X v=true)(h:RT ι S v d):TX d=(wV v).map (mZ ι)/\∀k∈wV v,∃k',ι k=some k':=by
 cases v<;>first|(cases hg;done)|skip
 .cases d<;>simp only[RT]at h;exact⟨rfl,by simp[wV]⟩
 .cases d<;>simp only[RT]at h;exact⟨rfl,by simp[wV]⟩
 cases d<;>simp only[RT]at h;exact⟨by simp[TX,wV,mZ,h.1],by simp[wV,h.1]⟩
theorem xT{X:List Nat}:∀{l:List TV}{m:List DV},l.all (BV X)=true->cQ ι S l m->m.flatMap TX=(l.flatMap wV).map (mZ ι)/\∀k∈l.flatMap wV,∃k',ι k=some k'
 |[],m,_,h=>by rw[aP h];exact⟨rfl,by simp⟩
 |a::l,m,hp,h=>by obtain⟨d,m',rfl,h1,h2⟩:=ak h;simp only[cA,aA]at hp;obtain⟨k1,k2⟩:=Rs hp.1 h1;obtain⟨k3,k4⟩:=xT hp.2 h2;refine⟨by rw[cM,cM,dW,k1,k3],λk hk=>?_⟩;rw[cM,dX]at hk;exact hk.elim (k2 k) (k4 k)
theorem GF{X:List Nat}{g:FuncId}{a b:List TV}{d:DV}(hg:(a.all (BV X)&&b.all (BV X))=true)(h:RT ι S (.fn g a b) d):AB d=(jl (.fn g a b)).map (mZ ι)/\∀k∈jl (.fn g a b),∃k',ι k=some k':=by simp only[aA]at hg;cases d<;>simp only[RT]at h;obtain⟨k1,k2⟩:=xT hg.1 h.2.1;obtain⟨k3,k4⟩:=xT hg.2 h.2.2;refine⟨by simp only[AB,jl,dW,k1,k3],λk hk=>?_⟩;simp only[jl,dX]at hk;exact hk.elim (k2 k) (k4 k)
theorem Rt{X:List Nat}{v:TV}{d:DV}(hg:UY X v=true)(h:RT ι S v d):AB d=(jl v).map (mZ ι)/\∀k∈jl v,∃k',ι k=some k':=by
 cases v<;>first|(cases hg;done)|exact GF hg h|skip
 .cases d<;>simp only[RT]at h;exact⟨rfl,by simp[jl]⟩
 .cases d<;>simp only[RT]at h;exact⟨rfl,by simp[jl]⟩
 cases d<;>simp only[RT]at h;exact⟨by simp[AB,jl,mZ,h.1],by simp[jl,h.1]⟩
theorem Rv{X:List Nat}{v:TV}{d:DV}(hg:Gv X v=true)(h:RT ι S v d):AB d=(jl v).map (mZ ι)/\∀k∈jl v,∃k',ι k=some k':=by
 cases v<;>first|(cases hg;done)|exact GF hg h|skip
 all_goals cases d<;>simp only[RT]at h
 all_goals first
  |exact⟨rfl,by simp[jl]⟩
  |exact⟨by simp[AB,jl,mZ,h.1],by simp[jl,h.1]⟩
theorem A5{G:TV->Bool}(hG:∀v d,G v=true->RT ι S v d->AB d=(jl v).map (mZ ι)/\∀k∈jl v,∃k',ι k=some k'):∀{l:List TV}{m:List DV},l.all G=true->cQ ι S l m->m.flatMap AB=(l.flatMap jl).map (mZ ι)/\∀k∈l.flatMap jl,∃k',ι k=some k'
 |[],m,_,h=>by rw[aP h];exact⟨rfl,by simp⟩
 |a::l,m,hp,h=>by obtain⟨d,m',rfl,h1,h2⟩:=ak h;simp only[cA,aA]at hp;obtain⟨k1,k2⟩:=hG _ _ hp.1 h1;obtain⟨k3,k4⟩:=A5 hG hp.2 h2;refine⟨by rw[cM,cM,dW,k1,k3],λk hk=>?_⟩;rw[cM,dX]at hk;exact hk.elim (k2 k) (k4 k)
theorem Ru(hR:bT ι te tS env S){X:List Nat}{k:Nat}(hg:tQ tS X k=true):H9 S (mZ ι k)=(Gh tS k).map (mZ ι)/\∀j∈Gh tS k,∃k',ι j=some k':=by
 unfold tQ at hg;split at hg
 .rename_i l hl;obtain⟨k',ds,h1,h2,h3⟩:=hR.cells k l hl;have e:mZ ι k=k':=by simp[mZ,h1]
  have:=A5 (G:=UY X) (λv d=>Rt) hg h3;simp only[H9,Gh,e,h2,hl];exact this
 cases hg
theorem Er(hR:bT ι te tS env S){X Z:List Nat}(hX:∀k∈X,tQ tS Z k=true)(hd:∀k∈X,∃k',ι k=some k'):rS S (X.map (mZ ι))=(wY tS X).map (mZ ι)/\∀k∈wY tS X,∃k',ι k=some k':=by
 have key:∀{Y:List Nat},(∀k∈Y,tQ tS Z k=true)->(Y.map (mZ ι)).flatMap (H9 S)=(Y.flatMap (Gh tS)).map (mZ ι)/\∀k∈Y.flatMap (Gh tS),∃k',ι k=some k':=by
  intro Y;induction Y with
  |nil=>intro _;exact⟨rfl,by simp⟩
  |cons a Y ih=>intro h;obtain⟨k1,k2⟩:=Ru hR (h a (gv ..));obtain⟨k3,k4⟩:=ih λk hk=>h k (nO _ hk);refine⟨by rw[aV,cM,cM,dW,k1,k3],λk hk=>?_⟩;rw[cM,dX]at hk;exact hk.elim (k2 k) (k4 k)
 obtain⟨k1,k2⟩:=key hX;have Rb:∀k,(∃k',ι k=some k')->(X.map (mZ ι)).contains (mZ ι k)=X.contains k:=λk ⟨k',hk⟩=>by
  rw[Bool.eq_iff_iff,List.contains_iff_mem,List.contains_iff_mem,dL];refine⟨λ⟨j,h1,h2⟩=>?_,λh=>⟨k,h,rfl⟩⟩;obtain⟨j',hj⟩:=hd j h1;have e:j'=k':=by simpa [mZ,hj,hk]using h2
  obtain rfl:=hR.inj j k k' (e▸hj) hk;exact h1
 have hf:∀{Y:List Nat},(∀k∈Y,∃k',ι k=some k')->(Y.map (mZ ι)).filter (λi=>!(X.map (mZ ι)).contains i)=(Y.filter λi=>!X.contains i).map (mZ ι):=by
  intro Y;induction Y with
  |nil=>intro _;rfl
  |cons a Y ih=>intro h;rw[aV,List.filter_cons,List.filter_cons,Rb a (h a (gv ..)),ih λk hk=>h k (nO _ hk)];split<;>rfl
 refine⟨by unfold rS wY;rw[k1,hf k2,dW],λk hk=>?_⟩;unfold wY at hk;rw[dX,List.mem_filter]at hk;exact hk.elim (hd k) λh=>k2 k h.1
theorem RQ(hR:bT ι te tS env S){A:List TV}{m:List DV}(hA:A.all (Gv (gh tS A))=true)(hg:(gh tS A).all (tQ tS (gh tS A))=true)(hv:cQ ι S A m):jH S m=(gh tS A).map (mZ ι)/\∀k∈gh tS A,∃k',ι k=some k':=by have h3:∀k∈gh tS A,tQ tS (gh tS A) k=true:=aT.1 hg;have h2:∀k∈wY tS (wY tS (A.flatMap jl)),tQ tS (gh tS A) k=true:=λk hk=>h3 k (qU _ hk);have h1:∀k∈wY tS (A.flatMap jl),tQ tS (gh tS A) k=true:=λk hk=>h2 k (qU _ hk);have h0:∀k∈A.flatMap jl,tQ tS (gh tS A) k=true:=λk hk=>h1 k (qU _ hk);obtain⟨e0,d0⟩:=A5 (G:=Gv (gh tS A)) (λv d=>Rv) hA hv;obtain⟨e1,d1⟩:=Er hR h0 d0;obtain⟨e2,d2⟩:=Er hR h1 d1;obtain⟨e3,d3⟩:=Er hR h2 d2;refine⟨?_,d3⟩;unfold jH gh;rw[e0,e1,e2,e3]
section
variable {ρ:Nat->Option Nat} (hρ:∀k j,ρ k=some j->ι' j=ι k)
include hρ
theorem GO{v v':TV}{d:DV}(h:Tk ρ v=some v')(hv:RT ι S v d):RT ι' S' v' d.aM:=by
 unfold Tk at h;split at h;.simp only[af]at h;obtain⟨j,h1,rfl⟩:=h;cases d<;>simp only[RT,DV.aM]at hv⊢;exact⟨(hρ _ _ h1).trans hv.1,hv.2⟩
 split at h;.rename_i hp;cases h;exact(vp hp hv).2
 cases h
theorem xZ:∀{l l':List TV}{m:List DV},Ay ρ l=some l'->cQ ι S l m->cQ ι' S' l' (m.map DV.aM)
 |[],l',m,h,hv=>by cases h;rw[aP hv];exact bL
 |v::l,l',m,h,hv=>by
  obtain⟨d,m',rfl,h1,h2⟩:=ak hv;simp only[Ay]at h;split at h;.rename_i a b e1 e2;cases h;exact aQ (GO hρ e1 h1) (xZ e2 h2)
  cases h
theorem GP{g:FuncId}{a b x y:List TV}{d:DV}(e1:Ay ρ a=some x)(e2:Ay ρ b=some y)(hv:RT ι S (.fn g a b) d):RT ι' S' (.fn g x y) (dD d)/\jG d=dD d:=by cases d<;>simp only[RT]at hv;exact⟨by simp only[dD,RT];exact⟨hv.1,xZ hρ e1 hv.2.1,xZ hρ e2 hv.2.2⟩,rfl⟩
theorem RI{v v':TV}{d:DV}(h:OA ρ v=some v')(hv:RT ι S v d):RT ι' S' v' (dD d):=by
 unfold OA at h;split at h
 .split at h;.rename_i x y e1 e2;cases h;exact(GP hρ e1 e2 hv).1
  cases h
 .cases h;cases d<;>simp only[RT,dD,DV.aM]at hv⊢;obtain⟨rfl,-,-⟩:=hv;exact⟨trivial,trivial⟩
 rename_i hno _;have:dD d=d.aM:=by
  cases d<;>first|rfl|skip
  cases v<;>simp only[RT]at hv;.simp[Tk,kQ]at h
  exact(hno _ _ _ rfl).elim
 rw[this];exact GO hρ h hv
theorem EY:∀{l l':List TV}{m:List DV},Dt ρ l=some l'->cQ ι S l m->cQ ι' S' l' (m.map dD)
 |[],l',m,h,hv=>by cases h;rw[aP hv];exact bL
 |v::l,l',m,h,hv=>by
  obtain⟨d,m',rfl,h1,h2⟩:=ak hv;simp only[Dt]at h;split at h;.rename_i a b e1 e2;cases h;exact aQ (RI hρ e1 h1) (EY e2 h2)
  cases h
theorem EX{l l':List TV}{m:List DV}(h:CE ρ l=some l')(hv:cQ ι S l m):cQ ι' S' l' (m.map dD):=EY hρ (Im h) hv
theorem GR{t:Option TT}{v v':TV}{d:DV}(h:rnA ρ t v=some v')(hv:RT ι S v d):RT ι' S' v' (jG d):=by
 unfold rnA at h;split at h;.simp only[af]at h;obtain⟨j,h1,rfl⟩:=h;cases d<;>simp only[RT,jG,DV.strip,DV.dF]at hv⊢;exact⟨(hρ _ _ h1).trans hv.1,hv.2⟩
 .unfold OA at h;simp only at h;split at h;.rename_i x y e1 e2;cases h;obtain⟨k1,k2⟩:=GP (S':=S') hρ e1 e2 hv;rw[k2];exact k1
  cases h
 rename_i aiO Ua;split at h
 .rename_i hp;cases h;have:jG d=d.strip:=by
   cases d<;>first|rfl|skip
   cases v<;>simp only[RT]at hv;.cases hp
   cases hp
  rw[this];exact(jR hp hv).2.2
 cases h
theorem x7:∀{ts:List (Option TT)}{l l':List TV}{m:List DV},uv ρ ts l=some l'->cQ ι S l m->cQ ι' S' l' (m.map jG)
 |_,[],l',m,h,hv=>by simp only[uv]at h;cases h;rw[aP hv];exact bL
 |[],v::l,l',m,h,hv=>by
  obtain⟨d,m',rfl,h1,h2⟩:=ak hv;simp only[uv]at h;split at h;.rename_i a b e1 e2;cases h;exact aQ (GR hρ e1 h1) (x7 e2 h2)
  cases h
 |t::ts,v::l,l',m,h,hv=>by
  obtain⟨d,m',rfl,h1,h2⟩:=ak hv;simp only[uv]at h;split at h;.rename_i a b e1 e2;cases h;exact aQ (GR hρ e1 h1) (x7 e2 h2)
  cases h
end
section
variable {ρ:Nat->Option Nat} {R:List Nat} (hρ:∀k j,ρ k=some j->∃k',ι k=some k'/\k'∈R)
include hρ
theorem Vs{v v':TV}{d:DV}(h:Tk ρ v=some v')(hv:RT ι S v d):YJ R d.aM=true:=by
 unfold Tk at h;split at h;.simp only[af]at h;obtain⟨j,h1,rfl⟩:=h;cases d<;>simp only[RT]at hv;obtain⟨k',h2,h3⟩:=hρ _ _ h1;rw[hv.1]at h2;cases h2;simpa [YJ,DV.aM]using h3
 split at h;.rename_i hp;have:=(vp (ι':=ι) (S':=S) hp hv).1;generalize d.aM=c at this;cases c<;>first|exact this|cases this
 cases h
theorem Ja:∀{l l':List TV}{m:List DV},Ay ρ l=some l'->cQ ι S l m->(m.map DV.aM).all (YJ R)=true
 |[],l',m,h,hv=>by rw[aP hv];rfl
 |v::l,l',m,h,hv=>by
  obtain⟨d,m',rfl,h1,h2⟩:=ak hv;simp only[Ay]at h;split at h;.rename_i a b e1 e2;rw[aV,cA,Vs hρ e1 h1,Ja e2 h2];rfl
  cases h
theorem Vt{g:FuncId}{a b x y:List TV}{d:DV}(e1:Ay ρ a=some x)(e2:Ay ρ b=some y)(hv:RT ι S (.fn g a b) d):MA R (dD d)=true/\okA R (jG d)=true:=by cases d<;>simp only[RT]at hv;have h1:=Ja hρ e1 hv.2.1;have h2:=Ja hρ e2 hv.2.2;exact⟨by simp only[MA,dD,h1,h2];rfl,by simp only[okA,jG,h1,h2];rfl⟩
theorem aez{v v':TV}{d:DV}(h:OA ρ v=some v')(hv:RT ι S v d):MA R (dD d)=true:=by
 unfold OA at h;split at h
 .split at h;.rename_i x y e1 e2;exact(Vt hρ e1 e2 hv).1
  cases h
 .cases d<;>simp only[RT]at hv;rfl
 rename_i hno Ua;have:=Vs hρ h hv;cases v<;>first|exact(hno _ _ _ rfl).elim|exact(Ua rfl).elim|(simp[Tk,kQ]at h;done)|skip
 all_goals cases d<;>simp only[RT]at hv
 all_goals exact this
theorem PY:∀{l l':List TV}{m:List DV},Dt ρ l=some l'->cQ ι S l m->(m.map dD).all (MA R)=true
 |[],l',m,h,hv=>by rw[aP hv];rfl
 |v::l,l',m,h,hv=>by
  obtain⟨d,m',rfl,h1,h2⟩:=ak hv;simp only[Dt]at h;split at h;.rename_i a b e1 e2;rw[aV,cA,aez hρ e1 h1,PY e2 h2];rfl
  cases h
theorem PX{l l':List TV}{m:List DV}(h:CE ρ l=some l')(hv:cQ ι S l m):(m.map dD).all (MA R)=true:=PY hρ (Im h) hv
theorem Vu{t:Option TT}{v v':TV}{d:DV}(h:rnA ρ t v=some v')(hv:RT ι S v d):okA R (jG d)=true:=by
 unfold rnA at h;split at h;.simp only[af]at h;obtain⟨j,h1,rfl⟩:=h;cases d<;>simp only[RT]at hv;obtain⟨k',h2,h3⟩:=hρ _ _ h1;rw[hv.1]at h2;cases h2;simpa [okA,jG,DV.strip,DV.dF]using h3
 .unfold OA at h;simp only at h;split at h;.rename_i x y e1 e2;exact(Vt hρ e1 e2 hv).2
  cases h
 split at h
 .rename_i hp;have:=(jR (t:=none) (ι':=ι) (S':=S) hp hv).1;cases v<;>first|(cases hp;done)|skip
  all_goals cases d<;>simp only[RT]at hv
  all_goals exact this
 cases h
theorem Jb:∀{ts:List (Option TT)}{l l':List TV}{m:List DV},uv ρ ts l=some l'->cQ ι S l m->(m.map jG).all (okA R)=true
 |_,[],l',m,h,hv=>by rw[aP hv];rfl
 |[],v::l,l',m,h,hv=>by
  obtain⟨d,m',rfl,h1,h2⟩:=ak hv;simp only[uv]at h;split at h;.rename_i a b e1 e2;rw[aV,cA,Vu hρ e1 h1,Jb e2 h2];rfl
  cases h
 |t::ts,v::l,l',m,h,hv=>by
  obtain⟨d,m',rfl,h1,h2⟩:=ak hv;simp only[uv]at h;split at h;.rename_i a b e1 e2;rw[aV,cA,Vu hρ e1 h1,Jb e2 h2];rfl
  cases h
end
theorem y6{S:ai}{R:List Nat}{k:Nat}{l:List DV}(hk:k∈R)(h:S[k]? =some (.cells l)):(tN S R)[k]? =some (.cells (l.map dD)):=by simp only[tN,o9,h,av,UG,if_pos (show R.contains k=true by simpa using hk)]
theorem jg{S S1:ai}{R:List Nat}{k:Nat}(hk:k∉R):(lK S S1 R)[k]? =S[k]? :=by simp only[lK,o9,if_neg (show¬R.contains k=true by simpa using hk)];exact Option.map_id'
theorem BA{S S1:ai}{R:List Nat}{k:Nat}{l l':List DV}(hk:k∈R)(h:S[k]? =some (.cells l))(h1:S1[k]? =some (.cells l')):(lK S S1 R)[k]? =some (.cells (l'.map dD)):=by simp only[lK,o9,h,av,if_pos (show R.contains k=true by simpa using hk),U5,h1]
def C6:List TV->Bool
 |.ptr _ _::r=>r.any isRef
 |.unk::_=>false
 |_=>true
theorem Se{A:List TV}{m:List DV}{g:FuncId}(h:C6 A=true)(hv:cQ ι S A m):pV call g m S=none:=by
 cases A with
 |nil=>rw[aP hv];rfl
 |cons v l=>
  obtain⟨d,m',rfl,h1,h2⟩:=ak hv;unfold pV;split
  .rename_i i off rest e;cases e;split
   .rw[if_neg];intro hc;simp only[aA]at hc;have hr:l.any isRef=true:=by cases v<;>first|(cases h;done)|exact h|(simp only[RT]at h1)
    have:=nA hr h2;rw[this]at hc;cases hc.1
   rfl
  rfl
theorem Mp{f:Operand}{args:Array Operand}{argTypes:Array TypeId}{g:FuncId}{fs cs xs targs:List TV}{tP:List (List TV)}{Q:TV->List (List TV)->Prop}(hop:o.op=.call {callee:=.value f,args,argTypes})(hh:ty.h o≠1)(hf:fM te f=some (.fn g fs cs))(ha:lV te args.toList=some xs)
  (Fu:ng L=true) (hL:∀k,k∈gh tS (fs++xs++cs)↔k∈L) (hne:L≠[]) (hA:(fs++xs++cs).all (Gv (gh tS (fs++xs++cs)))=true) (hg:(gh tS (fs++xs++cs)).all (tQ tS (gh tS (fs++xs++cs)))=true) (hno:C6 (fs++xs++cs)=true)
  (hn:uv (loc L) (gm tt fs argTypes) (fs++xs++cs)=some targs) (hr:(fs++xs++cs).any isRef=true) (hb:J4 (loc L) tS L=some tP) (hs:B1 call g targs tP Q) (hq:∀v t,Q v t->∃tB,HY L t=some tB):
  Does P ty aI call yf B o nT te tS true λv bZ bN ft=>∃FB tB,Q v FB/\HY L FB=some tB/\bZ=te/\bN=yD L tB tS/\ft=⟨some L,true⟩:=by
 intro ι w env S aD hR hB hw hT Ra hS;obtain⟨xD,lG,FA,k1,k2,k3⟩:=iS hR.env hf ha;obtain⟨hl,S3⟩:=zF hb;obtain⟨VE,Zn⟩:=RQ hR hA hg k3;generalize hRR:jH S (xD++FA++lG)=R at VE;have kM:∀i,i∈R↔∃k,k∈L/\ι k=some i:=λi=>by rw[VE,dL];refine⟨λ⟨k,h1,h2⟩=>?_,λ⟨k,h1,h2⟩=>⟨k,(hL k).2 h1,by simp[mZ,h2]⟩⟩;obtain⟨k',hk⟩:=Zn k h1;exact⟨k,(hL k).1 h1,by rw[hk,<-h2];simp[mZ,hk]⟩
 have hρ:∀k j,loc L k=some j->∃k',ι k=some k'/\k'∈R:=λk j h=>by have hk:k∈L:=b9 (ir h);obtain⟨k',h1⟩:=Zn k ((hL k).2 hk);exact⟨k',h1,(kM k').2 ⟨k,hk,h1⟩⟩
 have jm:∀k,k∈L->∃j c c' k0 ds,loc L k=some j/\L[j]? =some k/\tS[k]? =some (.cells c)/\CE (loc L) c=some c'/\tP[j]? =some c'/\ι k=some k0/\S[k0]? =some (.cells ds)/\cQ ι S c ds:=λk hk=>by obtain⟨j,hj⟩:=vN hk;obtain⟨c,c',h1,h2,h3⟩:=S3 j k (ir hj);obtain⟨k0,ds,h4,h5,h6⟩:=hR.cells k c h1;exact⟨j,c,c',k0,ds,hj,ir hj,h1,h2,h3,h4,h5,h6⟩
 have Zp:∀k k0,k∈L->ι k=some k0->k0∈R:=λk k0 h1 h2=>(kM k0).2 ⟨k,h1,h2⟩;have hc:bT (wR L ι) targs (tP.map .cells) ((xD++FA++lG).map jG) (tN S R):=by
  refine⟨x7 (λk j h=>u7 h) hn k3,λj l hj=>?_,λj e s hj=>?_,λj k' hj=>?_,λi j k' hi hj=>?_,λj b hj t _=>?_⟩;.simp only[cR,af,TB.cells.injEq]at hj;obtain⟨c',h1,rfl⟩:=hj;have hlt:j<L.length:=hl▸(az.1 h1).1;have Ax:L[j]? =some L[j]:=bQ hlt;obtain⟨c,c2,q1,q2,q3⟩:=S3 j _ Ax;rw[h1]at q3;cases q3;obtain⟨k',ds,m1,m2,m3⟩:=hR.cells _ _ q1;exact⟨k',ds.map dD,by simp[wR,Ax,m1],y6 (Zp _ _ (b9 Ax) m1) m2,EX (λk j h=>u7 h) q2 m3⟩
  .simp at hj
  .unfold wR at hj;cases Ax:L[j]? with
   |none=>rw[Ax]at hj;cases hj
   |some k=>obtain⟨c,c2,q1,q2,q3⟩:=S3 j k Ax;exact⟨.cells c2,by simp[q3],by simp⟩
  .unfold wR at hi hj;cases S8:L[i]? with
   |none=>rw[S8]at hi;cases hi
   |some a=>
    cases Ax:L[j]? with
    |none=>rw[Ax]at hj;cases hj
    |some b=>rw[S8]at hi;rw[Ax]at hj;obtain rfl:=hR.inj a b k' hi hj;exact Ep Fu S8 Ax
  simp only[cR,af]at hj;obtain⟨c,-,rfl⟩:=hj;trivial
 obtain⟨d,S1,ι1,v,FB,n1,n2,n3,n4,n5,n6,n7,n8⟩:=hs _ _ _ hc;obtain⟨tB,hbk⟩:=hq _ _ n8;obtain⟨b1,b2⟩:=Ek hbk;have uD:∀j k,L[j]? =some k->ι1 j=ι k:=λj k hj=>by have:=(az.1 hj).1;rw[n6.base j (by simp;omega)];simp[wR,hj]
 have hρ1:∀j k,(λj=>L[j]?) j=some k->∃k',ι1 j=some k'/\k'∈R:=λj k hj=>by have hk:k∈L:=b9 hj;obtain⟨k',h1⟩:=Zn k ((hL k).2 hk);exact⟨k',by rw[uD j k hj];exact h1,Zp k k' hk h1⟩
 have VL:∀k,k∈L->∃j c c' k0 ds,loc L k=some j/\tB[j]? =some c/\CE (λj=>L[j]?) c'=some c/\ι k=some k0/\S1[k0]? =some (.cells ds)/\cQ ι1 S1 c' ds:=λk hk=>by obtain⟨j,hj⟩:=vN hk;have Yn:j<L.length:=(az.1 (ir hj)).1;have hjb:tB[j]? =some tB[j]:=bQ (by omega);obtain⟨c',h1,h2⟩:=b2 j _ hjb;obtain⟨k',iJ,m1,m2,m3⟩:=n5 j c' (by simp[h1]);rw[uD j k (ir hj)]at m1;exact⟨j,_,c',k',iJ,hj,hjb,h2,m1,m2,m3⟩
 obtain⟨r1,r2⟩:=Cq (ι':=ι) (S':=lK S S1 R) n3 n2;have hm:oB call g (xD++FA++lG) S=some (R,d.strip,S1):=by
  unfold oB;rw[hRR];have e1:R.isEmpty=false:=by
   obtain⟨k,l,rfl⟩:=List.exists_cons_of_ne_nil hne;obtain⟨k',h1⟩:=Zn k ((hL k).2 (gv ..));have:=Zp k k' (gv ..) h1;cases R with
   |nil=>cases this
   |cons _ _=>rfl
  have e2:=Jb hρ hn k3;have e3:R.all (kV S R)=true:=aT.2 λi hi=>by obtain⟨k,h1,h2⟩:=(kM i).1 hi;obtain⟨j,c,c',k0,ds,p1,p2,p3,p4,p5,p6,p7,p8⟩:=jm k h1;rw[h2]at p6;cases p6;unfold kV;rw[p7];exact PX hρ p4 p8
  have e4:R.all (kV S1 R)=true:=aT.2 λi hi=>by obtain⟨k,h1,h2⟩:=(kM i).1 hi;obtain⟨j,c,c',k0,ds,p1,p2,p3,p4,p5,p6⟩:=VL k h1;rw[h2]at p4;cases p4;unfold kV;rw[p5];exact PX (ι:=ι1) hρ1 p3 p6
  rw[e1,e2,e3];simp only[vT,fV,if_true,n1,r1,e4]
 have hlt:∀k∈L,k<tS.length:=λk hk=>by obtain⟨j,c,c',k0,ds,p1,p2,p3,-⟩:=jm k hk;exact(az.1 p3).1
 have bh:∀k,(yD L tB tS)[k]? =match loc L k with|some j=>(tB[j]?).map TB.cells|none=>tS[k]? :=λk=>El Fu (by omega) hlt
 have ahL:∀k k0,k∉L->ι k=some k0->k0∉R:=λk k0 hk h0 hi=>by obtain⟨a,h1,h2⟩:=(kM k0).1 hi;exact hk (hR.inj a k k0 h2 h0▸h1)
 have lI:∀k k0,k∉L->ι k=some k0->(lK S S1 R)[k0]? =S[k0]? :=λk k0 hk h0=>jg (ahL k k0 hk h0);have K:jE ι S ι (lK S S1 R) λ_=>False:=λk k0 _ hk=>⟨hk,by
  by_cases Gb:k∈L;.obtain⟨j,c,c',k1,ds,p1,p2,p3,p4,p5,p6,p7,p8⟩:=jm k Gb;rw[p6]at hk;cases hk;exact vO (by rw[p7];simp) (by rw[p7];simp) (by rw[p7];simp)
  exact dY (lI k k0 Gb hk)⟩
 have YQ:=nA hr k3;have ho:=Se (call:=call) (g:=g) hno k3;refine⟨d.strip,lK S S1 R,ι,w,v,te,yD L tB tS,⟨some R,true⟩,⟨some L,true⟩,λhd=>(by cases hd),λ_=>?_,⟨λe=>e,λl hl=>?_⟩,λl m hl hm j hj=>?_,?_,r2,hw,λ_ _ _=>rfl,⟨λk0 hl hno=>jg λhi=>?_,λk k0 hk=>.inl ⟨k,hk⟩,λ_ _=>rfl⟩,λk hk=>?_,⟨by simp[lK],λj hj dA=>?_⟩,FB,tB,n8,hbk,rfl,rfl,rfl⟩;.simp only[aJ,hop,k1,k2,if_neg hh,YQ,aG,if_false,ho,hm]
 .cases hl;refine⟨R,rfl,λi hi=>?_⟩;obtain⟨k,h1,h2⟩:=(kM i).1 hi;exact⟨k,h1,hw _ _ h2⟩
 .cases hm;obtain⟨k,h1,h2⟩:=(kM j).1 hj;exact .inr ⟨k,h2⟩
 .refine⟨bu K _ _ hR.env,λk l hk=>?_,λk e s hk t ht=>?_,λk k0 hk=>?_,hR.inj,λk b hk t ht=>?_⟩
  .rw[bh]at hk;split at hk;.rename_i j hj;have hkL:k∈L:=b9 (ir hj);obtain⟨j2,c,c',k0,ds,p1,p2,p3,p4,p5,p6⟩:=VL k hkL;rw[hj]at p1;cases p1;rw[p2]at hk;simp only[av,aB,TB.cells.injEq]at hk;subst hk;obtain⟨-,-,-,k2,ds2,-,-,-,-,-,q6,q7,-⟩:=jm k hkL;rw[p4]at q6;cases q6;refine⟨k0,ds.map dD,p4,BA (Zp k k0 hkL p4) q7 p5,EX (ι:=ι1) (ρ:=λj=>L[j]?) (λa b qC=>(uD a b qC).symm) p3 p6⟩
   rename_i hno;obtain⟨k0,MK,q1,q2,q3⟩:=hR.cells k l hk;exact⟨k0,MK,q1,by rw[lI k k0 (zN hno) q1];exact q2,bu K _ _ q3⟩
  .rw[bh]at hk;split at hk;.simp at hk
   obtain⟨n,q1⟩:=hR.own k e s hk t ht;exact⟨n,(K k t (λe=>e) ht).2.1 _ _ _ q1⟩
  .rw[bh];split
   .rename_i j hj;have Yn:j<tB.length:=by have:=(az.1 (ir hj)).1;omega
    exact⟨.cells tB[j],by simp[Yn],by simp⟩
   exact hR.qv k k0 hk
  rw[bh]at hk;split at hk;.simp only[af]at hk;obtain⟨c,-,rfl⟩:=hk;trivial
  rename_i hno;rw[lI k t (zN hno) ht];exact hR.mp k b hk t ht
 .obtain⟨k,-,h2⟩:=(kM k0).1 hi;exact hno _ h2
 .rw[bh];split
  .rename_i j hj;have Yn:j<tB.length:=by have:=(az.1 (ir hj)).1;omega
   exact⟨some tB[j],by simp[Yn,lC]⟩
  exact hB k hk
 rw[jg];.exact dA
 intro hi;obtain⟨k,h1,h2⟩:=(kM j).1 hi;obtain⟨-,-,-,k0,ds,-,-,-,-,-,q6,q7,-⟩:=jm k h1;rw[h2]at q6;cases q6;rw[dA]at q7;cases q7
end Go.Tv
namespace Go.Tv
open Go Go.Di Go.Proofs
variable {P:Program} {ty:fP} {tt:TypeId->Option TT} {ι ι' w:lq} {S S':ai} {te:List TV} {env:List DV} {tS:List TB} {aI:bS} {call:bt} {yf:ew} {o:Oper} {aD nT:Nat} {B L:List Nat}
def acR(n:Nat):TV->Option TV
 |.sl t l _=>some (.sl t l .no)
 |v=>OA (λk=>if k<n then some k else none) v
def Kk(n:Nat):List TV->Option (List TV)
 |[]=>some []
 |v::l=>match rE v with
  |true=>if kQ v&&l.all kQ then some (v::l)else none
  |false=>match acR n v,Kk n l with
   |some a,some b=>some (a::b)
   |_,_=>none
def Kl(n:Nat)(tS:List TB):List Nat->Option (List (List TV))
 |[]=>some []
 |k::l=>match tS[k]? with
  |some (.cells c)=>match Kk n c,Kl n tS l with
   |some a,some b=>some (a::b)
   |_,_=>none
  |_=>none
theorem aaD{n:Nat}{v v':TV}{d:DV}(h:acR n v=some v')(hv:RT ι S v d):RT ι S v' d:=by
 unfold acR at h;split at h;.cases h;cases d<;>simp only[RT]at hv⊢;exact⟨hv.1,trivial⟩
 exact Nk (λk j hk=>by
  split at hk;.cases hk;rfl
  cases hk) h hv
theorem Lt{n:Nat}:∀{l l':List TV}{m:List DV},Kk n l=some l'->cQ ι S l m->cQ ι S l' m
 |[],l',m,h,hv=>by cases h;rw[aP hv];exact bL
 |v::l,l',m,h,hv=>by
  simp only[Kk]at h;split at h
  .split at h;.cases h;exact hv
   cases h
  obtain⟨d,m',rfl,h1,h2⟩:=ak hv;split at h;.rename_i a b e1 e2;cases h;exact aQ (aaD e1 h1) (Lt e2 h2)
  cases h
theorem G9{n:Nat}:∀{L:List Nat}{tP:List (List TV)},Kl n tS L=some tP->tP.length=L.length/\∀(j:Nat) c',tP[j]? =some c'->∃k c,L[j]? =some k/\tS[k]? =some (TB.cells c)/\Kk n c=some c'
 |[],tP,h=>by cases h;exact⟨rfl,by simp⟩
 |a::L,tP,h=>by
  simp only[Kl]at h;split at h
  .rename_i c hc;split at h
   .rename_i x y e1 e2;cases h;obtain⟨h1,h2⟩:=G9 e2;refine⟨by simp[h1],λj c' hj=>?_⟩;cases j with
    |zero=>simp only[cg,aB]at hj;subst hj;exact⟨a,c,rfl,hc,e1⟩
    |succ j=>simpa using h2 j c' (by simpa using hj)
   cases h
  cases h
def adB(ty:fP)(rs:List ResultVar)(gW:List (Option TT))(n:Nat)(Q:TV->List (List TV)->Prop)(e:DX)(te:List TV)(tS:List TB):Prop:=
 (match e with|.exit _=>False|_=>True)/\∃vs FB,xJ ty te tS rs=some vs/\vs.all eG=true/\BW (jB (bG gW vs))=true/\Kl n tS (List.range n)=some FB/\Q (jB (bG gW vs)) FB
theorem Xx{bM:bS}{L n:Nat}{f:FuncId}{fn:Func}{c:Code}{targs:List TV}{tP:List (List TV)}{gW:List (Option TT)}{Q:TV->List (List TV)->Prop}(hf:P.funcs[f]? =some fn)(hb:fn.body=some c)
  (h:WT P ty (CG P ty bM L n) (uG P ty bM L n) (yfN P ty bM L n) (List.range tP.length) L f false c (targs++List.replicate (fn.ntmps-targs.length) .unk) (tP.map .cells) (adB ty fn.results.toList gW tP.length Q)):B1 (uG P ty bM L (n+1)) f targs tP Q:=by
 intro ι bR S hR;have hlen:=iq hR.env;have mS:bT ι (targs++List.replicate (fn.ntmps-targs.length) .unk) (tP.map .cells) (bR++List.replicate (fn.ntmps-bR.length) bE) S:=
  ⟨eN hR.env (by rw[hlen];exact vF _ _),hR.cells,hR.own,hR.qv,hR.inj,hR.mp⟩
 obtain⟨e,aK,S',ι',bZ,bN,h1,h2,h3,h4,h5,h6⟩:=h ι _ S mS (λk hk=>(by
  have hk:k<tP.length:=by simpa using hk
  exact⟨some tP[k],by simp[hk,lC]⟩))
 obtain⟨h6,vs,FB,h7,h8,h9,wO,h13⟩:=h6;obtain⟨ds,k1,k2⟩:=vI h2 h7;obtain⟨hl,hg⟩:=G9 wO;refine⟨oneOf ds,S',ι',_,FB,?_,GX (ts:=gW) h8 k2,h9,by simpa using hl,λj l hj=>?_,h4,h5,h13⟩
 .simp only[uG,ej,hf,uH,hb];have HU:cW P ty (mc bM (ej P ty bM L n).1) (ej P ty bM L n).1 (ej P ty bM L n).2 L f false c (bR++List.replicate (fn.ntmps-bR.length) bE) S=some (e,aK,S'):=h1;rw[HU];cases e with
  |normal=>simp only[k1,av]
  |ret=>simp only[k1,av]
  |exit id=>exact h6.elim
 simp only[cR,af,TB.cells.injEq]at hj;obtain⟨c',q1,rfl⟩:=hj;obtain⟨k,c0,q2,q3,q4⟩:=hg j c' q1;have:k=j:=by
  rw[List.getElem?_range]at q2;.cases q2;rfl
  have:=(az.1 q2).1;simpa using this
 subst this;obtain⟨k',iJ,m1,m2,m3⟩:=h2.cells k c0 q3;exact⟨k',iJ,m1,m2,Lt q4 m3⟩
def dedup:List Nat->List Nat
 |[]=>[]
 |a::l=>if(dedup l).contains a then dedup l else a::dedup l
theorem wG:∀{l:List Nat}{k:Nat},k∈dedup l↔k∈l
 |[],_=>Iff.rfl
 |a::l,k=>by
  unfold dedup;split;.rename_i h;rw[wG,bz];have ha:a∈l:=wG.1 (by simpa using h);exact⟨.inr,λh=>h.elim (λe=>e▸ha) id⟩
  rw[bz,bz,wG]
theorem vr:∀{l:List Nat},ng (dedup l)=true
 |[]=>rfl
 |a::l=>by
  unfold dedup;split;.exact vr
  rename_i h;simp only[ng,vr,s8,o7];simpa using h
def Vw(tt:TypeId->Option TT)(md:Nat)(tS:List TB)(A:List TV)(ts:List (Option TT))(X L:List Nat):Option (List TV×List (List TV)):=
 if A.any isRef&&!L.isEmpty&&(md==0||(A.all (Gv X)&&X.all (tQ tS X)&&C6 A))then
  match uv (loc L) ts A,J4 (loc L) tS L with
  |some targs,some tP=>some (targs,tP)
  |_,_=>none
 else none
def Nt(tt:TypeId->Option TT)(md:Nat)(te:List TV)(tS:List TB)(o:Oper):Option (FuncId×List Nat×List TV×List (List TV)):=
 match o.op with
 |.call {callee:=.value f,args,argTypes}=>match fM te f,lV te args.toList with
  |some (.fn g fs cs),some xs=>match Vw tt md tS (fs++xs++cs) (gm tt fs argTypes) (gh tS (fs++xs++cs)) (dedup (gh tS (fs++xs++cs)))with
   |some (targs,tP)=>some (g,dedup (gh tS (fs++xs++cs)),targs,tP)
   |none=>none
  |_,_=>none
 |_=>none
theorem Sn{md:Nat}{g:FuncId}{targs:List TV}{tP:List (List TV)}(h:Nt tt md te tS o=some (g,L,targs,tP)):
  ∃f args argTypes fs cs xs,o.op=.call {callee:=.value f,args,argTypes}/\fM te f=some (.fn g fs cs)/\lV te args.toList=some xs/\ng L=true/\(∀k,k∈gh tS (fs++xs++cs)↔k∈L)/\L≠[]/\uv (loc L) (gm tt fs argTypes) (fs++xs++cs)=some targs/\(fs++xs++cs).any isRef=true/\J4 (loc L) tS L=some tP/\
   (md≠0->(fs++xs++cs).all (Gv (gh tS (fs++xs++cs)))=true/\(gh tS (fs++xs++cs)).all (tQ tS (gh tS (fs++xs++cs)))=true/\C6 (fs++xs++cs)=true):=by
 unfold Nt at h;split at h
 .rename_i f args argTypes hop;split at h
  .rename_i g' fs cs xs h1 h2;split at h
   .rename_i aiu FB h3;cases h;unfold Vw at h3;split at h3
    .rename_i hc;simp only[aA,gP,dU,o7]at hc;obtain⟨⟨c1,c2⟩,c3⟩:=hc;split at h3;.rename_i a b e1 e2;cases h3;refine⟨f,args,argTypes,fs,cs,xs,hop,h1,h2,vr,λk=>wG.symm,λe=>(by rw[e]at c2;cases c2),e1,c1,e2,λhm=>?_⟩;obtain⟨⟨c4,c5⟩,c6⟩:=c3.resolve_left hm;exact⟨c4,c5,c6⟩
     cases h3
    cases h3
   cases h
  cases h
 cases h
end Go.Tv
namespace Go.Tv
open Go Go.Di Go.Proofs
def jY(tS:List TB)(k:Nat):Bool:=
 match tS[k]? with
 |some (.cells _)=>true
 |_=>false
mutual
def eL(tS:List TB):TV->TV
 |.sl t l (.kA _)=>.sl t l .no
 |.sl t l (.Cz _)=>.sl t l .no
 |.ptr id off=>match jY tS id with
  |true=>.ptr id off
  |false=>.unk
 |.mp id=>.unk
 |.so _ _=>.unk
 |.sp _ _ _ _=>.unk
 |.oq _ _ _=>.unk
 |.agg l=>.agg (gf tS l)
 |.tup l=>.tup (gf tS l)
 |.fn f a b=>.fn f (gf tS a) (gf tS b)
 |v=>v
def gf(tS:List TB):List TV->List TV
 |[]=>[]
 |a::l=>eL tS a::gf tS l
end
def dI:Nat->List TB->List Nat
 |_,[]=>[]
 |i,.cells _::l=>i::dI (i+1) l
 |i,.loop::l=>i::dI (i+1) l
 |i,_::l=>dI (i+1) l
variable {P:Program} {ty:fP} {tt:TypeId->Option TT} {ι ι' w:lq} {S S':ai} {te:List TV} {env:List DV} {tS:List TB} {aI:bS} {call:bt} {yf:ew} {o:Oper} {aD nT:Nat} {B:List Nat}
theorem vk{k:Nat}:∀{tS:List TB}{i:Nat},k∈dI i tS↔i<=k/\∃c,tS[k-i]? =some (lC c)
 |[],i=>by simp[dI]
 |b::l,i=>by
  have ih:=vk (k:=k) (tS:=l) (i:=i+1);have hs:∀(c:Option (List TV)),i+1<=k->((b::l)[k-i]? =some (lC c)↔l[k-(i+1)]? =some (lC c)):=λc h=>by rw[show k-i=(k-(i+1))+1 by omega,List.getElem?_cons_succ]
  have yes:∀c0,b=lC c0->((k=i\/k∈dI (i+1) l)↔i<=k/\∃c,(b::l)[k-i]? =some (lC c)):=λc0 hb=>by
   rw[ih];constructor
   .rintro(rfl|⟨h1,c,h2⟩);.exact⟨aj _,c0,by simp[hb]⟩
    exact⟨by omega,c,(hs c h1).2 h2⟩
   rintro⟨h1,c,h2⟩;by_cases e:k=i;.exact .inl e
   exact .inr ⟨by omega,c,(hs c (by omega)).1 h2⟩
  have no:(∀c,b≠lC c)->(k∈dI (i+1) l↔i<=k/\∃c,(b::l)[k-i]? =some (lC c)):=λhb=>by
   rw[ih];constructor;.rintro⟨h1,c,h2⟩;exact⟨by omega,c,(hs c h1).2 h2⟩
   rintro⟨h1,c,h2⟩;by_cases e:k=i;.subst e;simp only[Nat.sub_self,cg,aB]at h2;exact(hb c h2).elim
   exact⟨by omega,c,(hs c (by omega)).1 h2⟩
  cases b with
  |cells c0=>simp only[dI,bz];exact yes (some c0) rfl
  |loop=>simp only[dI,bz];exact yes none rfl
  |none=>simp only[dI];exact no λc e=>by cases c<;>cases e
  |map kt0 c0=>simp only[dI];exact no λc e=>by cases c<;>cases e
  |rows t0 e0 c0 z0=>simp only[dI];exact no λc e=>by cases c<;>cases e
  |own e0 s0=>simp only[dI];exact no λc e=>by cases c<;>cases e
theorem sr{k:Nat}{c:Option (List TV)}(h:tS[k]? =some (lC c)):k∈dI 0 tS:=vk.2 ⟨mw _,c,h⟩
theorem LF{k:Nat}{c:List TV}(h:tS[k]? =some (.cells c)):k∈dI 0 tS:=sr (c:=some c) h
theorem VD:oK (dI 0 tS) tS:=λ_ hk=>(vk.1 hk).2
mutual
theorem PB(hi:∀k,jY tS k=true->ι' k=ι k):∀(v:TV)(d:DV),RT ι S v d->RT ι' S' (eL tS v) d
 |.unk,_,_=>by simp only[eL,RT]
 |.val _,d,k=>by cases d<;>simp only[RT,eL]at k⊢;exact k
 |.au,d,k=>by cases d<;>simp only[RT,eL]at k⊢;exact k
 |.agg l,d,k=>by cases d<;>simp only[RT,eL]at k⊢;exact j6 hi l _ k
 |.tup l,d,k=>by cases d<;>simp only[RT,eL]at k⊢;exact j6 hi l _ k
 |.sl t l .no,d,k=>by cases d<;>simp only[RT,eL]at k⊢;exact k
 |.sl t l .full,d,k=>by cases d<;>simp only[RT,eL]at k⊢;exact k
 |.sl t l (.stop _),d,k=>by cases d<;>simp only[RT,eL]at k⊢;exact⟨k.1,trivial⟩
 |.sl t l (.Cz g),d,k=>by cases d<;>simp only[RT,eL]at k⊢;exact⟨k.1,trivial⟩
 |.sl t l (.kA g),d,k=>by cases d<;>simp only[RT,eL]at k⊢;exact⟨k.1,trivial⟩
 |.ptr id off,d,k=>by
  cases d<;>simp only[RT]at k;simp only[eL];split;.rename_i hc;simp only[RT];exact⟨(hi _ hc).trans k.1,k.2⟩
  simp only[RT]
 |.fF t l i off,d,k=>by cases d<;>simp only[RT,eL]at k⊢;exact k
 |.mp id,d,_=>by simp only[RT,eL]
 |.so g t,d,_=>by simp only[RT,eL]
 |.sp g t i off,d,_=>by simp only[RT,eL]
 |.oq _ _ _,d,_=>by simp only[RT,eL]
 |.fn f a b,d,k=>by cases d<;>simp only[RT,eL]at k⊢;exact⟨k.1,j6 hi a _ k.2.1,j6 hi b _ k.2.2⟩
theorem j6(hi:∀k,jY tS k=true->ι' k=ι k):∀(l:List TV)(m:List DV),cQ ι S l m->cQ ι' S' (gf tS l) m
 |[],m,k=>by rw[aP k];simp only[gf];exact bL
 |a::l,m,k=>by obtain⟨d,m',rfl,h1,h2⟩:=ak k;simp only[gf];exact aQ (PB hi a d h1) (j6 hi l m' h2)
end
end Go.Tv
namespace Go.Tv
open Go Go.Di Go.Proofs
variable {P:Program} {ty:fP} {ι ι' w:lq} {S S':ai} {te:List TV} {env:List DV} {tS:List TB} {aI:bS} {call:bt} {yf:ew} {B:List Nat}
def oE:List TV->List (Tmp×TV)->List TV
 |te,[]=>te
 |te,(t,v)::l=>oE (te.set t v) l
theorem Pu:∀{ps:List Tmp}{te:List TV}{env:List DV}{xs:List TV}{ds:List DV},cQ ι S te env->cQ ι S xs ds->cQ ι S (oE te (ps.zip xs)) (tK env (ps.zip ds))
 |[],te,env,xs,ds,h,k=>by simpa [oE,tK]using h
 |p::ps,te,env,[],ds,h,k=>by rw[aP k];simpa [oE,tK]using h
 |p::ps,te,env,x::xs,ds,h,k=>by obtain⟨d,m,rfl,k1,k2⟩:=ak k;simp only[List.zip_cons_cons,oE,tK];exact Pu (C2 p h k1) k2
def DG(ι:lq)(k:Nat):lq:=λj=>if j=k then none else ι j
theorem zc{k j:Nat}(h:j≠k):DG ι k j=ι j:=if_neg h
theorem gJ{k j id:Nat}(h:DG ι k j=some id):j≠k/\ι j=some id:=by
 unfold DG at h;split at h;.cases h
 exact⟨‹_›,h⟩
theorem K9(h:bT ι te tS env S){k:Nat}(hr:(eH te++oF tS).contains k=false):bT (DG ι k) te (tS.set k .none) env S:=by
 have hk:∀j,j∈eH te++oF tS->j≠k:=λj hj e=>by
  subst e;have:(eH te++oF tS).contains j=true:=by simpa using hj
  rw[this]at hr;cases hr
 have bh:∀j b,(tS.set k .none)[j]? =some b->b≠.none->j≠k/\tS[j]? =some b:=λj b hj hb=>by
  rw[aF]at hj;split at hj
  .split at hj;.cases hj;exact absurd rfl hb
   cases hj
  rename_i e;exact⟨λe'=>e e'.symm,hj⟩
 refine⟨kR _ _ (λj hj=>zc (hk j (qU _ hj))) h.env,λj l hj=>?_,λj e s hj t ht=>?_,λj k' hj=>?_,λi j k' hi hj=>h.inj i j k' (gJ hi).2 (gJ hj).2,λj b hj t ht=>?_⟩;.obtain⟨h1,h2⟩:=bh j _ hj (by simp);obtain⟨k',ds,n1,n2,n3⟩:=h.cells j l h2;exact⟨k',ds,(zc h1).trans n1,n2,kR _ _ (λi hi=>zc (hk i (List.mem_append_right _ (Bl h2 hi)))) n3⟩
 .obtain⟨h1,h2⟩:=bh j _ hj (by simp);exact h.own j e s h2 t (gJ ht).2
 .obtain⟨h1,h2⟩:=gJ hj;obtain⟨b,h3,h4⟩:=h.qv j k' h2;exact⟨b,by rw[aF,if_neg λe=>h1 e.symm];exact h3,h4⟩
 by_cases hb:b=.none;.subst hb;trivial
 exact h.mp j b (bh j b hj hb).2 t (gJ ht).2
theorem Bg(h:bT ι te tS env S){id:Nat}{b:DB}(hn:∀k,ι k≠some id):bT ι te tS env (S.set id b):=by
 have hg:∀{k k'},ι k=some k'->(S.set id b)[k']? =S[k']? :=λ{k k'} hk=>by rw[aF,if_neg (λ(e:id=k')=>hn k (by rw[e];exact hk))]
 have K:jE ι S ι (S.set id b) λ_=>False:=λk k' _ hk=>⟨hk,dY (hg hk)⟩;refine⟨bu K _ _ h.env,λk l hk=>?_,λk e s hk t ht=>?_,h.qv,h.inj,λk c hk t ht=>by rw[hg ht];exact h.mp k c hk t ht⟩;.obtain⟨k',ds,n1,n2,n3⟩:=h.cells k l hk;exact⟨k',ds,n1,(hg n1).trans n2,bu K _ _ n3⟩
 obtain⟨n,h1⟩:=h.own k e s hk t ht;exact⟨n,(hg ht).trans h1⟩
theorem K8{k id:Nat}{r:Gz}(h:bT ι te tS env S)(hk:tS[k]? =some .none)(hn:∀k,ι k≠some id)(hid:S[id]? =some (.loop r))(hrr:r.st=.ready/\r.kD=none):bT (upd ι k id) te (tS.set k .loop) env S:=by
 have hno:ι k=none:=by
  cases e:ι k with
  |none=>rfl
  |some k'=>obtain⟨b,h1,h2⟩:=h.qv k k' e;rw[hk]at h1;cases h1;exact absurd rfl h2
 have hlt:=(az.1 hk).1;have hu:∀{j k'},ι j=some k'->upd ι k id j=some k':=λ{j k'} hj=>by
  unfold upd;rw[if_neg];.exact hj
  rintro rfl;rw[hno]at hj;cases hj
 have K:jE ι S (upd ι k id) S λ_=>False:=λj k' _ hj=>⟨hu hj,dY rfl⟩;have cT:∀{j k'},upd ι k id j=some k'->(j=k/\k'=id)\/(j≠k/\ι j=some k'):=λ{j k'} hj=>by
  unfold upd at hj;split at hj;.rename_i e;cases hj;exact .inl ⟨e,rfl⟩
  rename_i e;exact .inr ⟨e,hj⟩
 have bh:∀{j b},(tS.set k .loop)[j]? =some b->(j=k/\b=.loop)\/(j≠k/\tS[j]? =some b):=λ{j b} hj=>by
  rw[aF]at hj;split at hj
  .rename_i e;first|(rw[if_pos hlt]at hj;cases hj)|cases hj
   exact .inl ⟨e.symm,rfl⟩
  rename_i e;exact .inr ⟨λe'=>e e'.symm,hj⟩
 refine⟨bu K _ _ h.env,λj l hj=>?_,λj e s hj t ht=>?_,λj k' hj=>?_,λi j k' hi hj=>?_,λj b hj t ht=>?_⟩
 .rcases bh hj with ⟨-,e⟩|⟨h1,h2⟩;.cases e
  obtain⟨k',ds,n1,n2,n3⟩:=h.cells j l h2;exact⟨k',ds,hu n1,n2,bu K _ _ n3⟩
 .rcases bh hj with ⟨-,e⟩|⟨h1,h2⟩;.cases e
  rcases cT ht with ⟨e,-⟩|⟨-,h3⟩;.exact absurd e h1
  exact h.own j _ _ h2 t h3
 .rcases cT hj with ⟨rfl,rfl⟩|⟨h1,h2⟩;.exact⟨.loop,by rw[aF,if_pos rfl,if_pos hlt],by simp⟩
  obtain⟨b,h3,h4⟩:=h.qv j k' h2;exact⟨b,by rw[aF,if_neg λe=>h1 e.symm];exact h3,h4⟩
 .rcases cT hi with ⟨rfl,rfl⟩|⟨h1,h2⟩<;>rcases cT hj with ⟨rfl,h3⟩|⟨h4,h5⟩;.rfl
  .exact(hn _ h5).elim
  .subst h3;exact(hn _ h2).elim
  exact h.inj i j k' h2 h5
 rcases bh hj with ⟨rfl,rfl⟩|⟨h1,h2⟩
 .rcases cT ht with ⟨-,rfl⟩|⟨h3,-⟩;.exact⟨r,hid,hrr⟩
  exact absurd rfl h3
 rcases cT ht with ⟨e,-⟩|⟨-,h3⟩;.exact absurd e h1
 exact h.mp j b h2 t h3
theorem WR{k id BI:Nat}{sP:FuncId}{Ao xs:List TV}{ps:List Tmp}{oJ body:Code}{AE bR:List DV}{K:List TB->Prop}(hR:bT ι xs tS bR S)(hB:oK B tS)(hkB:k∉B)(hk:ι k=some id)(htk:tS[k]? =some .loop)(hS:S[id]? =some (.loop ⟨.ready,none,sP,AE,ps,oJ,body,BI⟩))(hE:cQ ι S Ao AE)
  (hlen:xs.length=ps.length) (hr:(eH (oE Ao (ps.zip xs))++oF tS).contains k=false)
  (h:WT P ty aI call yf B LL sP true oJ (oE Ao (ps.zip xs)) (tS.set k .none) λe mM iT=>e=.normal/\WT P ty aI call yf B LL sP true body mM iT λe _ jV=>e=.normal/\jV[k]? =some .none/\K jV):
  ∃S' ι' jV,uQ P ty aI call yf LL id bR S=some (.val (.bool true),S')/\bT ι' [] (jV.set k .loop) [] S'/\oK B (jV.set k .loop)/\Fr B ι S ι' S'/\Nn S.length S S'/\S'[id]? =S[id]? /\ι' k=some id/\K jV:=by
 have hRe:bT ι (oE Ao (ps.zip xs)) tS (tK AE (ps.zip bR)) S:=⟨Pu hE hR.env,hR.cells,hR.own,hR.qv,hR.inj,hR.mp⟩;have QX:∀j∈B,j≠k:=λj hj e=>hkB (e▸hj);have hB0:oK B (tS.set k .none):=λj hj=>by obtain⟨l,h1⟩:=hB j hj;exact⟨l,by rw[aF,if_neg λe=>QX j hj e.symm];exact h1⟩
 have hlv:Lv S id:=⟨_,hS,by simp⟩;have afx:∀j,DG ι k j≠some id:=λj hj=>by obtain⟨h1,h2⟩:=gJ hj;exact h1 (hR.inj j k id h2 hk)
 obtain⟨e1,qz,S1,ι1,mM,iT,a1,a2,a3,a4,a5,rfl,h2⟩:=h _ _ S (K9 hRe hr) hB0;have b1:S1[id]? =S[id]? :=a4.rest id hlv afx;have b2:∀j,ι1 j≠some id:=λj hj=>by
  rcases a4.ours j id hj with ⟨i,hi⟩|hn;.exact afx i hi
  exact hn hlv
 have afy:id<S1.length:=by rw[hS]at b1;exact(az.1 b1).1
 obtain⟨e2,adn,S2,ι2,Ti,jV,c1,c2,c3,c4,c5,rfl,c6,c7⟩:=h2 _ _ (S1.set id (.loop ⟨.busy,none,sP,AE,ps,oJ,body,BI⟩)) (Bg a2 b2) a3;have Fv:Lv (S1.set id (.loop ⟨.busy,none,sP,AE,ps,oJ,body,BI⟩)) id:=⟨_,by rw[aF,if_pos rfl,if_pos afy],by simp⟩;have d1:S2[id]? =some (.loop ⟨.busy,none,sP,AE,ps,oJ,body,BI⟩):=by rw[c4.rest id Fv b2,aF,if_pos rfl,if_pos afy]
 have d2:∀j,ι2 j≠some id:=λj hj=>by
  rcases c4.ours j id hj with ⟨i,hi⟩|hn;.exact b2 i hi
  exact hn Fv
 have ahT:=(az.1 d1).1;have d3:(S2.set id (.loop ⟨.ready,none,sP,AE,ps,oJ,body,BI⟩))[id]? =some (.loop ⟨.ready,none,sP,AE,ps,oJ,body,BI⟩):=by rw[aF,if_pos rfl,if_pos ahT]
 have Zj:∀j,j≠id->(S1.set id (.loop ⟨.busy,none,sP,AE,ps,oJ,body,BI⟩))[j]? =S1[j]? :=λj hj=>by rw[aF,if_neg λe=>hj e.symm]
 have afu:∀j,j≠id->(S2.set id (.loop ⟨.ready,none,sP,AE,ps,oJ,body,BI⟩))[j]? =S2[j]? :=λj hj=>by rw[aF,if_neg λe=>hj e.symm]
 have c2':bT ι2 [] jV [] S2:=⟨bL,c2.cells,c2.own,c2.qv,c2.inj,c2.mp⟩;have JY:ι2 k=none:=by
  cases e:ι2 k with
  |none=>rfl
  |some k'=>obtain⟨b,h3,h4⟩:=c2.qv k k' e;rw[c6]at h3;cases h3;exact absurd rfl h4
 have hRn:=K8 (Bg (b:=.loop ⟨.ready,none,sP,AE,ps,oJ,body,BI⟩) c2' d2) c6 d2 d3 ⟨rfl,rfl⟩;refine⟨_,_,jV,?_,hRn,λj hj=>?_,⟨λk' hl hn=>?_,λj k' hj=>?_,λj hj=>?_⟩,⟨?_,λj hj dA=>?_⟩,by rw[d3,hS],by simp[upd],c7⟩
 .have hdl:bR.length=ps.length:=by have:=iq hR.env;omega
  unfold uQ;rw[hS];simp only[hdl,if_true,a1];rw[hS]at b1;simp only[b1,if_true,c1,d1]
 .obtain⟨l,h3⟩:=c3 j hj;exact⟨l,by rw[aF,if_neg λe=>QX j hj e.symm];exact h3⟩
 .have hne:k'≠id:=λe=>hn k (e▸hk);have h3:=a4.rest k' hl λj hj=>hn j (gJ hj).2;have ahQ:Lv (S1.set id (.loop ⟨.busy,none,sP,AE,ps,oJ,body,BI⟩)) k':=by obtain⟨b,h4,h5⟩:=hl;exact⟨b,(Zj k' hne).trans (h3.trans h4),h5⟩
  have h6:=c4.rest k' ahQ λj hj=>by
   rcases a4.ours j k' hj with ⟨i,hi⟩|h7;.exact hn i (gJ hi).2
   exact h7 hl
  rw[afu k' hne,h6,Zj k' hne,h3]
 .unfold upd at hj;split at hj;.cases hj;exact .inl ⟨k,hk⟩
  by_cases hl:Lv S k'
  .by_cases hn:∃j,ι j=some k';.exact .inl hn
   have hne:k'≠id:=λe=>hn ⟨k,e▸hk⟩;have h3:=a4.rest k' hl λj hj=>hn ⟨j,(gJ hj).2⟩;rcases c4.ours j k' hj with ⟨i,hi⟩|h7
   .rcases a4.ours i k' hi with ⟨i',JO⟩|h8;.exact .inl ⟨i',(gJ JO).2⟩
    exact(h8 hl).elim
   refine(h7 ?_).elim;obtain⟨b,h4,h5⟩:=hl;exact⟨b,(Zj k' hne).trans (h3.trans h4),h5⟩
  exact .inr hl
 .unfold upd;rw[if_neg (QX j hj),c4.base j hj,a4.base j hj,zc (QX j hj)]
 .have h3:=a5.1;have h4:=c5.1;simp only[List.length_set]at h4⊢;omega
 have hne:j≠id:=λe=>by rw[e,hS]at dA;cases dA
 have hlt:=(az.1 dA).1;have h3:=a5.2 j hj dA;have h4:=c5.2 j (by simp only[List.length_set];have:=a5.1;omega) ((Zj j hne).trans h3);rw[afu j hne];exact h4
end Go.Tv
namespace Go.Tv
open Go Go.Di Go.Proofs
variable {P:Program} {ty:fP} {tt:TypeId->Option TT} {ι ι' w:lq} {S S':ai} {te:List TV} {env:List DV} {tS:List TB} {aI H7:bS} {call yR:bt} {yf YB:ew} {o:Oper} {aD nT:Nat} {B:List Nat}
def pO(k:Nat):Nat->List TB->List TB->List TB
 |i,b::l,c::m=>(match b,c with
  |.cells _,.cells x=>.cells x
  |_,.loop=>if i=k then .loop else .none
  |_,_=>.none)::pO k (i+1) l m
 |_,_,_=>[]
theorem vQ{k:Nat}:∀{i:Nat}{l m:List TB},CC (pO k i l m) m
 |_,[],m=>by unfold pO;exact .nil
 |_,_::_,[]=>by unfold pO;exact .nil
 |i,b::l,c::m=>by
  unfold pO;split;.exact .cells (jW.refl _) vQ
  .split;.exact .loop vQ
   exact .none vQ
  exact .none vQ
theorem Qz{k:Nat}:∀{i:Nat}{l m:List TB}{j:Nat}{b:TB},(pO k i l m)[j]? =some b->b=.none\/(∃c x,l[j]? =some (.cells c)/\b=.cells x)\/(i+j=k/\b=.loop)
 |_,[],_,_,_,h=>by simp[pO]at h
 |_,_::_,[],_,_,h=>by simp[pO]at h
 |i,a::l,c::m,0,b,h=>by
  unfold pO at h;simp only[cg,aB]at h;subst h;split;.exact .inr (.inl ⟨_,_,rfl,rfl⟩)
  .split;.rename_i e;exact .inr (.inr ⟨by omega,rfl⟩)
   exact .inl rfl
  exact .inl rfl
 |i,a::l,c::m,j+1,b,h=>by
  unfold pO at h;rcases Qz (l:=l) (m:=m) (i:=i+1) (j:=j) (by simpa using h)with h|⟨c,x,h1,h2⟩|⟨h1,h2⟩;.exact .inl h
  .exact .inr (.inl ⟨c,x,by simpa using h1,h2⟩)
  exact .inr (.inr ⟨by omega,h2⟩)
def uF(tS:List TB)(k:Nat):TV->TV
 |.oq k' fn t=>if k'=k then .oq k' fn (gf tS t)else .unk
 |v=>eL tS v
theorem WO{k id:Nat}(hi:∀j,jY tS j=true->ι' j=ι j)(hk:ι k=some id)(rq:ι' k=some id)(hS:S'[id]? =S[id]?){v:TV}{d:DV}(h:RT ι S v d):RT ι' S' (uF tS k v) d:=by
 unfold uF;split
 .rename_i k' fn t;split;.rename_i e;subst e;cases d<;>simp only[RT]at h⊢;obtain⟨h1,ps,a,b,env,BI,h4,h2,h3⟩:=h;rw[hk]at h1;cases h1;exact⟨rq,ps,a,b,env,BI,h4,hS.trans h2,j6 hi _ _ h3⟩
  simp only[RT]
 exact PB hi _ _ h
theorem GN{k id:Nat}(hi:∀j,jY tS j=true->ι' j=ι j)(hk:ι k=some id)(rq:ι' k=some id)(hS:S'[id]? =S[id]?):∀{l:List TV}{m:List DV},cQ ι S l m->cQ ι' S' (l.map (uF tS k)) m
 |[],m,h=>by rw[aP h];exact bL
 |a::l,m,h=>by obtain⟨d,m',rfl,h1,h2⟩:=ak h;exact aQ (WO hi hk rq hS h1) (GN hi hk rq hS h2)
def oA(k:Nat)(tS:List TB):List Nat:=(dI 0 tS).filter (·!=k)
theorem Io{k j:Nat}:j∈oA k tS↔j∈dI 0 tS/\j≠k:=by simp[oA]
theorem Oo{f:Operand}{args:Array Operand}{argTypes:Array TypeId}{k:Nat}{sP:FuncId}{Ao xs:List TV}{ps:List Tmp}{oJ body:Code}{K:List TB->Prop}{dr:Bool}(hop:o.op=.call {callee:=.value f,args,argTypes})(hyf:yf=uQ P ty H7 yR YB LL)(hf:fM te f=some (.oq k sP Ao))(hrf:CF sP=some (ps,oJ,body))(ha:lV te args.toList=some xs)
  (htk:tS[k]? =some .loop) (hlen:xs.length=ps.length) (hr:(eH (oE Ao (ps.zip xs))++oF tS).contains k=false)
  (h:WT P ty H7 yR YB (oA k tS) LL sP true oJ (oE Ao (ps.zip xs)) (tS.set k .none) λe mM iT=>e=.normal/\WT P ty H7 yR YB (oA k tS) LL sP true body mM iT λe _ jV=>e=.normal/\jV[k]? =some .none/\K jV)
  (hK:∀jV,K jV->okB (te.map (uF tS k)) (pO k 0 tS (jV.set k .loop))=true/\∀j∈dI 0 tS,mb (pO k 0 tS (jV.set k .loop)) j=true):
  Does P ty aI call yf B o nT te tS dr λv bZ bN ft=>∃jV,K jV/\v=.val (.bool true)/\bZ=te.map (uF tS k)/\bN=pO k 0 tS (jV.set k .loop)/\ft=⟨none,true⟩:=by
 intro ι w env S aD hR hB hw hT Fu hS;obtain⟨d,k1,k2⟩:=bD hR.env hf;obtain⟨FA,k3,k4⟩:=s6 hR.env ha;cases d<;>simp only[RT]at k2;rename_i id;obtain⟨hk,ps',ai0,aiD,AE,BI,afq,hl,hE⟩:=k2;rw[hrf]at afq;cases afq;obtain⟨S',ι',jV,a1,a2,a3,a4,a5,a6,a7,a8⟩:=WR (K:=K) (B:=oA k tS) ⟨k4,hR.cells,hR.own,hR.qv,hR.inj,hR.mp⟩ (λj hj=>VD j (Io.1 hj).1) (λh=>(Io.1 h).2 rfl) hk htk hl hE hlen hr h;obtain⟨c1,c2⟩:=hK jV a8
 replace c2:∀j∈B,mb (pO k 0 tS (jV.set k .loop)) j=true:=λj hj=>by obtain⟨l,h1⟩:=hB j hj;exact c2 j (sr h1)
 have jm:∀j,jY tS j=true->ι' j=ι j:=λj hj=>by
  unfold jY at hj;split at hj;.rename_i c hc;exact a4.base j (Io.2 ⟨LF hc,λe=>by rw[e,htk]at hc;cases hc⟩)
  cases hj
 have CW:bT ι' (te.map (uF tS k)) (jV.set k .loop) env S':=⟨GN jm hk a7 a6 hR.env,a2.cells,a2.own,a2.qv,a2.inj,a2.mp⟩;have Dv:∀j,j∈B->j≠k->j∈oA k tS:=λj hj hjk=>by obtain⟨l,h1⟩:=hB j hj;exact Io.2 ⟨sr h1,hjk⟩
 have hkl:(jV.set k TB.loop)[k]? =some .loop:=by obtain⟨b,q1,-⟩:=a2.qv k id a7;have:=(az.1 q1).1;rw[aF,if_pos rfl,if_pos (by simpa using this)]
 have hBy:oK B (jV.set k .loop):=λj hj=>by
  by_cases e:j=k;.subst e;exact⟨none,hkl⟩
  exact a3 j (Dv j hj e)
 have hBc:=zW vQ hBy c2;obtain⟨ι1,e1,e2,e3⟩:=zG CW (jW.refl _) vQ c1 hBc;have hold:∀j k',ι1 j=some k'->ι j=some k':=λj k' hj=>by
  rw[e3]at hj;split at hj
  .rename_i hlv;unfold mb at hlv;cases hc:(pO k 0 tS (jV.set k .loop))[j]? with
   |none=>rw[hc]at hlv;cases hlv
   |some b=>
    rcases Qz hc with rfl|⟨c,x,h1,-⟩|⟨h1,-⟩;.rw[hc]at hlv;cases hlv
    .rw[jm j (by unfold jY;rw[h1])]at hj;exact hj
    have:j=k:=by omega
    subst this;rw[a7]at hj;rw[hk];exact hj
  cases hj
 have hst:ah P ty aI call yf (jy env) o S aD=some (.val (.bool true),S'):=by subst hyf;simp only[ah,hop,k1,k3,a1]
 refine⟨.val (.bool true),S',ι1,w,.val (.bool true),te.map (uF tS k),pO k 0 tS (jV.set k .loop),⟨none,true⟩,⟨none,true⟩,λ_=>hst,λ_=>?_,⟨λe=>e,λl hl=>(by cases hl)⟩,λl m hl=>(by cases hl),e1,by simp only[RT],λj k' hj=>hw j k' (hold j k' hj),λ_ _ _=>rfl,⟨λk' hl hn=>a4.rest k' hl hn,λj k' hj=>.inl ⟨j,hold j k' hj⟩,λj hj=>?_⟩,hBc,⟨a5.1,λj hj dA=>?_⟩,jV,a8,rfl,rfl,rfl,rfl⟩;.subst hyf;simp only[aJ,hop,k1,k3,a1,av]
 .rw[e2.base j hj];by_cases e:j=k;.rw[e,a7,hk]
  exact a4.base j (Dv j hj e)
 have:=(az.1 dA).1;exact a5.2 j (by omega) dA
end Go.Tv
