import Derived.Test.YtedcgbkilmlbhaaGreatPk07
namespace Go.Tv
open Go Go.Di Go.Proofs
variable {P:Program} {ty:gb} {tt:TypeId->cJ} {ι ι' w:lp} {S S':ai} {te:cp} {env:cj} {tS:cx} {aI:b9} {call:bG} {yf:ez} {o:Oper} {aC nT:Nat} {B L:cy}
def xk:TV->cy
 |.ptr k _=>[k]
 |_=>[]
def ji:TV->cy
 |.ptr k _=>[k]
 |.fn _ a b=>a.flatMap xk++b.flatMap xk
 |_=>[]
def Gr(tS:cx)(k:Nat):cy:=
 match tS[k]? with
 |some (.cells l)=>l.flatMap ji
 |_=>[]
def xq(tS:cx)(X:cy):cy:=X++(X.flatMap (Gr tS)).filter λi=>!X.contains i
def gp(tS:cx)(A:cp):cy:=xq tS (xq tS (xq tS (A.flatMap ji)))
def B7(X:cy):TV->Bool
 |.ptr k _=>X.contains k
 |v=>kX v
def V6(X:cy):TV->Bool
 |.ptr k _=>X.contains k
 |.fn _ a b=>a.all (B7 X)&&b.all (B7 X)
 |v=>kX v
def GF(X:cy):TV->Bool
 |.ptr k _=>X.contains k
 |.fn _ a b=>a.all (B7 X)&&b.all (B7 X)
 |v=>eV v
def uw(tS:cx)(X:cy)(k:Nat):Bool:=
 match tS[k]? with
 |some (.cells l)=>l.all (V6 X)
 |_=>false
abbrev ni(ι:lp)(k:Nat):Nat:=(ι k).getD 0
theorem SA{X:cy}{v:TV}{d:DV}(hg:B7 X v=true)(h:RT ι S v d):Vh d=(xk v).map (ni ι)/\∀k∈xk v,∃k',ι k=some k':=by
 cases v<;>first|(cases hg;done)|skip
 cases d<;>simp only[RT]at h;exact⟨rfl,by simp[xk]⟩;cases d<;>simp only[RT]at h;exact⟨rfl,by simp[xk]⟩;cases d<;>simp only[RT]at h;exact⟨by simp[Vh,xk,ni,h.1],by simp[xk,h.1]⟩
theorem yb{X:cy}:∀{l:cp}{m:cj},l.all (B7 X)=true->cO ι S l m->m.flatMap Vh=(l.flatMap xk).map (ni ι)/\∀k∈l.flatMap xk,∃k',ι k=some k'
 |[],m,_,h=>by rw[aQ h];exact⟨rfl,ae⟩
 |a::l,m,hp,h=>by obtain⟨d,m',rfl,h1,h2⟩:=aj h;simp only[cC,aD]at hp;obtain⟨k1,k2⟩:=SA hp.1 h1;obtain⟨k3,k4⟩:=yb hp.2 h2;refine⟨by rw[cz,cz,fG,k1,k3],λk hk=>?_⟩;rw[cz,eG]at hk;exact hk.elim (k2 k) (k4 k)
theorem GP{X:cy}{g:FuncId}{a b:cp}{d:DV}(hg:(a.all (B7 X)&&b.all (B7 X))=true)(h:RT ι S (.fn g a b) d):AV d=(ji (.fn g a b)).map (ni ι)/\∀k∈ji (.fn g a b),∃k',ι k=some k':=by simp only[aD]at hg;cases d<;>simp only[RT]at h;obtain⟨k1,k2⟩:=yb hg.1 h.2.1;obtain⟨k3,k4⟩:=yb hg.2 h.2.2;refine⟨by simp only[AV,ji,fG,k1,k3],λk hk=>?_⟩;simp only[ji,eG]at hk;exact hk.elim (k2 k) (k4 k)
theorem SB{X:cy}{v:TV}{d:DV}(hg:V6 X v=true)(h:RT ι S v d):AV d=(ji v).map (ni ι)/\∀k∈ji v,∃k',ι k=some k':=by
 cases v<;>first|(cases hg;done)|exact GP hg h|skip
 cases d<;>simp only[RT]at h;exact⟨rfl,by simp[ji]⟩;cases d<;>simp only[RT]at h;exact⟨rfl,by simp[ji]⟩;cases d<;>simp only[RT]at h;exact⟨by simp[AV,ji,ni,h.1],by simp[ji,h.1]⟩
theorem SD{X:cy}{v:TV}{d:DV}(hg:GF X v=true)(h:RT ι S v d):AV d=(ji v).map (ni ι)/\∀k∈ji v,∃k',ι k=some k':=by
 cases v<;>first|(cases hg;done)|exact GP hg h|skip
 all_goals cases d<;>simp only[RT]at h
 all_goals first
  |exact⟨rfl,by simp[ji]⟩
  |exact⟨by simp[AV,ji,ni,h.1],by simp[ji,h.1]⟩
theorem Bh{G:TV->Bool}(hG:∀v d,G v=true->RT ι S v d->AV d=(ji v).map (ni ι)/\∀k∈ji v,∃k',ι k=some k'):∀{l:cp}{m:cj},l.all G=true->cO ι S l m->m.flatMap AV=(l.flatMap ji).map (ni ι)/\∀k∈l.flatMap ji,∃k',ι k=some k'
 |[],m,_,h=>by rw[aQ h];exact⟨rfl,ae⟩
 |a::l,m,hp,h=>by obtain⟨d,m',rfl,h1,h2⟩:=aj h;simp only[cC,aD]at hp;obtain⟨k1,k2⟩:=hG _ _ hp.1 h1;obtain⟨k3,k4⟩:=Bh hG hp.2 h2;refine⟨by rw[cz,cz,fG,k1,k3],λk hk=>?_⟩;rw[cz,eG]at hk;exact hk.elim (k2 k) (k4 k)
theorem SC(hR:bZ ι te tS env S){X:cy}{k:Nat}(hg:uw tS X k=true):Is S (ni ι k)=(Gr tS k).map (ni ι)/\∀j∈Gr tS k,∃k',ι j=some k':=by
 unfold uw at hg;split at hg;rename_i l hl;obtain⟨k',ds,h1,h2,h3⟩:=hR.cells k l hl;have e:ni ι k=k':=by simp[ni,h1]
 have:=Bh (G:=V6 X) (λv d=>SB) hg h3;simp only[Is,Gr,e,h2,hl];exact this;cases hg
theorem Ez(hR:bZ ι te tS env S){X Z:cy}(hX:∀k∈X,uw tS Z k=true)(hd:∀k∈X,∃k',ι k=some k'):rY S (X.map (ni ι))=(xq tS X).map (ni ι)/\∀k∈xq tS X,∃k',ι k=some k':=by
 have key:∀{Y:cy},(∀k∈Y,uw tS Z k=true)->(Y.map (ni ι)).flatMap (Is S)=(Y.flatMap (Gr tS)).map (ni ι)/\∀k∈Y.flatMap (Gr tS),∃k',ι k=some k':=by
  intro Y;induction Y with
  |nil=>intro _;exact⟨rfl,ae⟩
  |cons a Y ih=>intro h;obtain⟨k1,k2⟩:=SC hR (h a (iz ..));obtain⟨k3,k4⟩:=ih λk hk=>h k (pF _ hk);refine⟨by rw[aY,cz,cz,fG,k1,k3],λk hk=>?_⟩;rw[cz,eG]at hk;exact hk.elim (k2 k) (k4 k)
 obtain⟨k1,k2⟩:=key hX;have Sf:∀k,(∃k',ι k=some k')->(X.map (ni ι)).contains (ni ι k)=X.contains k:=λk ⟨k',hk⟩=>by
  rw[Bool.eq_iff_iff,List.contains_iff_mem,List.contains_iff_mem,er];refine⟨λ⟨j,h1,h2⟩=>?_,λh=>⟨k,h,rfl⟩⟩;obtain⟨j',hj⟩:=hd j h1;have e:j'=k':=by simpa [ni,hj,hk]using h2
  obtain rfl:=hR.inj j k k' (e▸hj) hk;exact h1
 have hf:∀{Y:cy},(∀k∈Y,∃k',ι k=some k')->(Y.map (ni ι)).filter (λi=>!(X.map (ni ι)).contains i)=(Y.filter λi=>!X.contains i).map (ni ι):=by
  intro Y;induction Y with
  |nil=>intro _;rfl
  |cons a Y ih=>intro h;rw[aY,List.filter_cons,List.filter_cons,Sf a (h a (iz ..)),ih λk hk=>h k (pF _ hk)];split<;>rfl
 refine⟨by unfold rY xq;rw[k1,hf k2,fG],λk hk=>?_⟩;unfold xq at hk;rw[eG,List.mem_filter]at hk;exact hk.elim (hd k) λh=>k2 k h.1
theorem S4(hR:bZ ι te tS env S){A:cp}{m:cj}(hA:A.all (GF (gp tS A))=true)(hg:(gp tS A).all (uw tS (gp tS A))=true)(hv:cO ι S A m):jH S m=(gp tS A).map (ni ι)/\∀k∈gp tS A,∃k',ι k=some k':=by have h3:∀k∈gp tS A,uw tS (gp tS A) k=true:=aX.1 hg;have h2:∀k∈xq tS (xq tS (A.flatMap ji)),uw tS (gp tS A) k=true:=λk hk=>h3 k (ry _ hk);have h1:∀k∈xq tS (A.flatMap ji),uw tS (gp tS A) k=true:=λk hk=>h2 k (ry _ hk);have h0:∀k∈A.flatMap ji,uw tS (gp tS A) k=true:=λk hk=>h1 k (ry _ hk);obtain⟨e0,d0⟩:=Bh (G:=GF (gp tS A)) (λv d=>SD) hA hv;obtain⟨e1,d1⟩:=Ez hR h0 d0;obtain⟨e2,d2⟩:=Ez hR h1 d1;obtain⟨e3,d3⟩:=Ez hR h2 d2;refine⟨?_,d3⟩;unfold jH gp;rw[e0,e1,e2,e3]
section
variable {ρ:Nat->Option Nat} (hρ:∀k j,ρ k=some j->ι' j=ι k)
include hρ
theorem G9{v v':TV}{d:DV}(h:UL ρ v=some v')(hv:RT ι S v d):RT ι' S' v' d.aO:=by unfold UL at h;split at h;simp only[ah]at h;obtain⟨j,h1,rfl⟩:=h;cases d<;>simp only[RT,DV.aO]at hv⊢;exact⟨(hρ _ _ h1).trans hv.1,hv.2⟩;split at h;rename_i hp;cases h;exact(vN hp hv).2;cases h
theorem yj:∀{l l':cp}{m:cj},AQ ρ l=some l'->cO ι S l m->cO ι' S' l' (m.map DV.aO)
 |[],l',m,h,hv=>by cases h;rw[aQ hv];exact bS
 |v::l,l',m,h,hv=>by obtain⟨d,m',rfl,h1,h2⟩:=aj hv;simp only[AQ]at h;split at h;rename_i a b e1 e2;cases h;exact aR (G9 hρ e1 h1) (yj e2 h2);cases h
theorem He{g:FuncId}{a b x y:cp}{d:DV}(e1:AQ ρ a=some x)(e2:AQ ρ b=some y)(hv:RT ι S (.fn g a b) d):RT ι' S' (.fn g x y) (dK d)/\jG d=dK d:=by cases d<;>simp only[RT]at hv;exact⟨by simp only[dK,RT];exact⟨hv.1,yj hρ e1 hv.2.1,yj hρ e2 hv.2.2⟩,rfl⟩
theorem SR{v v':TV}{d:DV}(h:Pj ρ v=some v')(hv:RT ι S v d):RT ι' S' v' (dK d):=by
 unfold Pj at h;split at h;split at h;rename_i x y e1 e2;cases h;exact(He hρ e1 e2 hv).1;cases h;cases h;cases d<;>simp only[RT,dK,DV.aO]at hv⊢;obtain⟨rfl,-,-⟩:=hv;exact⟨trivial,trivial⟩;rename_i hno _;have:dK d=d.aO:=by
  cases d<;>first|rfl|skip
  cases v<;>simp only[RT]at hv;simp[UL,kX]at h
  grind
 rw[this];exact G9 hρ h hv
theorem E5:∀{l l':cp}{m:cj},DG ρ l=some l'->cO ι S l m->cO ι' S' l' (m.map dK)
 |[],l',m,h,hv=>by cases h;rw[aQ hv];exact bS
 |v::l,l',m,h,hv=>by obtain⟨d,m',rfl,h1,h2⟩:=aj hv;simp only[DG]at h;split at h;rename_i a b e1 e2;cases h;exact aR (SR hρ e1 h1) (E5 e2 h2);cases h
theorem E4{l l':cp}{m:cj}(h:CN ρ l=some l')(hv:cO ι S l m):cO ι' S' l' (m.map dK):=E5 hρ (IJ h) hv
theorem Hh{t:cJ}{v v':TV}{d:DV}(h:rnA ρ t v=some v')(hv:RT ι S v d):RT ι' S' v' (jG d):=by
 unfold rnA at h;split at h;simp only[ah]at h;obtain⟨j,h1,rfl⟩:=h;cases d<;>simp only[RT,jG,DV.strip,DV.dL]at hv⊢;exact⟨(hρ _ _ h1).trans hv.1,hv.2⟩;unfold Pj at h;simp only at h;split at h;rename_i x y e1 e2;cases h;obtain⟨k1,k2⟩:=He (S':=S') hρ e1 e2 hv;rw[k2];exact k1
 cases h;rename_i akz Vk;split at h;rename_i hp;cases h;have:jG d=d.strip:=by
  cases d<;>first|rfl|skip
  cases v<;>simp only[RT]at hv;cases hp;cases hp
 rw[this];exact(jR hp hv).2.2;cases h
theorem yl:∀{ts:List cJ}{l l':cp}{m:cj},uR ρ ts l=some l'->cO ι S l m->cO ι' S' l' (m.map jG)
 |_,[],l',m,h,hv=>by simp only[uR]at h;cases h;rw[aQ hv];exact bS
 |[],v::l,l',m,h,hv=>by obtain⟨d,m',rfl,h1,h2⟩:=aj hv;simp only[uR]at h;split at h;rename_i a b e1 e2;cases h;exact aR (Hh hρ e1 h1) (yl e2 h2);cases h
 |t::ts,v::l,l',m,h,hv=>by obtain⟨d,m',rfl,h1,h2⟩:=aj hv;simp only[uR]at h;split at h;rename_i a b e1 e2;cases h;exact aR (Hh hρ e1 h1) (yl e2 h2);cases h
end
section
variable {ρ:Nat->Option Nat} {R:cy} (hρ:∀k j,ρ k=some j->∃k',ι k=some k'/\k'∈R)
include hρ
theorem WK{v v':TV}{d:DV}(h:UL ρ v=some v')(hv:RT ι S v d):ZP R d.aO=true:=by
 unfold UL at h;split at h;simp only[ah]at h;obtain⟨j,h1,rfl⟩:=h;cases d<;>simp only[RT]at hv;obtain⟨k',h2,h3⟩:=hρ _ _ h1;rw[hv.1]at h2;cases h2;simpa [ZP,DV.aO]using h3;split at h;rename_i hp;have:=(vN (ι':=ι) (S':=S) hp hv).1;generalize d.aO=c at this;cases c<;>first|exact this|cases this
 cases h
theorem Jv:∀{l l':cp}{m:cj},AQ ρ l=some l'->cO ι S l m->(m.map DV.aO).all (ZP R)=true
 |[],l',m,h,hv=>by rw[aQ hv];rfl
 |v::l,l',m,h,hv=>by
  obtain⟨d,m',rfl,h1,h2⟩:=aj hv;simp only[AQ]at h;split at h;rename_i a b e1 e2;rw[aY,cC,WK hρ e1 h1,Jv e2 h2];rfl
  cases h
theorem WM{g:FuncId}{a b x y:cp}{d:DV}(e1:AQ ρ a=some x)(e2:AQ ρ b=some y)(hv:RT ι S (.fn g a b) d):Nk R (dK d)=true/\okA R (jG d)=true:=by cases d<;>simp only[RT]at hv;have h1:=Jv hρ e1 hv.2.1;have h2:=Jv hρ e2 hv.2.2;exact⟨by simp only[Nk,dK,h1,h2];rfl,by simp only[okA,jG,h1,h2];rfl⟩
theorem afU{v v':TV}{d:DV}(h:Pj ρ v=some v')(hv:RT ι S v d):Nk R (dK d)=true:=by
 unfold Pj at h;split at h;split at h;rename_i x y e1 e2;exact(WM hρ e1 e2 hv).1;cases h;cases d<;>simp only[RT]at hv;rfl;rename_i hno Vk;have:=WK hρ h hv;cases v<;>first|exact(hno _ _ _ rfl).elim|exact(Vk rfl).elim|(simp[UL,kX]at h;done)|skip
 all_goals cases d<;>simp only[RT]at hv
 all_goals exact this
theorem QJ:∀{l l':cp}{m:cj},DG ρ l=some l'->cO ι S l m->(m.map dK).all (Nk R)=true
 |[],l',m,h,hv=>by rw[aQ hv];rfl
 |v::l,l',m,h,hv=>by
  obtain⟨d,m',rfl,h1,h2⟩:=aj hv;simp only[DG]at h;split at h;rename_i a b e1 e2;rw[aY,cC,afU hρ e1 h1,QJ e2 h2];rfl
  cases h
theorem QI{l l':cp}{m:cj}(h:CN ρ l=some l')(hv:cO ι S l m):(m.map dK).all (Nk R)=true:=QJ hρ (IJ h) hv
theorem WN{t:cJ}{v v':TV}{d:DV}(h:rnA ρ t v=some v')(hv:RT ι S v d):okA R (jG d)=true:=by
 unfold rnA at h;split at h;simp only[ah]at h;obtain⟨j,h1,rfl⟩:=h;cases d<;>simp only[RT]at hv;obtain⟨k',h2,h3⟩:=hρ _ _ h1;rw[hv.1]at h2;cases h2;simpa [okA,jG,DV.strip,DV.dL]using h3;unfold Pj at h;simp only at h;split at h;rename_i x y e1 e2;exact(WM hρ e1 e2 hv).2;cases h;split at h
 .rename_i hp;have:=(jR (t:=none) (ι':=ι) (S':=S) hp hv).1;cases v<;>first|(cases hp;done)|skip
  all_goals cases d<;>simp only[RT]at hv
  all_goals exact this
 cases h
theorem Jw:∀{ts:List cJ}{l l':cp}{m:cj},uR ρ ts l=some l'->cO ι S l m->(m.map jG).all (okA R)=true
 |_,[],l',m,h,hv=>by rw[aQ hv];rfl
 |[],v::l,l',m,h,hv=>by
  obtain⟨d,m',rfl,h1,h2⟩:=aj hv;simp only[uR]at h;split at h;rename_i a b e1 e2;rw[aY,cC,WN hρ e1 h1,Jw e2 h2];rfl
  cases h
 |t::ts,v::l,l',m,h,hv=>by
  obtain⟨d,m',rfl,h1,h2⟩:=aj hv;simp only[uR]at h;split at h;rename_i a b e1 e2;rw[aY,cC,WN hρ e1 h1,Jw e2 h2];rfl
  cases h
end
theorem zf{S:ai}{R:cy}{k:Nat}{l:cj}(hk:k∈R)(h:S[k]? =some (.cells l)):(uu S R)[k]? =some (.cells (l.map dK)):=by simp only[uu,pE,h,az,VR,if_pos (show R.contains k=true by simpa using hk)]
theorem je{S S1:ai}{R:cy}{k:Nat}(hk:k∉R):(lT S S1 R)[k]? =S[k]? :=by simp only[lT,pE,if_neg (show¬R.contains k=true by simpa using hk)];exact Option.map_id'
theorem BM{S S1:ai}{R:cy}{k:Nat}{l l':cj}(hk:k∈R)(h:S[k]? =some (.cells l))(h1:S1[k]? =some (.cells l')):(lT S S1 R)[k]? =some (.cells (l'.map dK)):=by simp only[lT,pE,h,az,if_pos (show R.contains k=true by simpa using hk),Wc,h1]
def Dg:cp->Bool
 |.ptr _ _::r=>r.any isRef
 |.unk::_=>false
 |_=>true
theorem Tx{A:cp}{m:cj}{g:FuncId}(h:Dg A=true)(hv:cO ι S A m):pZ call g m S=none:=by
 cases A with
 |nil=>rw[aQ hv];rfl
 |cons v l=>
  obtain⟨d,m',rfl,h1,h2⟩:=aj hv;unfold pZ;split
  .rename_i i off rest e;cases e;split
   .rw[if_neg];intro hc;simp only[aD]at hc;have hr:l.any isRef=true:=by cases v<;>first|(cases h;done)|exact h|(simp only[RT]at h1)
    have:=nC hr h2;rw[this]at hc;cases hc.1
   rfl
  rfl
theorem M4{f:Operand}{args:Array Operand}{argTypes:Array TypeId}{g:FuncId}{fs cs xs targs:cp}{tP:List cp}{Q:TV->List cp->Prop}(hop:o.op=.call {callee:=.value f,args,argTypes})(hh:ty.h o≠1)(hf:fT te f=some (.fn g fs cs))(ha:mj te args.toList=some xs)
  (Dw:nj L=true) (hL:∀k,k∈gp tS (fs++xs++cs)↔k∈L) (hne:L≠[]) (hA:(fs++xs++cs).all (GF (gp tS (fs++xs++cs)))=true) (hg:(gp tS (fs++xs++cs)).all (uw tS (gp tS (fs++xs++cs)))=true) (hno:Dg (fs++xs++cs)=true)
  (hn:uR (loc L) (gu tt fs argTypes) (fs++xs++cs)=some targs) (hr:(fs++xs++cs).any isRef=true) (hb:Ky (loc L) tS L=some tP) (hs:Ca call g targs tP Q) (hq:∀v t,Q v t->∃tB,Im L t=some tB):
  Does P ty aI call yf B o nT te tS true λv cr bU ft=>∃FJ tB,Q v FJ/\Im L FJ=some tB/\cr=te/\bU=yM L tB tS/\ft=⟨some L,true⟩:=by
 intro ι w env S aC hR hB hw hT Se hS;obtain⟨xL,iZ,Gb,k1,k2,k3⟩:=iR hR.env hf ha;obtain⟨hl,UT⟩:=zU hb;obtain⟨WY,aav⟩:=S4 hR hA hg k3;generalize hRR:jH S (xL++Gb++iZ)=R at WY;have oF:∀i,i∈R↔∃k,k∈L/\ι k=some i:=λi=>by rw[WY,er];refine⟨λ⟨k,h1,h2⟩=>?_,λ⟨k,h1,h2⟩=>⟨k,(hL k).2 h1,by simp[ni,h2]⟩⟩;obtain⟨k',hk⟩:=aav k h1;exact⟨k,(hL k).1 h1,by rw[hk,<-h2];simp[ni,hk]⟩
 have hρ:∀k j,loc L k=some j->∃k',ι k=some k'/\k'∈R:=λk j h=>by have hk:k∈L:=cB (jl h);obtain⟨k',h1⟩:=aav k ((hL k).2 hk);exact⟨k',h1,(oF k').2 ⟨k,hk,h1⟩⟩
 have kW:∀k,k∈L->∃j c c' k0 ds,loc L k=some j/\L[j]? =some k/\tS[k]? =some (.cells c)/\CN (loc L) c=some c'/\tP[j]? =some c'/\ι k=some k0/\S[k0]? =some (.cells ds)/\cO ι S c ds:=λk hk=>by obtain⟨j,hj⟩:=wq hk;obtain⟨c,c',h1,h2,h3⟩:=UT j k (jl hj);obtain⟨k0,ds,h4,h5,h6⟩:=hR.cells k c h1;exact⟨j,c,c',k0,ds,hj,jl hj,h1,h2,h3,h4,h5,h6⟩
 have aaz:∀k k0,k∈L->ι k=some k0->k0∈R:=λk k0 h1 h2=>(oF k0).2 ⟨k,h1,h2⟩;have hc:bZ (wW L ι) targs (tP.map .cells) ((xL++Gb++iZ).map jG) (uu S R):=by
  refine⟨yl (λk j h=>vC h) hn k3,λj l hj=>?_,λj e s hj=>?_,λj k' hj=>?_,λi j k' hi hj=>?_,λj b hj t _=>?_⟩;simp only[dG,ah,TB.cells.injEq]at hj;obtain⟨c',h1,rfl⟩:=hj;have hlt:j<L.length:=hl▸(aM.1 h1).1;have CJ:L[j]? =some L[j]:=cq hlt;obtain⟨c,c2,q1,q2,q3⟩:=UT j _ CJ;rw[h1]at q3;cases q3;obtain⟨k',ds,m1,m2,m3⟩:=hR.cells _ _ q1;exact⟨k',ds.map dK,by simp[wW,CJ,m1],zf (aaz _ _ (cB CJ) m1) m2,E4 (λk j h=>vC h) q2 m3⟩;simp at hj;unfold wW at hj;cases CJ:L[j]? with
  |none=>rw[CJ]at hj;cases hj
  |some k=>grind
  unfold wW at hi hj;cases UC:L[i]? with
  |none=>rw[UC]at hi;cases hi
  |some a=>
   cases CJ:L[j]? with
   |none=>rw[CJ]at hj;cases hj
   |some b=>rw[UC]at hi;rw[CJ]at hj;obtain rfl:=hR.inj a b k' hi hj;exact Ey Dw UC CJ
  simp only[dG,ah]at hj;obtain⟨c,-,rfl⟩:=hj;trivial
 obtain⟨d,S1,ι1,v,FJ,n1,n2,n3,n4,n5,n6,n7,n8⟩:=hs _ _ _ hc;obtain⟨tB,hbk⟩:=hq _ _ n8;obtain⟨b1,b2⟩:=Er hbk;have uX:∀j k,L[j]? =some k->ι1 j=ι k:=λj k hj=>by have:=(aM.1 hj).1;rw[n6.base j (by simp;omega)];simp[wW,hj]
 have hρ1:∀j k,(λj=>L[j]?) j=some k->∃k',ι1 j=some k'/\k'∈R:=λj k hj=>by have hk:k∈L:=cB hj;obtain⟨k',h1⟩:=aav k ((hL k).2 hk);exact⟨k',by rw[uX j k hj];exact h1,aaz k k' hk h1⟩
 have W5:∀k,k∈L->∃j c c' k0 ds,loc L k=some j/\tB[j]? =some c/\CN (λj=>L[j]?) c'=some c/\ι k=some k0/\S1[k0]? =some (.cells ds)/\cO ι1 S1 c' ds:=λk hk=>by obtain⟨j,hj⟩:=wq hk;have hjl:j<L.length:=(aM.1 (jl hj)).1;have hjb:tB[j]? =some tB[j]:=cq ab;obtain⟨c',h1,h2⟩:=b2 j _ hjb;obtain⟨k',iL,m1,m2,m3⟩:=n5 j c' (by simp[h1]);rw[uX j k (jl hj)]at m1;exact⟨j,_,c',k',iL,hj,hjb,h2,m1,m2,m3⟩
 obtain⟨r1,r2⟩:=CA (ι':=ι) (S':=lT S S1 R) n3 n2;have hm:oH call g (xL++Gb++iZ) S=some (R,d.strip,S1):=by
  unfold oH;rw[hRR];have e1:R.isEmpty=false:=by
   obtain⟨k,l,rfl⟩:=List.exists_cons_of_ne_nil hne;obtain⟨k',h1⟩:=aav k ((hL k).2 (iz ..));have:=aaz k k' (iz ..) h1;cases R with
   |nil=>cases this
   |cons _ _=>rfl
  have e2:=Jw hρ hn k3;have e3:R.all (lz S R)=true:=aX.2 λi hi=>by obtain⟨k,h1,h2⟩:=(oF i).1 hi;obtain⟨j,c,c',k0,ds,p1,p2,p3,p4,p5,p6,p7,p8⟩:=kW k h1;rw[h2]at p6;cases p6;unfold lz;rw[p7];exact QI hρ p4 p8
  have e4:R.all (lz S1 R)=true:=aX.2 λi hi=>by obtain⟨k,h1,h2⟩:=(oF i).1 hi;obtain⟨j,c,c',k0,ds,p1,p2,p3,p4,p5,p6⟩:=W5 k h1;rw[h2]at p4;cases p4;unfold lz;rw[p5];exact QI (ι:=ι1) hρ1 p3 p6
  rw[e1,e2,e3];simp only[zA,jo,if_true,n1,r1,e4]
 have hlt:∀k∈L,k<tS.length:=λk hk=>by obtain⟨j,c,c',k0,ds,p1,p2,p3,-⟩:=kW k hk;exact(aM.1 p3).1
 have bz:∀k,(yM L tB tS)[k]? =match loc L k with|some j=>(tB[j]?).map TB.cells|none=>tS[k]? :=λk=>Es Dw ab hlt
 have ajo:∀k k0,k∉L->ι k=some k0->k0∉R:=λk k0 hk h0 hi=>by obtain⟨a,h1,h2⟩:=(oF k0).1 hi;exact hk (hR.inj a k k0 h2 h0▸h1)
 have mG:∀k k0,k∉L->ι k=some k0->(lT S S1 R)[k0]? =S[k0]? :=λk k0 hk h0=>je (ajo k k0 hk h0);have K:jE ι S ι (lT S S1 R) λ_=>False:=λk k0 _ hk=>⟨hk,by by_cases Gj:k∈L;obtain⟨j,c,c',k1,ds,p1,p2,p3,p4,p5,p6,p7,p8⟩:=kW k Gj;rw[p6]at hk;cases hk;exact wu (by rw[p7];simp) (by rw[p7];simp) (by rw[p7];simp);exact ei (mG k k0 Gj hk)⟩;have ZV:=nC hr k3;have ho:=Tx (call:=call) (g:=g) hno k3;refine⟨d.strip,lT S S1 R,ι,w,v,te,yM L tB tS,⟨some R,true⟩,⟨some L,true⟩,λhd=>bc,λ_=>?_,⟨λe=>e,λl hl=>?_⟩,λl m hl hm j hj=>?_,?_,r2,hw,λ_ _ _=>rfl,⟨λk0 hl hno=>je λhi=>?_,λk k0 hk=>.inl ⟨k,hk⟩,λ_ _=>rfl⟩,λk hk=>?_,⟨by simp[lT],λj hj eL=>?_⟩,FJ,tB,n8,hbk,rfl,rfl,rfl⟩;simp only[aJ,hop,k1,k2,if_neg hh,ZV,aK,if_false,ho,hm];cases hl;refine⟨R,rfl,λi hi=>?_⟩;obtain⟨k,h1,h2⟩:=(oF i).1 hi;exact⟨k,h1,hw _ _ h2⟩
 grind
 refine⟨bH K _ _ hR.env,λk l hk=>?_,λk e s hk t ht=>?_,λk k0 hk=>?_,hR.inj,λk b hk t ht=>?_⟩;rw[bz]at hk;split at hk;rename_i j hj;have hkL:k∈L:=cB (jl hj);obtain⟨j2,c,c',k0,ds,p1,p2,p3,p4,p5,p6⟩:=W5 k hkL;rw[hj]at p1;cases p1;rw[p2]at hk;simp only[az,aG,TB.cells.injEq]at hk;subst hk;obtain⟨-,-,-,k2,ds2,-,-,-,-,-,q6,q7,-⟩:=kW k hkL;rw[p4]at q6;cases q6;refine⟨k0,ds.map dK,p4,BM (aaz k k0 hkL p4) q7 p5,E4 (ι:=ι1) (ρ:=λj=>L[j]?) (λa b qA=>(uX a b qA).symm) p3 p6⟩;rename_i hno;obtain⟨k0,Nv,q1,q2,q3⟩:=hR.cells k l hk;exact⟨k0,Nv,q1,by rw[mG k k0 (Aa hno) q1];exact q2,bH K _ _ q3⟩;rw[bz]at hk;split at hk;simp at hk;obtain⟨n,q1⟩:=hR.own k e s hk t ht;exact⟨n,(K k t (λe=>e) ht).2.1 _ _ _ q1⟩;rw[bz];split
 grind
 exact hR.qB k k0 hk;rw[bz]at hk;split at hk;simp only[ah]at hk;obtain⟨c,-,rfl⟩:=hk;trivial;rename_i hno;rw[mG k t (Aa hno) ht];exact hR.mp k b hk t ht
 grind
 rw[bz];split;rename_i j hj;have hjl:j<tB.length:=by grind
 exact⟨some tB[j],by simp[hjl,lI]⟩;exact hB k hk;rw[je]
 grind
 grind
end Go.Tv
namespace Go.Tv
open Go Go.Di Go.Proofs
variable {P:Program} {ty:gb} {tt:TypeId->cJ} {ι ι' w:lp} {S S':ai} {te:cp} {env:cj} {tS:cx} {aI:b9} {call:bG} {yf:ez} {o:Oper} {aC nT:Nat} {B L:cy}
def ad4(n:Nat):TV->Option TV
 |.sl t l _=>some (.sl t l .no)
 |v=>Pj (λk=>if k<n then some k else none) v
def KT(n:Nat):cp->Option cp
 |[]=>some []
 |v::l=>match rL v with
  |true=>if kX v&&l.all kX then some (v::l)else none
  |false=>match ad4 n v,KT n l with
   |some a,some b=>some (a::b)
   |_,_=>none
def KU(n:Nat)(tS:cx):cy->Option (List cp)
 |[]=>some []
 |k::l=>match tS[k]? with
  |some (.cells c)=>match KT n c,KU n tS l with
   |some a,some b=>some (a::b)
   |_,_=>none
  |_=>none
theorem abV{n:Nat}{v v':TV}{d:DV}(h:ad4 n v=some v')(hv:RT ι S v d):RT ι S v' d:=by
 unfold ad4 at h;split at h;cases h;cases d<;>simp only[RT]at hv⊢;exact⟨hv.1,trivial⟩;exact N5 (λk j hk=>by
  split at hk;cases hk;rfl
  cases hk) h hv
theorem L8{n:Nat}:∀{l l':cp}{m:cj},KT n l=some l'->cO ι S l m->cO ι S l' m
 |[],l',m,h,hv=>by cases h;rw[aQ hv];exact bS
 |v::l,l',m,h,hv=>by
  simp only[KT]at h;split at h;split at h;cases h;exact hv
  cases h;obtain⟨d,m',rfl,h1,h2⟩:=aj hv;split at h;rename_i a b e1 e2;cases h;exact aR (abV e1 h1) (L8 e2 h2);cases h
theorem Hx{n:Nat}:∀{L:cy}{tP:List cp},KU n tS L=some tP->tP.length=L.length/\∀(j:Nat) c',tP[j]? =some c'->∃k c,L[j]? =some k/\tS[k]? =some (TB.cells c)/\KT n c=some c'
 |[],tP,h=>by cases h;exact⟨rfl,ae⟩
 |a::L,tP,h=>by
  simp only[KU]at h;split at h;rename_i c hc;split at h;rename_i x y e1 e2;cases h;obtain⟨h1,h2⟩:=Hx e2;refine⟨by simp[h1],λj c' hj=>?_⟩;cases j with
  |zero=>simp only[eu,aG]at hj;subst hj;exact⟨a,c,rfl,hc,e1⟩
  |succ j=>simpa using h2 j c' (by simpa using hj)
  cases h;cases h
def aeO(ty:gb)(rs:List ResultVar)(js:List cJ)(n:Nat)(Q:TV->List cp->Prop)(e:DX)(te:cp)(tS:cx):Prop:=
 (match e with|.exit _=>False|_=>True)/\∃vs FJ,xR ty te tS rs=some vs/\vs.all eV=true/\B8 (kJ (bR js vs))=true/\KU n tS (List.range n)=some FJ/\Q (kJ (bR js vs)) FJ
theorem YF{bI:b9}{L n:Nat}{f:FuncId}{fn:Func}{c:Code}{targs:cp}{tP:List cp}{js:List cJ}{Q:TV->List cp->Prop}(hf:P.funcs[f]? =some fn)(hb:fn.body=some c)
  (h:WT P ty (yN P ty bI L n) (qf P ty bI L n) (yfN P ty bI L n) (List.range tP.length) L f false c (targs++List.replicate (fn.ntmps-targs.length) .unk) (tP.map .cells) (aeO ty fn.results.toList js tP.length Q)):Ca (qf P ty bI L (n+1)) f targs tP Q:=by
 intro ι bO S hR;have hlen:=gN hR.env;have mY:bZ ι (targs++List.replicate (fn.ntmps-targs.length) .unk) (tP.map .cells) (bO++List.replicate (fn.ntmps-bO.length) bK) S:=
  ⟨eB hR.env (by rw[hlen];exact tj _ _),hR.cells,hR.own,hR.qB,hR.inj,hR.mp⟩
 obtain⟨e,aL,S',ι',cr,bU,h1,h2,h3,h4,h5,h6⟩:=h ι _ S mY (λk hk=>(by
  have hk:k<tP.length:=by simpa using hk
  exact⟨some tP[k],by simp[hk,lI]⟩))
 obtain⟨h6,vs,FJ,h7,h8,h9,uG,h13⟩:=h6;obtain⟨ds,k1,k2⟩:=tn h2 h7;obtain⟨hl,hg⟩:=Hx uG;refine⟨oneOf ds,S',ι',_,FJ,?_,Ho (ts:=js) h8 k2,h9,by simpa using hl,λj l hj=>?_,h4,h5,h13⟩;simp only[qf,dI,hf,uA,hb];have AP:de P ty (kV bI (dI P ty bI L n).1) (dI P ty bI L n).1 (dI P ty bI L n).2 L f false c (bO++List.replicate (fn.ntmps-bO.length) bK) S=some (e,aL,S'):=h1;rw[AP];cases e with
 |normal=>simp only[k1,az]
 |ret=>simp only[k1,az]
 |exit id=>exact h6.elim
 simp only[dG,ah,TB.cells.injEq]at hj;obtain⟨c',q1,rfl⟩:=hj;obtain⟨k,c0,q2,q3,q4⟩:=hg j c' q1;have:k=j:=by
  rw[List.getElem?_range]at q2;cases q2;rfl
  have:=(aM.1 q2).1;simpa using this
 subst this;obtain⟨k',iL,m1,m2,m3⟩:=h2.cells k c0 q3;exact⟨k',iL,m1,m2,L8 q4 m3⟩
def dedup:cy->cy
 |[]=>[]
 |a::l=>if(dedup l).contains a then dedup l else a::dedup l
theorem wQ:∀{l:cy}{k:Nat},k∈dedup l↔k∈l
 |[],_=>Iff.rfl
 |a::l,k=>by unfold dedup;split;rename_i h;rw[wQ,bE];have ha:a∈l:=wQ.1 (by simpa using h);exact⟨.inr,λh=>h.elim (λe=>e▸ha) id⟩;rw[bE,bE,wQ]
theorem vP:∀{l:cy},nj (dedup l)=true
 |[]=>rfl
 |a::l=>by unfold dedup;split;exact vP;rename_i h;simp only[nj,vP,qW,pz];simpa using h
def WS(tt:TypeId->cJ)(md:Nat)(tS:cx)(A:cp)(ts:List cJ)(X L:cy):Option (cp×List cp):=
 if A.any isRef&&!L.isEmpty&&(md==0||(A.all (GF X)&&X.all (uw tS X)&&Dg A))then
  match uR (loc L) ts A,Ky (loc L) tS L with
  |some targs,some tP=>some (targs,tP)
  |_,_=>none
 else none
def Ob(tt:TypeId->cJ)(md:Nat)(te:cp)(tS:cx)(o:Oper):Option (FuncId×cy×cp×List cp):=
 match o.op with
 |.call {callee:=.value f,args,argTypes}=>match fT te f,mj te args.toList with
  |some (.fn g fs cs),some xs=>match WS tt md tS (fs++xs++cs) (gu tt fs argTypes) (gp tS (fs++xs++cs)) (dedup (gp tS (fs++xs++cs)))with
   |some (targs,tP)=>some (g,dedup (gp tS (fs++xs++cs)),targs,tP)
   |none=>none
  |_,_=>none
 |_=>none
theorem TL{md:Nat}{g:FuncId}{targs:cp}{tP:List cp}(h:Ob tt md te tS o=some (g,L,targs,tP)):
  ∃f args argTypes fs cs xs,o.op=.call {callee:=.value f,args,argTypes}/\fT te f=some (.fn g fs cs)/\mj te args.toList=some xs/\nj L=true/\(∀k,k∈gp tS (fs++xs++cs)↔k∈L)/\L≠[]/\uR (loc L) (gu tt fs argTypes) (fs++xs++cs)=some targs/\(fs++xs++cs).any isRef=true/\Ky (loc L) tS L=some tP/\
   (md≠0->(fs++xs++cs).all (GF (gp tS (fs++xs++cs)))=true/\(gp tS (fs++xs++cs)).all (uw tS (gp tS (fs++xs++cs)))=true/\Dg (fs++xs++cs)=true):=by
 unfold Ob at h;split at h;rename_i f args argTypes hop;split at h;rename_i g' fs cs xs h1 h2;split at h;rename_i aj9 FJ h3;cases h;unfold WS at h3;split at h3;rename_i hc;simp only[aD,j9,ee,pz]at hc;obtain⟨⟨c1,c2⟩,c3⟩:=hc;split at h3;rename_i a b e1 e2;cases h3;refine⟨f,args,argTypes,fs,cs,xs,hop,h1,h2,vP,λk=>wQ.symm,λe=>(by rw[e]at c2;cases c2),e1,c1,e2,λhm=>?_⟩;obtain⟨⟨c4,c5⟩,c6⟩:=c3.resolve_left hm;exact⟨c4,c5,c6⟩;cases h3;cases h3;cases h;cases h;cases h
end Go.Tv
namespace Go.Tv
open Go Go.Di Go.Proofs
def j5(tS:cx)(k:Nat):Bool:=
 match tS[k]? with
 |some (.cells _)=>true
 |_=>false
mutual
def eN(tS:cx):TV->TV
 |.sl t l (.iT _)=>.sl t l .no
 |.sl t l (.CG _)=>.sl t l .no
 |.ptr id off=>match j5 tS id with
  |true=>.ptr id off
  |false=>.unk
 |.mp id=>.unk
 |.so _ _=>.unk
 |.sp _ _ _ _=>.unk
 |.oz _ _ _=>.unk
 |.agg l=>.agg (gn tS l)
 |.tup l=>.tup (gn tS l)
 |.fn f a b=>.fn f (gn tS a) (gn tS b)
 |v=>v
def gn(tS:cx):cp->cp
 |[]=>[]
 |a::l=>eN tS a::gn tS l
end
def dR:Nat->cx->cy
 |_,[]=>[]
 |i,.cells _::l=>i::dR (i+1) l
 |i,.loop::l=>i::dR (i+1) l
 |i,_::l=>dR (i+1) l
variable {P:Program} {ty:gb} {tt:TypeId->cJ} {ι ι' w:lp} {S S':ai} {te:cp} {env:cj} {tS:cx} {aI:b9} {call:bG} {yf:ez} {o:Oper} {aC nT:Nat} {B:cy}
theorem vK{k:Nat}:∀{tS:cx}{i:Nat},k∈dR i tS↔i<=k/\∃c,tS[k-i]? =some (lI c)
 |[],i=>by simp[dR]
 |b::l,i=>by
  have ih:=vK (k:=k) (tS:=l) (i:=i+1);have hs:∀(c:Option cp),i+1<=k->((b::l)[k-i]? =some (lI c)↔l[k-(i+1)]? =some (lI c)):=λc h=>by rw[show k-i=(k-(i+1))+1 by omega,List.getElem?_cons_succ]
  have yes:∀c0,b=lI c0->((k=i\/k∈dR (i+1) l)↔i<=k/\∃c,(b::l)[k-i]? =some (lI c)):=λc0 hb=>by
   rw[ih];constructor
   grind
   grind
  have no:(∀c,b≠lI c)->(k∈dR (i+1) l↔i<=k/\∃c,(b::l)[k-i]? =some (lI c)):=λhb=>by
   rw[ih];constructor
   grind
   grind
  cases b with
  |cells c0=>simp only[dR,bE];exact yes (some c0) rfl
  |loop=>simp only[dR,bE];exact yes none rfl
  |none=>simp only[dR];exact no λc e=>by cases c<;>cases e
  |map kt0 c0=>simp only[dR];exact no λc e=>by cases c<;>cases e
  |rows t0 e0 c0 z0=>simp only[dR];exact no λc e=>by cases c<;>cases e
  |own e0 s0=>simp only[dR];exact no λc e=>by cases c<;>cases e
theorem sE{k:Nat}{c:Option cp}(h:tS[k]? =some (lI c)):k∈dR 0 tS:=vK.2 ⟨j7 _,c,h⟩
theorem Mg{k:Nat}{c:cp}(h:tS[k]? =some (.cells c)):k∈dR 0 tS:=sE (c:=some c) h
theorem WX:oT (dR 0 tS) tS:=λ_ hk=>(vK.1 hk).2
mutual
theorem Qm(hi:∀k,j5 tS k=true->ι' k=ι k):∀(v:TV)(d:DV),RT ι S v d->RT ι' S' (eN tS v) d
 |.unk,_,_=>by simp only[eN,RT]
 |.val _,d,k=>by cases d<;>simp only[RT,eN]at k⊢;exact k
 |.ax,d,k=>by cases d<;>simp only[RT,eN]at k⊢;exact k
 |.agg l,d,k=>by cases d<;>simp only[RT,eN]at k⊢;exact ko hi l _ k
 |.tup l,d,k=>by cases d<;>simp only[RT,eN]at k⊢;exact ko hi l _ k
 |.sl t l .no,d,k=>by cases d<;>simp only[RT,eN]at k⊢;exact k
 |.sl t l .full,d,k=>by cases d<;>simp only[RT,eN]at k⊢;exact k
 |.sl t l (.stop _),d,k=>by cases d<;>simp only[RT,eN]at k⊢;exact⟨k.1,trivial⟩
 |.sl t l (.CG g),d,k=>by cases d<;>simp only[RT,eN]at k⊢;exact⟨k.1,trivial⟩
 |.sl t l (.iT g),d,k=>by cases d<;>simp only[RT,eN]at k⊢;exact⟨k.1,trivial⟩
 |.ptr id off,d,k=>by cases d<;>simp only[RT]at k;simp only[eN];split;rename_i hc;simp only[RT];exact⟨(hi _ hc).trans k.1,k.2⟩;simp only[RT]
 |.fM t l i off,d,k=>by cases d<;>simp only[RT,eN]at k⊢;exact k
 |.mp id,d,_=>by simp only[RT,eN]
 |.so g t,d,_=>by simp only[RT,eN]
 |.sp g t i off,d,_=>by simp only[RT,eN]
 |.oz _ _ _,d,_=>by simp only[RT,eN]
 |.fn f a b,d,k=>by cases d<;>simp only[RT,eN]at k⊢;exact⟨k.1,ko hi a _ k.2.1,ko hi b _ k.2.2⟩
theorem ko(hi:∀k,j5 tS k=true->ι' k=ι k):∀(l:cp)(m:cj),cO ι S l m->cO ι' S' (gn tS l) m
 |[],m,k=>by rw[aQ k];simp only[gn];exact bS
 |a::l,m,k=>by obtain⟨d,m',rfl,h1,h2⟩:=aj k;simp only[gn];exact aR (Qm hi a d h1) (ko hi l m' h2)
end
end Go.Tv
namespace Go.Tv
open Go Go.Di Go.Proofs
variable {P:Program} {ty:gb} {ι ι' w:lp} {S S':ai} {te:cp} {env:cj} {tS:cx} {aI:b9} {call:bG} {yf:ez} {B:cy}
def oL:cp->List (Tmp×TV)->cp
 |te,[]=>te
 |te,(t,v)::l=>oL (te.set t v) l
theorem Qg:∀{ps:List Tmp}{te:cp}{env:cj}{xs:cp}{ds:cj},cO ι S te env->cO ι S xs ds->cO ι S (oL te (ps.zip xs)) (uo env (ps.zip ds))
 |[],te,env,xs,ds,h,k=>by simpa [oL,uo]using h
 |p::ps,te,env,[],ds,h,k=>by rw[aQ k];simpa [oL,uo]using h
 |p::ps,te,env,x::xs,ds,h,k=>by obtain⟨d,m,rfl,k1,k2⟩:=aj k;simp only[List.zip_cons_cons,oL,uo];exact Qg (Jm p h k1) k2
def DU(ι:lp)(k:Nat):lp:=λj=>if j=k then none else ι j
theorem zw{k j:Nat}(h:j≠k):DU ι k j=ι j:=if_neg h
theorem gK{k j id:Nat}(h:DU ι k j=some id):j≠k/\ι j=some id:=by
 unfold DU at h;split at h;cases h
 grind
theorem LG(h:bZ ι te tS env S){k:Nat}(hr:(fE te++oM tS).contains k=false):bZ (DU ι k) te (tS.set k .none) env S:=by
 have hk:∀j,j∈fE te++oM tS->j≠k:=λj hj e=>by
  subst e;have:(fE te++oM tS).contains j=true:=by simpa using hj
  rw[this]at hr;cases hr
 have bz:∀j b,(tS.set k .none)[j]? =some b->b≠.none->j≠k/\tS[j]? =some b:=λj b hj hb=>by
  rw[aS]at hj;split at hj
  grind
  grind
 refine⟨kY _ _ (λj hj=>zw (hk j (ry _ hj))) h.env,λj l hj=>?_,λj e s hj t ht=>?_,λj k' hj=>?_,λi j k' hi hj=>h.inj i j k' (gK hi).2 (gK hj).2,λj b hj t ht=>?_⟩;obtain⟨h1,h2⟩:=bz j _ hj ae;obtain⟨k',ds,n1,n2,n3⟩:=h.cells j l h2;exact⟨k',ds,(zw h1).trans n1,n2,kY _ _ (λi hi=>zw (hk i (List.mem_append_right _ (Bw h2 hi)))) n3⟩;obtain⟨h1,h2⟩:=bz j _ hj ae;exact h.own j e s h2 t (gK ht).2;obtain⟨h1,h2⟩:=gK hj;obtain⟨b,h3,h4⟩:=h.qB j k' h2;exact⟨b,by rw[aS,if_neg λe=>h1 e.symm];exact h3,h4⟩;by_cases hb:b=.none;subst hb;trivial
 exact h.mp j b (bz j b hj hb).2 t (gK ht).2
theorem Bs(h:bZ ι te tS env S){id:Nat}{b:DB}(hn:∀k,ι k≠some id):bZ ι te tS env (S.set id b):=by
 have hg:∀{k k'},ι k=some k'->(S.set id b)[k']? =S[k']? :=λ{k k'} hk=>by rw[aS,if_neg (λ(e:id=k')=>hn k (by rw[e];exact hk))]
 have K:jE ι S ι (S.set id b) λ_=>False:=λk k' _ hk=>⟨hk,ei (hg hk)⟩;refine⟨bH K _ _ h.env,λk l hk=>?_,λk e s hk t ht=>?_,h.qB,h.inj,λk c hk t ht=>by rw[hg ht];exact h.mp k c hk t ht⟩;obtain⟨k',ds,n1,n2,n3⟩:=h.cells k l hk;exact⟨k',ds,n1,(hg n1).trans n2,bH K _ _ n3⟩;obtain⟨n,h1⟩:=h.own k e s hk t ht;exact⟨n,(hg ht).trans h1⟩
theorem LF{k id:Nat}{r:GK}(h:bZ ι te tS env S)(hk:tS[k]? =some .none)(hn:∀k,ι k≠some id)(hid:S[id]? =some (.loop r))(hrr:r.st=.ready/\r.kI=none):bZ (upd ι k id) te (tS.set k .loop) env S:=by
 have hno:ι k=none:=by
  cases e:ι k with
  |none=>rfl
  |some k'=>obtain⟨b,h1,h2⟩:=h.qB k k' e;rw[hk]at h1;cases h1;exact absurd rfl h2
 have hlt:=(aM.1 hk).1;have hu:∀{j k'},ι j=some k'->upd ι k id j=some k':=λ{j k'} hj=>by
  unfold upd;rw[if_neg];exact hj
  grind
 have K:jE ι S (upd ι k id) S λ_=>False:=λj k' _ hj=>⟨hu hj,ei rfl⟩;have cW:∀{j k'},upd ι k id j=some k'->(j=k/\k'=id)\/(j≠k/\ι j=some k'):=λ{j k'} hj=>by
  unfold upd at hj;split at hj
  grind
  grind
 have bz:∀{j b},(tS.set k .loop)[j]? =some b->(j=k/\b=.loop)\/(j≠k/\tS[j]? =some b):=λ{j b} hj=>by
  rw[aS]at hj;split at hj
  grind
  grind
 refine⟨bH K _ _ h.env,λj l hj=>?_,λj e s hj t ht=>?_,λj k' hj=>?_,λi j k' hi hj=>?_,λj b hj t ht=>?_⟩;rcases bz hj with ⟨-,e⟩|⟨h1,h2⟩;cases e;obtain⟨k',ds,n1,n2,n3⟩:=h.cells j l h2;exact⟨k',ds,hu n1,n2,bH K _ _ n3⟩;rcases bz hj with ⟨-,e⟩|⟨h1,h2⟩;cases e;rcases cW ht with ⟨e,-⟩|⟨-,h3⟩
 grind
 exact h.own j _ _ h2 t h3;rcases cW hj with ⟨rfl,rfl⟩|⟨h1,h2⟩
 grind
 obtain⟨b,h3,h4⟩:=h.qB j k' h2;exact⟨b,by rw[aS,if_neg λe=>h1 e.symm];exact h3,h4⟩;rcases cW hi with ⟨rfl,rfl⟩|⟨h1,h2⟩<;>rcases cW hj with ⟨rfl,h3⟩|⟨h4,h5⟩;rfl
 grind
 grind
 exact h.inj i j k' h2 h5;rcases bz hj with ⟨rfl,rfl⟩|⟨h1,h2⟩;rcases cW ht with ⟨-,rfl⟩|⟨h3,-⟩;exact⟨r,hid,hrr⟩
 grind
 rcases cW ht with ⟨e,-⟩|⟨-,h3⟩
 grind
 exact h.mp j b h2 t h3
theorem XZ{k id BS:Nat}{s5:FuncId}{AB xs:cp}{ps:List Tmp}{oS body:Code}{AX bO:cj}{K:cx->Prop}(hR:bZ ι xs tS bO S)(hB:oT B tS)(hkB:k∉B)(hk:ι k=some id)(htk:tS[k]? =some .loop)(hS:S[id]? =some (.loop ⟨.ready,none,s5,AX,ps,oS,body,BS⟩))(hE:cO ι S AB AX)
  (hlen:xs.length=ps.length) (hr:(fE (oL AB (ps.zip xs))++oM tS).contains k=false)
  (h:WT P ty aI call yf B LL s5 true oS (oL AB (ps.zip xs)) (tS.set k .none) λe mV iS=>e=.normal/\WT P ty aI call yf B LL s5 true body mV iS λe _ jW=>e=.normal/\jW[k]? =some .none/\K jW):
  ∃S' ι' jW,vk P ty aI call yf LL id bO S=some (.val (.bool true),S')/\bZ ι' [] (jW.set k .loop) [] S'/\oT B (jW.set k .loop)/\Fr B ι S ι' S'/\Nn S.length S S'/\S'[id]? =S[id]? /\ι' k=some id/\K jW:=by
 have hRe:bZ ι (oL AB (ps.zip xs)) tS (uo AX (ps.zip bO)) S:=⟨Qg hE hR.env,hR.cells,hR.own,hR.qB,hR.inj,hR.mp⟩;have R1:∀j∈B,j≠k:=λj hj e=>hkB (e▸hj);have hB0:oT B (tS.set k .none):=λj hj=>by obtain⟨l,h1⟩:=hB j hj;exact⟨l,by rw[aS,if_neg λe=>R1 j hj e.symm];exact h1⟩
 have hlv:Lv S id:=⟨_,hS,ae⟩;have ajw:∀j,DU ι k j≠some id:=λj hj=>by obtain⟨h1,h2⟩:=gK hj;exact h1 (hR.inj j k id h2 hk)
 obtain⟨e1,qF,S1,ι1,mV,iS,a1,a2,a3,a4,a5,rfl,h2⟩:=h _ _ S (LG hRe hr) hB0;have b1:S1[id]? =S[id]? :=a4.rest id hlv ajw;have b2:∀j,ι1 j≠some id:=λj hj=>by
  rcases a4.ours j id hj with ⟨i,hi⟩|hn
  grind
  grind
 have agU:id<S1.length:=by grind
 obtain⟨e2,aez,S2,ι2,UJ,jW,c1,c2,c3,c4,c5,rfl,c6,c7⟩:=h2 _ _ (S1.set id (.loop ⟨.busy,none,s5,AX,ps,oS,body,BS⟩)) (Bs a2 b2) a3;have FF:Lv (S1.set id (.loop ⟨.busy,none,s5,AX,ps,oS,body,BS⟩)) id:=⟨_,by rw[aS,if_pos rfl,if_pos agU],ae⟩;have d1:S2[id]? =some (.loop ⟨.busy,none,s5,AX,ps,oS,body,BS⟩):=by rw[c4.rest id FF b2,aS,if_pos rfl,if_pos agU]
 have d2:∀j,ι2 j≠some id:=λj hj=>by
  rcases c4.ours j id hj with ⟨i,hi⟩|hn
  grind
  grind
 have ajx:=(aM.1 d1).1;have d3:(S2.set id (.loop ⟨.ready,none,s5,AX,ps,oS,body,BS⟩))[id]? =some (.loop ⟨.ready,none,s5,AX,ps,oS,body,BS⟩):=by rw[aS,if_pos rfl,if_pos ajx]
 have aar:∀j,j≠id->(S1.set id (.loop ⟨.busy,none,s5,AX,ps,oS,body,BS⟩))[j]? =S1[j]? :=λj hj=>by rw[aS,if_neg λe=>hj e.symm]
 have agR:∀j,j≠id->(S2.set id (.loop ⟨.ready,none,s5,AX,ps,oS,body,BS⟩))[j]? =S2[j]? :=λj hj=>by rw[aS,if_neg λe=>hj e.symm]
 have c2':bZ ι2 [] jW [] S2:=⟨bS,c2.cells,c2.own,c2.qB,c2.inj,c2.mp⟩;have Nc:ι2 k=none:=by
  cases e:ι2 k with
  |none=>rfl
  |some k'=>obtain⟨b,h3,h4⟩:=c2.qB k k' e;rw[c6]at h3;cases h3;exact absurd rfl h4
 have hRn:=LF (Bs (b:=.loop ⟨.ready,none,s5,AX,ps,oS,body,BS⟩) c2' d2) c6 d2 d3 ⟨rfl,rfl⟩;refine⟨_,_,jW,?_,hRn,λj hj=>?_,⟨λk' hl hn=>?_,λj k' hj=>?_,λj hj=>?_⟩,⟨?_,λj hj eL=>?_⟩,by rw[d3,hS],by simp[upd],c7⟩;have hdl:bO.length=ps.length:=by have:=gN hR.env;omega
 unfold vk;rw[hS];simp only[hdl,if_true,a1];rw[hS]at b1;simp only[b1,if_true,c1,d1];obtain⟨l,h3⟩:=c3 j hj;exact⟨l,by rw[aS,if_neg λe=>R1 j hj e.symm];exact h3⟩;have hne:k'≠id:=λe=>hn k (e▸hk);have h3:=a4.rest k' hl λj hj=>hn j (gK hj).2;have ajt:Lv (S1.set id (.loop ⟨.busy,none,s5,AX,ps,oS,body,BS⟩)) k':=by obtain⟨b,h4,h5⟩:=hl;exact⟨b,(aar k' hne).trans (h3.trans h4),h5⟩
 have h6:=c4.rest k' ajt λj hj=>by
  rcases a4.ours j k' hj with ⟨i,hi⟩|h7;exact hn i (gK hi).2
  grind
 rw[agR k' hne,h6,aar k' hne,h3];unfold upd at hj;split at hj
 grind
 by_cases hl:Lv S k';by_cases hn:∃j,ι j=some k'
 grind
 have hne:k'≠id:=λe=>hn ⟨k,e▸hk⟩;have h3:=a4.rest k' hl λj hj=>hn ⟨j,(gK hj).2⟩;rcases c4.ours j k' hj with ⟨i,hi⟩|h7;rcases a4.ours i k' hi with ⟨i',Np⟩|h8;exact .inl ⟨i',(gK Np).2⟩
 grind
 refine(h7 ?_).elim;obtain⟨b,h4,h5⟩:=hl;exact⟨b,(aar k' hne).trans (h3.trans h4),h5⟩
 grind
 unfold upd;rw[if_neg (R1 j hj),c4.base j hj,a4.base j hj,zw (R1 j hj)];have h3:=a5.1;have h4:=c5.1;simp only[List.length_set]at h4⊢;omega;have hne:j≠id:=λe=>by rw[e,hS]at eL;cases eL
 have hlt:=(aM.1 eL).1;have h3:=a5.2 j hj eL;have h4:=c5.2 j (by simp only[List.length_set];have:=a5.1;omega) ((aar j hne).trans h3);rw[agR j hne];exact h4
end Go.Tv
namespace Go.Tv
open Go Go.Di Go.Proofs
variable {P:Program} {ty:gb} {tt:TypeId->cJ} {ι ι' w:lp} {S S':ai} {te:cp} {env:cj} {tS:cx} {aI Iq:b9} {call y6:bG} {yf ZH:ez} {o:Oper} {aC nT:Nat} {B:cy}
def pR(k:Nat):Nat->cx->cx->cx
 |i,b::l,c::m=>(match b,c with
  |.cells _,.cells x=>.cells x
  |_,.loop=>if i=k then .loop else .none
  |_,_=>.none)::pR k (i+1) l m
 |_,_,_=>[]
theorem wv{k:Nat}:∀{i:Nat}{l m:cx},CL (pR k i l m) m
 |_,[],m=>by unfold pR;exact .nil
 |_,_::_,[]=>by unfold pR;exact .nil
 |i,b::l,c::m=>by unfold pR;split;exact .cells (jY.refl _) wv;split;exact .loop wv;exact .none wv;exact .none wv
theorem Rs{k:Nat}:∀{i:Nat}{l m:cx}{j:Nat}{b:TB},(pR k i l m)[j]? =some b->b=.none\/(∃c x,l[j]? =some (.cells c)/\b=.cells x)\/(i+j=k/\b=.loop)
 |_,[],_,_,_,h=>by simp[pR]at h
 |_,_::_,[],_,_,h=>by simp[pR]at h
 |i,a::l,c::m,0,b,h=>by
  unfold pR at h;simp only[eu,aG]at h;subst h;split;exact .inr (.inl ⟨_,_,rfl,rfl⟩)
  grind
  grind
 |i,a::l,c::m,j+1,b,h=>by
  unfold pR at h;rcases Rs (l:=l) (m:=m) (i:=i+1) (j:=j) (by simpa using h)with h|⟨c,x,h1,h2⟩|⟨h1,h2⟩
  grind
  grind
  grind
def uZ(tS:cx)(k:Nat):TV->TV
 |.oz k' fn t=>if k'=k then .oz k' fn (gn tS t)else .unk
 |v=>eN tS v
theorem XY{k id:Nat}(hi:∀j,j5 tS j=true->ι' j=ι j)(hk:ι k=some id)(rC:ι' k=some id)(hS:S'[id]? =S[id]?){v:TV}{d:DV}(h:RT ι S v d):RT ι' S' (uZ tS k v) d:=by unfold uZ;split;rename_i k' fn t;split;rename_i e;subst e;cases d<;>simp only[RT]at h⊢;obtain⟨h1,ps,a,b,env,BS,h4,h2,h3⟩:=h;rw[hk]at h1;cases h1;exact⟨rC,ps,a,b,env,BS,h4,hS.trans h2,ko hi _ _ h3⟩;simp only[RT];exact Qm hi _ _ h
theorem G8{k id:Nat}(hi:∀j,j5 tS j=true->ι' j=ι j)(hk:ι k=some id)(rC:ι' k=some id)(hS:S'[id]? =S[id]?):∀{l:cp}{m:cj},cO ι S l m->cO ι' S' (l.map (uZ tS k)) m
 |[],m,h=>by rw[aQ h];exact bS
 |a::l,m,h=>by obtain⟨d,m',rfl,h1,h2⟩:=aj h;exact aR (XY hi hk rC hS h1) (G8 hi hk rC hS h2)
def oG(k:Nat)(tS:cx):cy:=(dR 0 tS).filter (·!=k)
theorem IK{k j:Nat}:j∈oG k tS↔j∈dR 0 tS/\j≠k:=by simp[oG]
theorem O7{f:Operand}{args:Array Operand}{argTypes:Array TypeId}{k:Nat}{s5:FuncId}{AB xs:cp}{ps:List Tmp}{oS body:Code}{K:cx->Prop}{dr:Bool}(hop:o.op=.call {callee:=.value f,args,argTypes})(hyf:yf=vk P ty Iq y6 ZH LL)(hf:fT te f=some (.oz k s5 AB))(hrf:CO s5=some (ps,oS,body))(ha:mj te args.toList=some xs)
  (htk:tS[k]? =some .loop) (hlen:xs.length=ps.length) (hr:(fE (oL AB (ps.zip xs))++oM tS).contains k=false)
  (h:WT P ty Iq y6 ZH (oG k tS) LL s5 true oS (oL AB (ps.zip xs)) (tS.set k .none) λe mV iS=>e=.normal/\WT P ty Iq y6 ZH (oG k tS) LL s5 true body mV iS λe _ jW=>e=.normal/\jW[k]? =some .none/\K jW)
  (hK:∀jW,K jW->okB (te.map (uZ tS k)) (pR k 0 tS (jW.set k .loop))=true/\∀j∈dR 0 tS,mE (pR k 0 tS (jW.set k .loop)) j=true):
  Does P ty aI call yf B o nT te tS dr λv cr bU ft=>∃jW,K jW/\v=.val (.bool true)/\cr=te.map (uZ tS k)/\bU=pR k 0 tS (jW.set k .loop)/\ft=⟨none,true⟩:=by
 intro ι w env S aC hR hB hw hT Dw hS;obtain⟨d,k1,k2⟩:=bL hR.env hf;obtain⟨Gb,k3,k4⟩:=tD hR.env ha;cases d<;>simp only[RT]at k2;rename_i id;obtain⟨hk,ps',akN,akn,AX,BS,agN,hl,hE⟩:=k2;rw[hrf]at agN;cases agN;obtain⟨S',ι',jW,a1,a2,a3,a4,a5,a6,a7,a8⟩:=XZ (K:=K) (B:=oG k tS) ⟨k4,hR.cells,hR.own,hR.qB,hR.inj,hR.mp⟩ (λj hj=>WX j (IK.1 hj).1) (λh=>(IK.1 h).2 rfl) hk htk hl hE hlen hr h;obtain⟨c1,c2⟩:=hK jW a8
 replace c2:∀j∈B,mE (pR k 0 tS (jW.set k .loop)) j=true:=λj hj=>by obtain⟨l,h1⟩:=hB j hj;exact c2 j (sE h1)
 have kW:∀j,j5 tS j=true->ι' j=ι j:=λj hj=>by
  unfold j5 at hj;split at hj;rename_i c hc;exact a4.base j (IK.2 ⟨Mg hc,λe=>by rw[e,htk]at hc;cases hc⟩)
  cases hj
 have Dz:bZ ι' (te.map (uZ tS k)) (jW.set k .loop) env S':=⟨G8 kW hk a7 a6 hR.env,a2.cells,a2.own,a2.qB,a2.inj,a2.mp⟩;have Iu:∀j,j∈B->j≠k->j∈oG k tS:=λj hj hjk=>by obtain⟨l,h1⟩:=hB j hj;exact IK.2 ⟨sE h1,hjk⟩
 have hkl:(jW.set k TB.loop)[k]? =some .loop:=by obtain⟨b,q1,-⟩:=a2.qB k id a7;have:=(aM.1 q1).1;rw[aS,if_pos rfl,if_pos (by simpa using this)]
 have hBy:oT B (jW.set k .loop):=λj hj=>by
  by_cases e:j=k;subst e;exact⟨none,hkl⟩
  exact a3 j (Iu j hj e)
 have hBc:=Ag wv hBy c2;obtain⟨ι1,e1,e2,e3⟩:=zW Dz (jY.refl _) wv c1 hBc;have hold:∀j k',ι1 j=some k'->ι j=some k':=λj k' hj=>by
  rw[e3]at hj;split at hj;rename_i hlv;unfold mE at hlv;cases hc:(pR k 0 tS (jW.set k .loop))[j]? with
  |none=>rw[hc]at hlv;cases hlv
  |some b=>
   rcases Rs hc with rfl|⟨c,x,h1,-⟩|⟨h1,-⟩
   grind
   rw[kW j (by unfold j5;rw[h1])]at hj;exact hj
   grind
  cases hj
 have hst:af P ty aI call yf (jA env) o S aC=some (.val (.bool true),S'):=by subst hyf;simp only[af,hop,k1,k3,a1]
 refine⟨.val (.bool true),S',ι1,w,.val (.bool true),te.map (uZ tS k),pR k 0 tS (jW.set k .loop),⟨none,true⟩,⟨none,true⟩,λ_=>hst,λ_=>?_,⟨λe=>e,λl hl=>aE⟩,λl m hl=>aE,e1,by simp only[RT],λj k' hj=>hw j k' (hold j k' hj),λ_ _ _=>rfl,⟨λk' hl hn=>a4.rest k' hl hn,λj k' hj=>.inl ⟨j,hold j k' hj⟩,λj hj=>?_⟩,hBc,⟨a5.1,λj hj eL=>?_⟩,jW,a8,rfl,rfl,rfl,rfl⟩;subst hyf;simp only[aJ,hop,k1,k3,a1,az];rw[e2.base j hj];by_cases e:j=k
 grind
 exact a4.base j (Iu j hj e);have:=(aM.1 eL).1;exact a5.2 j ab eL
end Go.Tv
