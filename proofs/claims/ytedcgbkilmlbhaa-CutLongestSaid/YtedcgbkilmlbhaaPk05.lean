import Derived.Test.YtedcgbkilmlbhaaPk04
namespace Go.Tv
open Go Go.Di
def xO:TV->Bool
 |.val v=>!(v matches .tuple _)
 |.au|.sl _ _ _=>true
 |_=>false
def eG:TV->Bool
 |.agg l=>l.all xO
 |.val _|.au|.sl _ _ _=>true
 |_=>false
def rR:TV->TV
 |.sl k l _=>.sl k l .no
 |.au=>.unk
 |v=>v
def kz:Option TT->TV->TV
 |some (.sl e),.au=>.sl e [] .no
 |_,.au=>.unk
 |_,.sl k l (.stop _)=>.sl k l (.stop false)
 |_,.sl k l _=>.sl k l .no
 |some t,.agg l=>match t.of l with
  |some (x,[])=>.agg (t.cells x)
  |_=>.agg (l.map rR)
 |none,.agg l=>.agg (l.map rR)
 |_,v=>v
def bG:List (Option TT)->List TV->List TV
 |_,[]=>[]
 |[],v::l=>kz none v::bG [] l
 |t::ts,v::l=>kz t v::bG ts l
def gm(tt:TypeId->Option TT)(fs:List TV)(argTypes:Array TypeId):List (Option TT):=fs.map (λ_=>none)++argTypes.toList.map tt
variable {P:Program} {ty:fP} {tt:TypeId->Option TT} {ι ι' w:lq} {S S':ai} {te mM:List TV} {env:List DV} {tS iT:List TB} {aI:bS} {call:bt} {yf:ew} {o:Oper} {aD nT:Nat} {B:List Nat} {r:TR} {ops:Array Oper}
mutual
theorem pF:∀(v:TV)(d:DV),refs v=[]->RT ι S v d->RT ι' S' v d
 |.unk,_,_,_=>by simp only[RT]
 |.val _,d,_,k=>by cases d<;>simp only[RT]at k⊢;exact k
 |.au,d,_,k=>by cases d<;>simp only[RT]at k⊢;exact k
 |.agg l,d,h,k=>by cases d<;>simp only[RT]at k⊢;exact iR l _ h k
 |.tup l,d,h,k=>by cases d<;>simp only[RT]at k⊢;exact iR l _ h k
 |.sl t l .no,d,_,k=>by cases d<;>simp only[RT]at k⊢;exact k
 |.sl t l .full,d,_,k=>by cases d<;>simp only[RT]at k⊢;exact k
 |.sl t l (.stop _),d,_,k=>by cases d<;>simp only[RT]at k⊢;exact k
 |.sl t l (.Cz g),d,h,k=>by simp[refs]at h
 |.sl t l (.kA g),d,h,k=>by simp[refs]at h
 |.ptr id off,d,h,k=>by simp[refs]at h
 |.fF t l i off,d,_,k=>by cases d<;>simp only[RT]at k⊢;exact k
 |.mp id,d,h,k=>by simp[refs]at h
 |.so g t,d,h,k=>by simp[refs]at h
 |.oq k0 fn te,d,h,k=>by simp[refs]at h
 |.sp g t i off,d,h,k=>by simp[refs]at h
 |.fn f a b,d,h,k=>by cases d<;>simp only[RT]at k⊢;simp only[refs,List.append_eq_nil_iff]at h;exact⟨k.1,iR a _ h.1 k.2.1,iR b _ h.2 k.2.2⟩
theorem iR:∀(l:List TV)(m:List DV),eH l=[]->cQ ι S l m->cQ ι' S' l m
 |[],m,_,k=>by rw[aP k];exact bL
 |a::l,m,h,k=>by obtain⟨d,m',rfl,h1,h2⟩:=ak k;simp only[eH,List.append_eq_nil_iff]at h;exact aQ (pF a d h.1 h1) (iR l m' h.2 h2)
end
theorem L6{v:TV}{d:DV}(hp:xO v=true)(h:RT ι S v d):d.aM.bY=true/\RT ι' S' (rR v) d.aM:=by
 cases v<;>first|(cases hp;done)|skip
 .cases d<;>simp only[RT]at h;subst h;exact⟨hp,by simp only[rR,RT,DV.aM]⟩
 .cases d<;>simp only[RT]at h;exact⟨rfl,by simp only[rR,RT]⟩
 cases d<;>simp only[RT]at h;exact⟨rfl,by simp only[rR,RT,DV.aM];exact⟨h.1,trivial⟩⟩
theorem B7:∀{l:List TV}{m:List DV},l.all xO=true->cQ ι S l m->(m.map DV.aM).all DV.bY=true/\cQ ι' S' (l.map rR) (m.map DV.aM)
 |[],m,_,h=>by rw[aP h];exact⟨rfl,bL⟩
 |a::l,m,hp,h=>by obtain⟨d,m',rfl,h1,h2⟩:=ak h;simp only[cA,aA]at hp;obtain⟨k1,k2⟩:=L6 (ι':=ι') (S':=S') hp.1 h1;obtain⟨k3,k4⟩:=B7 hp.2 h2;exact⟨by simp[k1]at k3⊢;exact k3,aQ k2 k4⟩
theorem Eo:∀{t:TT}{l:List TV}{x:t.den}{r:List TV}{m:List DV},t.of l=some (x,r)->cQ ι S l m->∃c m',m=c++m'/\cQ ι' S' (t.cells x) c/\cQ ι S r m'
 |.int k,l,x,r,m,h,hm=>by
  simp only[TT.of]at h;unfold ofInt at h;split at h
  .split at h;.rename_i hk;cases h;obtain⟨d,m',rfl,h1,h2⟩:=ak hm;cases d<;>simp only[RT]at h1;subst h1;subst hk;exact⟨[_],m',rfl,kT (by simp only[RT]),h2⟩
   cases h
  cases h
 |.bool,l,x,r,m,h,hm=>by
  simp only[TT.of]at h;unfold ofBool at h;split at h;.cases h;obtain⟨d,m',rfl,h1,h2⟩:=ak hm;cases d<;>simp only[RT]at h1;subst h1;exact⟨[_],m',rfl,kT (by simp only[RT]),h2⟩
  cases h
 |.str,l,x,r,m,h,hm=>by
  simp only[TT.of]at h;unfold ofStr at h;split at h;.cases h;obtain⟨d,m',rfl,h1,h2⟩:=ak hm;cases d<;>simp only[RT]at h1;subst h1;exact⟨[_],m',rfl,kT (by simp only[RT]),h2⟩
  cases h
 |.unit,l,x,r,m,h,hm=>by simp only[TT.of]at h;cases h;exact⟨[],m,rfl,bL,hm⟩
 |.pair a b,l,x,r,m,h,hm=>by
  simp only[TT.of]at h;split at h
  .rename_i x1 r1 h1;split at h;.rename_i y r2 h2;cases h;obtain⟨c,m1,rfl,k1,k2⟩:=Eo h1 hm;obtain⟨c',m2,rfl,k3,k4⟩:=Eo h2 k2;exact⟨c++c',m2,by simp,eN k1 k3,k4⟩
   cases h
  cases h
 |.sl t,l,x,r,m,h,hm=>by
  simp only[TT.of]at h;unfold Zb at h;split at h
  .split at h;.rename_i ht;subst ht;cases h;obtain⟨d,m',rfl,h1,h2⟩:=ak hm;cases d<;>simp only[RT]at h1;exact⟨[_],m',rfl,kT (by simp only[RT];exact⟨h1.1,trivial⟩),h2⟩
   cases h
  .cases h;obtain⟨d,m',rfl,h1,h2⟩:=ak hm;cases d<;>simp only[RT]at h1;obtain⟨rfl,rfl,rfl⟩:=h1;exact⟨[_],m',rfl,kT (by simp only[RT,fS];exact⟨trivial,trivial⟩),h2⟩
  cases h
theorem jR{t:Option TT}{v:TV}{d:DV}(hp:eG v=true)(h:RT ι S v d):d.strip.pure=true/\(∀l,d≠.tup l)/\RT ι' S' (kz t v) d.strip:=by
 cases v with
 |agg l=>
  cases d<;>simp only[RT]at h;rename_i m;obtain⟨k1,k2⟩:=B7 (ι':=ι') (S':=S') hp h;refine⟨k1,λ_ e=>(by cases e),?_⟩;cases t with
  |none=>simp only[kz,RT,DV.strip,DV.dF];exact k2
  |some t=>
   have e:kz (some t) (.agg l)=match t.of l with|some (x,[])=>.agg (t.cells x)|_=>.agg (l.map rR):=by cases t<;>rfl
   rw[e];split;.rename_i x ho;obtain⟨c,m',rfl,n1,n2⟩:=Gl ho h;rw[aP n2,cV];simp only[RT,DV.strip,DV.dF];exact sx n1
   simp only[RT,DV.strip,DV.dF];exact k2
 |val u=>
  cases d<;>simp only[RT]at h;rename_i u';subst h;refine⟨rfl,λ_ e=>(by cases e),?_⟩;have e:kz t (.val u')=.val u':=by cases t with|none=>rfl|some t=>cases t<;>rfl
  rw[e];simp only[RT,DV.strip,DV.dF]
 |au=>
  cases d<;>simp only[RT]at h;obtain⟨rfl,rfl,rfl⟩:=h;refine⟨rfl,λ_ e=>(by cases e),?_⟩;cases t with
  |none=>simp only[kz,RT]
  |some t=>
   cases t with
   |sl e=>simp only[kz,RT,DV.strip,DV.dF,fS];exact⟨trivial,trivial⟩
   |_=>simp only[kz,RT]
 |sl k l ap=>
  cases d<;>simp only[RT]at h;refine⟨rfl,λ_ e=>(by cases e),?_⟩;have e:∃QZ,kz t (.sl k l ap)=.sl k l QZ/\(QZ=.no\/∃b,QZ=.stop b):=by
   cases ap with
   |stop b=>exact⟨.stop false,by cases t with|none=>rfl|some t=>cases t<;>rfl,.inr ⟨_,rfl⟩⟩
   |_=>exact⟨.no,by cases t with|none=>rfl|some t=>cases t<;>rfl,.inl rfl⟩
  obtain⟨QZ,e,e'⟩:=e;rw[e];have e':∀{ι S n tok f},pQ ι S n tok f QZ:=by rcases e' with rfl|⟨b,rfl⟩<;>exact trivial
  simp only[RT,DV.strip,DV.dF];exact⟨h.1,e'⟩
 |_=>cases hp
theorem tn{t:Option TT}{v:TV}{d:DV}(hp:eG v=true)(h:RT ι S v d):RT ι' S' (kz t v) d:=by
 have n1:∀{l:List TV}{m:List DV},l.all xO=true->cQ ι S l m->cQ ι' S' (l.map rR) m:=by
  intro l;induction l with
  |nil=>intro m _ h;rw[aP h];exact bL
  |cons a l ih=>
   intro m hp h;obtain⟨d,m',rfl,h1,h2⟩:=ak h;simp only[cA,aA]at hp;refine aQ ?_ (ih hp.2 h2);cases a<;>first|(cases hp.1;done)|skip
   .cases d<;>simp only[RT]at h1;simp only[rR,RT];exact h1
   .simp only[rR,RT]
   cases d<;>simp only[RT]at h1;simp only[rR,RT];exact⟨h1.1,trivial⟩
 cases v with
 |agg l=>
  cases d<;>simp only[RT]at h;rename_i m;cases t with
  |none=>simp only[kz,RT];exact n1 hp h
  |some t=>
   have e:kz (some t) (.agg l)=match t.of l with|some (x,[])=>.agg (t.cells x)|_=>.agg (l.map rR):=by cases t<;>rfl
   rw[e];split;.rename_i x ho;obtain⟨c,m',rfl,k1,k2⟩:=Eo (ι':=ι') (S':=S') ho h;rw[aP k2,cV];simp only[RT];exact k1
   simp only[RT];exact n1 hp h
 |val u=>
  cases d<;>simp only[RT]at h;have e:kz t (.val u)=.val u:=by cases t with|none=>rfl|some t=>cases t<;>rfl
  rw[e];simp only[RT];exact h
 |au=>
  cases d<;>simp only[RT]at h;obtain⟨rfl,rfl,rfl⟩:=h;cases t with
  |none=>simp only[kz,RT]
  |some t=>
   cases t with
   |sl e=>simp only[kz,RT,fS];exact⟨trivial,trivial⟩
   |_=>simp only[kz,RT]
 |sl k l ap=>
  cases d<;>simp only[RT]at h;have e:∃QZ,kz t (.sl k l ap)=.sl k l QZ/\(QZ=.no\/∃b,QZ=.stop b):=by
   cases ap with
   |stop b=>exact⟨.stop false,by cases t with|none=>rfl|some t=>cases t<;>rfl,.inr ⟨_,rfl⟩⟩
   |_=>exact⟨.no,by cases t with|none=>rfl|some t=>cases t<;>rfl,.inl rfl⟩
  obtain⟨QZ,e,e'⟩:=e;rw[e];have e':∀{ι S n tok f},pQ ι S n tok f QZ:=by rcases e' with rfl|⟨b,rfl⟩<;>exact trivial
  simp only[RT];exact⟨h.1,e'⟩
 |_=>cases hp
theorem jU:∀{ts:List (Option TT)}{l:List TV}{m:List DV},l.all eG=true->cQ ι S l m->(m.map DV.strip).all DV.pure=true/\cQ ι' S' (bG ts l) (m.map DV.strip)
 |_,[],m,_,h=>by rw[aP h];exact⟨rfl,by simp only[bG,fe];exact bL⟩
 |[],a::l,m,hp,h=>by obtain⟨d,m',rfl,h1,h2⟩:=ak h;simp only[cA,aA]at hp;obtain⟨k1,-,k2⟩:=jR (t:=none) (ι':=ι') (S':=S') hp.1 h1;obtain⟨k3,k4⟩:=jU (ts:=[]) hp.2 h2;refine⟨?_,by simp only[bG,aV];exact aQ k2 k4⟩;rw[aV,cA,k1,k3];rfl
 |t::ts,a::l,m,hp,h=>by obtain⟨d,m',rfl,h1,h2⟩:=ak h;simp only[cA,aA]at hp;obtain⟨k1,-,k2⟩:=jR (t:=t) (ι':=ι') (S':=S') hp.1 h1;obtain⟨k3,k4⟩:=jU (ts:=ts) hp.2 h2;refine⟨?_,by simp only[bG,aV];exact aQ k2 k4⟩;rw[aV,cA,k1,k3];rfl
theorem lS:∀{ts:List (Option TT)}{l:List TV}{m:List DV},l.all eG=true->cQ ι S l m->cQ ι' S' (bG ts l) m
 |_,[],m,_,h=>by rw[aP h];simp only[bG];exact bL
 |[],a::l,m,hp,h=>by obtain⟨d,m',rfl,h1,h2⟩:=ak h;simp only[cA,aA]at hp;simp only[bG];exact aQ (tn hp.1 h1) (lS hp.2 h2)
 |t::ts,a::l,m,hp,h=>by obtain⟨d,m',rfl,h1,h2⟩:=ak h;simp only[cA,aA]at hp;simp only[bG];exact aQ (tn hp.1 h1) (lS hp.2 h2)
def gd:lq:=λ_=>none
def uM(aI:bS)(g:FuncId)(targs:List TV)(Q:TV->Prop):Prop:=
 ∀bR,cQ gd [] targs bR->∃d v,aI g bR=some d/\d.pure=true/\RT gd [] v d/\refs v=[]/\Q v
theorem uM.mono {g:FuncId}{targs:List TV}{Q Q':TV->Prop}(h:uM aI g targs Q)(hq:∀v,Q v->Q' v):uM aI g targs Q':=λbR hd=>by obtain⟨d,v,h1,h2,h3,h4,h5⟩:=h bR hd;exact⟨d,v,h1,h2,h3,h4,hq v h5⟩
theorem iS(hE:cQ ι S te env){f:Operand}{args:Array Operand}{g:FuncId}{fs cs xs:List TV}(hf:fM te f=some (.fn g fs cs))(ha:lV te args.toList=some xs):
  ∃xD lG FA,jy env f=some (.fn g xD lG)/\evs (jy env) args.toList=some FA/\cQ ι S (fs++xs++cs) (xD++FA++lG):=by
 obtain⟨d,k1,k2⟩:=bD hE hf;obtain⟨FA,k3,k4⟩:=s6 hE ha;cases d<;>simp only[RT]at k2;obtain⟨rfl,k5,k6⟩:=k2;exact⟨_,_,FA,k1,k3,eN (eN k5 k4) k6⟩
theorem Fg{f:Operand}{args:Array Operand}{argTypes:Array TypeId}{g:FuncId}{fs cs xs targs:List TV}{Q:TV->Prop}(hop:o.op=.call {callee:=.value f,args,argTypes})(hh:ty.h o≠1)(hf:fM te f=some (.fn g fs cs))(ha:lV te args.toList=some xs)(hp:(fs++xs++cs).all eG=true)
  (hn:bG (gm tt fs argTypes) (fs++xs++cs)=targs) (hs:uM aI g targs Q) (dr:Bool):Does P ty aI call yf B o nT te tS dr λv bZ bN ft=>Q v/\bZ=te/\bN=tS/\ft=⟨some [],false⟩:=by
 intro ι w env S aD hR hB hw hT Fu hS;obtain⟨xD,lG,FA,k1,k2,k3⟩:=iS hR.env hf ha;obtain⟨k4,k5⟩:=jU (ts:=gm tt fs argTypes) (ι':=gd) (S':=[]) hp k3;rw[hn]at k5;obtain⟨d,v,m1,m2,m3,m4,m5⟩:=hs _ k5;refine⟨d,S,ι,w,v,te,tS,⟨some [],false⟩,⟨some [],false⟩,λ_=>?_,λhd=>?_,⟨id,λl hl=>⟨[],rfl,λj hj=>(by cases hj)⟩⟩,λl m _ hm j hj=>(by cases hm;cases hj),hR,pF _ _ m4 m3,hw,λ_ _ _=>rfl,Fr.refl _ _ _,hB,gM _ _,m5,rfl,rfl,rfl⟩;.simp only[ah,hop,k1,k2,xh,k4,if_true,m1]
 simp only[aJ,hop,k1,k2,if_neg hh,k4,if_true,m1,av]
theorem Wb{k:Nat}{f:Operand}{args:Array Operand}{argTypes:Array TypeId}{g:FuncId}{fs cs xs targs:List TV}{K:TV->Prop}{Q:List TV->Prop}(ho:ops[k]? =some o)(hw:eD ops te o=some true)(hop:o.op=.call {callee:=.value f,args,argTypes})(hh:ty.h o≠1)(hf:fM te f=some (.fn g fs cs))(ha:lV te args.toList=some xs)(hp:(fs++xs++cs).all eG=true)
  (hn:bG (gm tt fs argTypes) (fs++xs++cs)=targs) (hs:uM aI g targs K) (h:∀v,K v->WQ P ty aI call yf ops tS (k+1) (ki te o.dst v) Q):WQ P ty aI call yf ops tS k te Q:=by
 intro ι env S hR;obtain⟨xD,lG,FA,k1,k2,k3⟩:=iS hR.env hf ha;obtain⟨k4,k5⟩:=jU (ts:=gm tt fs argTypes) (ι':=gd) (S':=[]) hp k3;rw[hn]at k5;obtain⟨d,v,m1,m2,m3,m4,m5⟩:=hs _ k5;obtain⟨aK,bZ,n1,n2,n3⟩:=h v m5 ι (kC env o.dst d) S (oP hR (pF _ _ m4 m3) _);refine⟨aK,bZ,?_,n2,n3⟩;rw[oV ho];have hq:dH P ty aI call yf (jy env) o S=some d:=by simp only[dH,hop,k1,k2,if_neg hh,k4,if_true,m1]
 simp only[ry,iP hR.env hw,if_true,hq,n1]
def isRef:TV->Bool
 |.ptr _ _|.fn _ _ _=>true
 |_=>false
def Zt(kp:Nat)(t:Option TT):TV->Option TV
 |.ptr k off=>if k=kp then some (.ptr 0 off)else none
 |v=>if eG v then some (kz t v)else none
def Kz(kp:Nat):List TV->Option (List TV)
 |[]=>some []
 |v::l=>match Zt kp none v,Kz kp l with
  |some a,some b=>some (a::b)
  |_,_=>none
def Zv(kp:Nat)(t:Option TT):TV->Option TV
 |.fn g fs cs=>match Kz kp fs,Kz kp cs with
  |some a,some b=>some (.fn g a b)
  |_,_=>none
 |v=>Zt kp t v
def yS(kp:Nat):List (Option TT)->List TV->Option (List TV)
 |_,[]=>some []
 |[],v::l=>match Zv kp none v,yS kp [] l with
  |some a,some b=>some (a::b)
  |_,_=>none
 |t::ts,v::l=>match Zv kp t v,yS kp ts l with
  |some a,some b=>some (a::b)
  |_,_=>none
def ku(id:Nat):lq:=λj=>if j=0 then some id else none
theorem QF{kp id:Nat}{t:Option TT}{v v':TV}{d:DV}(hk:ι kp=some id)(h:Zt kp t v=some v')(hv:RT ι S v d):RT (ku id) S v' d:=by
 unfold Zt at h;split at h
 .split at h;.rename_i k off Gb;subst Gb;cases h;cases d<;>simp only[RT]at hv⊢;rw[hk]at hv;exact⟨hv.1,hv.2⟩
  cases h
 split at h;.rename_i hp;cases h;exact tn hp hv
 cases h
theorem EI{kp id:Nat}(hk:ι kp=some id):∀{l l':List TV}{m:List DV},Kz kp l=some l'->cQ ι S l m->cQ (ku id) S l' m
 |[],l',m,h,hv=>by cases h;rw[aP hv];exact bL
 |v::l,l',m,h,hv=>by
  obtain⟨d,m',rfl,h1,h2⟩:=ak hv;simp only[Kz]at h;split at h;.rename_i a b e1 e2;cases h;exact aQ (QF hk e1 h1) (EI hk e2 h2)
  cases h
theorem QJ{kp id:Nat}{t:Option TT}{v v':TV}{d:DV}(hk:ι kp=some id)(h:Zv kp t v=some v')(hv:RT ι S v d):RT (ku id) S v' d:=by
 unfold Zv at h;split at h
 .split at h;.rename_i g fs cs a b e1 e2;cases h;cases d<;>simp only[RT]at hv⊢;exact⟨hv.1,EI hk e1 hv.2.1,EI hk e2 hv.2.2⟩
  cases h
 exact QF hk h hv
theorem EK{kp id:Nat}(hk:ι kp=some id):∀{ts:List (Option TT)}{l l':List TV}{m:List DV},yS kp ts l=some l'->cQ ι S l m->cQ (ku id) S l' m
 |_,[],l',m,h,hv=>by simp only[yS]at h;cases h;rw[aP hv];exact bL
 |[],v::l,l',m,h,hv=>by
  obtain⟨d,m',rfl,h1,h2⟩:=ak hv;simp only[yS]at h;split at h;.rename_i a b e1 e2;cases h;exact aQ (QJ hk e1 h1) (EK hk e2 h2)
  cases h
 |t::ts,v::l,l',m,h,hv=>by
  obtain⟨d,m',rfl,h1,h2⟩:=ak hv;simp only[yS]at h;split at h;.rename_i a b e1 e2;cases h;exact aQ (QJ hk e1 h1) (EK hk e2 h2)
  cases h
theorem nA:∀{l:List TV}{m:List DV},l.any isRef=true->cQ ι S l m->(m.map DV.strip).all DV.pure=false
 |[],_,h,_=>by cases h
 |v::l,m,h,hv=>by
  obtain⟨d,m',rfl,h1,h2⟩:=ak hv;simp only[List.any_cons,gP]at h;rw[aV,cA];rcases h with h|h
  .cases v<;>first|(cases h;done)|skip
   .cases d<;>simp only[RT]at h1;rfl
   cases d<;>simp only[RT]at h1;rfl
  rw[nA h h2,qO]
def B3(call:bt)(g:FuncId)(targs ts:List TV)(Q:TV->List TV->Prop):Prop:=
 ∀ι bR S,bT ι targs [.cells ts] bR S->∃d S' ι' v Am k' iJ,call g bR S=some (d,S')/\RT ι' S' v d/\refs v=[]/\eH Am=[]/\ι 0=some k'/\S'[k']? =some (.cells iJ)/\cQ ι' S' Am iJ/\Fr [0] ι S ι' S'/\Nn S.length S S'/\Q v Am
theorem B3.mono {g:FuncId}{targs ts:List TV}{Q Q':TV->List TV->Prop}(h:B3 call g targs ts Q)(hq:∀v ts,Q v ts->Q' v ts):B3 call g targs ts Q':=λι bR S hd=>by obtain⟨d,S',ι',v,Am,k',iJ,h1,h2,h3,h4,h5,h6,h7,h8,h9,wO⟩:=h ι bR S hd;exact⟨d,S',ι',v,Am,k',iJ,h1,h2,h3,h4,h5,h6,h7,h8,h9,hq _ _ wO⟩
theorem Oq{f:Operand}{args:Array Operand}{argTypes:Array TypeId}{g:FuncId}{fs cs xs targs ts:List TV}{kp:Nat}{Q:TV->List TV->Prop}(hop:o.op=.call {callee:=.value f,args,argTypes})(hf:fM te f=some (.fn g fs cs))(ha:lV te args.toList=some xs)
  (hn:yS kp (gm tt fs argTypes) (fs++xs++cs)=some targs) (hr:(fs++xs++cs).any isRef=true) (hts:tS[kp]? =some (.cells ts)) (MD:eH ts=[]) (hs:B3 call g targs ts Q):Does P ty aI call yf B o nT te tS false λv bZ bN ft=>∃Am,Q v Am/\bZ=te/\bN=tS.set kp (.cells Am)/\ft=⟨none,true⟩:=by
 intro ι w env S aD hR hB hw hT Fu hS;obtain⟨xD,lG,FA,k1,k2,k3⟩:=iS hR.env hf ha;obtain⟨jd,ds,k6,m2,m3⟩:=hR.cells kp ts hts;have hc:bT (ku jd) targs [.cells ts] (xD++FA++lG) S:=by
  refine⟨EK k6 hn k3,λk l hk=>?_,λk e s hk=>?_,λk k' hk=>?_,λi j k' hi hj=>?_,λk b hk t ht=>by cases k with|zero=>cases hk;trivial|succ k=>simp at hk⟩
  .cases k with
   |zero=>cases hk;exact⟨jd,ds,rfl,m2,iR _ _ MD m3⟩
   |succ k=>simp at hk
  .cases k<;>simp at hk
  .by_cases h0:k=0;.subst h0;exact⟨_,rfl,λe=>by cases e⟩
   simp only[ku,h0,if_false]at hk;cases hk
  by_cases Dp:i=0<;>by_cases QV:j=0;.rw[Dp,QV]
  .simp only[ku,QV,if_false]at hj;cases hj
  .simp only[ku,Dp,if_false]at hi;cases hi
  simp only[ku,Dp,if_false]at hi;cases hi
 obtain⟨d,S',ι',v,Am,k',iJ,n1,n2,n3,n4,n5,n6,n7,n8,n9,n10⟩:=hs _ _ S hc;simp only[ku,if_true,aB]at n5;subst n5;have lI:∀k k0,k≠kp->ι k=some k0->S'[k0]? =S[k0]? :=by
  intro k k0 hk h0;refine n8.rest k0 (hR.live h0) λj hj=>?_;by_cases QV:j=0;.subst QV;simp only[ku,if_true,aB]at hj;subst hj;exact hk (hR.inj _ _ _ h0 k6)
  simp only[ku,QV,if_false]at hj;cases hj
 have K:jE ι S ι S' λ_=>False:=λk k0 _ hk=>⟨hk,by
  by_cases Gb:k=kp;.subst Gb;rw[k6]at hk;cases hk;exact vO (by rw[m2];simp) (by rw[m2];simp) (by rw[m2];simp)
  exact dY (lI k k0 Gb hk)⟩
 have YQ:=nA hr k3;refine⟨d,S',ι,w,v,te,tS.set kp (.cells Am),⟨none,true⟩,⟨none,true⟩,λ_=>?_,λhd=>(by cases hd),⟨λe=>e,λl hl=>(by cases hl)⟩,λl m hl=>(by cases hl),?_,pF _ _ n3 n2,hw,λ_ _ _=>rfl,⟨λk0 hl hno=>n8.rest k0 hl λj hj=>?_,λk k0 hk=>.inl ⟨k,hk⟩,λ_ _=>rfl⟩,λk hk=>?_,⟨n9.1,λj hj dA=>?_⟩,Am,n10,rfl,rfl,rfl⟩;.simp only[ah,hop,k1,k2,xh,YQ,aG,if_false,n1];split<;>rfl
 .refine⟨bu K _ _ hR.env,λk l hk=>?_,λk e s hk t ht=>?_,λk k0 hk=>?_,hR.inj,λk b hk t ht=>by
   rw[aF]at hk;split at hk;.split at hk<;>cases hk;trivial
   rename_i e1;rw[lI k t (λe=>e1 e.symm) ht];exact hR.mp k b hk t ht⟩
  .rw[aF]at hk;split at hk
   .rename_i e1;subst e1;split at hk;.cases hk;exact⟨jd,iJ,k6,n6,iR _ _ n4 n7⟩
    cases hk
   rename_i e1;obtain⟨k0,MK,q1,q2,q3⟩:=hR.cells k l hk;exact⟨k0,MK,q1,by rw[lI k k0 (Ne.symm e1) q1];exact q2,bu K _ _ q3⟩
  .rw[aF]at hk;split at hk;.split at hk<;>cases hk
   obtain⟨n,q1⟩:=hR.own k e s hk t ht;exact⟨n,(K k t (λe=>e) ht).2.1 _ _ _ q1⟩
  rw[aF];split;.rename_i e1;subst e1;exact⟨_,if_pos (az.1 hts).1,λe=>by cases e⟩
  exact hR.qv k k0 hk
 .by_cases QV:j=0;.subst QV;simp only[ku,if_true,aB]at hj;subst hj;exact hno _ k6
  simp only[ku,QV,if_false]at hj;cases hj
 .rw[aF];split;.rename_i e1;subst e1;exact⟨some _,if_pos (az.1 hts).1⟩
  exact hB k hk
 have:=(az.1 dA).1;exact n9.2 j (by omega) dA
def kQ:TV->Bool
 |.val v=>!(v matches .tuple _)
 |.sl _ _ .no=>true
 |.sl _ _ (.stop _)=>true
 |_=>false
def DJ:TV->Bool
 |.agg l=>l.all kQ
 |.val _|.sl _ _ .no=>true
 |_=>false
def BW:TV->Bool
 |.tup l=>l.all DJ
 |v=>DJ v
theorem vp{v:TV}{d:DV}(hp:kQ v=true)(h:RT ι S v d):d.aM.bY=true/\RT ι' S' v d.aM:=by
 cases v<;>first|(cases hp;done)|skip
 .cases d<;>simp only[RT]at h;subst h;exact⟨hp,by simp only[RT,DV.aM]⟩
 rename_i t l ap;cases ap<;>first|(cases hp;done)|skip
 all_goals
  cases d<;>simp only[RT]at h;exact⟨rfl,by simp only[RT,DV.aM];exact⟨h.1,trivial⟩⟩
theorem pq:∀{l:List TV}{m:List DV},l.all kQ=true->cQ ι S l m->(m.map DV.aM).all DV.bY=true/\cQ ι' S' l (m.map DV.aM)
 |[],m,_,h=>by rw[aP h];exact⟨rfl,bL⟩
 |a::l,m,hp,h=>by obtain⟨d,m',rfl,h1,h2⟩:=ak h;simp only[cA,aA]at hp;obtain⟨k1,k2⟩:=vp (ι':=ι') (S':=S') hp.1 h1;obtain⟨k3,k4⟩:=pq hp.2 h2;exact⟨by rw[aV,cA,k1,k3];rfl,aQ k2 k4⟩
theorem Cr{v:TV}{d:DV}(hp:DJ v=true)(h:RT ι S v d):d.dF.ko=true/\RT ι' S' v d.dF:=by
 cases v<;>first|(cases hp;done)|skip
 .cases d<;>simp only[RT]at h;subst h;exact⟨rfl,by simp only[RT,DV.dF]⟩
 .cases d<;>simp only[RT]at h;obtain⟨k1,k2⟩:=pq (ι':=ι') (S':=S') hp h;exact⟨k1,by simp only[RT,DV.dF];exact k2⟩
 rename_i t l ap;cases ap<;>first|(cases hp;done)|skip
 cases d<;>simp only[RT]at h;exact⟨rfl,by simp only[RT,DV.dF];exact⟨h.1,trivial⟩⟩
theorem Aj:∀{l:List TV}{m:List DV},l.all DJ=true->cQ ι S l m->(m.map DV.dF).all DV.ko=true/\cQ ι' S' l (m.map DV.dF)
 |[],m,_,h=>by rw[aP h];exact⟨rfl,bL⟩
 |a::l,m,hp,h=>by obtain⟨d,m',rfl,h1,h2⟩:=ak h;simp only[cA,aA]at hp;obtain⟨k1,k2⟩:=Cr (ι':=ι') (S':=S') hp.1 h1;obtain⟨k3,k4⟩:=Aj hp.2 h2;exact⟨by rw[aV,cA,k1,k3];rfl,aQ k2 k4⟩
theorem Cq{v:TV}{d:DV}(hp:BW v=true)(h:RT ι S v d):d.strip.pure=true/\RT ι' S' v d.strip:=by
 by_cases hd:∃l,d=.tup l
 .obtain⟨m,rfl⟩:=hd;cases v<;>simp only[RT]at h<;>first|(cases hp;done)|skip
  obtain⟨k1,k2⟩:=Aj (ι':=ι') (S':=S') hp h;exact⟨k1,by simp only[RT,DV.strip];exact k2⟩
 have hv:DJ v=true:=by
  cases v<;>first|exact hp|skip
  cases d<;>simp only[RT]at h;exact(hd ⟨_,rfl⟩).elim
 obtain⟨k1,k2⟩:=Cr (ι':=ι') (S':=S') hv h;have e:d.strip=d.dF:=by cases d<;>first|rfl|exact(hd ⟨_,rfl⟩).elim
 refine⟨?_,by rw[e];exact k2⟩;rw[e];have:∀c:DV,c.ko=true->(∀l,c≠.tup l)->c.pure=true:=λc h hn=>by cases c<;>first|exact h|exact(hn _ rfl).elim
 refine this _ k1 λl hl=>?_;cases d<;>simp only[DV.dF]at hl<;>first|(cases hl;done)|exact hd ⟨_,rfl⟩
theorem Mo{f:Operand}{args:Array Operand}{argTypes:Array TypeId}{g:FuncId}{fs cs xs rest ts:List TV}{kp off:Nat}{Q:TV->List TV->Prop}(hop:o.op=.call {callee:=.value f,args,argTypes})(hh:ty.h o≠1)(hf:fM te f=some (.fn g fs cs))(ha:lV te args.toList=some xs)
  (hl:fs++xs++cs=.ptr kp off::rest) (hp:rest.all eG=true) (hts:tS[kp]? =some (.cells ts)) (uh:ts.all kQ=true) (hs:B3 call g (.ptr 0 off::bG (gm tt fs argTypes).tail rest) ts Q) (hq:∀v Am,Q v Am->BW v=true/\Am.all kQ=true):
  Does P ty aI call yf B o nT te tS true λv bZ bN ft=>∃Am,Q v Am/\bZ=te/\bN=tS.set kp (.cells Am)/\ft=⟨some [kp],true⟩:=by
 intro ι w env S aD hR hB hw hT Fu hS;obtain⟨xD,lG,FA,k1,k2,k3⟩:=iS hR.env hf ha;obtain⟨jd,ds,k6,m2,m3⟩:=hR.cells kp ts hts;rw[hl]at k3;obtain⟨d0,m0,hm0,YN,ME⟩:=ak k3;have MI:d0=.ptr jd off:=by cases d0<;>simp only[RT]at YN;obtain⟨e1,e2⟩:=YN;rw[k6]at e1;cases e1;rw[e2]
 subst MI;obtain⟨p1,p2⟩:=jU (ts:=(gm tt fs argTypes).tail) (ι':=ku 0) (S':=[.cells (ds.map DV.aM)]) hp ME;obtain⟨c1,c2⟩:=pq (ι':=ku 0) (S':=[.cells (ds.map DV.aM)]) uh m3;have hc:bT (ku 0) (.ptr 0 off::bG (gm tt fs argTypes).tail rest) [.cells ts] (.ptr 0 off::m0.map DV.strip) [.cells (ds.map DV.aM)]:=by
  refine⟨aQ (by simp only[RT];exact⟨rfl,trivial⟩) p2,λk l hk=>?_,λk e s hk=>?_,λk k' hk=>?_,λi j k' hi hj=>?_,λk b hk t ht=>by cases k with|zero=>cases hk;trivial|succ k=>simp at hk⟩
  .cases k with
   |zero=>cases hk;exact⟨0,_,rfl,rfl,c2⟩
   |succ k=>simp at hk
  .cases k<;>simp at hk
  .by_cases h0:k=0;.subst h0;exact⟨_,rfl,λe=>by cases e⟩
   simp only[ku,h0,if_false]at hk;cases hk
  by_cases Dp:i=0<;>by_cases QV:j=0;.rw[Dp,QV]
  .simp only[ku,QV,if_false]at hj;cases hj
  .simp only[ku,Dp,if_false]at hi;cases hi
  simp only[ku,Dp,if_false]at hi;cases hi
 obtain⟨d,S1,ι1,v,Am,k',iJ,n1,n2,n3,n4,n5,n6,n7,n8,n9,n10⟩:=hs _ _ _ hc;simp only[ku,if_true,aB]at n5;subst n5;obtain⟨q1,q2⟩:=hq _ _ n10;obtain⟨r1,r2⟩:=Cq (ι':=ι) (S':=S.set jd (.cells (iJ.map DV.aM))) q1 n2;obtain⟨r3,r4⟩:=pq (ι':=ι) (S':=S.set jd (.cells (iJ.map DV.aM))) q2 n7;have agE:∃T,S1=.cells iJ::T:=by
  cases S1 with
  |nil=>simp at n6
  |cons a T=>simp only[cg,aB]at n6;exact⟨T,by rw[n6]⟩
 obtain⟨T,rfl⟩:=agE;have hid:jd<S.length:=(az.1 m2).1;have lI:∀k0,k0≠jd->(S.set jd (.cells (iJ.map DV.aM)))[k0]? =S[k0]? :=λk0 h=>by rw[aF,if_neg λe=>h e.symm]
 have hkp:∀k,k≠kp->∀k0,ι k=some k0->k0≠jd:=λk hk k0 h0 e=>hk (hR.inj _ _ _ (e▸h0) k6);have K:jE ι S ι (S.set jd (.cells (iJ.map DV.aM))) λ_=>False:=λk k0 _ hk=>⟨hk,by
  by_cases Gb:k0=jd;.subst Gb;exact vO (by rw[m2];simp) (by rw[m2];simp) (by rw[m2];simp)
  exact dY (lI k0 Gb)⟩
 have YQ:((xD++FA++lG).map DV.strip).all DV.pure=false:=by rw[hm0];rfl
 have ho:pV call g (xD++FA++lG) S=some (jd,d.strip,iJ.map DV.aM):=by rw[hm0];simp only[pV,m2,p1,c1,fV,if_true,n1,r1,r3]
 refine⟨d.strip,S.set jd (.cells (iJ.map DV.aM)),ι,w,v,te,tS.set kp (.cells Am),⟨some [jd],true⟩,⟨some [kp],true⟩,λhd=>(by cases hd),λ_=>?_,⟨λe=>e,λl hl=>?_⟩,λl m hl hm j hj=>?_,?_,r2,hw,λ_ _ _=>rfl,⟨λk0 hl hno=>lI k0 λe=>hno _ (e▸k6),λk k0 hk=>.inl ⟨k,hk⟩,λ_ _=>rfl⟩,λk hk=>?_,⟨by simp,λj hj dA=>?_⟩,Am,n10,rfl,rfl,rfl⟩;.simp only[aJ,hop,k1,k2,if_neg hh,YQ,aG,if_false,ho]
 .cases hl;exact⟨[jd],rfl,λj hj=>⟨kp,by simp,by simp only[bC]at hj;rw[hj];exact hw _ _ k6⟩⟩
 .cases hm;simp only[bC]at hj;exact .inr ⟨kp,hj▸k6⟩
 .refine⟨bu K _ _ hR.env,λk l hk=>?_,λk e s hk t ht=>?_,λk k0 hk=>?_,hR.inj,λk b hk t ht=>by
   rw[aF]at hk;split at hk;.split at hk<;>cases hk;trivial
   rename_i e1;rw[lI t (hkp k (λe=>e1 e.symm) t ht)];exact hR.mp k b hk t ht⟩
  .rw[aF]at hk;split at hk
   .rename_i e1;subst e1;split at hk;.cases hk;exact⟨jd,_,k6,by rw[aF,if_pos rfl,if_pos hid],r4⟩
    cases hk
   rename_i e1;obtain⟨k0,MK,q1,q2,q3⟩:=hR.cells k l hk;exact⟨k0,MK,q1,by rw[lI k0 (hkp k (Ne.symm e1) k0 q1)];exact q2,bu K _ _ q3⟩
  .rw[aF]at hk;split at hk;.split at hk<;>cases hk
   obtain⟨n,q1⟩:=hR.own k e s hk t ht;exact⟨n,(K k t (λe=>e) ht).2.1 _ _ _ q1⟩
  rw[aF];split;.rename_i e1;subst e1;exact⟨_,if_pos (az.1 hts).1,λe=>by cases e⟩
  exact hR.qv k k0 hk
 .rw[aF];split;.rename_i e1;subst e1;exact⟨some _,if_pos (az.1 hts).1⟩
  exact hB k hk
 rw[lI j];.exact dA
 intro e;rw[e,m2]at dA;cases dA
end Go.Tv
namespace Go.Tv
open Go Go.Di
def abJ(ty:fP)(te:List TV)(tS:List TB):ResultVar->Option TV
 |.tmp t=>some (te.getD t .unk)
 |.cell a t=>match ty t,te.getD a .unk with
  |some d,.ptr id off=>match tS[id]? with
   |some (.cells l)=>wX d.k.isAgg d.size l off
   |_=>none
  |_,_=>none
def xJ(ty:fP)(te:List TV)(tS:List TB):List ResultVar->Option (List TV)
 |[]=>some []
 |x::r=>match abJ ty te tS x,xJ ty te tS r with
  |some v,some l=>some (v::l)
  |_,_=>none
def jB:List TV->TV
 |[d]=>d
 |l=>.tup l
variable {P:Program} {ty:fP} {tt:TypeId->Option TT} {ι ι' w:lq} {S S':ai} {te mM:List TV} {env:List DV} {tS iT:List TB} {aI:bS} {call:bt} {yf:ew} {o:Oper} {aD nT:Nat} {B:List Nat} {r:TR} {ops:Array Oper}
theorem vI(h:bT ι te tS env S):∀{rs:List ResultVar}{vs:List TV},xJ ty te tS rs=some vs->∃ds,uw ty env S rs=some ds/\cQ ι S vs ds
 |[],vs,hx=>by cases hx;exact⟨[],rfl,bL⟩
 |x::r,vs,hx=>by
  simp only[xJ]at hx;split at hx
  .rename_i v l h1 h2;cases hx;obtain⟨ds,k1,k2⟩:=vI h h2;cases x with
   |tmp t=>cases h1;exact⟨_,by simp only[uw,k1,av],aQ (Eg h.env t) k2⟩
   |cell a t=>
    simp only[abJ]at h1;split at h1
    .rename_i d id off e1 e2;split at h1;.rename_i l' e3;have hg:=Eg h.env a;rw[e2]at hg;generalize hd:env.getD a bE=da at hg;cases da<;>simp only[RT]at hg;obtain⟨g1,rfl⟩:=hg;obtain⟨jd,iJ,m1,m2,m3⟩:=h.cells id l' e3;rw[g1]at m1;cases m1;obtain⟨q,m4,m5⟩:=si m3 h1;exact⟨q::ds,by simp only[uw,hd,lH,e1,m2,m4,k1],aQ m5 k2⟩
     cases h1
    cases h1
  cases hx
theorem Sf{ts:List (Option TT)}{vs:List TV}{ds:List DV}(hp:vs.all eG=true)(h:cQ ι S vs ds):(oneOf ds).strip.pure=true/\RT ι' S' (jB (bG ts vs)) (oneOf ds).strip:=by
 have many:∀{ts:List (Option TT)}{l:List TV}{m:List DV},l.all eG=true->cQ ι S l m->(m.map DV.dF).all DV.ko=true/\cQ ι' S' (bG ts l) (m.map DV.dF):=by
  intro ts l;induction l generalizing ts with
  |nil=>intro m _ h;rw[aP h];cases ts<;>exact⟨rfl,by simp only[bG,fe];exact bL⟩
  |cons a l ih=>
   intro m hp h;obtain⟨d,m',rfl,h1,h2⟩:=ak h;simp only[cA,aA]at hp;cases ts with
   |nil=>
    obtain⟨k1,k0,k2⟩:=jR (t:=none) (ι':=ι') (S':=S') hp.1 h1;obtain⟨k3,k4⟩:=ih (ts:=[]) hp.2 h2;have e:d.strip=d.dF:=by cases d<;>first|rfl|exact(k0 _ rfl).elim
    rw[e]at k1 k2;have e2:d.dF.ko=true:=by cases d<;>first|exact k1|exact(k0 _ rfl).elim
    exact⟨by rw[aV,cA,e2,k3];rfl,by simp only[bG,aV];exact aQ k2 k4⟩
   |cons t ts=>
    obtain⟨k1,k0,k2⟩:=jR (t:=t) (ι':=ι') (S':=S') hp.1 h1;obtain⟨k3,k4⟩:=ih (ts:=ts) hp.2 h2;have e:d.strip=d.dF:=by cases d<;>first|rfl|exact(k0 _ rfl).elim
    rw[e]at k1 k2;have e2:d.dF.ko=true:=by cases d<;>first|exact k1|exact(k0 _ rfl).elim
    exact⟨by rw[aV,cA,e2,k3];rfl,by simp only[bG,aV];exact aQ k2 k4⟩
 match vs,ds,hp,h with
 |[],ds,_,h=>rw[aP h];cases ts<;>exact⟨rfl,by simp only[bG,jB,oneOf,DV.strip,RT,fe];exact bL⟩
 |[v],ds,hp,h=>
  obtain⟨d,m',rfl,h1,h2⟩:=ak h;rw[aP h2];simp only[cA,List.all_nil,s8]at hp;cases ts with
  |nil=>obtain⟨k1,k0,k2⟩:=jR (t:=none) (ι':=ι') (S':=S') hp h1;exact⟨k1,k2⟩
  |cons t ts=>obtain⟨k1,k0,k2⟩:=jR (t:=t) (ι':=ι') (S':=S') hp h1;cases ts<;>exact⟨k1,k2⟩
 |v::u::l,ds,hp,h=>
  obtain⟨k1,k2⟩:=many (ts:=ts) hp h;obtain⟨d,m',rfl,h1,h2⟩:=ak h;obtain⟨d',m'',rfl,h3,h4⟩:=ak h2;refine⟨k1,?_⟩;have e:∀{ts:List (Option TT)},jB (bG ts (v::u::l))=.tup (bG ts (v::u::l)):=by
   intro ts;cases ts with
   |nil=>simp only[bG,jB]
   |cons t ts=>cases ts<;>simp only[bG,jB]
  rw[e];simp only[oneOf,DV.strip,RT];exact k2
theorem GX{ts:List (Option TT)}{vs:List TV}{ds:List DV}(hp:vs.all eG=true)(h:cQ ι S vs ds):RT ι' S' (jB (bG ts vs)) (oneOf ds):=by
 have k:=lS (ts:=ts) (ι':=ι') (S':=S') hp h
 match vs,ds,hp,h,k with
 |[],ds,_,h,k=>rw[aP h];cases ts<;>(simp only[bG,jB,oneOf,RT];exact bL)
 |[v],ds,hp,h,k=>
  obtain⟨d,m',rfl,h1,h2⟩:=ak h;rw[aP h2]at k⊢;cases ts with
  |nil=>simp only[bG]at k⊢;obtain⟨_,_,e,k1,-⟩:=ak k;cases e;exact k1
  |cons t ts=>cases ts<;>(simp only[bG]at k⊢;obtain⟨_,_,e,k1,-⟩:=ak k;cases e;exact k1)
 |v::u::l,ds,hp,h,k=>
  obtain⟨d,m',rfl,h1,h2⟩:=ak h;obtain⟨d',m'',rfl,h3,h4⟩:=ak h2;have e:∀{ts:List (Option TT)},jB (bG ts (v::u::l))=.tup (bG ts (v::u::l)):=by
   intro ts;cases ts with
   |nil=>simp only[bG,jB]
   |cons t ts=>cases ts<;>simp only[bG,jB]
  rw[e];simp only[oneOf,RT];exact k
section
variable (P:Program) (ty:fP) (bM:bS) (L:Nat)
def CG(n:Nat):bS:=mc bM (ej P ty bM L n).1
def uG(n:Nat):bt:=(ej P ty bM L n).1
def yfN(n:Nat):ew:=(ej P ty bM L n).2
end
theorem iF{t:TT}:∀{l:List t.den}{ds:List DV},fH t l ds->ds.length=l.length*t.size
 |[],ds,h=>by simp only[fH]at h;subst h;simp
 |x::l,ds,h=>by simp only[fH]at h;obtain⟨c,m,rfl,h1,h2⟩:=h;rw[cD,rH h1,iF h2,dw,j3,Nat.one_mul,mz]
theorem ym{t:TT}(h0:(t.agg||t.size==1)=true):∀{l:List t.den}{ds:List DV},fH t l ds->fS (CR t) t.agg l (rowsOf t.size t.agg ds l.length)
 |[],ds,h=>by simp only[fH]at h;subst h;simp[rowsOf,fS]
 |x::l,ds,h=>by
  simp only[fH]at h;obtain⟨c,m,rfl,h1,h2⟩:=h;rw[dw,Ca (rH h1)];refine⟨?_,ym h0 h2⟩;cases ha:t.agg with
  |true=>exact⟨h1,by simp[DK]⟩
  |false=>
   have h3:=row_one h1 ha;rw[ha]at h3;have hs:t.size=1:=by rw[ha]at h0;simpa using h0
   have e2:(c++m).getD 0 bE=c.getD 0 bE:=by have:=rH h1;simp only[aR,er (show 0<c.length by omega)]
   simp only[aG,if_false];rw[e2];exact h3
theorem Gi(h:bT ι te tS env S){g:Nat}{t t':TT}{e:Nat}{l:List t'.den}{z:Bool}{d:DV}(hg:tS[g]? =some (.rows t' e l z))(hd:RT ι S (.so g t) d)(ht:t'=t):∃id ds,d=.jx id l.length t'.agg/\ι g=some id/\S[id]? =some (.op e t'.size ds z)/\CS S id l.length=some (e,t'.size,ds,z)/\fH t' l ds/\0<t'.size/\(t'.agg||t'.size==1)=true:=by subst ht;cases d<;>simp only[RT]at hd;rename_i id n agg;obtain⟨h1,rfl,e',s',l',z',h2,h3⟩:=hd;obtain⟨q0,q1,ds,q2,q3⟩:=h.mp g _ hg id h1;rw[h2]at q2;cases q2;have hl:=iF q3;have hn:n=l.length:=Nat.eq_of_mul_eq_mul_right q0 (h3.trans hl);subst hn;refine⟨id,l',rfl,h1,h2,?_,q3,q0,q1⟩;unfold CS;rw[h2];simp only[h3,if_true]
theorem Qe{id n:Nat}{t:TT}{e:Nat}{ds:List DV}(h:CS S id n=some (e,t.size,ds,true))(h0:0<t.size)(h1:(t.agg||t.size==1)=true):kO S (.jx id n t.agg)=.sl (rowsOf t.size t.agg ds n) none ⟨false,some false⟩:=by simp only[kO,h,js h0,h1,fV,if_true]
def FT(tS:List TB):TV->TV
 |.so g t=>match tS[g]? with
  |some (.rows t' _ l _)=>if h:t'=t then .sl t (h▸l) .no else .so g t
  |_=>.so g t
 |v=>v
def Ka(tS:List TB):TV->TV
 |.agg l=>.agg (l.map (FT tS))
 |v=>FT tS v
def yJ(tS:List TB)(vs:List TV):List TV:=vs.map (Ka tS)
section
variable {id:Nat} {e:TypeId} {s:Nat} {l:List DV}
theorem Qp{z:Bool}(h:S[id]? =some (.op e s l z))(d:DV):∃z',(yH S d)[id]? =some (.op e s l z')/\(z=true->z'=true)/\∀n ag,d=.jx id n ag->n*s=l.length->z'=true:=by
 have hn:∀n,n*s=l.length->CS S id n=some (e,s,l,z):=λn hn=>by unfold CS;rw[h];simp only[hn,if_true]
 unfold yH;split
 .rename_i jd n' ag';split
  .rename_i e1 s1 l1 ho;have h1:S[jd]? =some (.op e1 s1 l1 false):=by
    unfold CS at ho;split at ho
    .split at ho;.cases ho;assumption
     cases ho
    cases ho
   by_cases he:jd=id;.subst he;rw[h]at h1;cases h1;exact⟨true,by rw[aF,if_pos rfl,if_pos (az.1 h).1],λ_=>rfl,λ_ _ _ _=>rfl⟩
   exact⟨z,by rw[aF,if_neg he];exact h,λh=>h,λn ag hd _=>by cases hd;exact(he rfl).elim⟩
  rename_i hno;refine⟨z,h,λh=>h,λn ag hd hl=>?_⟩;cases hd;cases z with
  |true=>rfl
  |false=>exact(hno _ _ _ (hn _ hl)).elim
 rename_i hno;exact⟨z,h,λh=>h,λn ag hd _=>(hno _ _ _ hd).elim⟩
theorem Qr:∀(m:List DV){S:ai}{z:Bool},S[id]? =some (.op e s l z)->∃z',(m.foldl yH S)[id]? =some (.op e s l z')/\(z=true->z'=true)/\∀n ag,DV.jx id n ag∈m->n*s=l.length->z'=true
 |[],S,z,h=>⟨z,h,λh=>h,λ_ _ hm=>by simp at hm⟩
 |d::m,S,z,h=>by
  obtain⟨z1,h1,h2,h3⟩:=Qp h d;obtain⟨z2,k1,k2,k3⟩:=Qr m h1;refine⟨z2,k1,λhz=>k2 (h2 hz),λn ag hm hn=>?_⟩;rcases bz.1 hm with hm|hm;.exact k2 (h3 n ag hm.symm hn)
  exact k3 n ag hm hn
def Zo(d:DV)(id n:Nat):Prop:=∃ag,d=.jx id n ag\/∃m,d=.agg m/\DV.jx id n ag∈m
theorem Qu{z:Bool}(h:S[id]? =some (.op e s l z))(d:DV):∃z',(uc S d)[id]? =some (.op e s l z')/\(z=true->z'=true)/\∀n,Zo d id n->n*s=l.length->z'=true:=by
 unfold uc;split
 .rename_i m;obtain⟨z1,h1,h2,h3⟩:=Qr m h;refine⟨z1,h1,h2,λn hs hn=>?_⟩;obtain⟨ag,hs|⟨m',hs,hm⟩⟩:=hs;.cases hs
  cases hs;exact h3 n ag hm hn
 rename_i hno;obtain⟨z1,h1,h2,h3⟩:=Qp h d;refine⟨z1,h1,h2,λn hs hn=>?_⟩;obtain⟨ag,hs|⟨m',hs,hm⟩⟩:=hs;.exact h3 n ag hs hn
 exact(hno _ hs).elim
theorem Qo:∀(m:List DV){S:ai}{z:Bool},S[id]? =some (.op e s l z)->∃z',(m.foldl uc S)[id]? =some (.op e s l z')/\(z=true->z'=true)/\∀d∈m,∀n,Zo d id n->n*s=l.length->z'=true
 |[],S,z,h=>⟨z,h,λh=>h,λ_ hm=>by simp at hm⟩
 |d::m,S,z,h=>by
  obtain⟨z1,h1,h2,h3⟩:=Qu h d;obtain⟨z2,k1,k2,k3⟩:=Qo m h1;refine⟨z2,k1,λhz=>k2 (h2 hz),λd' hm n hs hn=>?_⟩;rcases bz.1 hm with rfl|hm;.exact k2 (h3 n hs hn)
  exact k3 d' hm n hs hn
end
theorem Lx(h:bT ι te tS env S){S':ai}{v:TV}{d:DV}(hv:RT ι S v d)(hp:eG (FT tS v)=true)(hh:∀id n ag e s l z,d=.jx id n ag->S[id]? =some (.op e s l z)->n*s=l.length->S'[id]? =some (.op e s l true)):RT ι S (FT tS v) (kO S' d):=by
 cases v
 case so g t=>
  simp only[FT]at hp⊢;split at hp
  .rename_i t' e l z hg;split at hp
   .rename_i ht;obtain⟨id,cs,rfl,h1,h2,h3,h4,h5,h6⟩:=Gi h hg hv ht;subst ht;have hn:l.length*t'.size=cs.length:=(iF h4).symm;have hS:CS S' id l.length=some (e,t'.size,cs,true):=by unfold CS;rw[hh _ _ _ _ _ _ _ rfl h2 hn];simp only[hn,if_true]
    rw[Qe hS h5 h6,dif_pos rfl];simp only[RT,pQ,and_true];exact ym h6 h4
   cases hp
  cases hp
 all_goals first|(cases hp;done)|skip
 all_goals (simp only[FT]at hp⊢;cases d<;>simp only[RT]at hv<;>simp only[kO,RT]<;>exact hv)
theorem aao{v:TV}(h:xO v=true):eG v=true:=by cases v<;>first|rfl|cases h
theorem He(h:bT ι te tS env S){S':ai}:∀{l:List TV}{m:List DV},cQ ι S l m->(l.map (FT tS)).all xO=true->(∀d∈m,∀id n ag e s l z,d=.jx id n ag->S[id]? =some (.op e s l z)->n*s=l.length->S'[id]? =some (.op e s l true))->cQ ι S (l.map (FT tS)) (m.map (kO S'))
 |[],m,hd,_,_=>by rw[aP hd];exact bL
 |v::l,m,hd,hp,hh=>by obtain⟨d,m',rfl,h1,h2⟩:=ak hd;simp only[aV,cA,aA]at hp⊢;exact aQ (Lx h h1 (aao hp.1) (hh d gv)) (He h h2 hp.2 λd hd=>hh d (nO _ hd))
theorem aeV{v:TV}{d:DV}(hv:RT ι S v d)(hp:eG (Ka tS v)=true):∀l,d≠.tup l:=by intro l e;subst e;cases v<;>first|(simp only[RT]at hv;done)|(simp only[Ka,FT]at hp;cases hp)
theorem Su(h:bT ι te tS env S){S':ai}{v:TV}{d:DV}(hv:RT ι S v d)(hp:eG (Ka tS v)=true)(hh:∀id n e s l z,Zo d id n->S[id]? =some (.op e s l z)->n*s=l.length->S'[id]? =some (.op e s l true)):RT ι S (Ka tS v) (tO S' d)/\∀l,d≠.tup l:=by
 cases v
 case agg l=>
  cases d<;>simp only[RT]at hv;rename_i m;simp only[Ka,eG]at hp;refine⟨?_,λ_ e=>by cases e⟩;simp only[Ka,tO,RT];exact He h hv hp λd hd id n ag e s l z he=>hh id n e s l z ⟨ag,.inr ⟨m,rfl,he▸hd⟩⟩
 all_goals
  have hd:(∀l,d≠.agg l)/\∀l,d≠.tup l:=by constructor<;>intro l e<;>subst e<;>first|(simp only[RT]at hv;done)|(simp only[Ka,FT]at hp;cases hp)
  refine⟨?_,hd.2⟩;have e:tO S' d=kO S' d:=by cases d<;>first|rfl|exact(hd.1 _ rfl).elim
  rw[e];exact Lx h hv hp λid n ag e s l z he=>hh id n e s l z ⟨ag,.inl he⟩
theorem aeU(h:bT ι te tS env S){vs:List TV}{ds:List DV}(hd:cQ ι S vs ds)(hp:(yJ tS vs).all eG=true):∃iJ,oneOf iJ=uB (Ig S (oneOf ds)) (oneOf ds)/\cQ ι S (yJ tS vs) iJ:=by
 have many:∀{S':ai}{vs:List TV}{ds:List DV},cQ ι S vs ds->(yJ tS vs).all eG=true->(∀d∈ds,∀id n e s l z,Zo d id n->S[id]? =some (.op e s l z)->n*s=l.length->S'[id]? =some (.op e s l true))->cQ ι S (yJ tS vs) (ds.map (tO S'))/\∀d∈ds,∀l,d≠.tup l:=by
  intro S' vs;induction vs with
  |nil=>intro ds hd _ _;rw[aP hd];exact⟨bL,by simp⟩
  |cons v vs ih=>
   intro ds hd hp hh;obtain⟨d,m',rfl,h1,h2⟩:=ak hd;simp only[yJ,aV,cA,aA]at hp;obtain⟨a1,a2⟩:=Su h h1 hp.1 (hh d gv);obtain⟨b1,b2⟩:=ih h2 hp.2 λd hd=>hh d (nO _ hd);refine⟨aQ a1 b1,λd' xC=>?_⟩;rcases bz.1 xC with rfl|xC;.exact a2
   exact b2 d' xC
 match vs,ds,hd,hp with
 |[v],ds,hd,hp=>
  obtain⟨d,m',rfl,k1,k2⟩:=ak hd;rw[aP k2]at hd⊢;have hp1:=hp;simp only[yJ,aV,fe,cA,List.all_nil,s8]at hp1;have h0:=aeV k1 hp1;have e1:Ig S d=uc S d:=by cases d<;>first|rfl|exact(h0 _ rfl).elim
  have e2:uB (uc S d) d=tO (uc S d) d:=by cases d<;>first|rfl|exact(h0 _ rfl).elim
  refine⟨[d].map (tO (uc S d)),by simp only[oneOf,aV,fe,e1,e2],(many hd hp λd' xC id n e s l z hs ho hn=>?_).1⟩;simp only[bC]at xC;subst xC;obtain⟨z',q1,-,q3⟩:=Qu ho d';rw[q3 n hs hn]at q1;exact q1
 |[],ds,hd,_=>exact⟨[],by rw[aP hd];rfl,bL⟩
 |v::u::vs,ds,hd,hp=>
  obtain⟨d,m',rfl,k1,k2⟩:=ak hd;obtain⟨d',m'',rfl,k3,k4⟩:=ak k2;refine⟨(d::d'::m'').map (tO ((d::d'::m'').foldl uc S)),rfl,(many hd hp λd1 YT id n e s l z hs ho hn=>?_).1⟩;obtain⟨z',q1,-,q3⟩:=Qo (d::d'::m'') ho;rw[q3 d1 YT n hs hn]at q1;exact q1
def adC(ty:fP)(rs:List ResultVar)(gW:List (Option TT))(Q:TV->Prop)(e:DX)(te:List TV)(tS:List TB):Prop:=
 (match e with|.exit _=>False|_=>True)/\∃vs,xJ ty te tS rs=some vs/\(yJ tS vs).all eG=true/\refs (jB (bG gW (yJ tS vs)))=[]/\Q (jB (bG gW (yJ tS vs)))
theorem XL{bM:bS}{L n:Nat}{f:FuncId}{fn:Func}{c:Code}{targs:List TV}{gW:List (Option TT)}{Q:TV->Prop}(hf:P.funcs[f]? =some fn)(hb:fn.body=some c)(ht:∀a,cQ gd [] targs a->bM f a=none)
  (h:WT P ty (CG P ty bM L n) (uG P ty bM L n) (yfN P ty bM L n) [] L f false c (targs++List.replicate (fn.ntmps-targs.length) .unk) [] (adC ty fn.results.toList gW Q)):uM (CG P ty bM L (n+1)) f targs Q:=by
 intro bR hd;have hlen:=iq hd;have hR:bT gd (targs++List.replicate (fn.ntmps-targs.length) .unk) [] (bR++List.replicate (fn.ntmps-bR.length) bE) []:=by refine⟨eN hd (by rw[hlen];exact vF _ _),λk l hk=>(by simp at hk),λk e s hk=>(by simp at hk),λk k' hk=>(by cases hk),λi j k' hi=>(by cases hi),λk b hk=>(by simp at hk)⟩
 obtain⟨e,aK,S',ι',bZ,bN,h1,h2,h3,h4,h5,h6⟩:=h gd _ [] hR (λk hk=>(by cases hk));obtain⟨h6,vs,h7,h8,h9,wO⟩:=h6;obtain⟨ds,k1,k2⟩:=vI h2 h7;obtain⟨ds2,c1,c2⟩:=aeU h2 k2 h8;obtain⟨k3,k4⟩:=Sf (ts:=gW) (ι':=gd) (S':=[]) h8 c2;refine⟨(oneOf ds2).strip,_,?_,k3,k4,h9,wO⟩;have hc:(ej P ty bM L (n+1)).1 f bR []=some (oneOf ds,S'):=by
  simp only[ej,hf,uH,hb];have HU:cW P ty (mc bM (ej P ty bM L n).1) (ej P ty bM L n).1 (ej P ty bM L n).2 L f false c (bR++List.replicate (fn.ntmps-bR.length) bE) []=some (e,aK,S'):=h1;rw[HU];cases e with
  |normal=>simp only[k1,av]
  |ret=>simp only[k1,av]
  |exit id=>exact h6.elim
 simp only[CG,mc,ht _ hd,hc,<-c1,k3,if_true]
def Uk(ty:fP)(rs:List ResultVar)(gW:List (Option TT))(om:List (Option TT))(Q:TV->List TV->Prop)(e:DX)(te:List TV)(tS:List TB):Prop:=
 (match e with|.exit _=>False|_=>True)/\∃vs ts,xJ ty te tS rs=some vs/\vs.all eG=true/\refs (jB (bG gW vs))=[]/\tS[0]? =some (.cells ts)/\ts.all eG=true/\eH (bG om ts)=[]/\Q (jB (bG gW vs)) (bG om ts)
theorem X1{bM:bS}{L n:Nat}{f:FuncId}{fn:Func}{c:Code}{targs ts:List TV}{gW om:List (Option TT)}{Q:TV->List TV->Prop}(hf:P.funcs[f]? =some fn)(hb:fn.body=some c)
  (h:WT P ty (CG P ty bM L n) (uG P ty bM L n) (yfN P ty bM L n) [0] L f false c (targs++List.replicate (fn.ntmps-targs.length) .unk) [.cells ts] (Uk ty fn.results.toList gW om Q)):B3 (uG P ty bM L (n+1)) f targs ts Q:=by
 intro ι bR S hR;have hlen:=iq hR.env;have mS:bT ι (targs++List.replicate (fn.ntmps-targs.length) .unk) [.cells ts] (bR++List.replicate (fn.ntmps-bR.length) bE) S:=
  ⟨eN hR.env (by rw[hlen];exact vF _ _),hR.cells,hR.own,hR.qv,hR.inj,hR.mp⟩
 obtain⟨e,aK,S',ι',bZ,bN,h1,h2,h3,h4,h5,h6⟩:=h ι _ S mS (λk hk=>(by
  have:k=0:=by simpa using hk
  subst this;exact⟨ts,rfl⟩))
 obtain⟨h6,vs,Am,h7,h8,h9,wO,HT,Yr,h13⟩:=h6;obtain⟨ds,k1,k2⟩:=vI h2 h7;obtain⟨k',iJ,m1,m2,m3⟩:=h2.cells 0 Am wO;refine⟨oneOf ds,S',ι',_,bG om Am,k',iJ,?_,GX (ts:=gW) h8 k2,h9,Yr,by rw[<-h4.base 0 (by simp)];exact m1,m2,lS HT m3,h4,h5,h13⟩;simp only[uG,ej,hf,uH,hb];have HU:cW P ty (mc bM (ej P ty bM L n).1) (ej P ty bM L n).1 (ej P ty bM L n).2 L f false c (bR++List.replicate (fn.ntmps-bR.length) bE) S=some (e,aK,S'):=h1;rw[HU];cases e with
 |normal=>simp only[k1,av]
 |ret=>simp only[k1,av]
 |exit id=>exact h6.elim
end Go.Tv
namespace Go.Tv
open Go Go.Di
section
variable (P:Program) (ty:fP) (tt:TypeId->Option TT)
def Uv:List TV->Option Nat
 |[]=>none
 |v::l=>match refs v with
  |k::_=>if isRef v then some k else Uv l
  |[]=>Uv l
end
variable {P:Program} {ty:fP} {tt:TypeId->Option TT} {ι ι' w:lq} {S S':ai} {te mM:List TV} {env:List DV} {tS iT:List TB} {aI:bS} {call:bt} {yf:ew} {o:Oper} {aD nT:Nat} {B:List Nat} {r:TR} {ops:Array Oper} {L:Nat} {fn:FuncId} {jj:Bool} {a b c:Code} {Q Q':DX->List TV->List TB->Prop}
variable {fs:List dm}
def WI(P:Program)(ty:fP)(aI:bS)(call:bt)(yf:ew)(B:List Nat)(L:Nat)(fn:FuncId)(jj:Bool)(n:Nat)(c:Code)(te:List TV)(tS:List TB)(Q:DX->List TV->List TB->Prop):Prop:=
 ∀ι env S,bT ι te tS env S->oK B tS->∃e aK S' ι' bZ bN,oH (cW P ty aI call yf L fn jj c) n env S=some (e,aK,S')/\bT ι' bZ bN aK S'/\oK B bN/\Fr B ι S ι' S'/\Nn S.length S S'/\Q e bZ bN
theorem Br{f:List DV->ai->Option (DX×List DV×ai)}:∀{n m:Nat}{env:List DV}{S:ai}{r:DX×List DV×ai},n<=m->oH f n env S=some r->oH f m env S=some r
 |0,_,_,_,_,_,h=>by cases h
 |n+1,0,_,_,_,hn,_=>by omega
 |n+1,m+1,env,S,r,hn,h=>by
  simp only[oH]at h⊢;split at h;.rename_i aK S' e;exact Br (by omega) h
  exact h
theorem Ri{n:Nat}(hn:n<=L)(h:WI P ty aI call yf B L fn jj n c te tS Q):WT P ty aI call yf B L fn jj (.loop c) te tS Q:=by intro ι env S hR hB;obtain⟨e,aK,S',ι',bZ,bN,h1,h2⟩:=h ι env S hR hB;exact⟨e,aK,S',ι',bZ,bN,by simp only[cW];exact Br hn h1,h2⟩
theorem ZJ{n:Nat}(h:WT P ty aI call yf B L fn jj c te tS λe te tS=>match e with|.normal=>WI P ty aI call yf B L fn jj n c te tS Q|e=>Q e te tS):WI P ty aI call yf B L fn jj (n+1) c te tS Q:=by
 intro ι env S hR hB;obtain⟨e,aK,S',ι',bZ,bN,h1,h2,h3,h4,h5,h6⟩:=h ι env S hR hB;cases e with
 |normal=>obtain⟨e,rU,xE,ι'',ur,uu,k1,k2,k3,k4,k5,k6⟩:=h6 ι' aK S' h2 h3;exact⟨e,rU,xE,ι'',ur,uu,by simp only[oH,h1,k1],k2,k3,h4.trans k4,uZ h5 k5,k6⟩
 |exit id=>exact⟨_,aK,S',ι',bZ,bN,by simp only[oH,h1],h2,h3,h4,h5,h6⟩
 |ret=>exact⟨_,aK,S',ι',bZ,bN,by simp only[oH,h1],h2,h3,h4,h5,h6⟩
theorem ZM{n:Nat}(hl:jW mM te)(hb:CC iT tS)(mO:okB mM iT=true)(hB:∀k,k∈B->mb iT k=true)(h:WI P ty aI call yf B L fn jj n c mM iT Q):WI P ty aI call yf B L fn jj n c te tS Q:=by intro ι env S hR QX;have Yq:=zW hb QX hB;obtain⟨ι1,h1,h2,-⟩:=zG hR hl hb mO Yq;obtain⟨e,aK,S',ι',bZ,bN,m1,m2,m3,m4,m5⟩:=h ι1 env S h1 Yq;exact⟨e,aK,S',ι',bZ,bN,m1,m2,m3,h2.trans m4,m5⟩
theorem ZL{σ:Type}{N:Nat}(f:σ->List TV×List TB)(en:σ->Prop)(m:σ->Nat)(s0:σ)(h0:Fits B (f s0).1 (f s0).2 te tS)(hg:en s0)(hm:m s0<N)
  (hstep:∀s,en s->WT P ty aI call yf B L fn jj c (f s).1 (f s).2 λe te tS=>match e with|.normal=>∃s',Fits B (f s').1 (f s').2 te tS/\en s'/\m s'<m s|e=>Q e te tS):WI P ty aI call yf B L fn jj N c te tS Q:=by
 refine ZM h0.l h0.b h0.ok h0.base ?_;have key:∀n s,en s->m s<n->∀ι env S,bT ι (f s).1 (f s).2 env S->oK B (f s).2->∃e aK S' ι' bZ bN,oH (cW P ty aI call yf L fn jj c) n env S=some (e,aK,S')/\bT ι' bZ bN aK S'/\oK B bN/\Fr B ι S ι' S'/\Nn S.length S S'/\Q e bZ bN:=by
  intro n;induction n with
  |zero=>intro s _ h;omega
  |succ n ih=>
   intro s hs hn ι env S hR hB;obtain⟨e,aK,S',ι',bZ,bN,h1,h2,h3,h4,h5,h6⟩:=hstep s hs ι env S hR hB;cases e with
   |normal=>obtain⟨s',hf,ou,hlt⟩:=h6;have Yq:=zW hf.b h3 hf.base;obtain⟨ι1,k1,k2,-⟩:=zG h2 hf.l hf.b hf.ok Yq;obtain⟨e,rU,xE,ι'',ur,uu,m1,m2,m3,m4,m5,m6⟩:=ih s' ou (by omega) ι1 aK S' k1 Yq;exact⟨e,rU,xE,ι'',ur,uu,by simp only[oH,h1,m1],m2,m3,(h4.trans k2).trans m4,uZ h5 m5,m6⟩
   |exit id=>exact⟨_,aK,S',ι',bZ,bN,by simp only[oH,h1],h2,h3,h4,h5,h6⟩
   |ret=>exact⟨_,aK,S',ι',bZ,bN,by simp only[oH,h1],h2,h3,h4,h5,h6⟩
 intro ι env S hR hB;exact key N s0 hg hm ι env S hR hB
theorem ZD{σ:Type}(f:σ->List TV×List TB)(en:σ->Prop)(h1:WT P ty aI call yf B L fn jj a te tS λe te tS=>match e with|.normal=>∃s,Fits B (f s).1 (f s).2 te tS/\en s|e=>Q e te tS)
  (h2:∀s,en s->WT P ty aI call yf B L fn jj b (f s).1 (f s).2 Q):WT P ty aI call yf B L fn jj (.seq a b) te tS Q:=by
 refine Va (h1.mono ?_);intro e te tS hq;cases e with
 |normal=>obtain⟨s,hf,hg⟩:=hq;exact ZC hf.l hf.b hf.ok hf.base (h2 s hg)
 |exit id=>exact hq
 |ret=>exact hq
theorem LC:∀owns:List (Nat×Nat),CC (owns.map λp=>TB.own p.1 p.2) []
 |[]=>.nil
 |_::l=>.new (LC l)
end Go.Tv
