import Derived.Test.YtedcgbkilmlbhaaGreatPk04
import Derived.Test.YtedcgbkilmlbhaaGreatPk01
import Derived.Test.YtedcgbkilmlbhaaGreatProg
namespace Go.Tv
open Go Go.Di
def A1:TV->Bool
 |.val v=>!(v matches .tuple _)
 |.ax|.sl _ _ _=>true
 |_=>false
def eV:TV->Bool
 |.agg l=>l.all A1
 |.val _|.ax|.sl _ _ _=>true
 |_=>false
def rX:TV->TV
 |.sl k l _=>.sl k l .no
 |.ax=>.unk
 |v=>v
def kF:cJ->TV->TV
 |some (.sl e),.ax=>.sl e [] .no
 |_,.ax=>.unk
 |_,.sl k l (.stop _)=>.sl k l (.stop false)
 |_,.sl k l _=>.sl k l .no
 |some t,.agg l=>match t.of l with
  |some (x,[])=>.agg (t.cells x)
  |_=>.agg (l.map rX)
 |none,.agg l=>.agg (l.map rX)
 |_,v=>v
def bR:List cJ->cp->cp
 |_,[]=>[]
 |[],v::l=>kF none v::bR [] l
 |t::ts,v::l=>kF t v::bR ts l
def gu(tt:TypeId->cJ)(fs:cp)(argTypes:Array TypeId):List cJ:=fs.map (λ_=>none)++argTypes.toList.map tt
variable {P:Program} {ty:gb} {tt:TypeId->cJ} {ι ι' w:lp} {S S':ai} {te mV:cp} {env:cj} {tS iS:cx} {aI:b9} {call:bG} {yf:ez} {o:Oper} {aC nT:Nat} {B:cy} {r:TR} {ops:Array Oper}
mutual
theorem pK:∀(v:TV)(d:DV),refs v=[]->RT ι S v d->RT ι' S' v d
 |.unk,_,_,_=>by simp only[RT]
 |.val _,d,_,k=>by cases d<;>simp only[RT]at k⊢;exact k
 |.ax,d,_,k=>by cases d<;>simp only[RT]at k⊢;exact k
 |.agg l,d,h,k=>by cases d<;>simp only[RT]at k⊢;exact jP l _ h k
 |.tup l,d,h,k=>by cases d<;>simp only[RT]at k⊢;exact jP l _ h k
 |.sl t l .no,d,_,k=>by cases d<;>simp only[RT]at k⊢;exact k
 |.sl t l .full,d,_,k=>by cases d<;>simp only[RT]at k⊢;exact k
 |.sl t l (.stop _),d,_,k=>by cases d<;>simp only[RT]at k⊢;exact k
 |.sl t l (.CG g),d,h,k=>by simp[refs]at h
 |.sl t l (.iT g),d,h,k=>by simp[refs]at h
 |.ptr id off,d,h,k=>by simp[refs]at h
 |.fM t l i off,d,_,k=>by cases d<;>simp only[RT]at k⊢;exact k
 |.mp id,d,h,k=>by simp[refs]at h
 |.so g t,d,h,k=>by simp[refs]at h
 |.oz k0 fn te,d,h,k=>by simp[refs]at h
 |.sp g t i off,d,h,k=>by simp[refs]at h
 |.fn f a b,d,h,k=>by cases d<;>simp only[RT]at k⊢;simp only[refs,List.append_eq_nil_iff]at h;exact⟨k.1,jP a _ h.1 k.2.1,jP b _ h.2 k.2.2⟩
theorem jP:∀(l:cp)(m:cj),fE l=[]->cO ι S l m->cO ι' S' l m
 |[],m,_,k=>by rw[aQ k];exact bS
 |a::l,m,h,k=>by obtain⟨d,m',rfl,h1,h2⟩:=aj k;simp only[fE,List.append_eq_nil_iff]at h;exact aR (pK a d h.1 h1) (jP l m' h.2 h2)
end
theorem MH{v:TV}{d:DV}(hp:A1 v=true)(h:RT ι S v d):d.aO.ct=true/\RT ι' S' (rX v) d.aO:=by
 cases v<;>first|(cases hp;done)|skip
 cases d<;>simp only[RT]at h;subst h;exact⟨hp,by simp only[rX,RT,DV.aO]⟩;cases d<;>simp only[RT]at h;exact⟨rfl,by simp only[rX,RT]⟩;cases d<;>simp only[RT]at h;exact⟨rfl,by simp only[rX,RT,DV.aO];exact⟨h.1,trivial⟩⟩
theorem Ci:∀{l:cp}{m:cj},l.all A1=true->cO ι S l m->(m.map DV.aO).all DV.ct=true/\cO ι' S' (l.map rX) (m.map DV.aO)
 |[],m,_,h=>by rw[aQ h];exact⟨rfl,bS⟩
 |a::l,m,hp,h=>by obtain⟨d,m',rfl,h1,h2⟩:=aj h;simp only[cC,aD]at hp;obtain⟨k1,k2⟩:=MH (ι':=ι') (S':=S') hp.1 h1;obtain⟨k3,k4⟩:=Ci hp.2 h2;exact⟨by simp[k1]at k3⊢;exact k3,aR k2 k4⟩
theorem Ew:∀{t:TT}{l:cp}{x:t.den}{r:cp}{m:cj},t.of l=some (x,r)->cO ι S l m->∃c m',m=c++m'/\cO ι' S' (t.cells x) c/\cO ι S r m'
 |.int k,l,x,r,m,h,hm=>by simp only[TT.of]at h;unfold ofInt at h;split at h;split at h;rename_i hk;cases h;obtain⟨d,m',rfl,h1,h2⟩:=aj hm;cases d<;>simp only[RT]at h1;subst h1;subst hk;exact⟨[_],m',rfl,lq (by simp only[RT]),h2⟩;cases h;cases h
 |.bool,l,x,r,m,h,hm=>by simp only[TT.of]at h;unfold ofBool at h;split at h;cases h;obtain⟨d,m',rfl,h1,h2⟩:=aj hm;cases d<;>simp only[RT]at h1;subst h1;exact⟨[_],m',rfl,lq (by simp only[RT]),h2⟩;cases h
 |.str,l,x,r,m,h,hm=>by simp only[TT.of]at h;unfold ofStr at h;split at h;cases h;obtain⟨d,m',rfl,h1,h2⟩:=aj hm;cases d<;>simp only[RT]at h1;subst h1;exact⟨[_],m',rfl,lq (by simp only[RT]),h2⟩;cases h
 |.unit,l,x,r,m,h,hm=>by simp only[TT.of]at h;cases h;exact⟨[],m,rfl,bS,hm⟩
 |.pair a b,l,x,r,m,h,hm=>by simp only[TT.of]at h;split at h;rename_i x1 r1 h1;split at h;rename_i y r2 h2;cases h;obtain⟨c,m1,rfl,k1,k2⟩:=Ew h1 hm;obtain⟨c',m2,rfl,k3,k4⟩:=Ew h2 k2;exact⟨c++c',m2,ae,eB k1 k3,k4⟩;cases h;cases h
 |.sl t,l,x,r,m,h,hm=>by simp only[TT.of]at h;unfold aak at h;split at h;split at h;rename_i ht;subst ht;cases h;obtain⟨d,m',rfl,h1,h2⟩:=aj hm;cases d<;>simp only[RT]at h1;exact⟨[_],m',rfl,lq (by simp only[RT];exact⟨h1.1,trivial⟩),h2⟩;cases h;cases h;obtain⟨d,m',rfl,h1,h2⟩:=aj hm;cases d<;>simp only[RT]at h1;obtain⟨rfl,rfl,rfl⟩:=h1;exact⟨[_],m',rfl,lq (by simp only[RT,eX];exact⟨trivial,trivial⟩),h2⟩;cases h
theorem jR{t:cJ}{v:TV}{d:DV}(hp:eV v=true)(h:RT ι S v d):d.strip.pure=true/\(∀l,d≠.tup l)/\RT ι' S' (kF t v) d.strip:=by
 cases v with
 |agg l=>
  cases d<;>simp only[RT]at h;rename_i m;obtain⟨k1,k2⟩:=Ci (ι':=ι') (S':=S') hp h;refine⟨k1,λ_ e=>ar,?_⟩;cases t with
  |none=>simp only[kF,RT,DV.strip,DV.dL];exact k2
  |some t=>
   have e:kF (some t) (.agg l)=match t.of l with|some (x,[])=>.agg (t.cells x)|_=>.agg (l.map rX):=by cases t<;>rfl
   rw[e];split;rename_i x ho;obtain⟨c,m',rfl,n1,n2⟩:=Gw ho h;rw[aQ n2,dW];simp only[RT,DV.strip,DV.dL];exact qu n1;simp only[RT,DV.strip,DV.dL];exact k2
 |val u=>
  cases d<;>simp only[RT]at h;rename_i u';subst h;refine⟨rfl,λ_ e=>ar,?_⟩;have e:kF t (.val u')=.val u':=by cases t with|none=>rfl|some t=>cases t<;>rfl
  rw[e];simp only[RT,DV.strip,DV.dL]
 |ax=>
  cases d<;>simp only[RT]at h;obtain⟨rfl,rfl,rfl⟩:=h;refine⟨rfl,λ_ e=>ar,?_⟩;cases t with
  |none=>simp only[kF,RT]
  |some t=>
   cases t with
   |sl e=>simp only[kF,RT,DV.strip,DV.dL,eX];exact⟨trivial,trivial⟩
   |_=>simp only[kF,RT]
 |sl k l ap=>
  cases d<;>simp only[RT]at h;refine⟨rfl,λ_ e=>ar,?_⟩;have e:∃R3,kF t (.sl k l ap)=.sl k l R3/\(R3=.no\/∃b,R3=.stop b):=by
   cases ap with
   |stop b=>exact⟨.stop false,by cases t with|none=>rfl|some t=>cases t<;>rfl,.inr ⟨_,rfl⟩⟩
   |_=>exact⟨.no,by cases t with|none=>rfl|some t=>cases t<;>rfl,.inl rfl⟩
  obtain⟨R3,e,e'⟩:=e;rw[e];have e':∀{ι S n tok f},pU ι S n tok f R3:=by rcases e' with rfl|⟨b,rfl⟩<;>exact trivial
  simp only[RT,DV.strip,DV.dL];exact⟨h.1,e'⟩
 |_=>cases hp
theorem tT{t:cJ}{v:TV}{d:DV}(hp:eV v=true)(h:RT ι S v d):RT ι' S' (kF t v) d:=by
 have n1:∀{l:cp}{m:cj},l.all A1=true->cO ι S l m->cO ι' S' (l.map rX) m:=by
  intro l;induction l with
  |nil=>intro m _ h;rw[aQ h];exact bS
  |cons a l ih=>
   intro m hp h;obtain⟨d,m',rfl,h1,h2⟩:=aj h;simp only[cC,aD]at hp;refine aR ?_ (ih hp.2 h2);cases a<;>first|(cases hp.1;done)|skip
   cases d<;>simp only[RT]at h1;simp only[rX,RT];exact h1
   simp only[rX,RT];cases d<;>simp only[RT]at h1;simp only[rX,RT];exact⟨h1.1,trivial⟩
 cases v with
 |agg l=>
  cases d<;>simp only[RT]at h;rename_i m;cases t with
  |none=>simp only[kF,RT];exact n1 hp h
  |some t=>
   have e:kF (some t) (.agg l)=match t.of l with|some (x,[])=>.agg (t.cells x)|_=>.agg (l.map rX):=by cases t<;>rfl
   rw[e];split;rename_i x ho;obtain⟨c,m',rfl,k1,k2⟩:=Ew (ι':=ι') (S':=S') ho h;rw[aQ k2,dW];simp only[RT];exact k1;simp only[RT];exact n1 hp h
 |val u=>
  cases d<;>simp only[RT]at h;have e:kF t (.val u)=.val u:=by cases t with|none=>rfl|some t=>cases t<;>rfl
  rw[e];simp only[RT];exact h
 |ax=>
  cases d<;>simp only[RT]at h;obtain⟨rfl,rfl,rfl⟩:=h;cases t with
  |none=>simp only[kF,RT]
  |some t=>
   cases t with
   |sl e=>simp only[kF,RT,eX];exact⟨trivial,trivial⟩
   |_=>simp only[kF,RT]
 |sl k l ap=>
  cases d<;>simp only[RT]at h;have e:∃R3,kF t (.sl k l ap)=.sl k l R3/\(R3=.no\/∃b,R3=.stop b):=by
   cases ap with
   |stop b=>exact⟨.stop false,by cases t with|none=>rfl|some t=>cases t<;>rfl,.inr ⟨_,rfl⟩⟩
   |_=>exact⟨.no,by cases t with|none=>rfl|some t=>cases t<;>rfl,.inl rfl⟩
  obtain⟨R3,e,e'⟩:=e;rw[e];have e':∀{ι S n tok f},pU ι S n tok f R3:=by rcases e' with rfl|⟨b,rfl⟩<;>exact trivial
  simp only[RT];exact⟨h.1,e'⟩
 |_=>cases hp
theorem jV:∀{ts:List cJ}{l:cp}{m:cj},l.all eV=true->cO ι S l m->(m.map DV.strip).all DV.pure=true/\cO ι' S' (bR ts l) (m.map DV.strip)
 |_,[],m,_,h=>by rw[aQ h];exact⟨rfl,by simp only[bR,eO];exact bS⟩
 |[],a::l,m,hp,h=>by obtain⟨d,m',rfl,h1,h2⟩:=aj h;simp only[cC,aD]at hp;obtain⟨k1,-,k2⟩:=jR (t:=none) (ι':=ι') (S':=S') hp.1 h1;obtain⟨k3,k4⟩:=jV (ts:=[]) hp.2 h2;refine⟨?_,by simp only[bR,aY];exact aR k2 k4⟩;rw[aY,cC,k1,k3];rfl
 |t::ts,a::l,m,hp,h=>by obtain⟨d,m',rfl,h1,h2⟩:=aj h;simp only[cC,aD]at hp;obtain⟨k1,-,k2⟩:=jR (t:=t) (ι':=ι') (S':=S') hp.1 h1;obtain⟨k3,k4⟩:=jV (ts:=ts) hp.2 h2;refine⟨?_,by simp only[bR,aY];exact aR k2 k4⟩;rw[aY,cC,k1,k3];rfl
theorem mb:∀{ts:List cJ}{l:cp}{m:cj},l.all eV=true->cO ι S l m->cO ι' S' (bR ts l) m
 |_,[],m,_,h=>by rw[aQ h];simp only[bR];exact bS
 |[],a::l,m,hp,h=>by obtain⟨d,m',rfl,h1,h2⟩:=aj h;simp only[cC,aD]at hp;simp only[bR];exact aR (tT hp.1 h1) (mb hp.2 h2)
 |t::ts,a::l,m,hp,h=>by obtain⟨d,m',rfl,h1,h2⟩:=aj h;simp only[cC,aD]at hp;simp only[bR];exact aR (tT hp.1 h1) (mb hp.2 h2)
def fF:lp:=λ_=>none
def vc(aI:b9)(g:FuncId)(targs:cp)(Q:TV->Prop):Prop:=
 ∀bO,cO fF [] targs bO->∃d v,aI g bO=some d/\d.pure=true/\RT fF [] v d/\refs v=[]/\Q v
theorem vc.mono {g:FuncId}{targs:cp}{Q Q':TV->Prop}(h:vc aI g targs Q)(hq:∀v,Q v->Q' v):vc aI g targs Q':=λbO hd=>by obtain⟨d,v,h1,h2,h3,h4,h5⟩:=h bO hd;exact⟨d,v,h1,h2,h3,h4,hq v h5⟩
theorem iR(hE:cO ι S te env){f:Operand}{args:Array Operand}{g:FuncId}{fs cs xs:cp}(hf:fT te f=some (.fn g fs cs))(ha:mj te args.toList=some xs):
  ∃xL iZ Gb,jA env f=some (.fn g xL iZ)/\evs (jA env) args.toList=some Gb/\cO ι S (fs++xs++cs) (xL++Gb++iZ):=by
 obtain⟨d,k1,k2⟩:=bL hE hf;obtain⟨Gb,k3,k4⟩:=tD hE ha;cases d<;>simp only[RT]at k2;obtain⟨rfl,k5,k6⟩:=k2;exact⟨_,_,Gb,k1,k3,eB (eB k5 k4) k6⟩
theorem Ft{f:Operand}{args:Array Operand}{argTypes:Array TypeId}{g:FuncId}{fs cs xs targs:cp}{Q:TV->Prop}(hop:o.op=.call {callee:=.value f,args,argTypes})(hh:ty.h o≠1)(hf:fT te f=some (.fn g fs cs))(ha:mj te args.toList=some xs)(hp:(fs++xs++cs).all eV=true)
  (hn:bR (gu tt fs argTypes) (fs++xs++cs)=targs) (hs:vc aI g targs Q) (dr:Bool):Does P ty aI call yf B o nT te tS dr λv cr bU ft=>Q v/\cr=te/\bU=tS/\ft=⟨some [],false⟩:=by
 intro ι w env S aC hR hB hw hT Dw hS;obtain⟨xL,iZ,Gb,k1,k2,k3⟩:=iR hR.env hf ha;obtain⟨k4,k5⟩:=jV (ts:=gu tt fs argTypes) (ι':=fF) (S':=[]) hp k3;rw[hn]at k5;obtain⟨d,v,m1,m2,m3,m4,m5⟩:=hs _ k5;refine⟨d,S,ι,w,v,te,tS,⟨some [],false⟩,⟨some [],false⟩,λ_=>?_,λhd=>?_,⟨id,λl hl=>⟨[],rfl,λj hj=>(by cases hj)⟩⟩,λl m _ hm j hj=>(by cases hm;cases hj),hR,pK _ _ m4 m3,hw,λ_ _ _=>rfl,Fr.refl _ _ _,hB,gA _ _,m5,rfl,rfl,rfl⟩;simp only[af,hop,k1,k2,xz,k4,if_true,m1];simp only[aJ,hop,k1,k2,if_neg hh,k4,if_true,m1,az]
theorem Xv{k:Nat}{f:Operand}{args:Array Operand}{argTypes:Array TypeId}{g:FuncId}{fs cs xs targs:cp}{K:TV->Prop}{Q:cp->Prop}(ho:ops[k]? =some o)(hw:eE ops te o=some true)(hop:o.op=.call {callee:=.value f,args,argTypes})(hh:ty.h o≠1)(hf:fT te f=some (.fn g fs cs))(ha:mj te args.toList=some xs)(hp:(fs++xs++cs).all eV=true)
  (hn:bR (gu tt fs argTypes) (fs++xs++cs)=targs) (hs:vc aI g targs K) (h:∀v,K v->WQ P ty aI call yf ops tS (k+1) (kC te o.dst v) Q):WQ P ty aI call yf ops tS k te Q:=by
 intro ι env S hR;obtain⟨xL,iZ,Gb,k1,k2,k3⟩:=iR hR.env hf ha;obtain⟨k4,k5⟩:=jV (ts:=gu tt fs argTypes) (ι':=fF) (S':=[]) hp k3;rw[hn]at k5;obtain⟨d,v,m1,m2,m3,m4,m5⟩:=hs _ k5;obtain⟨aL,cr,n1,n2,n3⟩:=h v m5 ι (kH env o.dst d) S (oZ hR (pK _ _ m4 m3) _);refine⟨aL,cr,?_,n2,n3⟩;rw[o9 ho];have hq:dO P ty aI call yf (jA env) o S=some d:=by simp only[dO,hop,k1,k2,if_neg hh,k4,if_true,m1]
 simp only[rF,iP hR.env hw,if_true,hq,n1]
def isRef:TV->Bool
 |.ptr _ _|.fn _ _ _=>true
 |_=>false
def aaF(kp:Nat)(t:cJ):TV->Option TV
 |.ptr k off=>if k=kp then some (.ptr 0 off)else none
 |v=>if eV v then some (kF t v)else none
def K8(kp:Nat):cp->Option cp
 |[]=>some []
 |v::l=>match aaF kp none v,K8 kp l with
  |some a,some b=>some (a::b)
  |_,_=>none
def aaH(kp:Nat)(t:cJ):TV->Option TV
 |.fn g fs cs=>match K8 kp fs,K8 kp cs with
  |some a,some b=>some (.fn g a b)
  |_,_=>none
 |v=>aaF kp t v
def y7(kp:Nat):List cJ->cp->Option cp
 |_,[]=>some []
 |[],v::l=>match aaH kp none v,y7 kp [] l with
  |some a,some b=>some (a::b)
  |_,_=>none
 |t::ts,v::l=>match aaH kp t v,y7 kp ts l with
  |some a,some b=>some (a::b)
  |_,_=>none
def kE(id:Nat):lp:=λj=>if j=0 then some id else none
theorem RA{kp id:Nat}{t:cJ}{v v':TV}{d:DV}(hk:ι kp=some id)(h:aaF kp t v=some v')(hv:RT ι S v d):RT (kE id) S v' d:=by unfold aaF at h;split at h;split at h;rename_i k off Gj;subst Gj;cases h;cases d<;>simp only[RT]at hv⊢;rw[hk]at hv;exact⟨hv.1,hv.2⟩;cases h;split at h;rename_i hp;cases h;exact tT hp hv;cases h
theorem EP{kp id:Nat}(hk:ι kp=some id):∀{l l':cp}{m:cj},K8 kp l=some l'->cO ι S l m->cO (kE id) S l' m
 |[],l',m,h,hv=>by cases h;rw[aQ hv];exact bS
 |v::l,l',m,h,hv=>by obtain⟨d,m',rfl,h1,h2⟩:=aj hv;simp only[K8]at h;split at h;rename_i a b e1 e2;cases h;exact aR (RA hk e1 h1) (EP hk e2 h2);cases h
theorem RG{kp id:Nat}{t:cJ}{v v':TV}{d:DV}(hk:ι kp=some id)(h:aaH kp t v=some v')(hv:RT ι S v d):RT (kE id) S v' d:=by unfold aaH at h;split at h;split at h;rename_i g fs cs a b e1 e2;cases h;cases d<;>simp only[RT]at hv⊢;exact⟨hv.1,EP hk e1 hv.2.1,EP hk e2 hv.2.2⟩;cases h;exact RA hk h hv
theorem ET{kp id:Nat}(hk:ι kp=some id):∀{ts:List cJ}{l l':cp}{m:cj},y7 kp ts l=some l'->cO ι S l m->cO (kE id) S l' m
 |_,[],l',m,h,hv=>by simp only[y7]at h;cases h;rw[aQ hv];exact bS
 |[],v::l,l',m,h,hv=>by obtain⟨d,m',rfl,h1,h2⟩:=aj hv;simp only[y7]at h;split at h;rename_i a b e1 e2;cases h;exact aR (RG hk e1 h1) (ET hk e2 h2);cases h
 |t::ts,v::l,l',m,h,hv=>by obtain⟨d,m',rfl,h1,h2⟩:=aj hv;simp only[y7]at h;split at h;rename_i a b e1 e2;cases h;exact aR (RG hk e1 h1) (ET hk e2 h2);cases h
theorem nC:∀{l:cp}{m:cj},l.any isRef=true->cO ι S l m->(m.map DV.strip).all DV.pure=false
 |[],_,h,_=>ao
 |v::l,m,h,hv=>by
  obtain⟨d,m',rfl,h1,h2⟩:=aj hv;simp only[List.any_cons,j9]at h;rw[aY,cC];rcases h with h|h
  .cases v<;>first|(cases h;done)|skip
   cases d<;>simp only[RT]at h1;rfl
   cases d<;>simp only[RT]at h1;rfl
  rw[nC h h2,qX]
def Cc(call:bG)(g:FuncId)(targs ts:cp)(Q:TV->cp->Prop):Prop:=
 ∀ι bO S,bZ ι targs [.cells ts] bO S->∃d S' ι' v AH k' iL,call g bO S=some (d,S')/\RT ι' S' v d/\refs v=[]/\fE AH=[]/\ι 0=some k'/\S'[k']? =some (.cells iL)/\cO ι' S' AH iL/\Fr [0] ι S ι' S'/\Nn S.length S S'/\Q v AH
theorem Cc.mono {g:FuncId}{targs ts:cp}{Q Q':TV->cp->Prop}(h:Cc call g targs ts Q)(hq:∀v ts,Q v ts->Q' v ts):Cc call g targs ts Q':=λι bO S hd=>by obtain⟨d,S',ι',v,AH,k',iL,h1,h2,h3,h4,h5,h6,h7,h8,h9,uG⟩:=h ι bO S hd;exact⟨d,S',ι',v,AH,k',iL,h1,h2,h3,h4,h5,h6,h7,h8,h9,hq _ _ uG⟩
theorem O9{f:Operand}{args:Array Operand}{argTypes:Array TypeId}{g:FuncId}{fs cs xs targs ts:cp}{kp:Nat}{Q:TV->cp->Prop}(hop:o.op=.call {callee:=.value f,args,argTypes})(hf:fT te f=some (.fn g fs cs))(ha:mj te args.toList=some xs)
  (hn:y7 kp (gu tt fs argTypes) (fs++xs++cs)=some targs) (hr:(fs++xs++cs).any isRef=true) (hts:tS[kp]? =some (.cells ts)) (Kq:fE ts=[]) (hs:Cc call g targs ts Q):Does P ty aI call yf B o nT te tS false λv cr bU ft=>∃AH,Q v AH/\cr=te/\bU=tS.set kp (.cells AH)/\ft=⟨none,true⟩:=by
 intro ι w env S aC hR hB hw hT Dw hS;obtain⟨xL,iZ,Gb,k1,k2,k3⟩:=iR hR.env hf ha;obtain⟨jf,ds,k6,m2,m3⟩:=hR.cells kp ts hts;have hc:bZ (kE jf) targs [.cells ts] (xL++Gb++iZ) S:=by
  refine⟨ET k6 hn k3,λk l hk=>?_,λk e s hk=>?_,λk k' hk=>?_,λi j k' hi hj=>?_,λk b hk t ht=>by cases k with|zero=>cases hk;trivial|succ k=>simp at hk⟩;cases k with
  |zero=>cases hk;exact⟨jf,ds,rfl,m2,jP _ _ Kq m3⟩
  |succ k=>simp at hk
  grind
  by_cases h0:k=0
  grind
  simp only[kE,h0,if_false]at hk;cases hk
  by_cases Gk:i=0<;>by_cases Zt:j=0
  grind
  simp only[kE,Zt,if_false]at hj;cases hj
  simp only[kE,Gk,if_false]at hi;cases hi
  simp only[kE,Gk,if_false]at hi;cases hi
 obtain⟨d,S',ι',v,AH,k',iL,n1,n2,n3,n4,n5,n6,n7,n8,n9,n10⟩:=hs _ _ S hc;simp only[kE,if_true,aG]at n5;subst n5;have mG:∀k k0,k≠kp->ι k=some k0->S'[k0]? =S[k0]? :=by intro k k0 hk h0;refine n8.rest k0 (hR.live h0) λj hj=>?_;by_cases Zt:j=0;subst Zt;simp only[kE,if_true,aG]at hj;subst hj;exact hk (hR.inj _ _ _ h0 k6);simp only[kE,Zt,if_false]at hj;cases hj
 have K:jE ι S ι S' λ_=>False:=λk k0 _ hk=>⟨hk,by by_cases Gj:k=kp;subst Gj;rw[k6]at hk;cases hk;exact wu (by rw[m2];simp) (by rw[m2];simp) (by rw[m2];simp);exact ei (mG k k0 Gj hk)⟩;have ZV:=nC hr k3;refine⟨d,S',ι,w,v,te,tS.set kp (.cells AH),⟨none,true⟩,⟨none,true⟩,λ_=>?_,λhd=>bc,⟨λe=>e,λl hl=>aE⟩,λl m hl=>aE,?_,pK _ _ n3 n2,hw,λ_ _ _=>rfl,⟨λk0 hl hno=>n8.rest k0 hl λj hj=>?_,λk k0 hk=>.inl ⟨k,hk⟩,λ_ _=>rfl⟩,λk hk=>?_,⟨n9.1,λj hj eL=>?_⟩,AH,n10,rfl,rfl,rfl⟩;simp only[af,hop,k1,k2,xz,ZV,aK,if_false,n1];split<;>rfl;refine⟨bH K _ _ hR.env,λk l hk=>?_,λk e s hk t ht=>?_,λk k0 hk=>?_,hR.inj,λk b hk t ht=>by rw[aS]at hk;split at hk;split at hk<;>cases hk;trivial;rename_i e1;rw[mG k t (λe=>e1 e.symm) ht];exact hR.mp k b hk t ht⟩;rw[aS]at hk;split at hk;rename_i e1;subst e1;split at hk;cases hk;exact⟨jf,iL,k6,n6,jP _ _ n4 n7⟩;cases hk;rename_i e1;obtain⟨k0,Nv,q1,q2,q3⟩:=hR.cells k l hk;exact⟨k0,Nv,q1,by rw[mG k k0 (Ne.symm e1) q1];exact q2,bH K _ _ q3⟩;rw[aS]at hk;split at hk
 grind
 obtain⟨n,q1⟩:=hR.own k e s hk t ht;exact⟨n,(K k t (λe=>e) ht).2.1 _ _ _ q1⟩;rw[aS];split
 grind
 exact hR.qB k k0 hk;by_cases Zt:j=0;subst Zt;simp only[kE,if_true,aG]at hj;subst hj;exact hno _ k6;simp only[kE,Zt,if_false]at hj;cases hj
 rw[aS];split;rename_i e1;subst e1;exact⟨some _,if_pos (aM.1 hts).1⟩;exact hB k hk;have:=(aM.1 eL).1;exact n9.2 j ab eL
def kX:TV->Bool
 |.val v=>!(v matches .tuple _)
 |.sl _ _ .no=>true
 |.sl _ _ (.stop _)=>true
 |_=>false
def DY:TV->Bool
 |.agg l=>l.all kX
 |.val _|.sl _ _ .no=>true
 |_=>false
def B8:TV->Bool
 |.tup l=>l.all DY
 |v=>DY v
theorem vN{v:TV}{d:DV}(hp:kX v=true)(h:RT ι S v d):d.aO.ct=true/\RT ι' S' v d.aO:=by
 cases v<;>first|(cases hp;done)|skip
 cases d<;>simp only[RT]at h;subst h;exact⟨hp,by simp only[RT,DV.aO]⟩;rename_i t l ap;cases ap<;>first|(cases hp;done)|skip
 all_goals
  cases d<;>simp only[RT]at h;exact⟨rfl,by simp only[RT,DV.aO];exact⟨h.1,trivial⟩⟩
theorem pI:∀{l:cp}{m:cj},l.all kX=true->cO ι S l m->(m.map DV.aO).all DV.ct=true/\cO ι' S' l (m.map DV.aO)
 |[],m,_,h=>by rw[aQ h];exact⟨rfl,bS⟩
 |a::l,m,hp,h=>by obtain⟨d,m',rfl,h1,h2⟩:=aj h;simp only[cC,aD]at hp;obtain⟨k1,k2⟩:=vN (ι':=ι') (S':=S') hp.1 h1;obtain⟨k3,k4⟩:=pI hp.2 h2;exact⟨by rw[aY,cC,k1,k3];rfl,aR k2 k4⟩
theorem CB{v:TV}{d:DV}(hp:DY v=true)(h:RT ι S v d):d.dL.kD=true/\RT ι' S' v d.dL:=by
 cases v<;>first|(cases hp;done)|skip
 cases d<;>simp only[RT]at h;subst h;exact⟨rfl,by simp only[RT,DV.dL]⟩;cases d<;>simp only[RT]at h;obtain⟨k1,k2⟩:=pI (ι':=ι') (S':=S') hp h;exact⟨k1,by simp only[RT,DV.dL];exact k2⟩;rename_i t l ap;cases ap<;>first|(cases hp;done)|skip
 cases d<;>simp only[RT]at h;exact⟨rfl,by simp only[RT,DV.dL];exact⟨h.1,trivial⟩⟩
theorem Ay:∀{l:cp}{m:cj},l.all DY=true->cO ι S l m->(m.map DV.dL).all DV.kD=true/\cO ι' S' l (m.map DV.dL)
 |[],m,_,h=>by rw[aQ h];exact⟨rfl,bS⟩
 |a::l,m,hp,h=>by obtain⟨d,m',rfl,h1,h2⟩:=aj h;simp only[cC,aD]at hp;obtain⟨k1,k2⟩:=CB (ι':=ι') (S':=S') hp.1 h1;obtain⟨k3,k4⟩:=Ay hp.2 h2;exact⟨by rw[aY,cC,k1,k3];rfl,aR k2 k4⟩
theorem CA{v:TV}{d:DV}(hp:B8 v=true)(h:RT ι S v d):d.strip.pure=true/\RT ι' S' v d.strip:=by
 by_cases hd:∃l,d=.tup l
 .obtain⟨m,rfl⟩:=hd;cases v<;>simp only[RT]at h<;>first|(cases hp;done)|skip
  obtain⟨k1,k2⟩:=Ay (ι':=ι') (S':=S') hp h;exact⟨k1,by simp only[RT,DV.strip];exact k2⟩
 have hv:DY v=true:=by
  cases v<;>first|exact hp|skip
  cases d<;>simp only[RT]at h;exact(hd ⟨_,rfl⟩).elim
 obtain⟨k1,k2⟩:=CB (ι':=ι') (S':=S') hv h;have e:d.strip=d.dL:=by cases d<;>first|rfl|exact(hd ⟨_,rfl⟩).elim
 refine⟨?_,by rw[e];exact k2⟩;rw[e];have:∀c:DV,c.kD=true->(∀l,c≠.tup l)->c.pure=true:=λc h hn=>by cases c<;>first|exact h|exact(hn _ rfl).elim
 refine this _ k1 λl hl=>?_;cases d<;>simp only[DV.dL]at hl<;>first|(cases hl;done)|exact hd ⟨_,rfl⟩
theorem M3{f:Operand}{args:Array Operand}{argTypes:Array TypeId}{g:FuncId}{fs cs xs rest ts:cp}{kp off:Nat}{Q:TV->cp->Prop}(hop:o.op=.call {callee:=.value f,args,argTypes})(hh:ty.h o≠1)(hf:fT te f=some (.fn g fs cs))(ha:mj te args.toList=some xs)
  (hl:fs++xs++cs=.ptr kp off::rest) (hp:rest.all eV=true) (hts:tS[kp]? =some (.cells ts)) (AM:ts.all kX=true) (hs:Cc call g (.ptr 0 off::bR (gu tt fs argTypes).tail rest) ts Q) (hq:∀v AH,Q v AH->B8 v=true/\AH.all kX=true):
  Does P ty aI call yf B o nT te tS true λv cr bU ft=>∃AH,Q v AH/\cr=te/\bU=tS.set kp (.cells AH)/\ft=⟨some [kp],true⟩:=by
 intro ι w env S aC hR hB hw hT Dw hS;obtain⟨xL,iZ,Gb,k1,k2,k3⟩:=iR hR.env hf ha;obtain⟨jf,ds,k6,m2,m3⟩:=hR.cells kp ts hts;rw[hl]at k3;obtain⟨d0,m0,hm0,ZT,Uv⟩:=aj k3;have Nu:d0=.ptr jf off:=by cases d0<;>simp only[RT]at ZT;obtain⟨e1,e2⟩:=ZT;rw[k6]at e1;cases e1;rw[e2]
 subst Nu;obtain⟨p1,p2⟩:=jV (ts:=(gu tt fs argTypes).tail) (ι':=kE 0) (S':=[.cells (ds.map DV.aO)]) hp Uv;obtain⟨c1,c2⟩:=pI (ι':=kE 0) (S':=[.cells (ds.map DV.aO)]) AM m3;have hc:bZ (kE 0) (.ptr 0 off::bR (gu tt fs argTypes).tail rest) [.cells ts] (.ptr 0 off::m0.map DV.strip) [.cells (ds.map DV.aO)]:=by
  refine⟨aR (by simp only[RT];exact⟨rfl,trivial⟩) p2,λk l hk=>?_,λk e s hk=>?_,λk k' hk=>?_,λi j k' hi hj=>?_,λk b hk t ht=>by cases k with|zero=>cases hk;trivial|succ k=>simp at hk⟩;cases k with
  |zero=>cases hk;exact⟨0,_,rfl,rfl,c2⟩
  |succ k=>simp at hk
  grind
  by_cases h0:k=0
  grind
  simp only[kE,h0,if_false]at hk;cases hk
  by_cases Gk:i=0<;>by_cases Zt:j=0
  grind
  simp only[kE,Zt,if_false]at hj;cases hj
  simp only[kE,Gk,if_false]at hi;cases hi
  simp only[kE,Gk,if_false]at hi;cases hi
 obtain⟨d,S1,ι1,v,AH,k',iL,n1,n2,n3,n4,n5,n6,n7,n8,n9,n10⟩:=hs _ _ _ hc;simp only[kE,if_true,aG]at n5;subst n5;obtain⟨q1,q2⟩:=hq _ _ n10;obtain⟨r1,r2⟩:=CA (ι':=ι) (S':=S.set jf (.cells (iL.map DV.aO))) q1 n2;obtain⟨r3,r4⟩:=pI (ι':=ι) (S':=S.set jf (.cells (iL.map DV.aO))) q2 n7;have ah6:∃T,S1=.cells iL::T:=by
  cases S1 with
  |nil=>simp at n6
  |cons a T=>simp only[eu,aG]at n6;exact⟨T,by rw[n6]⟩
 obtain⟨T,rfl⟩:=ah6;have hid:jf<S.length:=(aM.1 m2).1;have mG:∀k0,k0≠jf->(S.set jf (.cells (iL.map DV.aO)))[k0]? =S[k0]? :=λk0 h=>by rw[aS,if_neg λe=>h e.symm]
 have hkp:∀k,k≠kp->∀k0,ι k=some k0->k0≠jf:=λk hk k0 h0 e=>hk (hR.inj _ _ _ (e▸h0) k6);have K:jE ι S ι (S.set jf (.cells (iL.map DV.aO))) λ_=>False:=λk k0 _ hk=>⟨hk,by by_cases Gj:k0=jf;subst Gj;exact wu (by rw[m2];simp) (by rw[m2];simp) (by rw[m2];simp);exact ei (mG k0 Gj)⟩;have ZV:((xL++Gb++iZ).map DV.strip).all DV.pure=false:=by rw[hm0];rfl
 have ho:pZ call g (xL++Gb++iZ) S=some (jf,d.strip,iL.map DV.aO):=by rw[hm0];simp only[pZ,m2,p1,c1,jo,if_true,n1,r1,r3]
 refine⟨d.strip,S.set jf (.cells (iL.map DV.aO)),ι,w,v,te,tS.set kp (.cells AH),⟨some [jf],true⟩,⟨some [kp],true⟩,λhd=>bc,λ_=>?_,⟨λe=>e,λl hl=>?_⟩,λl m hl hm j hj=>?_,?_,r2,hw,λ_ _ _=>rfl,⟨λk0 hl hno=>mG k0 λe=>hno _ (e▸k6),λk k0 hk=>.inl ⟨k,hk⟩,λ_ _=>rfl⟩,λk hk=>?_,⟨ae,λj hj eL=>?_⟩,AH,n10,rfl,rfl,rfl⟩;simp only[aJ,hop,k1,k2,if_neg hh,ZV,aK,if_false,ho];cases hl;exact⟨[jf],rfl,λj hj=>⟨kp,ae,by simp only[bV]at hj;rw[hj];exact hw _ _ k6⟩⟩
 grind
 refine⟨bH K _ _ hR.env,λk l hk=>?_,λk e s hk t ht=>?_,λk k0 hk=>?_,hR.inj,λk b hk t ht=>by rw[aS]at hk;split at hk;split at hk<;>cases hk;trivial;rename_i e1;rw[mG t (hkp k (λe=>e1 e.symm) t ht)];exact hR.mp k b hk t ht⟩;rw[aS]at hk;split at hk
 grind
 rename_i e1;obtain⟨k0,Nv,q1,q2,q3⟩:=hR.cells k l hk;exact⟨k0,Nv,q1,by rw[mG k0 (hkp k (Ne.symm e1) k0 q1)];exact q2,bH K _ _ q3⟩;rw[aS]at hk;split at hk
 grind
 obtain⟨n,q1⟩:=hR.own k e s hk t ht;exact⟨n,(K k t (λe=>e) ht).2.1 _ _ _ q1⟩;rw[aS];split
 grind
 exact hR.qB k k0 hk;rw[aS];split;rename_i e1;subst e1;exact⟨some _,if_pos (aM.1 hts).1⟩;exact hB k hk
 grind
end Go.Tv
namespace Go.Tv
open Go Go.Di
def ac3(ty:gb)(te:cp)(tS:cx):ResultVar->Option TV
 |.tmp t=>some (te.getD t .unk)
 |.cell a t=>match ty t,te.getD a .unk with
  |some d,.ptr id off=>match tS[id]? with
   |some (.cells l)=>xm d.k.isAgg d.size l off
   |_=>none
  |_,_=>none
def xR(ty:gb)(te:cp)(tS:cx):List ResultVar->Option cp
 |[]=>some []
 |x::r=>match ac3 ty te tS x,xR ty te tS r with
  |some v,some l=>some (v::l)
  |_,_=>none
def kJ:cp->TV
 |[d]=>d
 |l=>.tup l
variable {P:Program} {ty:gb} {tt:TypeId->cJ} {ι ι' w:lp} {S S':ai} {te mV:cp} {env:cj} {tS iS:cx} {aI:b9} {call:bG} {yf:ez} {o:Oper} {aC nT:Nat} {B:cy} {r:TR} {ops:Array Oper}
theorem tn(h:bZ ι te tS env S):∀{rs:List ResultVar}{vs:cp},xR ty te tS rs=some vs->∃ds,uI ty env S rs=some ds/\cO ι S vs ds
 |[],vs,hx=>by cases hx;exact⟨[],rfl,bS⟩
 |x::r,vs,hx=>by
  simp only[xR]at hx;split at hx;rename_i v l h1 h2;cases hx;obtain⟨ds,k1,k2⟩:=tn h h2;cases x with
  |tmp t=>cases h1;exact⟨_,by simp only[uI,k1,az],aR (El h.env t) k2⟩
  |cell a t=>simp only[ac3]at h1;split at h1;rename_i d id off e1 e2;split at h1;rename_i l' e3;have hg:=El h.env a;rw[e2]at hg;generalize hd:env.getD a bK=da at hg;cases da<;>simp only[RT]at hg;obtain⟨g1,rfl⟩:=hg;obtain⟨jf,iL,m1,m2,m3⟩:=h.cells id l' e3;rw[g1]at m1;cases m1;obtain⟨q,m4,m5⟩:=sB m3 h1;exact⟨q::ds,by simp only[uI,hd,lQ,e1,m2,m4,k1],aR m5 k2⟩;cases h1;cases h1
  cases hx
theorem Tz{ts:List cJ}{vs:cp}{ds:cj}(hp:vs.all eV=true)(h:cO ι S vs ds):(oneOf ds).strip.pure=true/\RT ι' S' (kJ (bR ts vs)) (oneOf ds).strip:=by
 have many:∀{ts:List cJ}{l:cp}{m:cj},l.all eV=true->cO ι S l m->(m.map DV.dL).all DV.kD=true/\cO ι' S' (bR ts l) (m.map DV.dL):=by
  intro ts l;induction l generalizing ts with
  |nil=>intro m _ h;rw[aQ h];cases ts<;>exact⟨rfl,by simp only[bR,eO];exact bS⟩
  |cons a l ih=>
   intro m hp h;obtain⟨d,m',rfl,h1,h2⟩:=aj h;simp only[cC,aD]at hp;cases ts with
   |nil=>
    obtain⟨k1,k0,k2⟩:=jR (t:=none) (ι':=ι') (S':=S') hp.1 h1;obtain⟨k3,k4⟩:=ih (ts:=[]) hp.2 h2;have e:d.strip=d.dL:=by cases d<;>first|rfl|exact(k0 _ rfl).elim
    rw[e]at k1 k2;have e2:d.dL.kD=true:=by cases d<;>first|exact k1|exact(k0 _ rfl).elim
    exact⟨by rw[aY,cC,e2,k3];rfl,by simp only[bR,aY];exact aR k2 k4⟩
   |cons t ts=>
    obtain⟨k1,k0,k2⟩:=jR (t:=t) (ι':=ι') (S':=S') hp.1 h1;obtain⟨k3,k4⟩:=ih (ts:=ts) hp.2 h2;have e:d.strip=d.dL:=by cases d<;>first|rfl|exact(k0 _ rfl).elim
    rw[e]at k1 k2;have e2:d.dL.kD=true:=by cases d<;>first|exact k1|exact(k0 _ rfl).elim
    exact⟨by rw[aY,cC,e2,k3];rfl,by simp only[bR,aY];exact aR k2 k4⟩
 match vs,ds,hp,h with
 |[],ds,_,h=>rw[aQ h];cases ts<;>exact⟨rfl,by simp only[bR,kJ,oneOf,DV.strip,RT,eO];exact bS⟩
 |[v],ds,hp,h=>
  obtain⟨d,m',rfl,h1,h2⟩:=aj h;rw[aQ h2];simp only[cC,List.all_nil,qW]at hp;cases ts with
  |nil=>obtain⟨k1,k0,k2⟩:=jR (t:=none) (ι':=ι') (S':=S') hp h1;exact⟨k1,k2⟩
  |cons t ts=>obtain⟨k1,k0,k2⟩:=jR (t:=t) (ι':=ι') (S':=S') hp h1;cases ts<;>exact⟨k1,k2⟩
 |v::u::l,ds,hp,h=>
  obtain⟨k1,k2⟩:=many (ts:=ts) hp h;obtain⟨d,m',rfl,h1,h2⟩:=aj h;obtain⟨d',m'',rfl,h3,h4⟩:=aj h2;refine⟨k1,?_⟩;have e:∀{ts:List cJ},kJ (bR ts (v::u::l))=.tup (bR ts (v::u::l)):=by
   intro ts;cases ts with
   |nil=>simp only[bR,kJ]
   |cons t ts=>cases ts<;>simp only[bR,kJ]
  rw[e];simp only[oneOf,DV.strip,RT];exact k2
theorem Ho{ts:List cJ}{vs:cp}{ds:cj}(hp:vs.all eV=true)(h:cO ι S vs ds):RT ι' S' (kJ (bR ts vs)) (oneOf ds):=by
 have k:=mb (ts:=ts) (ι':=ι') (S':=S') hp h
 match vs,ds,hp,h,k with
 |[],ds,_,h,k=>rw[aQ h];cases ts<;>(simp only[bR,kJ,oneOf,RT];exact bS)
 |[v],ds,hp,h,k=>
  obtain⟨d,m',rfl,h1,h2⟩:=aj h;rw[aQ h2]at k⊢;cases ts with
  |nil=>simp only[bR]at k⊢;obtain⟨_,_,e,k1,-⟩:=aj k;cases e;exact k1
  |cons t ts=>cases ts<;>(simp only[bR]at k⊢;obtain⟨_,_,e,k1,-⟩:=aj k;cases e;exact k1)
 |v::u::l,ds,hp,h,k=>
  obtain⟨d,m',rfl,h1,h2⟩:=aj h;obtain⟨d',m'',rfl,h3,h4⟩:=aj h2;have e:∀{ts:List cJ},kJ (bR ts (v::u::l))=.tup (bR ts (v::u::l)):=by
   intro ts;cases ts with
   |nil=>simp only[bR,kJ]
   |cons t ts=>cases ts<;>simp only[bR,kJ]
  rw[e];simp only[oneOf,RT];exact k
section
variable (P:Program) (ty:gb) (bI:b9) (L:Nat)
def yN(n:Nat):b9:=kV bI (dI P ty bI L n).1
def qf(n:Nat):bG:=(dI P ty bI L n).1
def yfN(n:Nat):ez:=(dI P ty bI L n).2
end
theorem jb{t:TT}:∀{l:List t.den}{ds:cj},fW t l ds->ds.length=l.length*t.size
 |[],ds,h=>by simp only[fW]at h;subst h;simp
 |x::l,ds,h=>by simp only[fW]at h;obtain⟨c,m,rfl,h1,h2⟩:=h;rw[cn,oJ h1,jb h2,di,j8,Nat.one_mul,nO]
theorem yC{t:TT}(h0:(t.agg||t.size==1)=true):∀{l:List t.den}{ds:cj},fW t l ds->eX (CR t) t.agg l (rowsOf t.size t.agg ds l.length)
 |[],ds,h=>by simp only[fW]at h;subst h;simp[rowsOf,eX]
 |x::l,ds,h=>by
  simp only[fW]at h;obtain⟨c,m,rfl,h1,h2⟩:=h;rw[di,Cm (oJ h1)];refine⟨?_,yC h0 h2⟩;cases ha:t.agg with
  |true=>exact⟨h1,by simp[y8]⟩
  |false=>
   have h3:=row_one h1 ha;rw[ha]at h3;have hs:t.size=1:=by rw[ha]at h0;simpa using h0
   have e2:(c++m).getD 0 bK=c.getD 0 bK:=by have:=oJ h1;simp only[aU,fI (show 0<c.length by omega)]
   simp only[aK,if_false];rw[e2];exact h3
theorem Gs(h:bZ ι te tS env S){g:Nat}{t t':TT}{e:Nat}{l:List t'.den}{z:Bool}{d:DV}(hg:tS[g]? =some (.rows t' e l z))(hd:RT ι S (.so g t) d)(ht:t'=t):∃id ds,d=.jX id l.length t'.agg/\ι g=some id/\S[id]? =some (.op e t'.size ds z)/\C2 S id l.length=some (e,t'.size,ds,z)/\fW t' l ds/\0<t'.size/\(t'.agg||t'.size==1)=true:=by subst ht;cases d<;>simp only[RT]at hd;rename_i id n agg;obtain⟨h1,rfl,e',s',l',z',h2,h3⟩:=hd;obtain⟨q0,q1,ds,q2,q3⟩:=h.mp g _ hg id h1;rw[h2]at q2;cases q2;have hl:=jb q3;have hn:n=l.length:=Nat.eq_of_mul_eq_mul_right q0 (h3.trans hl);subst hn;refine⟨id,l',rfl,h1,h2,?_,q3,q0,q1⟩;unfold C2;rw[h2];simp only[h3,if_true]
theorem Q2{id n:Nat}{t:TT}{e:Nat}{ds:cj}(h:C2 S id n=some (e,t.size,ds,true))(h0:0<t.size)(h1:(t.agg||t.size==1)=true):kT S (.jX id n t.agg)=.sl (rowsOf t.size t.agg ds n) none ⟨false,some false⟩:=by simp only[kT,h,iN h0,h1,jo,if_true]
def F0(tS:cx):TV->TV
 |.so g t=>match tS[g]? with
  |some (.rows t' _ l _)=>if h:t'=t then .sl t (h▸l) .no else .so g t
  |_=>.so g t
 |v=>v
def KH(tS:cx):TV->TV
 |.agg l=>.agg (l.map (F0 tS))
 |v=>F0 tS v
def yS(tS:cx)(vs:cp):cp:=vs.map (KH tS)
section
variable {id:Nat} {e:TypeId} {s:Nat} {l:cj}
theorem Rh{z:Bool}(h:S[id]? =some (.op e s l z))(d:DV):∃z',(yQ S d)[id]? =some (.op e s l z')/\(z=true->z'=true)/\∀n ag,d=.jX id n ag->n*s=l.length->z'=true:=by
 have hn:∀n,n*s=l.length->C2 S id n=some (e,s,l,z):=λn hn=>by unfold C2;rw[h];simp only[hn,if_true]
 unfold yQ;split;rename_i jf n' ag';split;rename_i e1 s1 l1 ho;have h1:S[jf]? =some (.op e1 s1 l1 false):=by
  unfold C2 at ho;split at ho
  grind
  cases ho
 by_cases he:jf=id
 grind
 grind
 grind
 grind
theorem Rj:∀(m:cj){S:ai}{z:Bool},S[id]? =some (.op e s l z)->∃z',(m.foldl yQ S)[id]? =some (.op e s l z')/\(z=true->z'=true)/\∀n ag,DV.jX id n ag∈m->n*s=l.length->z'=true
 |[],S,z,h=>⟨z,h,λh=>h,λ_ _ hm=>by simp at hm⟩
 |d::m,S,z,h=>by
  obtain⟨z1,h1,h2,h3⟩:=Rh h d;obtain⟨z2,k1,k2,k3⟩:=Rj m h1;refine⟨z2,k1,λhz=>k2 (h2 hz),λn ag hm hn=>?_⟩;rcases bE.1 hm with hm|hm
  grind
  grind
def aay(d:DV)(id n:Nat):Prop:=∃ag,d=.jX id n ag\/∃m,d=.agg m/\DV.jX id n ag∈m
theorem Rm{z:Bool}(h:S[id]? =some (.op e s l z))(d:DV):∃z',(uJ S d)[id]? =some (.op e s l z')/\(z=true->z'=true)/\∀n,aay d id n->n*s=l.length->z'=true:=by
 unfold uJ;split;rename_i m;obtain⟨z1,h1,h2,h3⟩:=Rj m h;refine⟨z1,h1,h2,λn hs hn=>?_⟩;obtain⟨ag,hs|⟨m',hs,hm⟩⟩:=hs;cases hs
 grind
 rename_i hno;obtain⟨z1,h1,h2,h3⟩:=Rh h d;refine⟨z1,h1,h2,λn hs hn=>?_⟩;obtain⟨ag,hs|⟨m',hs,hm⟩⟩:=hs
 grind
 grind
theorem Rg:∀(m:cj){S:ai}{z:Bool},S[id]? =some (.op e s l z)->∃z',(m.foldl uJ S)[id]? =some (.op e s l z')/\(z=true->z'=true)/\∀d∈m,∀n,aay d id n->n*s=l.length->z'=true
 |[],S,z,h=>⟨z,h,λh=>h,λ_ hm=>by simp at hm⟩
 |d::m,S,z,h=>by
  obtain⟨z1,h1,h2,h3⟩:=Rm h d;obtain⟨z2,k1,k2,k3⟩:=Rg m h1;refine⟨z2,k1,λhz=>k2 (h2 hz),λd' hm n hs hn=>?_⟩;rcases bE.1 hm with rfl|hm
  grind
  grind
end
theorem Ma(h:bZ ι te tS env S){S':ai}{v:TV}{d:DV}(hv:RT ι S v d)(hp:eV (F0 tS v)=true)(hh:∀id n ag e s l z,d=.jX id n ag->S[id]? =some (.op e s l z)->n*s=l.length->S'[id]? =some (.op e s l true)):RT ι S (F0 tS v) (kT S' d):=by
 cases v
 case so g t=>
  simp only[F0]at hp⊢;split at hp;rename_i t' e l z hg;split at hp;rename_i ht;obtain⟨id,cs,rfl,h1,h2,h3,h4,h5,h6⟩:=Gs h hg hv ht;subst ht;have hn:l.length*t'.size=cs.length:=(jb h4).symm;have hS:C2 S' id l.length=some (e,t'.size,cs,true):=by unfold C2;rw[hh _ _ _ _ _ _ _ rfl h2 hn];simp only[hn,if_true]
  rw[Q2 hS h5 h6,dif_pos rfl];simp only[RT,pU,and_true];exact yC h6 h4;cases hp;cases hp
 all_goals first|(cases hp;done)|skip
 all_goals (simp only[F0]at hp⊢;cases d<;>simp only[RT]at hv<;>simp only[kT,RT]<;>exact hv)
theorem abC{v:TV}(h:A1 v=true):eV v=true:=by cases v<;>first|rfl|cases h
theorem Hy(h:bZ ι te tS env S){S':ai}:∀{l:cp}{m:cj},cO ι S l m->(l.map (F0 tS)).all A1=true->(∀d∈m,∀id n ag e s l z,d=.jX id n ag->S[id]? =some (.op e s l z)->n*s=l.length->S'[id]? =some (.op e s l true))->cO ι S (l.map (F0 tS)) (m.map (kT S'))
 |[],m,hd,_,_=>by rw[aQ hd];exact bS
 |v::l,m,hd,hp,hh=>by obtain⟨d,m',rfl,h1,h2⟩:=aj hd;simp only[aY,cC,aD]at hp⊢;exact aR (Ma h h1 (abC hp.1) (hh d iz)) (Hy h h2 hp.2 λd hd=>hh d (pF _ hd))
theorem agh{v:TV}{d:DV}(hv:RT ι S v d)(hp:eV (KH tS v)=true):∀l,d≠.tup l:=by intro l e;subst e;cases v<;>first|(simp only[RT]at hv;done)|(simp only[KH,F0]at hp;cases hp)
theorem TP(h:bZ ι te tS env S){S':ai}{v:TV}{d:DV}(hv:RT ι S v d)(hp:eV (KH tS v)=true)(hh:∀id n e s l z,aay d id n->S[id]? =some (.op e s l z)->n*s=l.length->S'[id]? =some (.op e s l true)):RT ι S (KH tS v) (uv S' d)/\∀l,d≠.tup l:=by
 cases v
 case agg l=>
  cases d<;>simp only[RT]at hv;rename_i m;simp only[KH,eV]at hp;refine⟨?_,λ_ e=>ar⟩;simp only[KH,uv,RT];exact Hy h hv hp λd hd id n ag e s l z he=>hh id n e s l z ⟨ag,.inr ⟨m,rfl,he▸hd⟩⟩
 all_goals
  have hd:(∀l,d≠.agg l)/\∀l,d≠.tup l:=by constructor<;>intro l e<;>subst e<;>first|(simp only[RT]at hv;done)|(simp only[KH,F0]at hp;cases hp)
  refine⟨?_,hd.2⟩;have e:uv S' d=kT S' d:=by cases d<;>first|rfl|exact(hd.1 _ rfl).elim
  rw[e];exact Ma h hv hp λid n ag e s l z he=>hh id n e s l z ⟨ag,.inl he⟩
theorem agf(h:bZ ι te tS env S){vs:cp}{ds:cj}(hd:cO ι S vs ds)(hp:(yS tS vs).all eV=true):∃iL,oneOf iL=uV (IA S (oneOf ds)) (oneOf ds)/\cO ι S (yS tS vs) iL:=by
 have many:∀{S':ai}{vs:cp}{ds:cj},cO ι S vs ds->(yS tS vs).all eV=true->(∀d∈ds,∀id n e s l z,aay d id n->S[id]? =some (.op e s l z)->n*s=l.length->S'[id]? =some (.op e s l true))->cO ι S (yS tS vs) (ds.map (uv S'))/\∀d∈ds,∀l,d≠.tup l:=by
  intro S' vs;induction vs with
  |nil=>intro ds hd _ _;rw[aQ hd];exact⟨bS,ae⟩
  |cons v vs ih=>
   intro ds hd hp hh;obtain⟨d,m',rfl,h1,h2⟩:=aj hd;simp only[yS,aY,cC,aD]at hp;obtain⟨a1,a2⟩:=TP h h1 hp.1 (hh d iz);obtain⟨b1,b2⟩:=ih h2 hp.2 λd hd=>hh d (pF _ hd);refine⟨aR a1 b1,λd' yH=>?_⟩;rcases bE.1 yH with rfl|yH;exact a2
   grind
 match vs,ds,hd,hp with
 |[v],ds,hd,hp=>
  obtain⟨d,m',rfl,k1,k2⟩:=aj hd;rw[aQ k2]at hd⊢;have hp1:=hp;simp only[yS,aY,eO,cC,List.all_nil,qW]at hp1;have h0:=agh k1 hp1;have e1:IA S d=uJ S d:=by cases d<;>first|rfl|exact(h0 _ rfl).elim
  have e2:uV (uJ S d) d=uv (uJ S d) d:=by cases d<;>first|rfl|exact(h0 _ rfl).elim
  refine⟨[d].map (uv (uJ S d)),by simp only[oneOf,aY,eO,e1,e2],(many hd hp λd' yH id n e s l z hs ho hn=>?_).1⟩;simp only[bV]at yH;subst yH;obtain⟨z',q1,-,q3⟩:=Rm ho d';rw[q3 n hs hn]at q1;exact q1
 |[],ds,hd,_=>exact⟨[],by rw[aQ hd];rfl,bS⟩
 |v::u::vs,ds,hd,hp=>
  obtain⟨d,m',rfl,k1,k2⟩:=aj hd;obtain⟨d',m'',rfl,k3,k4⟩:=aj k2;refine⟨(d::d'::m'').map (uv ((d::d'::m'').foldl uJ S)),rfl,(many hd hp λd1 Z0 id n e s l z hs ho hn=>?_).1⟩;obtain⟨z',q1,-,q3⟩:=Rg (d::d'::m'') ho;rw[q3 d1 Z0 n hs hn]at q1;exact q1
def aeP(ty:gb)(rs:List ResultVar)(js:List cJ)(Q:TV->Prop)(e:DX)(te:cp)(tS:cx):Prop:=
 (match e with|.exit _=>False|_=>True)/\∃vs,xR ty te tS rs=some vs/\(yS tS vs).all eV=true/\refs (kJ (bR js (yS tS vs)))=[]/\Q (kJ (bR js (yS tS vs)))
theorem YS{bI:b9}{L n:Nat}{f:FuncId}{fn:Func}{c:Code}{targs:cp}{js:List cJ}{Q:TV->Prop}(hf:P.funcs[f]? =some fn)(hb:fn.body=some c)(ht:∀a,cO fF [] targs a->bI f a=none)
  (h:WT P ty (yN P ty bI L n) (qf P ty bI L n) (yfN P ty bI L n) [] L f false c (targs++List.replicate (fn.ntmps-targs.length) .unk) [] (aeP ty fn.results.toList js Q)):vc (yN P ty bI L (n+1)) f targs Q:=by
 intro bO hd;have hlen:=gN hd;have hR:bZ fF (targs++List.replicate (fn.ntmps-targs.length) .unk) [] (bO++List.replicate (fn.ntmps-bO.length) bK) []:=by refine⟨eB hd (by rw[hlen];exact tj _ _),λk l hk=>(by simp at hk),λk e s hk=>(by simp at hk),λk k' hk=>(by cases hk),λi j k' hi=>(by cases hi),λk b hk=>(by simp at hk)⟩
 obtain⟨e,aL,S',ι',cr,bU,h1,h2,h3,h4,h5,h6⟩:=h fF _ [] hR (λk hk=>(by cases hk));obtain⟨h6,vs,h7,h8,h9,uG⟩:=h6;obtain⟨ds,k1,k2⟩:=tn h2 h7;obtain⟨ds2,c1,c2⟩:=agf h2 k2 h8;obtain⟨k3,k4⟩:=Tz (ts:=js) (ι':=fF) (S':=[]) h8 c2;refine⟨(oneOf ds2).strip,_,?_,k3,k4,h9,uG⟩;have hc:(dI P ty bI L (n+1)).1 f bO []=some (oneOf ds,S'):=by
  simp only[dI,hf,uA,hb];have AP:de P ty (kV bI (dI P ty bI L n).1) (dI P ty bI L n).1 (dI P ty bI L n).2 L f false c (bO++List.replicate (fn.ntmps-bO.length) bK) []=some (e,aL,S'):=h1;rw[AP];cases e with
  |normal=>simp only[k1,az]
  |ret=>simp only[k1,az]
  |exit id=>exact h6.elim
 simp only[yN,kV,ht _ hd,hc,<-c1,k3,if_true]
def Vt(ty:gb)(rs:List ResultVar)(js:List cJ)(oy:List cJ)(Q:TV->cp->Prop)(e:DX)(te:cp)(tS:cx):Prop:=
 (match e with|.exit _=>False|_=>True)/\∃vs ts,xR ty te tS rs=some vs/\vs.all eV=true/\refs (kJ (bR js vs))=[]/\tS[0]? =some (.cells ts)/\ts.all eV=true/\fE (bR oy ts)=[]/\Q (kJ (bR js vs)) (bR oy ts)
theorem Y7{bI:b9}{L n:Nat}{f:FuncId}{fn:Func}{c:Code}{targs ts:cp}{js oy:List cJ}{Q:TV->cp->Prop}(hf:P.funcs[f]? =some fn)(hb:fn.body=some c)
  (h:WT P ty (yN P ty bI L n) (qf P ty bI L n) (yfN P ty bI L n) [0] L f false c (targs++List.replicate (fn.ntmps-targs.length) .unk) [.cells ts] (Vt ty fn.results.toList js oy Q)):Cc (qf P ty bI L (n+1)) f targs ts Q:=by
 intro ι bO S hR;have hlen:=gN hR.env;have mY:bZ ι (targs++List.replicate (fn.ntmps-targs.length) .unk) [.cells ts] (bO++List.replicate (fn.ntmps-bO.length) bK) S:=
  ⟨eB hR.env (by rw[hlen];exact tj _ _),hR.cells,hR.own,hR.qB,hR.inj,hR.mp⟩
 obtain⟨e,aL,S',ι',cr,bU,h1,h2,h3,h4,h5,h6⟩:=h ι _ S mY (λk hk=>(by
  have:k=0:=by simpa using hk
  subst this;exact⟨ts,rfl⟩))
 obtain⟨h6,vs,AH,h7,h8,h9,uG,Ig,Zx,h13⟩:=h6;obtain⟨ds,k1,k2⟩:=tn h2 h7;obtain⟨k',iL,m1,m2,m3⟩:=h2.cells 0 AH uG;refine⟨oneOf ds,S',ι',_,bR oy AH,k',iL,?_,Ho (ts:=js) h8 k2,h9,Zx,by rw[<-h4.base 0 ae];exact m1,m2,mb Ig m3,h4,h5,h13⟩;simp only[qf,dI,hf,uA,hb];have AP:de P ty (kV bI (dI P ty bI L n).1) (dI P ty bI L n).1 (dI P ty bI L n).2 L f false c (bO++List.replicate (fn.ntmps-bO.length) bK) S=some (e,aL,S'):=h1;rw[AP];cases e with
 |normal=>simp only[k1,az]
 |ret=>simp only[k1,az]
 |exit id=>exact h6.elim
end Go.Tv
namespace Go.Tv
open Go Go.Di
section
variable (P:Program) (ty:gb) (tt:TypeId->cJ)
def VD:cp->Option Nat
 |[]=>none
 |v::l=>match refs v with
  |k::_=>if isRef v then some k else VD l
  |[]=>VD l
end
variable {P:Program} {ty:gb} {tt:TypeId->cJ} {ι ι' w:lp} {S S':ai} {te mV:cp} {env:cj} {tS iS:cx} {aI:b9} {call:bG} {yf:ez} {o:Oper} {aC nT:Nat} {B:cy} {r:TR} {ops:Array Oper} {L:Nat} {fn:FuncId} {jg:Bool} {a b c:Code} {Q Q':DX->cp->cx->Prop}
variable {fs:cY}
def WI(P:Program)(ty:gb)(aI:b9)(call:bG)(yf:ez)(B:cy)(L:Nat)(fn:FuncId)(jg:Bool)(n:Nat)(c:Code)(te:cp)(tS:cx)(Q:DX->cp->cx->Prop):Prop:=
 ∀ι env S,bZ ι te tS env S->oT B tS->∃e aL S' ι' cr bU,oO (de P ty aI call yf L fn jg c) n env S=some (e,aL,S')/\bZ ι' cr bU aL S'/\oT B bU/\Fr B ι S ι' S'/\Nn S.length S S'/\Q e cr bU
theorem BD{f:cj->ai->Option (DX×cj×ai)}:∀{n m:Nat}{env:cj}{S:ai}{r:DX×cj×ai},n<=m->oO f n env S=some r->oO f m env S=some r
 |0,_,_,_,_,_,h=>ao
 |n+1,0,_,_,_,hn,_=>ab
 |n+1,m+1,env,S,r,hn,h=>by simp only[oO]at h⊢;split at h;rename_i aL S' e;exact BD ab h;exact h
theorem Sn{n:Nat}(hn:n<=L)(h:WI P ty aI call yf B L fn jg n c te tS Q):WT P ty aI call yf B L fn jg (.loop c) te tS Q:=by intro ι env S hR hB;obtain⟨e,aL,S',ι',cr,bU,h1,h2⟩:=h ι env S hR hB;exact⟨e,aL,S',ι',cr,bU,by simp only[de];exact BD hn h1,h2⟩
theorem aaX{n:Nat}(h:WT P ty aI call yf B L fn jg c te tS λe te tS=>match e with|.normal=>WI P ty aI call yf B L fn jg n c te tS Q|e=>Q e te tS):WI P ty aI call yf B L fn jg (n+1) c te tS Q:=by
 intro ι env S hR hB;obtain⟨e,aL,S',ι',cr,bU,h1,h2,h3,h4,h5,h6⟩:=h ι env S hR hB;cases e with
 |normal=>obtain⟨e,rZ,xM,ι'',uP,uQ,k1,k2,k3,k4,k5,k6⟩:=h6 ι' aL S' h2 h3;exact⟨e,rZ,xM,ι'',uP,uQ,by simp only[oO,h1,k1],k2,k3,h4.trans k4,vz h5 k5,k6⟩
 |exit id=>exact⟨_,aL,S',ι',cr,bU,by simp only[oO,h1],h2,h3,h4,h5,h6⟩
 |ret=>exact⟨_,aL,S',ι',cr,bU,by simp only[oO,h1],h2,h3,h4,h5,h6⟩
theorem aa0{n:Nat}(hl:jY mV te)(hb:CL iS tS)(kB:okB mV iS=true)(hB:∀k,k∈B->mE iS k=true)(h:WI P ty aI call yf B L fn jg n c mV iS Q):WI P ty aI call yf B L fn jg n c te tS Q:=by intro ι env S hR R1;have Zw:=Ag hb R1 hB;obtain⟨ι1,h1,h2,-⟩:=zW hR hl hb kB Zw;obtain⟨e,aL,S',ι',cr,bU,m1,m2,m3,m4,m5⟩:=h ι1 env S h1 Zw;exact⟨e,aL,S',ι',cr,bU,m1,m2,m3,h2.trans m4,m5⟩
theorem aaZ{σ:Type}{N:Nat}(f:σ->cp×cx)(cQ:σ->Prop)(m:σ->Nat)(s0:σ)(h0:Fits B (f s0).1 (f s0).2 te tS)(hg:cQ s0)(hm:m s0<N)
  (hstep:∀s,cQ s->WT P ty aI call yf B L fn jg c (f s).1 (f s).2 λe te tS=>match e with|.normal=>∃s',Fits B (f s').1 (f s').2 te tS/\cQ s'/\m s'<m s|e=>Q e te tS):WI P ty aI call yf B L fn jg N c te tS Q:=by
 refine aa0 h0.l h0.b h0.ok h0.base ?_;have key:∀n s,cQ s->m s<n->∀ι env S,bZ ι (f s).1 (f s).2 env S->oT B (f s).2->∃e aL S' ι' cr bU,oO (de P ty aI call yf L fn jg c) n env S=some (e,aL,S')/\bZ ι' cr bU aL S'/\oT B bU/\Fr B ι S ι' S'/\Nn S.length S S'/\Q e cr bU:=by
  intro n;induction n with
  |zero=>intro s _ h;omega
  |succ n ih=>
   intro s hs hn ι env S hR hB;obtain⟨e,aL,S',ι',cr,bU,h1,h2,h3,h4,h5,h6⟩:=hstep s hs ι env S hR hB;cases e with
   |normal=>obtain⟨s',hf,s4,hlt⟩:=h6;have Zw:=Ag hf.b h3 hf.base;obtain⟨ι1,k1,k2,-⟩:=zW h2 hf.l hf.b hf.ok Zw;obtain⟨e,rZ,xM,ι'',uP,uQ,m1,m2,m3,m4,m5,m6⟩:=ih s' s4 ab ι1 aL S' k1 Zw;exact⟨e,rZ,xM,ι'',uP,uQ,by simp only[oO,h1,m1],m2,m3,(h4.trans k2).trans m4,vz h5 m5,m6⟩
   |exit id=>exact⟨_,aL,S',ι',cr,bU,by simp only[oO,h1],h2,h3,h4,h5,h6⟩
   |ret=>exact⟨_,aL,S',ι',cr,bU,by simp only[oO,h1],h2,h3,h4,h5,h6⟩
 intro ι env S hR hB;exact key N s0 hg hm ι env S hR hB
theorem aaR{σ:Type}(f:σ->cp×cx)(cQ:σ->Prop)(h1:WT P ty aI call yf B L fn jg a te tS λe te tS=>match e with|.normal=>∃s,Fits B (f s).1 (f s).2 te tS/\cQ s|e=>Q e te tS)
  (h2:∀s,cQ s->WT P ty aI call yf B L fn jg b (f s).1 (f s).2 Q):WT P ty aI call yf B L fn jg (.seq a b) te tS Q:=by
 refine Wm (h1.mono ?_);intro e te tS hq;cases e with
 |normal=>obtain⟨s,hf,hg⟩:=hq;exact aaQ hf.l hf.b hf.ok hf.base (h2 s hg)
 |exit id=>exact hq
 |ret=>exact hq
theorem Me:∀owns:List (Nat×Nat),CL (owns.map λp=>TB.own p.1 p.2) []
 |[]=>.nil
 |_::l=>.new (Me l)
end Go.Tv
namespace Go.Di
open Go Go.Proofs
def ah0(d:Tmp)(t:TypeId):Nat:=if t==47 then(if d==31 then 3 else if d==27 then 3 else 0)else if t==22 then(if d==55 then 16381 else 0)else if t==49 then(if d==66 then 1 else 0)else if t==23 then(if d==19 then 1 else if d==38 then 2 else 0)else 0
noncomputable abbrev TyH:gb:=⟨Va Tryz.prog,ah0⟩
end Go.Di
