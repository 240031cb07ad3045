import Derived.Test.YtedcgbkilmlbhaaPk04
namespace Go.Tv
open Go Go.Di
def Av:TV->Bool
 |.val v=>!(v matches .tuple _)
 |.ax|.sl _ _ _=>true
 |_=>false
def eM:TV->Bool
 |.agg l=>l.all Av
 |.val _|.ax|.sl _ _ _=>true
 |_=>false
def rH:TV->TV
 |.sl k l _=>.sl k l .no
 |.ax=>.unk
 |v=>v
def ki:Option TT->TV->TV
 |some (.sl e),.ax=>.sl e [] .no
 |_,.ax=>.unk
 |_,.sl k l (.stop _)=>.sl k l (.stop false)
 |_,.sl k l _=>.sl k l .no
 |some t,.agg l=>match t.of l with
  |some (x,[])=>.agg (t.cells x)
  |_=>.agg (l.map rH)
 |none,.agg l=>.agg (l.map rH)
 |_,v=>v
def bL:List (Option TT)->List TV->List TV
 |_,[]=>[]
 |[],v::l=>ki none v::bL [] l
 |t::ts,v::l=>ki t v::bL ts l
def gf(tt:TypeId->Option TT)(fs:List TV)(argTypes:Array TypeId):List (Option TT):=fs.map (λ_=>none)++argTypes.toList.map tt
variable {P:Program} {ty:fR} {tt:TypeId->Option TT} {ι ι' w:kY} {S S':ai} {te mI:List TV} {env:List DV} {tS iM:List TB} {aK:bR} {call:bt} {yf:ej} {o:Oper} {aF nT:Nat} {B:List Nat} {r:TR} {ops:Array Oper}
mutual
theorem o9:∀(v:TV)(d:DV),refs v=[]->RT ι S v d->RT ι' S' v d
 |.unk,_,_,_=>by simp only[RT]
 |.val _,d,_,k=>by cases d<;>simp only[RT]at k⊢;exact k
 |.ax,d,_,k=>by cases d<;>simp only[RT]at k⊢;exact k
 |.agg l,d,h,k=>by cases d<;>simp only[RT]at k⊢;exact jK l _ h k
 |.tup l,d,h,k=>by cases d<;>simp only[RT]at k⊢;exact jK l _ h k
 |.sl t l .no,d,_,k=>by cases d<;>simp only[RT]at k⊢;exact k
 |.sl t l .full,d,_,k=>by cases d<;>simp only[RT]at k⊢;exact k
 |.sl t l (.stop _),d,_,k=>by cases d<;>simp only[RT]at k⊢;exact k
 |.sl t l (.Cf g),d,h,k=>by simp[refs]at h
 |.sl t l (.je g),d,h,k=>by simp[refs]at h
 |.ptr id off,d,h,k=>by simp[refs]at h
 |.fq t l i off,d,_,k=>by cases d<;>simp only[RT]at k⊢;exact k
 |.mp id,d,h,k=>by simp[refs]at h
 |.so g t,d,h,k=>by simp[refs]at h
 |.od k0 fn te,d,h,k=>by simp[refs]at h
 |.sp g t i off,d,h,k=>by simp[refs]at h
 |.fn f a b,d,h,k=>by cases d<;>simp only[RT]at k⊢;simp only[refs,List.append_eq_nil_iff]at h;exact⟨k.1,jK a _ h.1 k.2.1,jK b _ h.2 k.2.2⟩
theorem jK:∀(l:List TV)(m:List DV),eW l=[]->cK ι S l m->cK ι' S' l m
 |[],m,_,k=>by rw[aR k];exact bO
 |a::l,m,h,k=>by obtain⟨d,m',rfl,h1,h2⟩:=aj k;simp only[eW,List.append_eq_nil_iff]at h;exact aT (o9 a d h.1 h1) (jK l m' h.2 h2)
end
theorem LI{v:TV}{d:DV}(hp:Av v=true)(h:RT ι S v d):d.aO.ck=true/\RT ι' S' (rH v) d.aO:=by
 cases v<;>first|(cases hp;done)|skip
 .cases d<;>simp only[RT]at h;subst h;exact⟨hp,by simp only[rH,RT,DV.aO]⟩
 .cases d<;>simp only[RT]at h;exact⟨rfl,by simp only[rH,RT]⟩
 cases d<;>simp only[RT]at h;exact⟨rfl,by simp only[rH,RT,DV.aO];exact⟨h.1,trivial⟩⟩
theorem BP:∀{l:List TV}{m:List DV},l.all Av=true->cK ι S l m->(m.map DV.aO).all DV.ck=true/\cK ι' S' (l.map rH) (m.map DV.aO)
 |[],m,_,h=>by rw[aR h];exact⟨rfl,bO⟩
 |a::l,m,hp,h=>by obtain⟨d,m',rfl,h1,h2⟩:=aj h;simp only[cG,aC]at hp;obtain⟨k1,k2⟩:=LI (ι':=ι') (S':=S') hp.1 h1;obtain⟨k3,k4⟩:=BP hp.2 h2;exact⟨by simp[k1]at k3⊢;exact k3,aT k2 k4⟩
theorem Ea:∀{t:TT}{l:List TV}{x:t.den}{r:List TV}{m:List DV},t.of l=some (x,r)->cK ι S l m->∃c m',m=c++m'/\cK ι' S' (t.cells x) c/\cK ι S r m'
 |.int k,l,x,r,m,h,hm=>by
  simp only[TT.of]at h;unfold ofInt at h;split at h
  .split at h;.rename_i hk;cases h;obtain⟨d,m',rfl,h1,h2⟩:=aj hm;cases d<;>simp only[RT]at h1;subst h1;subst hk;exact⟨[_],m',rfl,kQ (by simp only[RT]),h2⟩
   cases h
  cases h
 |.bool,l,x,r,m,h,hm=>by
  simp only[TT.of]at h;unfold ofBool at h;split at h;.cases h;obtain⟨d,m',rfl,h1,h2⟩:=aj hm;cases d<;>simp only[RT]at h1;subst h1;exact⟨[_],m',rfl,kQ (by simp only[RT]),h2⟩
  cases h
 |.str,l,x,r,m,h,hm=>by
  simp only[TT.of]at h;unfold ofStr at h;split at h;.cases h;obtain⟨d,m',rfl,h1,h2⟩:=aj hm;cases d<;>simp only[RT]at h1;subst h1;exact⟨[_],m',rfl,kQ (by simp only[RT]),h2⟩
  cases h
 |.unit,l,x,r,m,h,hm=>by simp only[TT.of]at h;cases h;exact⟨[],m,rfl,bO,hm⟩
 |.pair a b,l,x,r,m,h,hm=>by
  simp only[TT.of]at h;split at h
  .rename_i x1 r1 h1;split at h;.rename_i y r2 h2;cases h;obtain⟨c,m1,rfl,k1,k2⟩:=Ea h1 hm;obtain⟨c',m2,rfl,k3,k4⟩:=Ea h2 k2;exact⟨c++c',m2,by simp,er k1 k3,k4⟩
   cases h
  cases h
 |.sl t,l,x,r,m,h,hm=>by
  simp only[TT.of]at h;unfold Y0 at h;split at h
  .split at h;.rename_i ht;subst ht;cases h;obtain⟨d,m',rfl,h1,h2⟩:=aj hm;cases d<;>simp only[RT]at h1;exact⟨[_],m',rfl,kQ (by simp only[RT];exact⟨h1.1,trivial⟩),h2⟩
   cases h
  .cases h;obtain⟨d,m',rfl,h1,h2⟩:=aj hm;cases d<;>simp only[RT]at h1;obtain⟨rfl,rfl,rfl⟩:=h1;exact⟨[_],m',rfl,kQ (by simp only[RT,fC];exact⟨trivial,trivial⟩),h2⟩
  cases h
theorem jM{t:Option TT}{v:TV}{d:DV}(hp:eM v=true)(h:RT ι S v d):d.strip.pure=true/\(∀l,d≠.tup l)/\RT ι' S' (ki t v) d.strip:=by
 cases v with
 |agg l=>
  cases d<;>simp only[RT]at h;rename_i m;obtain⟨k1,k2⟩:=BP (ι':=ι') (S':=S') hp h;refine⟨k1,λ_ e=>(by cases e),?_⟩;cases t with
  |none=>simp only[ki,RT,DV.strip,DV.dA];exact k2
  |some t=>
   have e:ki (some t) (.agg l)=match t.of l with|some (x,[])=>.agg (t.cells x)|_=>.agg (l.map rH):=by cases t<;>rfl
   rw[e];split;.rename_i x ho;obtain⟨c,m',rfl,n1,n2⟩:=Ga ho h;rw[aR n2,dZ];simp only[RT,DV.strip,DV.dA];exact rT n1
   simp only[RT,DV.strip,DV.dA];exact k2
 |val u=>
  cases d<;>simp only[RT]at h;rename_i u';subst h;refine⟨rfl,λ_ e=>(by cases e),?_⟩;have e:ki t (.val u')=.val u':=by cases t with|none=>rfl|some t=>cases t<;>rfl
  rw[e];simp only[RT,DV.strip,DV.dA]
 |ax=>
  cases d<;>simp only[RT]at h;obtain⟨rfl,rfl,rfl⟩:=h;refine⟨rfl,λ_ e=>(by cases e),?_⟩;cases t with
  |none=>simp only[ki,RT]
  |some t=>
   cases t with
   |sl e=>simp only[ki,RT,DV.strip,DV.dA,fC];exact⟨trivial,trivial⟩
   |_=>simp only[ki,RT]
 |sl k l ap=>
  cases d<;>simp only[RT]at h;refine⟨rfl,λ_ e=>(by cases e),?_⟩;have e:∃QG,ki t (.sl k l ap)=.sl k l QG/\(QG=.no\/∃b,QG=.stop b):=by
   cases ap with
   |stop b=>exact⟨.stop false,by cases t with|none=>rfl|some t=>cases t<;>rfl,.inr ⟨_,rfl⟩⟩
   |_=>exact⟨.no,by cases t with|none=>rfl|some t=>cases t<;>rfl,.inl rfl⟩
  obtain⟨QG,e,e'⟩:=e;rw[e];have e':∀{ι S n tok f},pL ι S n tok f QG:=by rcases e' with rfl|⟨b,rfl⟩<;>exact trivial
  simp only[RT,DV.strip,DV.dA];exact⟨h.1,e'⟩
 |_=>cases hp
theorem s5{t:Option TT}{v:TV}{d:DV}(hp:eM v=true)(h:RT ι S v d):RT ι' S' (ki t v) d:=by
 have n1:∀{l:List TV}{m:List DV},l.all Av=true->cK ι S l m->cK ι' S' (l.map rH) m:=by
  intro l;induction l with
  |nil=>intro m _ h;rw[aR h];exact bO
  |cons a l ih=>
   intro m hp h;obtain⟨d,m',rfl,h1,h2⟩:=aj h;simp only[cG,aC]at hp;refine aT ?_ (ih hp.2 h2);cases a<;>first|(cases hp.1;done)|skip
   .cases d<;>simp only[RT]at h1;simp only[rH,RT];exact h1
   .simp only[rH,RT]
   cases d<;>simp only[RT]at h1;simp only[rH,RT];exact⟨h1.1,trivial⟩
 cases v with
 |agg l=>
  cases d<;>simp only[RT]at h;rename_i m;cases t with
  |none=>simp only[ki,RT];exact n1 hp h
  |some t=>
   have e:ki (some t) (.agg l)=match t.of l with|some (x,[])=>.agg (t.cells x)|_=>.agg (l.map rH):=by cases t<;>rfl
   rw[e];split;.rename_i x ho;obtain⟨c,m',rfl,k1,k2⟩:=Ea (ι':=ι') (S':=S') ho h;rw[aR k2,dZ];simp only[RT];exact k1
   simp only[RT];exact n1 hp h
 |val u=>
  cases d<;>simp only[RT]at h;have e:ki t (.val u)=.val u:=by cases t with|none=>rfl|some t=>cases t<;>rfl
  rw[e];simp only[RT];exact h
 |ax=>
  cases d<;>simp only[RT]at h;obtain⟨rfl,rfl,rfl⟩:=h;cases t with
  |none=>simp only[ki,RT]
  |some t=>
   cases t with
   |sl e=>simp only[ki,RT,fC];exact⟨trivial,trivial⟩
   |_=>simp only[ki,RT]
 |sl k l ap=>
  cases d<;>simp only[RT]at h;have e:∃QG,ki t (.sl k l ap)=.sl k l QG/\(QG=.no\/∃b,QG=.stop b):=by
   cases ap with
   |stop b=>exact⟨.stop false,by cases t with|none=>rfl|some t=>cases t<;>rfl,.inr ⟨_,rfl⟩⟩
   |_=>exact⟨.no,by cases t with|none=>rfl|some t=>cases t<;>rfl,.inl rfl⟩
  obtain⟨QG,e,e'⟩:=e;rw[e];have e':∀{ι S n tok f},pL ι S n tok f QG:=by rcases e' with rfl|⟨b,rfl⟩<;>exact trivial
  simp only[RT];exact⟨h.1,e'⟩
 |_=>cases hp
theorem jP:∀{ts:List (Option TT)}{l:List TV}{m:List DV},l.all eM=true->cK ι S l m->(m.map DV.strip).all DV.pure=true/\cK ι' S' (bL ts l) (m.map DV.strip)
 |_,[],m,_,h=>by rw[aR h];exact⟨rfl,by simp only[bL,fG];exact bO⟩
 |[],a::l,m,hp,h=>by obtain⟨d,m',rfl,h1,h2⟩:=aj h;simp only[cG,aC]at hp;obtain⟨k1,-,k2⟩:=jM (t:=none) (ι':=ι') (S':=S') hp.1 h1;obtain⟨k3,k4⟩:=jP (ts:=[]) hp.2 h2;refine⟨?_,by simp only[bL,bn];exact aT k2 k4⟩;rw[bn,cG,k1,k3];rfl
 |t::ts,a::l,m,hp,h=>by obtain⟨d,m',rfl,h1,h2⟩:=aj h;simp only[cG,aC]at hp;obtain⟨k1,-,k2⟩:=jM (t:=t) (ι':=ι') (S':=S') hp.1 h1;obtain⟨k3,k4⟩:=jP (ts:=ts) hp.2 h2;refine⟨?_,by simp only[bL,bn];exact aT k2 k4⟩;rw[bn,cG,k1,k3];rfl
theorem lP:∀{ts:List (Option TT)}{l:List TV}{m:List DV},l.all eM=true->cK ι S l m->cK ι' S' (bL ts l) m
 |_,[],m,_,h=>by rw[aR h];simp only[bL];exact bO
 |[],a::l,m,hp,h=>by obtain⟨d,m',rfl,h1,h2⟩:=aj h;simp only[cG,aC]at hp;simp only[bL];exact aT (s5 hp.1 h1) (lP hp.2 h2)
 |t::ts,a::l,m,hp,h=>by obtain⟨d,m',rfl,h1,h2⟩:=aj h;simp only[cG,aC]at hp;simp only[bL];exact aT (s5 hp.1 h1) (lP hp.2 h2)
def fA:kY:=λ_=>none
def uG(aK:bR)(g:FuncId)(targs:List TV)(Q:TV->Prop):Prop:=
 ∀bJ,cK fA [] targs bJ->∃d v,aK g bJ=some d/\d.pure=true/\RT fA [] v d/\refs v=[]/\Q v
theorem uG.mono {g:FuncId}{targs:List TV}{Q Q':TV->Prop}(h:uG aK g targs Q)(hq:∀v,Q v->Q' v):uG aK g targs Q':=λbJ hd=>by obtain⟨d,v,h1,h2,h3,h4,h5⟩:=h bJ hd;exact⟨d,v,h1,h2,h3,h4,hq v h5⟩
theorem iL(hE:cK ι S te env){f:Operand}{args:Array Operand}{g:FuncId}{fs cs xs:List TV}(hf:fK te f=some (.fn g fs cs))(ha:lS te args.toList=some xs):
  ∃xh lC Fj,jr env f=some (.fn g xh lC)/\evs (jr env) args.toList=some Fj/\cK ι S (fs++xs++cs) (xh++Fj++lC):=by
 obtain⟨d,k1,k2⟩:=bE hE hf;obtain⟨Fj,k3,k4⟩:=sQ hE ha;cases d<;>simp only[RT]at k2;obtain⟨rfl,k5,k6⟩:=k2;exact⟨_,_,Fj,k1,k3,er (er k5 k4) k6⟩
theorem E3{f:Operand}{args:Array Operand}{argTypes:Array TypeId}{g:FuncId}{fs cs xs targs:List TV}{Q:TV->Prop}(hop:o.op=.call {callee:=.value f,args,argTypes})(hh:ty.h o≠1)(hf:fK te f=some (.fn g fs cs))(ha:lS te args.toList=some xs)(hp:(fs++xs++cs).all eM=true)
  (hn:bL (gf tt fs argTypes) (fs++xs++cs)=targs) (hs:uG aK g targs Q) (dr:Bool):Does P ty aK call yf B o nT te tS dr λv bX bN ft=>Q v/\bX=te/\bN=tS/\ft=⟨some [],false⟩:=by
 intro ι w env S aF hR hB hw hT Fe hS;obtain⟨xh,lC,Fj,k1,k2,k3⟩:=iL hR.env hf ha;obtain⟨k4,k5⟩:=jP (ts:=gf tt fs argTypes) (ι':=fA) (S':=[]) hp k3;rw[hn]at k5;obtain⟨d,v,m1,m2,m3,m4,m5⟩:=hs _ k5;refine⟨d,S,ι,w,v,te,tS,⟨some [],false⟩,⟨some [],false⟩,λ_=>?_,λhd=>?_,⟨id,λl hl=>⟨[],rfl,λj hj=>(by cases hj)⟩⟩,λl m _ hm j hj=>(by cases hm;cases hj),hR,o9 _ _ m4 m3,hw,λ_ _ _=>rfl,Fr.refl _ _ _,hB,gF _ _,m5,rfl,rfl,rfl⟩;.simp only[ah,hop,k1,k2,wO,k4,if_true,m1]
 simp only[aM,hop,k1,k2,if_neg hh,k4,if_true,m1,ay]
theorem VY{k:Nat}{f:Operand}{args:Array Operand}{argTypes:Array TypeId}{g:FuncId}{fs cs xs targs:List TV}{K:TV->Prop}{Q:List TV->Prop}(ho:ops[k]? =some o)(hw:ez ops te o=some true)(hop:o.op=.call {callee:=.value f,args,argTypes})(hh:ty.h o≠1)(hf:fK te f=some (.fn g fs cs))(ha:lS te args.toList=some xs)(hp:(fs++xs++cs).all eM=true)
  (hn:bL (gf tt fs argTypes) (fs++xs++cs)=targs) (hs:uG aK g targs K) (h:∀v,K v->WQ P ty aK call yf ops tS (k+1) (j8 te o.dst v) Q):WQ P ty aK call yf ops tS k te Q:=by
 intro ι env S hR;obtain⟨xh,lC,Fj,k1,k2,k3⟩:=iL hR.env hf ha;obtain⟨k4,k5⟩:=jP (ts:=gf tt fs argTypes) (ι':=fA) (S':=[]) hp k3;rw[hn]at k5;obtain⟨d,v,m1,m2,m3,m4,m5⟩:=hs _ k5;obtain⟨aL,bX,n1,n2,n3⟩:=h v m5 ι (ku env o.dst d) S (oL hR (o9 _ _ m4 m3) _);refine⟨aL,bX,?_,n2,n3⟩;rw[oR ho];have hq:dD P ty aK call yf (jr env) o S=some d:=by simp only[dD,hop,k1,k2,if_neg hh,k4,if_true,m1]
 simp only[qU,iJ hR.env hw,if_true,hq,n1]
def isRef:TV->Bool
 |.ptr _ _|.fn _ _ _=>true
 |_=>false
def Zk(kp:Nat)(t:Option TT):TV->Option TV
 |.ptr k off=>if k=kp then some (.ptr 0 off)else none
 |v=>if eM v then some (ki t v)else none
def Ki(kp:Nat):List TV->Option (List TV)
 |[]=>some []
 |v::l=>match Zk kp none v,Ki kp l with
  |some a,some b=>some (a::b)
  |_,_=>none
def Zm(kp:Nat)(t:Option TT):TV->Option TV
 |.fn g fs cs=>match Ki kp fs,Ki kp cs with
  |some a,some b=>some (.fn g a b)
  |_,_=>none
 |v=>Zk kp t v
def yI(kp:Nat):List (Option TT)->List TV->Option (List TV)
 |_,[]=>some []
 |[],v::l=>match Zm kp none v,yI kp [] l with
  |some a,some b=>some (a::b)
  |_,_=>none
 |t::ts,v::l=>match Zm kp t v,yI kp ts l with
  |some a,some b=>some (a::b)
  |_,_=>none
def kg(id:Nat):kY:=λj=>if j=0 then some id else none
theorem Qm{kp id:Nat}{t:Option TT}{v v':TV}{d:DV}(hk:ι kp=some id)(h:Zk kp t v=some v')(hv:RT ι S v d):RT (kg id) S v' d:=by
 unfold Zk at h;split at h
 .split at h;.rename_i k off FY;subst FY;cases h;cases d<;>simp only[RT]at hv⊢;rw[hk]at hv;exact⟨hv.1,hv.2⟩
  cases h
 split at h;.rename_i hp;cases h;exact s5 hp hv
 cases h
theorem Ev{kp id:Nat}(hk:ι kp=some id):∀{l l':List TV}{m:List DV},Ki kp l=some l'->cK ι S l m->cK (kg id) S l' m
 |[],l',m,h,hv=>by cases h;rw[aR hv];exact bO
 |v::l,l',m,h,hv=>by
  obtain⟨d,m',rfl,h1,h2⟩:=aj hv;simp only[Ki]at h;split at h;.rename_i a b e1 e2;cases h;exact aT (Qm hk e1 h1) (Ev hk e2 h2)
  cases h
theorem Qr{kp id:Nat}{t:Option TT}{v v':TV}{d:DV}(hk:ι kp=some id)(h:Zm kp t v=some v')(hv:RT ι S v d):RT (kg id) S v' d:=by
 unfold Zm at h;split at h
 .split at h;.rename_i g fs cs a b e1 e2;cases h;cases d<;>simp only[RT]at hv⊢;exact⟨hv.1,Ev hk e1 hv.2.1,Ev hk e2 hv.2.2⟩
  cases h
 exact Qm hk h hv
theorem Ex{kp id:Nat}(hk:ι kp=some id):∀{ts:List (Option TT)}{l l':List TV}{m:List DV},yI kp ts l=some l'->cK ι S l m->cK (kg id) S l' m
 |_,[],l',m,h,hv=>by simp only[yI]at h;cases h;rw[aR hv];exact bO
 |[],v::l,l',m,h,hv=>by
  obtain⟨d,m',rfl,h1,h2⟩:=aj hv;simp only[yI]at h;split at h;.rename_i a b e1 e2;cases h;exact aT (Qr hk e1 h1) (Ex hk e2 h2)
  cases h
 |t::ts,v::l,l',m,h,hv=>by
  obtain⟨d,m',rfl,h1,h2⟩:=aj hv;simp only[yI]at h;split at h;.rename_i a b e1 e2;cases h;exact aT (Qr hk e1 h1) (Ex hk e2 h2)
  cases h
theorem nu:∀{l:List TV}{m:List DV},l.any isRef=true->cK ι S l m->(m.map DV.strip).all DV.pure=false
 |[],_,h,_=>by cases h
 |v::l,m,h,hv=>by
  obtain⟨d,m',rfl,h1,h2⟩:=aj hv;simp only[List.any_cons,gY]at h;rw[bn,cG];rcases h with h|h
  .cases v<;>first|(cases h;done)|skip
   .cases d<;>simp only[RT]at h1;rfl
   cases d<;>simp only[RT]at h1;rfl
  rw[nu h h2,oU]
def BL(call:bt)(g:FuncId)(targs ts:List TV)(Q:TV->List TV->Prop):Prop:=
 ∀ι bJ S,bT ι targs [.cells ts] bJ S->∃d S' ι' v Ac k' iC,call g bJ S=some (d,S')/\RT ι' S' v d/\refs v=[]/\eW Ac=[]/\ι 0=some k'/\S'[k']? =some (.cells iC)/\cK ι' S' Ac iC/\Fr [0] ι S ι' S'/\Nn S.length S S'/\Q v Ac
theorem BL.mono {g:FuncId}{targs ts:List TV}{Q Q':TV->List TV->Prop}(h:BL call g targs ts Q)(hq:∀v ts,Q v ts->Q' v ts):BL call g targs ts Q':=λι bJ S hd=>by obtain⟨d,S',ι',v,Ac,k',iC,h1,h2,h3,h4,h5,h6,h7,h8,h9,ue⟩:=h ι bJ S hd;exact⟨d,S',ι',v,Ac,k',iC,h1,h2,h3,h4,h5,h6,h7,h8,h9,hq _ _ ue⟩
theorem Ob{f:Operand}{args:Array Operand}{argTypes:Array TypeId}{g:FuncId}{fs cs xs targs ts:List TV}{kp:Nat}{Q:TV->List TV->Prop}(hop:o.op=.call {callee:=.value f,args,argTypes})(hf:fK te f=some (.fn g fs cs))(ha:lS te args.toList=some xs)
  (hn:yI kp (gf tt fs argTypes) (fs++xs++cs)=some targs) (hr:(fs++xs++cs).any isRef=true) (hts:tS[kp]? =some (.cells ts)) (Mp:eW ts=[]) (hs:BL call g targs ts Q):Does P ty aK call yf B o nT te tS false λv bX bN ft=>∃Ac,Q v Ac/\bX=te/\bN=tS.set kp (.cells Ac)/\ft=⟨none,true⟩:=by
 intro ι w env S aF hR hB hw hT Fe hS;obtain⟨xh,lC,Fj,k1,k2,k3⟩:=iL hR.env hf ha;obtain⟨iT,ds,k6,m2,m3⟩:=hR.cells kp ts hts;have hc:bT (kg iT) targs [.cells ts] (xh++Fj++lC) S:=by
  refine⟨Ex k6 hn k3,λk l hk=>?_,λk e s hk=>?_,λk k' hk=>?_,λi j k' hi hj=>?_,λk b hk t ht=>by cases k with|zero=>cases hk;trivial|succ k=>simp at hk⟩
  .cases k with
   |zero=>cases hk;exact⟨iT,ds,rfl,m2,jK _ _ Mp m3⟩
   |succ k=>simp at hk
  .cases k<;>simp at hk
  .by_cases h0:k=0;.subst h0;exact⟨_,rfl,λe=>by cases e⟩
   simp only[kg,h0,if_false]at hk;cases hk
  by_cases C9:i=0<;>by_cases QC:j=0;.rw[C9,QC]
  .simp only[kg,QC,if_false]at hj;cases hj
  .simp only[kg,C9,if_false]at hi;cases hi
  simp only[kg,C9,if_false]at hi;cases hi
 obtain⟨d,S',ι',v,Ac,k',iC,n1,n2,n3,n4,n5,n6,n7,n8,n9,n10⟩:=hs _ _ S hc;simp only[kg,if_true,aB]at n5;subst n5;have lF:∀k k0,k≠kp->ι k=some k0->S'[k0]? =S[k0]? :=by
  intro k k0 hk h0;refine n8.rest k0 (hR.live h0) λj hj=>?_;by_cases QC:j=0;.subst QC;simp only[kg,if_true,aB]at hj;subst hj;exact hk (hR.inj _ _ _ h0 k6)
  simp only[kg,QC,if_false]at hj;cases hj
 have K:jy ι S ι S' λ_=>False:=λk k0 _ hk=>⟨hk,by
  by_cases FY:k=kp;.subst FY;rw[k6]at hk;cases hk;exact vH (by rw[m2];simp) (by rw[m2];simp) (by rw[m2];simp)
  exact dO (lF k k0 FY hk)⟩
 have YE:=nu hr k3;refine⟨d,S',ι,w,v,te,tS.set kp (.cells Ac),⟨none,true⟩,⟨none,true⟩,λ_=>?_,λhd=>(by cases hd),⟨λe=>e,λl hl=>(by cases hl)⟩,λl m hl=>(by cases hl),?_,o9 _ _ n3 n2,hw,λ_ _ _=>rfl,⟨λk0 hl hno=>n8.rest k0 hl λj hj=>?_,λk k0 hk=>.inl ⟨k,hk⟩,λ_ _=>rfl⟩,λk hk=>?_,⟨n9.1,λj hj dm=>?_⟩,Ac,n10,rfl,rfl,rfl⟩;.simp only[ah,hop,k1,k2,wO,YE,aI,if_false,n1];split<;>rfl
 .refine⟨bu K _ _ hR.env,λk l hk=>?_,λk e s hk t ht=>?_,λk k0 hk=>?_,hR.inj,λk b hk t ht=>by
   rw[aH]at hk;split at hk;.split at hk<;>cases hk;trivial
   rename_i e1;rw[lF k t (λe=>e1 e.symm) ht];exact hR.mp k b hk t ht⟩
  .rw[aH]at hk;split at hk
   .rename_i e1;subst e1;split at hk;.cases hk;exact⟨iT,iC,k6,n6,jK _ _ n4 n7⟩
    cases hk
   rename_i e1;obtain⟨k0,Mw,q1,q2,q3⟩:=hR.cells k l hk;exact⟨k0,Mw,q1,by rw[lF k k0 (Ne.symm e1) q1];exact q2,bu K _ _ q3⟩
  .rw[aH]at hk;split at hk;.split at hk<;>cases hk
   obtain⟨n,q1⟩:=hR.own k e s hk t ht;exact⟨n,(K k t (λe=>e) ht).2.1 _ _ _ q1⟩
  rw[aH];split;.rename_i e1;subst e1;exact⟨_,if_pos (aA.1 hts).1,λe=>by cases e⟩
  exact hR.ql k k0 hk
 .by_cases QC:j=0;.subst QC;simp only[kg,if_true,aB]at hj;subst hj;exact hno _ k6
  simp only[kg,QC,if_false]at hj;cases hj
 .rw[aH];split;.rename_i e1;subst e1;exact⟨some _,if_pos (aA.1 hts).1⟩
  exact hB k hk
 have:=(aA.1 dm).1;exact n9.2 j (by omega) dm
def kL:TV->Bool
 |.val v=>!(v matches .tuple _)
 |.sl _ _ .no=>true
 |.sl _ _ (.stop _)=>true
 |_=>false
def Dr:TV->Bool
 |.agg l=>l.all kL
 |.val _|.sl _ _ .no=>true
 |_=>false
def BF:TV->Bool
 |.tup l=>l.all Dr
 |v=>Dr v
theorem vg{v:TV}{d:DV}(hp:kL v=true)(h:RT ι S v d):d.aO.ck=true/\RT ι' S' v d.aO:=by
 cases v<;>first|(cases hp;done)|skip
 .cases d<;>simp only[RT]at h;subst h;exact⟨hp,by simp only[RT,DV.aO]⟩
 rename_i t l ap;cases ap<;>first|(cases hp;done)|skip
 all_goals
  cases d<;>simp only[RT]at h;exact⟨rfl,by simp only[RT,DV.aO];exact⟨h.1,trivial⟩⟩
theorem o6:∀{l:List TV}{m:List DV},l.all kL=true->cK ι S l m->(m.map DV.aO).all DV.ck=true/\cK ι' S' l (m.map DV.aO)
 |[],m,_,h=>by rw[aR h];exact⟨rfl,bO⟩
 |a::l,m,hp,h=>by obtain⟨d,m',rfl,h1,h2⟩:=aj h;simp only[cG,aC]at hp;obtain⟨k1,k2⟩:=vg (ι':=ι') (S':=S') hp.1 h1;obtain⟨k3,k4⟩:=o6 hp.2 h2;exact⟨by rw[bn,cG,k1,k3];rfl,aT k2 k4⟩
theorem B8{v:TV}{d:DV}(hp:Dr v=true)(h:RT ι S v d):d.dA.j9=true/\RT ι' S' v d.dA:=by
 cases v<;>first|(cases hp;done)|skip
 .cases d<;>simp only[RT]at h;subst h;exact⟨rfl,by simp only[RT,DV.dA]⟩
 .cases d<;>simp only[RT]at h;obtain⟨k1,k2⟩:=o6 (ι':=ι') (S':=S') hp h;exact⟨k1,by simp only[RT,DV.dA];exact k2⟩
 rename_i t l ap;cases ap<;>first|(cases hp;done)|skip
 cases d<;>simp only[RT]at h;exact⟨rfl,by simp only[RT,DV.dA];exact⟨h.1,trivial⟩⟩
theorem Aa:∀{l:List TV}{m:List DV},l.all Dr=true->cK ι S l m->(m.map DV.dA).all DV.j9=true/\cK ι' S' l (m.map DV.dA)
 |[],m,_,h=>by rw[aR h];exact⟨rfl,bO⟩
 |a::l,m,hp,h=>by obtain⟨d,m',rfl,h1,h2⟩:=aj h;simp only[cG,aC]at hp;obtain⟨k1,k2⟩:=B8 (ι':=ι') (S':=S') hp.1 h1;obtain⟨k3,k4⟩:=Aa hp.2 h2;exact⟨by rw[bn,cG,k1,k3];rfl,aT k2 k4⟩
theorem B7{v:TV}{d:DV}(hp:BF v=true)(h:RT ι S v d):d.strip.pure=true/\RT ι' S' v d.strip:=by
 by_cases hd:∃l,d=.tup l
 .obtain⟨m,rfl⟩:=hd;cases v<;>simp only[RT]at h<;>first|(cases hp;done)|skip
  obtain⟨k1,k2⟩:=Aa (ι':=ι') (S':=S') hp h;exact⟨k1,by simp only[RT,DV.strip];exact k2⟩
 have hv:Dr v=true:=by
  cases v<;>first|exact hp|skip
  cases d<;>simp only[RT]at h;exact(hd ⟨_,rfl⟩).elim
 obtain⟨k1,k2⟩:=B8 (ι':=ι') (S':=S') hv h;have e:d.strip=d.dA:=by cases d<;>first|rfl|exact(hd ⟨_,rfl⟩).elim
 refine⟨?_,by rw[e];exact k2⟩;rw[e];have:∀c:DV,c.j9=true->(∀l,c≠.tup l)->c.pure=true:=λc h hn=>by cases c<;>first|exact h|exact(hn _ rfl).elim
 refine this _ k1 λl hl=>?_;cases d<;>simp only[DV.dA]at hl<;>first|(cases hl;done)|exact hd ⟨_,rfl⟩
theorem L0{f:Operand}{args:Array Operand}{argTypes:Array TypeId}{g:FuncId}{fs cs xs rest ts:List TV}{kp off:Nat}{Q:TV->List TV->Prop}(hop:o.op=.call {callee:=.value f,args,argTypes})(hh:ty.h o≠1)(hf:fK te f=some (.fn g fs cs))(ha:lS te args.toList=some xs)
  (hl:fs++xs++cs=.ptr kp off::rest) (hp:rest.all eM=true) (hts:tS[kp]? =some (.cells ts)) (xe:ts.all kL=true) (hs:BL call g (.ptr 0 off::bL (gf tt fs argTypes).tail rest) ts Q) (hq:∀v Ac,Q v Ac->BF v=true/\Ac.all kL=true):
  Does P ty aK call yf B o nT te tS true λv bX bN ft=>∃Ac,Q v Ac/\bX=te/\bN=tS.set kp (.cells Ac)/\ft=⟨some [kp],true⟩:=by
 intro ι w env S aF hR hB hw hT Fe hS;obtain⟨xh,lC,Fj,k1,k2,k3⟩:=iL hR.env hf ha;obtain⟨iT,ds,k6,m2,m3⟩:=hR.cells kp ts hts;rw[hl]at k3;obtain⟨d0,m0,hm0,YB,Mq⟩:=aj k3;have Mu:d0=.ptr iT off:=by cases d0<;>simp only[RT]at YB;obtain⟨e1,e2⟩:=YB;rw[k6]at e1;cases e1;rw[e2]
 subst Mu;obtain⟨p1,p2⟩:=jP (ts:=(gf tt fs argTypes).tail) (ι':=kg 0) (S':=[.cells (ds.map DV.aO)]) hp Mq;obtain⟨c1,c2⟩:=o6 (ι':=kg 0) (S':=[.cells (ds.map DV.aO)]) xe m3;have hc:bT (kg 0) (.ptr 0 off::bL (gf tt fs argTypes).tail rest) [.cells ts] (.ptr 0 off::m0.map DV.strip) [.cells (ds.map DV.aO)]:=by
  refine⟨aT (by simp only[RT];exact⟨rfl,trivial⟩) p2,λk l hk=>?_,λk e s hk=>?_,λk k' hk=>?_,λi j k' hi hj=>?_,λk b hk t ht=>by cases k with|zero=>cases hk;trivial|succ k=>simp at hk⟩
  .cases k with
   |zero=>cases hk;exact⟨0,_,rfl,rfl,c2⟩
   |succ k=>simp at hk
  .cases k<;>simp at hk
  .by_cases h0:k=0;.subst h0;exact⟨_,rfl,λe=>by cases e⟩
   simp only[kg,h0,if_false]at hk;cases hk
  by_cases C9:i=0<;>by_cases QC:j=0;.rw[C9,QC]
  .simp only[kg,QC,if_false]at hj;cases hj
  .simp only[kg,C9,if_false]at hi;cases hi
  simp only[kg,C9,if_false]at hi;cases hi
 obtain⟨d,S1,ι1,v,Ac,k',iC,n1,n2,n3,n4,n5,n6,n7,n8,n9,n10⟩:=hs _ _ _ hc;simp only[kg,if_true,aB]at n5;subst n5;obtain⟨q1,q2⟩:=hq _ _ n10;obtain⟨r1,r2⟩:=B7 (ι':=ι) (S':=S.set iT (.cells (iC.map DV.aO))) q1 n2;obtain⟨r3,r4⟩:=o6 (ι':=ι) (S':=S.set iT (.cells (iC.map DV.aO))) q2 n7;have agE:∃T,S1=.cells iC::T:=by
  cases S1 with
  |nil=>simp at n6
  |cons a T=>simp only[bY,aB]at n6;exact⟨T,by rw[n6]⟩
 obtain⟨T,rfl⟩:=agE;have hid:iT<S.length:=(aA.1 m2).1;have lF:∀k0,k0≠iT->(S.set iT (.cells (iC.map DV.aO)))[k0]? =S[k0]? :=λk0 h=>by rw[aH,if_neg λe=>h e.symm]
 have hkp:∀k,k≠kp->∀k0,ι k=some k0->k0≠iT:=λk hk k0 h0 e=>hk (hR.inj _ _ _ (e▸h0) k6);have K:jy ι S ι (S.set iT (.cells (iC.map DV.aO))) λ_=>False:=λk k0 _ hk=>⟨hk,by
  by_cases FY:k0=iT;.subst FY;exact vH (by rw[m2];simp) (by rw[m2];simp) (by rw[m2];simp)
  exact dO (lF k0 FY)⟩
 have YE:((xh++Fj++lC).map DV.strip).all DV.pure=false:=by rw[hm0];rfl
 have ho:pQ call g (xh++Fj++lC) S=some (iT,d.strip,iC.map DV.aO):=by rw[hm0];simp only[pQ,m2,p1,c1,fT,if_true,n1,r1,r3]
 refine⟨d.strip,S.set iT (.cells (iC.map DV.aO)),ι,w,v,te,tS.set kp (.cells Ac),⟨some [iT],true⟩,⟨some [kp],true⟩,λhd=>(by cases hd),λ_=>?_,⟨λe=>e,λl hl=>?_⟩,λl m hl hm j hj=>?_,?_,r2,hw,λ_ _ _=>rfl,⟨λk0 hl hno=>lF k0 λe=>hno _ (e▸k6),λk k0 hk=>.inl ⟨k,hk⟩,λ_ _=>rfl⟩,λk hk=>?_,⟨by simp,λj hj dm=>?_⟩,Ac,n10,rfl,rfl,rfl⟩;.simp only[aM,hop,k1,k2,if_neg hh,YE,aI,if_false,ho]
 .cases hl;exact⟨[iT],rfl,λj hj=>⟨kp,by simp,by simp only[bI]at hj;rw[hj];exact hw _ _ k6⟩⟩
 .cases hm;simp only[bI]at hj;exact .inr ⟨kp,hj▸k6⟩
 .refine⟨bu K _ _ hR.env,λk l hk=>?_,λk e s hk t ht=>?_,λk k0 hk=>?_,hR.inj,λk b hk t ht=>by
   rw[aH]at hk;split at hk;.split at hk<;>cases hk;trivial
   rename_i e1;rw[lF t (hkp k (λe=>e1 e.symm) t ht)];exact hR.mp k b hk t ht⟩
  .rw[aH]at hk;split at hk
   .rename_i e1;subst e1;split at hk;.cases hk;exact⟨iT,_,k6,by rw[aH,if_pos rfl,if_pos hid],r4⟩
    cases hk
   rename_i e1;obtain⟨k0,Mw,q1,q2,q3⟩:=hR.cells k l hk;exact⟨k0,Mw,q1,by rw[lF k0 (hkp k (Ne.symm e1) k0 q1)];exact q2,bu K _ _ q3⟩
  .rw[aH]at hk;split at hk;.split at hk<;>cases hk
   obtain⟨n,q1⟩:=hR.own k e s hk t ht;exact⟨n,(K k t (λe=>e) ht).2.1 _ _ _ q1⟩
  rw[aH];split;.rename_i e1;subst e1;exact⟨_,if_pos (aA.1 hts).1,λe=>by cases e⟩
  exact hR.ql k k0 hk
 .rw[aH];split;.rename_i e1;subst e1;exact⟨some _,if_pos (aA.1 hts).1⟩
  exact hB k hk
 rw[lF j];.exact dm
 intro e;rw[e,m2]at dm;cases dm
end Go.Tv
namespace Go.Tv
open Go Go.Di
def abI(ty:fR)(te:List TV)(tS:List TB):ResultVar->Option TV
 |.tmp t=>some (te.getD t .unk)
 |.cell a t=>match ty t,te.getD a .unk with
  |some d,.ptr id off=>match tS[id]? with
   |some (.cells l)=>wH d.k.isAgg d.size l off
   |_=>none
  |_,_=>none
def xu(ty:fR)(te:List TV)(tS:List TB):List ResultVar->Option (List TV)
 |[]=>some []
 |x::r=>match abI ty te tS x,xu ty te tS r with
  |some v,some l=>some (v::l)
  |_,_=>none
def kA:List TV->TV
 |[d]=>d
 |l=>.tup l
variable {P:Program} {ty:fR} {tt:TypeId->Option TT} {ι ι' w:kY} {S S':ai} {te mI:List TV} {env:List DV} {tS iM:List TB} {aK:bR} {call:bt} {yf:ej} {o:Oper} {aF nT:Nat} {B:List Nat} {r:TR} {ops:Array Oper}
theorem sN(h:bT ι te tS env S):∀{rs:List ResultVar}{vs:List TV},xu ty te tS rs=some vs->∃ds,tU ty env S rs=some ds/\cK ι S vs ds
 |[],vs,hx=>by cases hx;exact⟨[],rfl,bO⟩
 |x::r,vs,hx=>by
  simp only[xu]at hx;split at hx
  .rename_i v l h1 h2;cases hx;obtain⟨ds,k1,k2⟩:=sN h h2;cases x with
   |tmp t=>cases h1;exact⟨_,by simp only[tU,k1,ay],aT (D2 h.env t) k2⟩
   |cell a t=>
    simp only[abI]at h1;split at h1
    .rename_i d id off e1 e2;split at h1;.rename_i l' e3;have hg:=D2 h.env a;rw[e2]at hg;generalize hd:env.getD a bF=da at hg;cases da<;>simp only[RT]at hg;obtain⟨g1,rfl⟩:=hg;obtain⟨iT,iC,m1,m2,m3⟩:=h.cells id l' e3;rw[g1]at m1;cases m1;obtain⟨q,m4,m5⟩:=rO m3 h1;exact⟨q::ds,by simp only[tU,hd,lE,e1,m2,m4,k1],aT m5 k2⟩
     cases h1
    cases h1
  cases hx
theorem RZ{ts:List (Option TT)}{vs:List TV}{ds:List DV}(hp:vs.all eM=true)(h:cK ι S vs ds):(oneOf ds).strip.pure=true/\RT ι' S' (kA (bL ts vs)) (oneOf ds).strip:=by
 have many:∀{ts:List (Option TT)}{l:List TV}{m:List DV},l.all eM=true->cK ι S l m->(m.map DV.dA).all DV.j9=true/\cK ι' S' (bL ts l) (m.map DV.dA):=by
  intro ts l;induction l generalizing ts with
  |nil=>intro m _ h;rw[aR h];cases ts<;>exact⟨rfl,by simp only[bL,fG];exact bO⟩
  |cons a l ih=>
   intro m hp h;obtain⟨d,m',rfl,h1,h2⟩:=aj h;simp only[cG,aC]at hp;cases ts with
   |nil=>
    obtain⟨k1,k0,k2⟩:=jM (t:=none) (ι':=ι') (S':=S') hp.1 h1;obtain⟨k3,k4⟩:=ih (ts:=[]) hp.2 h2;have e:d.strip=d.dA:=by cases d<;>first|rfl|exact(k0 _ rfl).elim
    rw[e]at k1 k2;have e2:d.dA.j9=true:=by cases d<;>first|exact k1|exact(k0 _ rfl).elim
    exact⟨by rw[bn,cG,e2,k3];rfl,by simp only[bL,bn];exact aT k2 k4⟩
   |cons t ts=>
    obtain⟨k1,k0,k2⟩:=jM (t:=t) (ι':=ι') (S':=S') hp.1 h1;obtain⟨k3,k4⟩:=ih (ts:=ts) hp.2 h2;have e:d.strip=d.dA:=by cases d<;>first|rfl|exact(k0 _ rfl).elim
    rw[e]at k1 k2;have e2:d.dA.j9=true:=by cases d<;>first|exact k1|exact(k0 _ rfl).elim
    exact⟨by rw[bn,cG,e2,k3];rfl,by simp only[bL,bn];exact aT k2 k4⟩
 match vs,ds,hp,h with
 |[],ds,_,h=>rw[aR h];cases ts<;>exact⟨rfl,by simp only[bL,kA,oneOf,DV.strip,RT,fG];exact bO⟩
 |[v],ds,hp,h=>
  obtain⟨d,m',rfl,h1,h2⟩:=aj h;rw[aR h2];simp only[cG,List.all_nil,sS]at hp;cases ts with
  |nil=>obtain⟨k1,k0,k2⟩:=jM (t:=none) (ι':=ι') (S':=S') hp h1;exact⟨k1,k2⟩
  |cons t ts=>obtain⟨k1,k0,k2⟩:=jM (t:=t) (ι':=ι') (S':=S') hp h1;cases ts<;>exact⟨k1,k2⟩
 |v::u::l,ds,hp,h=>
  obtain⟨k1,k2⟩:=many (ts:=ts) hp h;obtain⟨d,m',rfl,h1,h2⟩:=aj h;obtain⟨d',m'',rfl,h3,h4⟩:=aj h2;refine⟨k1,?_⟩;have e:∀{ts:List (Option TT)},kA (bL ts (v::u::l))=.tup (bL ts (v::u::l)):=by
   intro ts;cases ts with
   |nil=>simp only[bL,kA]
   |cons t ts=>cases ts<;>simp only[bL,kA]
  rw[e];simp only[oneOf,DV.strip,RT];exact k2
theorem GM{ts:List (Option TT)}{vs:List TV}{ds:List DV}(hp:vs.all eM=true)(h:cK ι S vs ds):RT ι' S' (kA (bL ts vs)) (oneOf ds):=by
 have k:=lP (ts:=ts) (ι':=ι') (S':=S') hp h
 match vs,ds,hp,h,k with
 |[],ds,_,h,k=>rw[aR h];cases ts<;>(simp only[bL,kA,oneOf,RT];exact bO)
 |[v],ds,hp,h,k=>
  obtain⟨d,m',rfl,h1,h2⟩:=aj h;rw[aR h2]at k⊢;cases ts with
  |nil=>simp only[bL]at k⊢;obtain⟨_,_,e,k1,-⟩:=aj k;cases e;exact k1
  |cons t ts=>cases ts<;>(simp only[bL]at k⊢;obtain⟨_,_,e,k1,-⟩:=aj k;cases e;exact k1)
 |v::u::l,ds,hp,h,k=>
  obtain⟨d,m',rfl,h1,h2⟩:=aj h;obtain⟨d',m'',rfl,h3,h4⟩:=aj h2;have e:∀{ts:List (Option TT)},kA (bL ts (v::u::l))=.tup (bL ts (v::u::l)):=by
   intro ts;cases ts with
   |nil=>simp only[bL,kA]
   |cons t ts=>cases ts<;>simp only[bL,kA]
  rw[e];simp only[oneOf,RT];exact k
section
variable (P:Program) (ty:fR) (bH:bR) (L:Nat)
def ym(n:Nat):bR:=kJ bH (dx P ty bH L n).1
def pU(n:Nat):bt:=(dx P ty bH L n).1
def yfN(n:Nat):ej:=(dx P ty bH L n).2
end
theorem iV{t:TT}:∀{l:List t.den}{ds:List DV},fO t l ds->ds.length=l.length*t.size
 |[],ds,h=>by simp only[fO]at h;subst h;simp
 |x::l,ds,h=>by simp only[fO]at h;obtain⟨c,m,rfl,h1,h2⟩:=h;rw[bU,ru h1,iV h2,dN,jX,Nat.one_mul,nF]
theorem xZ{t:TT}(h0:(t.agg||t.size==1)=true):∀{l:List t.den}{ds:List DV},fO t l ds->fC (CR t) t.agg l (rowsOf t.size t.agg ds l.length)
 |[],ds,h=>by simp only[fO]at h;subst h;simp[rowsOf,fC]
 |x::l,ds,h=>by
  simp only[fO]at h;obtain⟨c,m,rfl,h1,h2⟩:=h;rw[dN,BS (ru h1)];refine⟨?_,xZ h0 h2⟩;cases ha:t.agg with
  |true=>exact⟨h1,by simp[Ds]⟩
  |false=>
   have h3:=row_one h1 ha;rw[ha]at h3;have hs:t.size=1:=by rw[ha]at h0;simpa using h0
   have e2:(c++m).getD 0 bF=c.getD 0 bF:=by have:=ru h1;simp only[aP,ee (show 0<c.length by omega)]
   simp only[aI,if_false];rw[e2];exact h3
theorem F8(h:bT ι te tS env S){g:Nat}{t t':TT}{e:Nat}{l:List t'.den}{z:Bool}{d:DV}(hg:tS[g]? =some (.rows t' e l z))(hd:RT ι S (.so g t) d)(ht:t'=t):∃id ds,d=.jS id l.length t'.agg/\ι g=some id/\S[id]? =some (.op e t'.size ds z)/\CE S id l.length=some (e,t'.size,ds,z)/\fO t' l ds/\0<t'.size/\(t'.agg||t'.size==1)=true:=by subst ht;cases d<;>simp only[RT]at hd;rename_i id n agg;obtain⟨h1,rfl,e',s',l',z',h2,h3⟩:=hd;obtain⟨q0,q1,ds,q2,q3⟩:=h.mp g _ hg id h1;rw[h2]at q2;cases q2;have hl:=iV q3;have hn:n=l.length:=Nat.eq_of_mul_eq_mul_right q0 (h3.trans hl);subst hn;refine⟨id,l',rfl,h1,h2,?_,q3,q0,q1⟩;unfold CE;rw[h2];simp only[h3,if_true]
theorem PV{id n:Nat}{t:TT}{e:Nat}{ds:List DV}(h:CE S id n=some (e,t.size,ds,true))(h0:0<t.size)(h1:(t.agg||t.size==1)=true):kI S (.jS id n t.agg)=.sl (rowsOf t.size t.agg ds n) none ⟨false,some false⟩:=by simp only[kI,h,eF h0,h1,fT,if_true]
def FJ(tS:List TB):TV->TV
 |.so g t=>match tS[g]? with
  |some (.rows t' _ l _)=>if h:t'=t then .sl t (h▸l) .no else .so g t
  |_=>.so g t
 |v=>v
def JV(tS:List TB):TV->TV
 |.agg l=>.agg (l.map (FJ tS))
 |v=>FJ tS v
def yw(tS:List TB)(vs:List TV):List TV:=vs.map (JV tS)
section
variable {id:Nat} {e:TypeId} {s:Nat} {l:List DV}
theorem P6{z:Bool}(h:S[id]? =some (.op e s l z))(d:DV):∃z',(yt S d)[id]? =some (.op e s l z')/\(z=true->z'=true)/\∀n ag,d=.jS id n ag->n*s=l.length->z'=true:=by
 have hn:∀n,n*s=l.length->CE S id n=some (e,s,l,z):=λn hn=>by unfold CE;rw[h];simp only[hn,if_true]
 unfold yt;split
 .rename_i iT n' ag';split
  .rename_i e1 s1 l1 ho;have h1:S[iT]? =some (.op e1 s1 l1 false):=by
    unfold CE at ho;split at ho
    .split at ho;.cases ho;assumption
     cases ho
    cases ho
   by_cases he:iT=id;.subst he;rw[h]at h1;cases h1;exact⟨true,by rw[aH,if_pos rfl,if_pos (aA.1 h).1],λ_=>rfl,λ_ _ _ _=>rfl⟩
   exact⟨z,by rw[aH,if_neg he];exact h,λh=>h,λn ag hd _=>by cases hd;exact(he rfl).elim⟩
  rename_i hno;refine⟨z,h,λh=>h,λn ag hd hl=>?_⟩;cases hd;cases z with
  |true=>rfl
  |false=>exact(hno _ _ _ (hn _ hl)).elim
 rename_i hno;exact⟨z,h,λh=>h,λn ag hd _=>(hno _ _ _ hd).elim⟩
theorem P8:∀(m:List DV){S:ai}{z:Bool},S[id]? =some (.op e s l z)->∃z',(m.foldl yt S)[id]? =some (.op e s l z')/\(z=true->z'=true)/\∀n ag,DV.jS id n ag∈m->n*s=l.length->z'=true
 |[],S,z,h=>⟨z,h,λh=>h,λ_ _ hm=>by simp at hm⟩
 |d::m,S,z,h=>by
  obtain⟨z1,h1,h2,h3⟩:=P6 h d;obtain⟨z2,k1,k2,k3⟩:=P8 m h1;refine⟨z2,k1,λhz=>k2 (h2 hz),λn ag hm hn=>?_⟩;rcases bw.1 hm with hm|hm;.exact k2 (h3 n ag hm.symm hn)
  exact k3 n ag hm hn
def Zd(d:DV)(id n:Nat):Prop:=∃ag,d=.jS id n ag\/∃m,d=.agg m/\DV.jS id n ag∈m
theorem Qa{z:Bool}(h:S[id]? =some (.op e s l z))(d:DV):∃z',(tV S d)[id]? =some (.op e s l z')/\(z=true->z'=true)/\∀n,Zd d id n->n*s=l.length->z'=true:=by
 unfold tV;split
 .rename_i m;obtain⟨z1,h1,h2,h3⟩:=P8 m h;refine⟨z1,h1,h2,λn hs hn=>?_⟩;obtain⟨ag,hs|⟨m',hs,hm⟩⟩:=hs;.cases hs
  cases hs;exact h3 n ag hm hn
 rename_i hno;obtain⟨z1,h1,h2,h3⟩:=P6 h d;refine⟨z1,h1,h2,λn hs hn=>?_⟩;obtain⟨ag,hs|⟨m',hs,hm⟩⟩:=hs;.exact h3 n ag hs hn
 exact(hno _ hs).elim
theorem P5:∀(m:List DV){S:ai}{z:Bool},S[id]? =some (.op e s l z)->∃z',(m.foldl tV S)[id]? =some (.op e s l z')/\(z=true->z'=true)/\∀d∈m,∀n,Zd d id n->n*s=l.length->z'=true
 |[],S,z,h=>⟨z,h,λh=>h,λ_ hm=>by simp at hm⟩
 |d::m,S,z,h=>by
  obtain⟨z1,h1,h2,h3⟩:=Qa h d;obtain⟨z2,k1,k2,k3⟩:=P5 m h1;refine⟨z2,k1,λhz=>k2 (h2 hz),λd' hm n hs hn=>?_⟩;rcases bw.1 hm with rfl|hm;.exact k2 (h3 n hs hn)
  exact k3 d' hm n hs hn
end
theorem Lc(h:bT ι te tS env S){S':ai}{v:TV}{d:DV}(hv:RT ι S v d)(hp:eM (FJ tS v)=true)(hh:∀id n ag e s l z,d=.jS id n ag->S[id]? =some (.op e s l z)->n*s=l.length->S'[id]? =some (.op e s l true)):RT ι S (FJ tS v) (kI S' d):=by
 cases v
 case so g t=>
  simp only[FJ]at hp⊢;split at hp
  .rename_i t' e l z hg;split at hp
   .rename_i ht;obtain⟨id,cs,rfl,h1,h2,h3,h4,h5,h6⟩:=F8 h hg hv ht;subst ht;have hn:l.length*t'.size=cs.length:=(iV h4).symm;have hS:CE S' id l.length=some (e,t'.size,cs,true):=by unfold CE;rw[hh _ _ _ _ _ _ _ rfl h2 hn];simp only[hn,if_true]
    rw[PV hS h5 h6,dif_pos rfl];simp only[RT,pL,and_true];exact xZ h6 h4
   cases hp
  cases hp
 all_goals first|(cases hp;done)|skip
 all_goals (simp only[FJ]at hp⊢;cases d<;>simp only[RT]at hv<;>simp only[kI,RT]<;>exact hv)
theorem aae{v:TV}(h:Av v=true):eM v=true:=by cases v<;>first|rfl|cases h
theorem GZ(h:bT ι te tS env S){S':ai}:∀{l:List TV}{m:List DV},cK ι S l m->(l.map (FJ tS)).all Av=true->(∀d∈m,∀id n ag e s l z,d=.jS id n ag->S[id]? =some (.op e s l z)->n*s=l.length->S'[id]? =some (.op e s l true))->cK ι S (l.map (FJ tS)) (m.map (kI S'))
 |[],m,hd,_,_=>by rw[aR hd];exact bO
 |v::l,m,hd,hp,hh=>by obtain⟨d,m',rfl,h1,h2⟩:=aj hd;simp only[bn,cG,aC]at hp⊢;exact aT (Lc h h1 (aae hp.1) (hh d fH)) (GZ h h2 hp.2 λd hd=>hh d (jZ _ hd))
theorem aeQ{v:TV}{d:DV}(hv:RT ι S v d)(hp:eM (JV tS v)=true):∀l,d≠.tup l:=by intro l e;subst e;cases v<;>first|(simp only[RT]at hv;done)|(simp only[JV,FJ]at hp;cases hp)
theorem R9(h:bT ι te tS env S){S':ai}{v:TV}{d:DV}(hv:RT ι S v d)(hp:eM (JV tS v)=true)(hh:∀id n e s l z,Zd d id n->S[id]? =some (.op e s l z)->n*s=l.length->S'[id]? =some (.op e s l true)):RT ι S (JV tS v) (tJ S' d)/\∀l,d≠.tup l:=by
 cases v
 case agg l=>
  cases d<;>simp only[RT]at hv;rename_i m;simp only[JV,eM]at hp;refine⟨?_,λ_ e=>by cases e⟩;simp only[JV,tJ,RT];exact GZ h hv hp λd hd id n ag e s l z he=>hh id n e s l z ⟨ag,.inr ⟨m,rfl,he▸hd⟩⟩
 all_goals
  have hd:(∀l,d≠.agg l)/\∀l,d≠.tup l:=by constructor<;>intro l e<;>subst e<;>first|(simp only[RT]at hv;done)|(simp only[JV,FJ]at hp;cases hp)
  refine⟨?_,hd.2⟩;have e:tJ S' d=kI S' d:=by cases d<;>first|rfl|exact(hd.1 _ rfl).elim
  rw[e];exact Lc h hv hp λid n ag e s l z he=>hh id n e s l z ⟨ag,.inl he⟩
theorem aeP(h:bT ι te tS env S){vs:List TV}{ds:List DV}(hd:cK ι S vs ds)(hp:(yw tS vs).all eM=true):∃iC,oneOf iC=uu (HW S (oneOf ds)) (oneOf ds)/\cK ι S (yw tS vs) iC:=by
 have many:∀{S':ai}{vs:List TV}{ds:List DV},cK ι S vs ds->(yw tS vs).all eM=true->(∀d∈ds,∀id n e s l z,Zd d id n->S[id]? =some (.op e s l z)->n*s=l.length->S'[id]? =some (.op e s l true))->cK ι S (yw tS vs) (ds.map (tJ S'))/\∀d∈ds,∀l,d≠.tup l:=by
  intro S' vs;induction vs with
  |nil=>intro ds hd _ _;rw[aR hd];exact⟨bO,by simp⟩
  |cons v vs ih=>
   intro ds hd hp hh;obtain⟨d,m',rfl,h1,h2⟩:=aj hd;simp only[yw,bn,cG,aC]at hp;obtain⟨a1,a2⟩:=R9 h h1 hp.1 (hh d fH);obtain⟨b1,b2⟩:=ih h2 hp.2 λd hd=>hh d (jZ _ hd);refine⟨aT a1 b1,λd' xg=>?_⟩;rcases bw.1 xg with rfl|xg;.exact a2
   exact b2 d' xg
 match vs,ds,hd,hp with
 |[v],ds,hd,hp=>
  obtain⟨d,m',rfl,k1,k2⟩:=aj hd;rw[aR k2]at hd⊢;have hp1:=hp;simp only[yw,bn,fG,cG,List.all_nil,sS]at hp1;have h0:=aeQ k1 hp1;have e1:HW S d=tV S d:=by cases d<;>first|rfl|exact(h0 _ rfl).elim
  have e2:uu (tV S d) d=tJ (tV S d) d:=by cases d<;>first|rfl|exact(h0 _ rfl).elim
  refine⟨[d].map (tJ (tV S d)),by simp only[oneOf,bn,fG,e1,e2],(many hd hp λd' xg id n e s l z hs ho hn=>?_).1⟩;simp only[bI]at xg;subst xg;obtain⟨z',q1,-,q3⟩:=Qa ho d';rw[q3 n hs hn]at q1;exact q1
 |[],ds,hd,_=>exact⟨[],by rw[aR hd];rfl,bO⟩
 |v::u::vs,ds,hd,hp=>
  obtain⟨d,m',rfl,k1,k2⟩:=aj hd;obtain⟨d',m'',rfl,k3,k4⟩:=aj k2;refine⟨(d::d'::m'').map (tJ ((d::d'::m'').foldl tV S)),rfl,(many hd hp λd1 YI id n e s l z hs ho hn=>?_).1⟩;obtain⟨z',q1,-,q3⟩:=P5 (d::d'::m'') ho;rw[q3 d1 YI n hs hn]at q1;exact q1
def adA(ty:fR)(rs:List ResultVar)(iY:List (Option TT))(Q:TV->Prop)(e:DX)(te:List TV)(tS:List TB):Prop:=
 (match e with|.exit _=>False|_=>True)/\∃vs,xu ty te tS rs=some vs/\(yw tS vs).all eM=true/\refs (kA (bL iY (yw tS vs)))=[]/\Q (kA (bL iY (yw tS vs)))
theorem Xy{bH:bR}{L n:Nat}{f:FuncId}{fn:Func}{c:Code}{targs:List TV}{iY:List (Option TT)}{Q:TV->Prop}(hf:P.funcs[f]? =some fn)(hb:fn.body=some c)(ht:∀a,cK fA [] targs a->bH f a=none)
  (h:WT P ty (ym P ty bH L n) (pU P ty bH L n) (yfN P ty bH L n) [] L f false c (targs++List.replicate (fn.ntmps-targs.length) .unk) [] (adA ty fn.results.toList iY Q)):uG (ym P ty bH L (n+1)) f targs Q:=by
 intro bJ hd;have hlen:=gE hd;have hR:bT fA (targs++List.replicate (fn.ntmps-targs.length) .unk) [] (bJ++List.replicate (fn.ntmps-bJ.length) bF) []:=by refine⟨er hd (by rw[hlen];exact sM _ _),λk l hk=>(by simp at hk),λk e s hk=>(by simp at hk),λk k' hk=>(by cases hk),λi j k' hi=>(by cases hi),λk b hk=>(by simp at hk)⟩
 obtain⟨e,aL,S',ι',bX,bN,h1,h2,h3,h4,h5,h6⟩:=h fA _ [] hR (λk hk=>(by cases hk));obtain⟨h6,vs,h7,h8,h9,ue⟩:=h6;obtain⟨ds,k1,k2⟩:=sN h2 h7;obtain⟨ds2,c1,c2⟩:=aeP h2 k2 h8;obtain⟨k3,k4⟩:=RZ (ts:=iY) (ι':=fA) (S':=[]) h8 c2;refine⟨(oneOf ds2).strip,_,?_,k3,k4,h9,ue⟩;have hc:(dx P ty bH L (n+1)).1 f bJ []=some (oneOf ds,S'):=by
  simp only[dx,hf,tN,hb];have HJ:cU P ty (kJ bH (dx P ty bH L n).1) (dx P ty bH L n).1 (dx P ty bH L n).2 L f false c (bJ++List.replicate (fn.ntmps-bJ.length) bF) []=some (e,aL,S'):=h1;rw[HJ];cases e with
  |normal=>simp only[k1,ay]
  |ret=>simp only[k1,ay]
  |exit id=>exact h6.elim
 simp only[ym,kJ,ht _ hd,hc,<-c1,k3,if_true]
def TZ(ty:fR)(rs:List ResultVar)(iY:List (Option TT))(oc:List (Option TT))(Q:TV->List TV->Prop)(e:DX)(te:List TV)(tS:List TB):Prop:=
 (match e with|.exit _=>False|_=>True)/\∃vs ts,xu ty te tS rs=some vs/\vs.all eM=true/\refs (kA (bL iY vs))=[]/\tS[0]? =some (.cells ts)/\ts.all eM=true/\eW (bL oc ts)=[]/\Q (kA (bL iY vs)) (bL oc ts)
theorem XO{bH:bR}{L n:Nat}{f:FuncId}{fn:Func}{c:Code}{targs ts:List TV}{iY oc:List (Option TT)}{Q:TV->List TV->Prop}(hf:P.funcs[f]? =some fn)(hb:fn.body=some c)
  (h:WT P ty (ym P ty bH L n) (pU P ty bH L n) (yfN P ty bH L n) [0] L f false c (targs++List.replicate (fn.ntmps-targs.length) .unk) [.cells ts] (TZ ty fn.results.toList iY oc Q)):BL (pU P ty bH L (n+1)) f targs ts Q:=by
 intro ι bJ S hR;have hlen:=gE hR.env;have mP:bT ι (targs++List.replicate (fn.ntmps-targs.length) .unk) [.cells ts] (bJ++List.replicate (fn.ntmps-bJ.length) bF) S:=
  ⟨er hR.env (by rw[hlen];exact sM _ _),hR.cells,hR.own,hR.ql,hR.inj,hR.mp⟩
 obtain⟨e,aL,S',ι',bX,bN,h1,h2,h3,h4,h5,h6⟩:=h ι _ S mP (λk hk=>(by
  have:k=0:=by simpa using hk
  subst this;exact⟨ts,rfl⟩))
 obtain⟨h6,vs,Ac,h7,h8,h9,ue,HI,Yf,h13⟩:=h6;obtain⟨ds,k1,k2⟩:=sN h2 h7;obtain⟨k',iC,m1,m2,m3⟩:=h2.cells 0 Ac ue;refine⟨oneOf ds,S',ι',_,bL oc Ac,k',iC,?_,GM (ts:=iY) h8 k2,h9,Yf,by rw[<-h4.base 0 (by simp)];exact m1,m2,lP HI m3,h4,h5,h13⟩;simp only[pU,dx,hf,tN,hb];have HJ:cU P ty (kJ bH (dx P ty bH L n).1) (dx P ty bH L n).1 (dx P ty bH L n).2 L f false c (bJ++List.replicate (fn.ntmps-bJ.length) bF) S=some (e,aL,S'):=h1;rw[HJ];cases e with
 |normal=>simp only[k1,ay]
 |ret=>simp only[k1,ay]
 |exit id=>exact h6.elim
end Go.Tv
namespace Go.Tv
open Go Go.Di
section
variable (P:Program) (ty:fR) (tt:TypeId->Option TT)
def Ui:List TV->Option Nat
 |[]=>none
 |v::l=>match refs v with
  |k::_=>if isRef v then some k else Ui l
  |[]=>Ui l
end
variable {P:Program} {ty:fR} {tt:TypeId->Option TT} {ι ι' w:kY} {S S':ai} {te mI:List TV} {env:List DV} {tS iM:List TB} {aK:bR} {call:bt} {yf:ej} {o:Oper} {aF nT:Nat} {B:List Nat} {r:TR} {ops:Array Oper} {L:Nat} {fn:FuncId} {jd:Bool} {a b c:Code} {Q Q':DX->List TV->List TB->Prop}
variable {fs:List de}
def WI(P:Program)(ty:fR)(aK:bR)(call:bt)(yf:ej)(B:List Nat)(L:Nat)(fn:FuncId)(jd:Bool)(n:Nat)(c:Code)(te:List TV)(tS:List TB)(Q:DX->List TV->List TB->Prop):Prop:=
 ∀ι env S,bT ι te tS env S->oE B tS->∃e aL S' ι' bX bN,oB (cU P ty aK call yf L fn jd c) n env S=some (e,aL,S')/\bT ι' bX bN aL S'/\oE B bN/\Fr B ι S ι' S'/\Nn S.length S S'/\Q e bX bN
theorem A9{f:List DV->ai->Option (DX×List DV×ai)}:∀{n m:Nat}{env:List DV}{S:ai}{r:DX×List DV×ai},n<=m->oB f n env S=some r->oB f m env S=some r
 |0,_,_,_,_,_,h=>by cases h
 |n+1,0,_,_,_,hn,_=>by omega
 |n+1,m+1,env,S,r,hn,h=>by
  simp only[oB]at h⊢;split at h;.rename_i aL S' e;exact A9 (by omega) h
  exact h
theorem Q1{n:Nat}(hn:n<=L)(h:WI P ty aK call yf B L fn jd n c te tS Q):WT P ty aK call yf B L fn jd (.loop c) te tS Q:=by intro ι env S hR hB;obtain⟨e,aL,S',ι',bX,bN,h1,h2⟩:=h ι env S hR hB;exact⟨e,aL,S',ι',bX,bN,by simp only[cU];exact A9 hn h1,h2⟩
theorem ZA{n:Nat}(h:WT P ty aK call yf B L fn jd c te tS λe te tS=>match e with|.normal=>WI P ty aK call yf B L fn jd n c te tS Q|e=>Q e te tS):WI P ty aK call yf B L fn jd (n+1) c te tS Q:=by
 intro ι env S hR hB;obtain⟨e,aL,S',ι',bX,bN,h1,h2,h3,h4,h5,h6⟩:=h ι env S hR hB;cases e with
 |normal=>obtain⟨e,rK,xk,ι'',uk,um,k1,k2,k3,k4,k5,k6⟩:=h6 ι' aL S' h2 h3;exact⟨e,rK,xk,ι'',uk,um,by simp only[oB,h1,k1],k2,k3,h4.trans k4,uS h5 k5,k6⟩
 |exit id=>exact⟨_,aL,S',ι',bX,bN,by simp only[oB,h1],h2,h3,h4,h5,h6⟩
 |ret=>exact⟨_,aL,S',ι',bX,bN,by simp only[oB,h1],h2,h3,h4,h5,h6⟩
theorem ZD{n:Nat}(hl:kF mI te)(hb:Ck iM tS)(nY:okB mI iM=true)(hB:∀k,k∈B->lX iM k=true)(h:WI P ty aK call yf B L fn jd n c mI iM Q):WI P ty aK call yf B L fn jd n c te tS Q:=by intro ι env S hR QE;have Ye:=zI hb QE hB;obtain⟨ι1,h1,h2,-⟩:=zw hR hl hb nY Ye;obtain⟨e,aL,S',ι',bX,bN,m1,m2,m3,m4,m5⟩:=h ι1 env S h1 Ye;exact⟨e,aL,S',ι',bX,bN,m1,m2,m3,h2.trans m4,m5⟩
theorem ZC{σ:Type}{N:Nat}(f:σ->List TV×List TB)(cO:σ->Prop)(m:σ->Nat)(s0:σ)(h0:Fits B (f s0).1 (f s0).2 te tS)(hg:cO s0)(hm:m s0<N)
  (hstep:∀s,cO s->WT P ty aK call yf B L fn jd c (f s).1 (f s).2 λe te tS=>match e with|.normal=>∃s',Fits B (f s').1 (f s').2 te tS/\cO s'/\m s'<m s|e=>Q e te tS):WI P ty aK call yf B L fn jd N c te tS Q:=by
 refine ZD h0.l h0.b h0.ok h0.base ?_;have key:∀n s,cO s->m s<n->∀ι env S,bT ι (f s).1 (f s).2 env S->oE B (f s).2->∃e aL S' ι' bX bN,oB (cU P ty aK call yf L fn jd c) n env S=some (e,aL,S')/\bT ι' bX bN aL S'/\oE B bN/\Fr B ι S ι' S'/\Nn S.length S S'/\Q e bX bN:=by
  intro n;induction n with
  |zero=>intro s _ h;omega
  |succ n ih=>
   intro s hs hn ι env S hR hB;obtain⟨e,aL,S',ι',bX,bN,h1,h2,h3,h4,h5,h6⟩:=hstep s hs ι env S hR hB;cases e with
   |normal=>obtain⟨s',hf,og,hlt⟩:=h6;have Ye:=zI hf.b h3 hf.base;obtain⟨ι1,k1,k2,-⟩:=zw h2 hf.l hf.b hf.ok Ye;obtain⟨e,rK,xk,ι'',uk,um,m1,m2,m3,m4,m5,m6⟩:=ih s' og (by omega) ι1 aL S' k1 Ye;exact⟨e,rK,xk,ι'',uk,um,by simp only[oB,h1,m1],m2,m3,(h4.trans k2).trans m4,uS h5 m5,m6⟩
   |exit id=>exact⟨_,aL,S',ι',bX,bN,by simp only[oB,h1],h2,h3,h4,h5,h6⟩
   |ret=>exact⟨_,aL,S',ι',bX,bN,by simp only[oB,h1],h2,h3,h4,h5,h6⟩
 intro ι env S hR hB;exact key N s0 hg hm ι env S hR hB
theorem Zu{σ:Type}(f:σ->List TV×List TB)(cO:σ->Prop)(h1:WT P ty aK call yf B L fn jd a te tS λe te tS=>match e with|.normal=>∃s,Fits B (f s).1 (f s).2 te tS/\cO s|e=>Q e te tS)
  (h2:∀s,cO s->WT P ty aK call yf B L fn jd b (f s).1 (f s).2 Q):WT P ty aK call yf B L fn jd (.seq a b) te tS Q:=by
 refine UU (h1.mono ?_);intro e te tS hq;cases e with
 |normal=>obtain⟨s,hf,hg⟩:=hq;exact Zt hf.l hf.b hf.ok hf.base (h2 s hg)
 |exit id=>exact hq
 |ret=>exact hq
theorem Lf:∀owns:List (Nat×Nat),Ck (owns.map λp=>TB.own p.1 p.2) []
 |[]=>.nil
 |_::l=>.new (Lf l)
end Go.Tv
