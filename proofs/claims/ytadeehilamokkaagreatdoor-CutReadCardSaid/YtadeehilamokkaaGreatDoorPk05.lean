import Derived.Test.YtadeehilamokkaaGreatDoorPk04
import Derived.Test.YtadeehilamokkaaGreatDoorPk01
import Derived.Test.YtadeehilamokkaaGreatDoorProg
namespace Go.Tv
open Go Go.Di
def zO:TV->Bool
 |.val v=>!(v matches .tuple _)
 |.jo|.sl _ _ _=>true
 |_=>false
def dY:TV->Bool
 |.agg l=>l.all zO
 |.val _|.jo|.sl _ _ _=>true
 |_=>false
def qA:TV->TV
 |.sl k l _=>.sl k l .no
 |.jo=>.unk
 |v=>v
def jX:cy->TV->TV
 |some (.sl e),.jo=>.sl e [] .no
 |_,.jo=>.unk
 |_,.sl k l (.stop _)=>.sl k l (.stop false)
 |_,.sl k l _=>.sl k l .no
 |some t,.agg l=>match t.of l with
  |some (x,[])=>.agg (t.cells x)
  |_=>.agg (l.map qA)
 |none,.agg l=>.agg (l.map qA)
 |_,v=>v
def bK:List cy->cn->cn
 |_,[]=>[]
 |[],v::l=>jX none v::bK [] l
 |t::ts,v::l=>jX t v::bK ts l
def fJ(tt:TypeId->cy)(fs:cn)(argTypes:Array TypeId):List cy:=fs.map (λ_=>none)++argTypes.toList.map tt
variable {P:Program} {ty:fo} {tt:TypeId->cy} {ι ι' w:kB} {S S':aj} {te lG:cn} {env:cj} {tS gZ:cp} {aD:bR} {call:aY} {yf:di} {o:Oper} {aB nT:Nat} {B:cx} {r:TR} {ops:Array Oper}
mutual
theorem oq:∀(v:TV)(d:DV),refs v=[]->RT ι S v d->RT ι' S' v d
 |.unk,_,_,_=>by simp only[RT]
 |.val _,d,_,k=>by cases d<;>simp only[RT]at k⊢;exact k
 |.jo,d,_,k=>by cases d<;>simp only[RT]at k⊢;exact k
 |.agg l,d,h,k=>by cases d<;>simp only[RT]at k⊢;exact jd l _ h k
 |.tup l,d,h,k=>by cases d<;>simp only[RT]at k⊢;exact jd l _ h k
 |.sl t l .no,d,_,k=>by cases d<;>simp only[RT]at k⊢;exact k
 |.sl t l .full,d,_,k=>by cases d<;>simp only[RT]at k⊢;exact k
 |.sl t l (.stop _),d,_,k=>by cases d<;>simp only[RT]at k⊢;exact k
 |.sl t l (.BM g),d,h,k=>by simp[refs]at h
 |.sl t l (.o5 g),d,h,k=>by simp[refs]at h
 |.ptr id off,d,h,k=>by simp[refs]at h
 |.eU t l i off,d,_,k=>by cases d<;>simp only[RT]at k⊢;exact k
 |.mp id,d,h,k=>by simp[refs]at h
 |.so g t,d,h,k=>by simp[refs]at h
 |.nj k0 fn te,d,h,k=>by simp[refs]at h
 |.sp g t i off,d,h,k=>by simp[refs]at h
 |.fn f a b,d,h,k=>by cases d<;>simp only[RT]at k⊢;simp only[refs,List.append_eq_nil_iff]at h;exact⟨k.1,jd a _ h.1 k.2.1,jd b _ h.2 k.2.2⟩
theorem jd:∀(l:cn)(m:cj),eL l=[]->cz ι S l m->cz ι' S' l m
 |[],m,_,k=>by rw[aN k];exact bH
 |a::l,m,h,k=>by obtain⟨d,m',rfl,h1,h2⟩:=ax k;simp only[eL,List.append_eq_nil_iff]at h;exact aO (oq a d h.1 h1) (jd l m' h.2 h2)
end
theorem Lj{v:TV}{d:DV}(hp:zO v=true)(h:RT ι S v d):d.aL.bS=true/\RT ι' S' (qA v) d.aL:=by
 cases v<;>first|(cases hp;done)|skip
 cases d<;>simp only[RT]at h;subst h;exact⟨hp,by simp only[qA,RT,DV.aL]⟩;cases d<;>simp only[RT]at h;exact⟨rfl,by simp only[qA,RT]⟩;cases d<;>simp only[RT]at h;exact⟨rfl,by simp only[qA,RT,DV.aL];exact⟨h.1,trivial⟩⟩
theorem Bo:∀{l:cn}{m:cj},l.all zO=true->cz ι S l m->(m.map DV.aL).all DV.bS=true/\cz ι' S' (l.map qA) (m.map DV.aL)
 |[],m,_,h=>by rw[aN h];exact⟨rfl,bH⟩
 |a::l,m,hp,h=>by obtain⟨d,m',rfl,h1,h2⟩:=ax h;simp only[cA,aC]at hp;obtain⟨k1,k2⟩:=Lj (ι':=ι') (S':=S') hp.1 h1;obtain⟨k3,k4⟩:=Bo hp.2 h2;exact⟨by simp[k1]at k3⊢;exact k3,aO k2 k4⟩
theorem DM:∀{t:TT}{l:cn}{x:t.den}{r:cn}{m:cj},t.of l=some (x,r)->cz ι S l m->∃c m',m=c++m'/\cz ι' S' (t.cells x) c/\cz ι S r m'
 |.int k,l,x,r,m,h,hm=>by simp only[TT.of]at h;unfold ofInt at h;split at h;split at h;rename_i hk;cases h;obtain⟨d,m',rfl,h1,h2⟩:=ax hm;cases d<;>simp only[RT]at h1;subst h1;subst hk;exact⟨[_],m',rfl,j4 (by simp only[RT]),h2⟩;cases h;cases h
 |.bool,l,x,r,m,h,hm=>by simp only[TT.of]at h;unfold ofBool at h;split at h;cases h;obtain⟨d,m',rfl,h1,h2⟩:=ax hm;cases d<;>simp only[RT]at h1;subst h1;exact⟨[_],m',rfl,j4 (by simp only[RT]),h2⟩;cases h
 |.str,l,x,r,m,h,hm=>by simp only[TT.of]at h;unfold ofStr at h;split at h;cases h;obtain⟨d,m',rfl,h1,h2⟩:=ax hm;cases d<;>simp only[RT]at h1;subst h1;exact⟨[_],m',rfl,j4 (by simp only[RT]),h2⟩;cases h
 |.unit,l,x,r,m,h,hm=>by simp only[TT.of]at h;cases h;exact⟨[],m,rfl,bH,hm⟩
 |.pair a b,l,x,r,m,h,hm=>by simp only[TT.of]at h;split at h;rename_i x1 r1 h1;split at h;rename_i y r2 h2;cases h;obtain⟨c,m1,rfl,k1,k2⟩:=DM h1 hm;obtain⟨c',m2,rfl,k3,k4⟩:=DM h2 k2;exact⟨c++c',m2,ab,eH k1 k3,k4⟩;cases h;cases h
 |.sl t,l,x,r,m,h,hm=>by simp only[TT.of]at h;unfold YX at h;split at h;split at h;rename_i ht;subst ht;cases h;obtain⟨d,m',rfl,h1,h2⟩:=ax hm;cases d<;>simp only[RT]at h1;exact⟨[_],m',rfl,j4 (by simp only[RT];exact⟨h1.1,trivial⟩),h2⟩;cases h;cases h;obtain⟨d,m',rfl,h1,h2⟩:=ax hm;cases d<;>simp only[RT]at h1;obtain⟨rfl,rfl,rfl⟩:=h1;exact⟨[_],m',rfl,j4 (by simp only[RT,dZ];exact⟨trivial,trivial⟩),h2⟩;cases h
theorem jf{t:cy}{v:TV}{d:DV}(hp:dY v=true)(h:RT ι S v d):d.strip.pure=true/\(∀l,d≠.tup l)/\RT ι' S' (jX t v) d.strip:=by
 cases v with
 |agg l=>
  cases d<;>simp only[RT]at h;rename_i m;obtain⟨k1,k2⟩:=Bo (ι':=ι') (S':=S') hp h;refine⟨k1,λ_ e=>ar,?_⟩;cases t with
  |none=>simp only[jX,RT,DV.strip,DV.cT];exact k2
  |some t=>
   have e:jX (some t) (.agg l)=match t.of l with|some (x,[])=>.agg (t.cells x)|_=>.agg (l.map qA):=by cases t<;>rfl
   rw[e];split;rename_i x ho;obtain⟨c,m',rfl,n1,n2⟩:=FP ho h;rw[aN n2,iJ];simp only[RT,DV.strip,DV.cT];exact oT n1;simp only[RT,DV.strip,DV.cT];exact k2
 |val u=>
  cases d<;>simp only[RT]at h;rename_i u';subst h;refine⟨rfl,λ_ e=>ar,?_⟩;have e:jX t (.val u')=.val u':=by cases t with|none=>rfl|some t=>cases t<;>rfl
  rw[e];simp only[RT,DV.strip,DV.cT]
 |jo=>
  cases d<;>simp only[RT]at h;obtain⟨rfl,rfl,rfl⟩:=h;refine⟨rfl,λ_ e=>ar,?_⟩;cases t with
  |none=>simp only[jX,RT]
  |some t=>
   cases t with
   |sl e=>simp only[jX,RT,DV.strip,DV.cT,dZ];exact⟨trivial,trivial⟩
   |_=>simp only[jX,RT]
 |sl k l ap=>
  cases d<;>simp only[RT]at h;refine⟨rfl,λ_ e=>ar,?_⟩;have e:∃Qw,jX t (.sl k l ap)=.sl k l Qw/\(Qw=.no\/∃b,Qw=.stop b):=by
   cases ap with
   |stop b=>exact⟨.stop false,by cases t with|none=>rfl|some t=>cases t<;>rfl,.inr ⟨_,rfl⟩⟩
   |_=>exact⟨.no,by cases t with|none=>rfl|some t=>cases t<;>rfl,.inl rfl⟩
  obtain⟨Qw,e,e'⟩:=e;rw[e];have e':∀{ι S n tok f},pq ι S n tok f Qw:=by rcases e' with rfl|⟨b,rfl⟩<;>exact trivial
  simp only[RT,DV.strip,DV.cT];exact⟨h.1,e'⟩
 |_=>cases hp
theorem rX{t:cy}{v:TV}{d:DV}(hp:dY v=true)(h:RT ι S v d):RT ι' S' (jX t v) d:=by
 have n1:∀{l:cn}{m:cj},l.all zO=true->cz ι S l m->cz ι' S' (l.map qA) m:=by
  intro l;induction l with
  |nil=>intro m _ h;rw[aN h];exact bH
  |cons a l ih=>
   intro m hp h;obtain⟨d,m',rfl,h1,h2⟩:=ax h;simp only[cA,aC]at hp;refine aO ?_ (ih hp.2 h2);cases a<;>first|(cases hp.1;done)|skip
   cases d<;>simp only[RT]at h1;simp only[qA,RT];exact h1
   simp only[qA,RT];cases d<;>simp only[RT]at h1;simp only[qA,RT];exact⟨h1.1,trivial⟩
 cases v with
 |agg l=>
  cases d<;>simp only[RT]at h;rename_i m;cases t with
  |none=>simp only[jX,RT];exact n1 hp h
  |some t=>
   have e:jX (some t) (.agg l)=match t.of l with|some (x,[])=>.agg (t.cells x)|_=>.agg (l.map qA):=by cases t<;>rfl
   rw[e];split;rename_i x ho;obtain⟨c,m',rfl,k1,k2⟩:=DM (ι':=ι') (S':=S') ho h;rw[aN k2,iJ];simp only[RT];exact k1;simp only[RT];exact n1 hp h
 |val u=>
  cases d<;>simp only[RT]at h;have e:jX t (.val u)=.val u:=by cases t with|none=>rfl|some t=>cases t<;>rfl
  rw[e];simp only[RT];exact h
 |jo=>
  cases d<;>simp only[RT]at h;obtain⟨rfl,rfl,rfl⟩:=h;cases t with
  |none=>simp only[jX,RT]
  |some t=>
   cases t with
   |sl e=>simp only[jX,RT,dZ];exact⟨trivial,trivial⟩
   |_=>simp only[jX,RT]
 |sl k l ap=>
  cases d<;>simp only[RT]at h;have e:∃Qw,jX t (.sl k l ap)=.sl k l Qw/\(Qw=.no\/∃b,Qw=.stop b):=by
   cases ap with
   |stop b=>exact⟨.stop false,by cases t with|none=>rfl|some t=>cases t<;>rfl,.inr ⟨_,rfl⟩⟩
   |_=>exact⟨.no,by cases t with|none=>rfl|some t=>cases t<;>rfl,.inl rfl⟩
  obtain⟨Qw,e,e'⟩:=e;rw[e];have e':∀{ι S n tok f},pq ι S n tok f Qw:=by rcases e' with rfl|⟨b,rfl⟩<;>exact trivial
  simp only[RT];exact⟨h.1,e'⟩
 |_=>cases hp
theorem jj:∀{ts:List cy}{l:cn}{m:cj},l.all dY=true->cz ι S l m->(m.map DV.strip).all DV.pure=true/\cz ι' S' (bK ts l) (m.map DV.strip)
 |_,[],m,_,h=>by rw[aN h];exact⟨rfl,by simp only[bK,eY];exact bH⟩
 |[],a::l,m,hp,h=>by obtain⟨d,m',rfl,h1,h2⟩:=ax h;simp only[cA,aC]at hp;obtain⟨k1,-,k2⟩:=jf (t:=none) (ι':=ι') (S':=S') hp.1 h1;obtain⟨k3,k4⟩:=jj (ts:=[]) hp.2 h2;refine⟨?_,by simp only[bK,bg];exact aO k2 k4⟩;rw[bg,cA,k1,k3];rfl
 |t::ts,a::l,m,hp,h=>by obtain⟨d,m',rfl,h1,h2⟩:=ax h;simp only[cA,aC]at hp;obtain⟨k1,-,k2⟩:=jf (t:=t) (ι':=ι') (S':=S') hp.1 h1;obtain⟨k3,k4⟩:=jj (ts:=ts) hp.2 h2;refine⟨?_,by simp only[bK,bg];exact aO k2 k4⟩;rw[bg,cA,k1,k3];rfl
theorem kL:∀{ts:List cy}{l:cn}{m:cj},l.all dY=true->cz ι S l m->cz ι' S' (bK ts l) m
 |_,[],m,_,h=>by rw[aN h];simp only[bK];exact bH
 |[],a::l,m,hp,h=>by obtain⟨d,m',rfl,h1,h2⟩:=ax h;simp only[cA,aC]at hp;simp only[bK];exact aO (rX hp.1 h1) (kL hp.2 h2)
 |t::ts,a::l,m,hp,h=>by obtain⟨d,m',rfl,h1,h2⟩:=ax h;simp only[cA,aC]at hp;simp only[bK];exact aO (rX hp.1 h1) (kL hp.2 h2)
def gC:kB:=λ_=>none
def tE(aD:bR)(g:FuncId)(targs:cn)(Q:TV->Prop):Prop:=
 ∀bT,cz gC [] targs bT->∃d v,aD g bT=some d/\d.pure=true/\RT gC [] v d/\refs v=[]/\Q v
theorem tE.mono {g:FuncId}{targs:cn}{Q Q':TV->Prop}(h:tE aD g targs Q)(hq:∀v,Q v->Q' v):tE aD g targs Q':=λbT hd=>by obtain⟨d,v,h1,h2,h3,h4,h5⟩:=h bT hd;exact⟨d,v,h1,h2,h3,h4,hq v h5⟩
theorem gY(hE:cz ι S te env){f:Operand}{args:Array Operand}{g:FuncId}{fs cs xs:cn}(hf:fe te f=some (.fn g fs cs))(ha:kP te args.toList=some xs):
  ∃wm iq FC,iN env f=some (.fn g wm iq)/\evs (iN env) args.toList=some FC/\cz ι S (fs++xs++cs) (wm++FC++iq):=by
 obtain⟨d,k1,k2⟩:=bt hE hf;obtain⟨FC,k3,k4⟩:=rI hE ha;cases d<;>simp only[RT]at k2;obtain⟨rfl,k5,k6⟩:=k2;exact⟨_,_,FC,k1,k3,eH (eH k5 k4) k6⟩
theorem ER{f:Operand}{args:Array Operand}{argTypes:Array TypeId}{g:FuncId}{fs cs xs targs:cn}{Q:TV->Prop}(hop:o.op=.call {callee:=.value f,args,argTypes})(hh:ty.h o≠1)(hf:fe te f=some (.fn g fs cs))(ha:kP te args.toList=some xs)(hp:(fs++xs++cs).all dY=true)
  (hn:bK (fJ tt fs argTypes) (fs++xs++cs)=targs) (hs:tE aD g targs Q) (dr:Bool):Does P ty aD call yf B o nT te tS dr λv bO bI ft=>Q v/\bO=te/\bI=tS/\ft=⟨some [],false⟩:=by
 intro ι w env S aB hR hB hw hT CN hS;obtain⟨wm,iq,FC,k1,k2,k3⟩:=gY hR.env hf ha;obtain⟨k4,k5⟩:=jj (ts:=fJ tt fs argTypes) (ι':=gC) (S':=[]) hp k3;rw[hn]at k5;obtain⟨d,v,m1,m2,m3,m4,m5⟩:=hs _ k5;refine⟨d,S,ι,w,v,te,tS,⟨some [],false⟩,⟨some [],false⟩,λ_=>?_,λhd=>?_,⟨id,λl hl=>⟨[],rfl,λj hj=>(by cases hj)⟩⟩,λl m _ hm j hj=>(by cases hm;cases hj),hR,oq _ _ m4 m3,hw,λ_ _ _=>rfl,Fr.refl _ _ _,hB,fM _ _,m5,rfl,rfl,rfl⟩;simp only[ah,hop,k1,k2,vO,k4,if_true,m1];simp only[aH,hop,k1,k2,if_neg hh,k4,if_true,m1,az]
theorem VX{k:Nat}{f:Operand}{args:Array Operand}{argTypes:Array TypeId}{g:FuncId}{fs cs xs targs:cn}{K:TV->Prop}{Q:cn->Prop}(ho:ops[k]? =some o)(hw:dI ops te o=some true)(hop:o.op=.call {callee:=.value f,args,argTypes})(hh:ty.h o≠1)(hf:fe te f=some (.fn g fs cs))(ha:kP te args.toList=some xs)(hp:(fs++xs++cs).all dY=true)
  (hn:bK (fJ tt fs argTypes) (fs++xs++cs)=targs) (hs:tE aD g targs K) (h:∀v,K v->WQ P ty aD call yf ops tS (k+1) (jI te o.dst v) Q):WQ P ty aD call yf ops tS k te Q:=by
 intro ι env S hR;obtain⟨wm,iq,FC,k1,k2,k3⟩:=gY hR.env hf ha;obtain⟨k4,k5⟩:=jj (ts:=fJ tt fs argTypes) (ι':=gC) (S':=[]) hp k3;rw[hn]at k5;obtain⟨d,v,m1,m2,m3,m4,m5⟩:=hs _ k5;obtain⟨aK,bO,n1,n2,n3⟩:=h v m5 ι (jN env o.dst d) S (nO hR (oq _ _ m4 m3) _);refine⟨aK,bO,?_,n2,n3⟩;rw[nS ho];have hq:cV P ty aD call yf (iN env) o S=some d:=by simp only[cV,hop,k1,k2,if_neg hh,k4,if_true,m1]
 simp only[qd,gW hR.env hw,if_true,hq,n1]
def isRef:TV->Bool
 |.ptr _ _|.fn _ _ _=>true
 |_=>false
def Zj(kp:Nat)(t:cy):TV->Option TV
 |.ptr k off=>if k=kp then some (.ptr 0 off)else none
 |v=>if dY v then some (jX t v)else none
def JP(kp:Nat):cn->Option cn
 |[]=>some []
 |v::l=>match Zj kp none v,JP kp l with
  |some a,some b=>some (a::b)
  |_,_=>none
def Zm(kp:Nat)(t:cy):TV->Option TV
 |.fn g fs cs=>match JP kp fs,JP kp cs with
  |some a,some b=>some (.fn g a b)
  |_,_=>none
 |v=>Zj kp t v
def xV(kp:Nat):List cy->cn->Option cn
 |_,[]=>some []
 |[],v::l=>match Zm kp none v,xV kp [] l with
  |some a,some b=>some (a::b)
  |_,_=>none
 |t::ts,v::l=>match Zm kp t v,xV kp ts l with
  |some a,some b=>some (a::b)
  |_,_=>none
def jK(id:Nat):kB:=λj=>if j=0 then some id else none
theorem P8{kp id:Nat}{t:cy}{v v':TV}{d:DV}(hk:ι kp=some id)(h:Zj kp t v=some v')(hv:RT ι S v d):RT (jK id) S v' d:=by unfold Zj at h;split at h;split at h;rename_i k off FG;subst FG;cases h;cases d<;>simp only[RT]at hv⊢;rw[hk]at hv;exact⟨hv.1,hv.2⟩;cases h;split at h;rename_i hp;cases h;exact rX hp hv;cases h
theorem Ec{kp id:Nat}(hk:ι kp=some id):∀{l l':cn}{m:cj},JP kp l=some l'->cz ι S l m->cz (jK id) S l' m
 |[],l',m,h,hv=>by cases h;rw[aN hv];exact bH
 |v::l,l',m,h,hv=>by obtain⟨d,m',rfl,h1,h2⟩:=ax hv;simp only[JP]at h;split at h;rename_i a b e1 e2;cases h;exact aO (P8 hk e1 h1) (Ec hk e2 h2);cases h
theorem Qc{kp id:Nat}{t:cy}{v v':TV}{d:DV}(hk:ι kp=some id)(h:Zm kp t v=some v')(hv:RT ι S v d):RT (jK id) S v' d:=by unfold Zm at h;split at h;split at h;rename_i g fs cs a b e1 e2;cases h;cases d<;>simp only[RT]at hv⊢;exact⟨hv.1,Ec hk e1 hv.2.1,Ec hk e2 hv.2.2⟩;cases h;exact P8 hk h hv
theorem Ed{kp id:Nat}(hk:ι kp=some id):∀{ts:List cy}{l l':cn}{m:cj},xV kp ts l=some l'->cz ι S l m->cz (jK id) S l' m
 |_,[],l',m,h,hv=>by simp only[xV]at h;cases h;rw[aN hv];exact bH
 |[],v::l,l',m,h,hv=>by obtain⟨d,m',rfl,h1,h2⟩:=ax hv;simp only[xV]at h;split at h;rename_i a b e1 e2;cases h;exact aO (Qc hk e1 h1) (Ed hk e2 h2);cases h
 |t::ts,v::l,l',m,h,hv=>by obtain⟨d,m',rfl,h1,h2⟩:=ax hv;simp only[xV]at h;split at h;rename_i a b e1 e2;cases h;exact aO (Qc hk e1 h1) (Ed hk e2 h2);cases h
theorem mb:∀{l:cn}{m:cj},l.any isRef=true->cz ι S l m->(m.map DV.strip).all DV.pure=false
 |[],_,h,_=>ao
 |v::l,m,h,hv=>by
  obtain⟨d,m',rfl,h1,h2⟩:=ax hv;simp only[List.any_cons,jw]at h;rw[bg,cA];rcases h with h|h
  .cases v<;>first|(cases h;done)|skip
   cases d<;>simp only[RT]at h1;rfl
   cases d<;>simp only[RT]at h1;rfl
  rw[mb h h2,nW]
def Bj(call:aY)(g:FuncId)(targs ts:cn)(Q:TV->cn->Prop):Prop:=
 ∀ι bT S,bL ι targs [.cells ts] bT S->∃d S' ι' v zw k' hU,call g bT S=some (d,S')/\RT ι' S' v d/\refs v=[]/\eL zw=[]/\ι 0=some k'/\S'[k']? =some (.cells hU)/\cz ι' S' zw hU/\Fr [0] ι S ι' S'/\Nn S.length S S'/\Q v zw
theorem Bj.mono {g:FuncId}{targs ts:cn}{Q Q':TV->cn->Prop}(h:Bj call g targs ts Q)(hq:∀v ts,Q v ts->Q' v ts):Bj call g targs ts Q':=λι bT S hd=>by obtain⟨d,S',ι',v,zw,k',hU,h1,h2,h3,h4,h5,h6,h7,h8,h9,vE⟩:=h ι bT S hd;exact⟨d,S',ι',v,zw,k',hU,h1,h2,h3,h4,h5,h6,h7,h8,h9,hq _ _ vE⟩
theorem N6{f:Operand}{args:Array Operand}{argTypes:Array TypeId}{g:FuncId}{fs cs xs targs ts:cn}{kp:Nat}{Q:TV->cn->Prop}(hop:o.op=.call {callee:=.value f,args,argTypes})(hf:fe te f=some (.fn g fs cs))(ha:kP te args.toList=some xs)
  (hn:xV kp (fJ tt fs argTypes) (fs++xs++cs)=some targs) (hr:(fs++xs++cs).any isRef=true) (hts:tS[kp]? =some (.cells ts)) (Jm:eL ts=[]) (hs:Bj call g targs ts Q):Does P ty aD call yf B o nT te tS false λv bO bI ft=>∃zw,Q v zw/\bO=te/\bI=tS.set kp (.cells zw)/\ft=⟨none,true⟩:=by
 intro ι w env S aB hR hB hw hT CN hS;obtain⟨wm,iq,FC,k1,k2,k3⟩:=gY hR.env hf ha;obtain⟨iz,ds,k6,m2,m3⟩:=hR.cells kp ts hts;have hc:bL (jK iz) targs [.cells ts] (wm++FC++iq) S:=by
  refine⟨Ed k6 hn k3,λk l hk=>?_,λk e s hk=>?_,λk k' hk=>?_,λi j k' hi hj=>?_,λk b hk t ht=>by cases k with|zero=>cases hk;trivial|succ k=>simp at hk⟩;cases k with
  |zero=>cases hk;exact⟨iz,ds,rfl,m2,jd _ _ Jm m3⟩
  |succ k=>simp at hk
  grind
  by_cases h0:k=0
  grind
  simp only[jK,h0,if_false]at hk;cases hk
  by_cases FI:i=0<;>by_cases TE:j=0
  grind
  simp only[jK,TE,if_false]at hj;cases hj
  simp only[jK,FI,if_false]at hi;cases hi
  simp only[jK,FI,if_false]at hi;cases hi
 obtain⟨d,S',ι',v,zw,k',hU,n1,n2,n3,n4,n5,n6,n7,n8,n9,n10⟩:=hs _ _ S hc;simp only[jK,if_true,aF]at n5;subst n5;have kW:∀k k0,k≠kp->ι k=some k0->S'[k0]? =S[k0]? :=by intro k k0 hk h0;refine n8.rest k0 (hR.live h0) λj hj=>?_;by_cases TE:j=0;subst TE;simp only[jK,if_true,aF]at hj;subst hj;exact hk (hR.inj _ _ _ h0 k6);simp only[jK,TE,if_false]at hj;cases hj
 have K:iQ ι S ι S' λ_=>False:=λk k0 _ hk=>⟨hk,by by_cases FG:k=kp;subst FG;rw[k6]at hk;cases hk;exact uN (by rw[m2];simp) (by rw[m2];simp) (by rw[m2];simp);exact dm (kW k k0 FG hk)⟩;have Yx:=mb hr k3;refine⟨d,S',ι,w,v,te,tS.set kp (.cells zw),⟨none,true⟩,⟨none,true⟩,λ_=>?_,λhd=>bc,⟨λe=>e,λl hl=>aE⟩,λl m hl=>aE,?_,oq _ _ n3 n2,hw,λ_ _ _=>rfl,⟨λk0 hl hno=>n8.rest k0 hl λj hj=>?_,λk k0 hk=>.inl ⟨k,hk⟩,λ_ _=>rfl⟩,λk hk=>?_,⟨n9.1,λj hj dN=>?_⟩,zw,n10,rfl,rfl,rfl⟩;simp only[ah,hop,k1,k2,vO,Yx,aJ,if_false,n1];split<;>rfl;refine⟨bh K _ _ hR.env,λk l hk=>?_,λk e s hk t ht=>?_,λk k0 hk=>?_,hR.inj,λk b hk t ht=>by rw[aM]at hk;split at hk;split at hk<;>cases hk;trivial;rename_i e1;rw[kW k t (λe=>e1 e.symm) ht];exact hR.mp k b hk t ht⟩;rw[aM]at hk;split at hk;rename_i e1;subst e1;split at hk;cases hk;exact⟨iz,hU,k6,n6,jd _ _ n4 n7⟩;cases hk;rename_i e1;obtain⟨k0,Mi,q1,q2,q3⟩:=hR.cells k l hk;exact⟨k0,Mi,q1,by rw[kW k k0 (Ne.symm e1) q1];exact q2,bh K _ _ q3⟩;rw[aM]at hk;split at hk
 grind
 obtain⟨n,q1⟩:=hR.own k e s hk t ht;exact⟨n,(K k t (λe=>e) ht).2.1 _ _ _ q1⟩;rw[aM];split
 grind
 exact hR.qc k k0 hk;by_cases TE:j=0;subst TE;simp only[jK,if_true,aF]at hj;subst hj;exact hno _ k6;simp only[jK,TE,if_false]at hj;cases hj
 rw[aM];split;rename_i e1;subst e1;exact⟨some _,if_pos (aI.1 hts).1⟩;exact hB k hk;have:=(aI.1 dN).1;exact n9.2 j U dN
def jZ:TV->Bool
 |.val v=>!(v matches .tuple _)
 |.sl _ _ .no=>true
 |.sl _ _ (.stop _)=>true
 |_=>false
def C7:TV->Bool
 |.agg l=>l.all jZ
 |.val _|.sl _ _ .no=>true
 |_=>false
def Bf:TV->Bool
 |.tup l=>l.all C7
 |v=>C7 v
theorem um{v:TV}{d:DV}(hp:jZ v=true)(h:RT ι S v d):d.aL.bS=true/\RT ι' S' v d.aL:=by
 cases v<;>first|(cases hp;done)|skip
 cases d<;>simp only[RT]at h;subst h;exact⟨hp,by simp only[RT,DV.aL]⟩;rename_i t l ap;cases ap<;>first|(cases hp;done)|skip
 all_goals
  cases d<;>simp only[RT]at h;exact⟨rfl,by simp only[RT,DV.aL];exact⟨h.1,trivial⟩⟩
theorem om:∀{l:cn}{m:cj},l.all jZ=true->cz ι S l m->(m.map DV.aL).all DV.bS=true/\cz ι' S' l (m.map DV.aL)
 |[],m,_,h=>by rw[aN h];exact⟨rfl,bH⟩
 |a::l,m,hp,h=>by obtain⟨d,m',rfl,h1,h2⟩:=ax h;simp only[cA,aC]at hp;obtain⟨k1,k2⟩:=um (ι':=ι') (S':=S') hp.1 h1;obtain⟨k3,k4⟩:=om hp.2 h2;exact⟨by rw[bg,cA,k1,k3];rfl,aO k2 k4⟩
theorem BH{v:TV}{d:DV}(hp:C7 v=true)(h:RT ι S v d):d.cT.jJ=true/\RT ι' S' v d.cT:=by
 cases v<;>first|(cases hp;done)|skip
 cases d<;>simp only[RT]at h;subst h;exact⟨rfl,by simp only[RT,DV.cT]⟩;cases d<;>simp only[RT]at h;obtain⟨k1,k2⟩:=om (ι':=ι') (S':=S') hp h;exact⟨k1,by simp only[RT,DV.cT];exact k2⟩;rename_i t l ap;cases ap<;>first|(cases hp;done)|skip
 cases d<;>simp only[RT]at h;exact⟨rfl,by simp only[RT,DV.cT];exact⟨h.1,trivial⟩⟩
theorem zg:∀{l:cn}{m:cj},l.all C7=true->cz ι S l m->(m.map DV.cT).all DV.jJ=true/\cz ι' S' l (m.map DV.cT)
 |[],m,_,h=>by rw[aN h];exact⟨rfl,bH⟩
 |a::l,m,hp,h=>by obtain⟨d,m',rfl,h1,h2⟩:=ax h;simp only[cA,aC]at hp;obtain⟨k1,k2⟩:=BH (ι':=ι') (S':=S') hp.1 h1;obtain⟨k3,k4⟩:=zg hp.2 h2;exact⟨by rw[bg,cA,k1,k3];rfl,aO k2 k4⟩
theorem BG{v:TV}{d:DV}(hp:Bf v=true)(h:RT ι S v d):d.strip.pure=true/\RT ι' S' v d.strip:=by
 by_cases hd:∃l,d=.tup l
 .obtain⟨m,rfl⟩:=hd;cases v<;>simp only[RT]at h<;>first|(cases hp;done)|skip
  obtain⟨k1,k2⟩:=zg (ι':=ι') (S':=S') hp h;exact⟨k1,by simp only[RT,DV.strip];exact k2⟩
 have hv:C7 v=true:=by
  cases v<;>first|exact hp|skip
  cases d<;>simp only[RT]at h;exact(hd ⟨_,rfl⟩).elim
 obtain⟨k1,k2⟩:=BH (ι':=ι') (S':=S') hv h;have e:d.strip=d.cT:=by cases d<;>first|rfl|exact(hd ⟨_,rfl⟩).elim
 refine⟨?_,by rw[e];exact k2⟩;rw[e];have:∀c:DV,c.jJ=true->(∀l,c≠.tup l)->c.pure=true:=λc h hn=>by cases c<;>first|exact h|exact(hn _ rfl).elim
 refine this _ k1 λl hl=>?_;cases d<;>simp only[DV.cT]at hl<;>first|(cases hl;done)|exact hd ⟨_,rfl⟩
theorem LQ{f:Operand}{args:Array Operand}{argTypes:Array TypeId}{g:FuncId}{fs cs xs rest ts:cn}{kp off:Nat}{Q:TV->cn->Prop}(hop:o.op=.call {callee:=.value f,args,argTypes})(hh:ty.h o≠1)(hf:fe te f=some (.fn g fs cs))(ha:kP te args.toList=some xs)
  (hl:fs++xs++cs=.ptr kp off::rest) (hp:rest.all dY=true) (hts:tS[kp]? =some (.cells ts)) (xy:ts.all jZ=true) (hs:Bj call g (.ptr 0 off::bK (fJ tt fs argTypes).tail rest) ts Q) (hq:∀v zw,Q v zw->Bf v=true/\zw.all jZ=true):
  Does P ty aD call yf B o nT te tS true λv bO bI ft=>∃zw,Q v zw/\bO=te/\bI=tS.set kp (.cells zw)/\ft=⟨some [kp],true⟩:=by
 intro ι w env S aB hR hB hw hT CN hS;obtain⟨wm,iq,FC,k1,k2,k3⟩:=gY hR.env hf ha;obtain⟨iz,ds,k6,m2,m3⟩:=hR.cells kp ts hts;rw[hl]at k3;obtain⟨d0,m0,hm0,Yv,SV⟩:=ax k3;have Mg:d0=.ptr iz off:=by cases d0<;>simp only[RT]at Yv;obtain⟨e1,e2⟩:=Yv;rw[k6]at e1;cases e1;rw[e2]
 subst Mg;obtain⟨p1,p2⟩:=jj (ts:=(fJ tt fs argTypes).tail) (ι':=jK 0) (S':=[.cells (ds.map DV.aL)]) hp SV;obtain⟨c1,c2⟩:=om (ι':=jK 0) (S':=[.cells (ds.map DV.aL)]) xy m3;have hc:bL (jK 0) (.ptr 0 off::bK (fJ tt fs argTypes).tail rest) [.cells ts] (.ptr 0 off::m0.map DV.strip) [.cells (ds.map DV.aL)]:=by
  refine⟨aO (by simp only[RT];exact⟨rfl,trivial⟩) p2,λk l hk=>?_,λk e s hk=>?_,λk k' hk=>?_,λi j k' hi hj=>?_,λk b hk t ht=>by cases k with|zero=>cases hk;trivial|succ k=>simp at hk⟩;cases k with
  |zero=>cases hk;exact⟨0,_,rfl,rfl,c2⟩
  |succ k=>simp at hk
  grind
  by_cases h0:k=0
  grind
  simp only[jK,h0,if_false]at hk;cases hk
  by_cases FI:i=0<;>by_cases TE:j=0
  grind
  simp only[jK,TE,if_false]at hj;cases hj
  simp only[jK,FI,if_false]at hi;cases hi
  simp only[jK,FI,if_false]at hi;cases hi
 obtain⟨d,S1,ι1,v,zw,k',hU,n1,n2,n3,n4,n5,n6,n7,n8,n9,n10⟩:=hs _ _ _ hc;simp only[jK,if_true,aF]at n5;subst n5;obtain⟨q1,q2⟩:=hq _ _ n10;obtain⟨r1,r2⟩:=BG (ι':=ι) (S':=S.set iz (.cells (hU.map DV.aL))) q1 n2;obtain⟨r3,r4⟩:=om (ι':=ι) (S':=S.set iz (.cells (hU.map DV.aL))) q2 n7;have afO:∃T,S1=.cells hU::T:=by
  cases S1 with
  |nil=>simp at n6
  |cons a T=>simp only[dB,aF]at n6;exact⟨T,by rw[n6]⟩
 obtain⟨T,rfl⟩:=afO;have hid:iz<S.length:=(aI.1 m2).1;have kW:∀k0,k0≠iz->(S.set iz (.cells (hU.map DV.aL)))[k0]? =S[k0]? :=λk0 h=>by rw[aM,if_neg λe=>h e.symm]
 have hkp:∀k,k≠kp->∀k0,ι k=some k0->k0≠iz:=λk hk k0 h0 e=>hk (hR.inj _ _ _ (e▸h0) k6);have K:iQ ι S ι (S.set iz (.cells (hU.map DV.aL))) λ_=>False:=λk k0 _ hk=>⟨hk,by by_cases FG:k0=iz;subst FG;exact uN (by rw[m2];simp) (by rw[m2];simp) (by rw[m2];simp);exact dm (kW k0 FG)⟩;have Yx:((wm++FC++iq).map DV.strip).all DV.pure=false:=by rw[hm0];rfl
 have ho:oG call g (wm++FC++iq) S=some (iz,d.strip,hU.map DV.aL):=by rw[hm0];simp only[oG,m2,p1,c1,gh,if_true,n1,r1,r3]
 refine⟨d.strip,S.set iz (.cells (hU.map DV.aL)),ι,w,v,te,tS.set kp (.cells zw),⟨some [iz],true⟩,⟨some [kp],true⟩,λhd=>bc,λ_=>?_,⟨λe=>e,λl hl=>?_⟩,λl m hl hm j hj=>?_,?_,r2,hw,λ_ _ _=>rfl,⟨λk0 hl hno=>kW k0 λe=>hno _ (e▸k6),λk k0 hk=>.inl ⟨k,hk⟩,λ_ _=>rfl⟩,λk hk=>?_,⟨ab,λj hj dN=>?_⟩,zw,n10,rfl,rfl,rfl⟩;simp only[aH,hop,k1,k2,if_neg hh,Yx,aJ,if_false,ho];cases hl;exact⟨[iz],rfl,λj hj=>⟨kp,ab,by simp only[bQ]at hj;rw[hj];exact hw _ _ k6⟩⟩
 grind
 refine⟨bh K _ _ hR.env,λk l hk=>?_,λk e s hk t ht=>?_,λk k0 hk=>?_,hR.inj,λk b hk t ht=>by rw[aM]at hk;split at hk;split at hk<;>cases hk;trivial;rename_i e1;rw[kW t (hkp k (λe=>e1 e.symm) t ht)];exact hR.mp k b hk t ht⟩;rw[aM]at hk;split at hk
 grind
 rename_i e1;obtain⟨k0,Mi,q1,q2,q3⟩:=hR.cells k l hk;exact⟨k0,Mi,q1,by rw[kW k0 (hkp k (Ne.symm e1) k0 q1)];exact q2,bh K _ _ q3⟩;rw[aM]at hk;split at hk
 grind
 obtain⟨n,q1⟩:=hR.own k e s hk t ht;exact⟨n,(K k t (λe=>e) ht).2.1 _ _ _ q1⟩;rw[aM];split
 grind
 exact hR.qc k k0 hk;rw[aM];split;rename_i e1;subst e1;exact⟨some _,if_pos (aI.1 hts).1⟩;exact hB k hk
 grind
end Go.Tv
namespace Go.Tv
open Go Go.Di
def abk(ty:fo)(te:cn)(tS:cp):ResultVar->Option TV
 |.tmp t=>some (te.getD t .unk)
 |.cell a t=>match ty t,te.getD a .unk with
  |some d,.ptr id off=>match tS[id]? with
   |some (.cells l)=>vG d.k.isAgg d.size l off
   |_=>none
  |_,_=>none
def wB(ty:fo)(te:cn)(tS:cp):List ResultVar->Option cn
 |[]=>some []
 |x::r=>match abk ty te tS x,wB ty te tS r with
  |some v,some l=>some (v::l)
  |_,_=>none
def jV:cn->TV
 |[d]=>d
 |l=>.tup l
variable {P:Program} {ty:fo} {tt:TypeId->cy} {ι ι' w:kB} {S S':aj} {te lG:cn} {env:cj} {tS gZ:cp} {aD:bR} {call:aY} {yf:di} {o:Oper} {aB nT:Nat} {B:cx} {r:TR} {ops:Array Oper}
theorem x7(h:bL ι te tS env S):∀{rs:List ResultVar}{vs:cn},wB ty te tS rs=some vs->∃ds,sQ ty env S rs=some ds/\cz ι S vs ds
 |[],vs,hx=>by cases hx;exact⟨[],rfl,bH⟩
 |x::r,vs,hx=>by
  simp only[wB]at hx;split at hx;rename_i v l h1 h2;cases hx;obtain⟨ds,k1,k2⟩:=x7 h h2;cases x with
  |tmp t=>cases h1;exact⟨_,by simp only[sQ,k1,az],aO (Dy h.env t) k2⟩
  |cell a t=>simp only[abk]at h1;split at h1;rename_i d id off e1 e2;split at h1;rename_i l' e3;have hg:=Dy h.env a;rw[e2]at hg;generalize hd:env.getD a bD=da at hg;cases da<;>simp only[RT]at hg;obtain⟨g1,rfl⟩:=hg;obtain⟨iz,hU,m1,m2,m3⟩:=h.cells id l' e3;rw[g1]at m1;cases m1;obtain⟨q,m4,m5⟩:=qH m3 h1;exact⟨q::ds,by simp only[sQ,hd,kC,e1,m2,m4,k1],aO m5 k2⟩;cases h1;cases h1
  cases hx
theorem RU{ts:List cy}{vs:cn}{ds:cj}(hp:vs.all dY=true)(h:cz ι S vs ds):(oneOf ds).strip.pure=true/\RT ι' S' (jV (bK ts vs)) (oneOf ds).strip:=by
 have many:∀{ts:List cy}{l:cn}{m:cj},l.all dY=true->cz ι S l m->(m.map DV.cT).all DV.jJ=true/\cz ι' S' (bK ts l) (m.map DV.cT):=by
  intro ts l;induction l generalizing ts with
  |nil=>intro m _ h;rw[aN h];cases ts<;>exact⟨rfl,by simp only[bK,eY];exact bH⟩
  |cons a l ih=>
   intro m hp h;obtain⟨d,m',rfl,h1,h2⟩:=ax h;simp only[cA,aC]at hp;cases ts with
   |nil=>
    obtain⟨k1,k0,k2⟩:=jf (t:=none) (ι':=ι') (S':=S') hp.1 h1;obtain⟨k3,k4⟩:=ih (ts:=[]) hp.2 h2;have e:d.strip=d.cT:=by cases d<;>first|rfl|exact(k0 _ rfl).elim
    rw[e]at k1 k2;have e2:d.cT.jJ=true:=by cases d<;>first|exact k1|exact(k0 _ rfl).elim
    exact⟨by rw[bg,cA,e2,k3];rfl,by simp only[bK,bg];exact aO k2 k4⟩
   |cons t ts=>
    obtain⟨k1,k0,k2⟩:=jf (t:=t) (ι':=ι') (S':=S') hp.1 h1;obtain⟨k3,k4⟩:=ih (ts:=ts) hp.2 h2;have e:d.strip=d.cT:=by cases d<;>first|rfl|exact(k0 _ rfl).elim
    rw[e]at k1 k2;have e2:d.cT.jJ=true:=by cases d<;>first|exact k1|exact(k0 _ rfl).elim
    exact⟨by rw[bg,cA,e2,k3];rfl,by simp only[bK,bg];exact aO k2 k4⟩
 match vs,ds,hp,h with
 |[],ds,_,h=>rw[aN h];cases ts<;>exact⟨rfl,by simp only[bK,jV,oneOf,DV.strip,RT,eY];exact bH⟩
 |[v],ds,hp,h=>
  obtain⟨d,m',rfl,h1,h2⟩:=ax h;rw[aN h2];simp only[cA,List.all_nil,rL]at hp;cases ts with
  |nil=>obtain⟨k1,k0,k2⟩:=jf (t:=none) (ι':=ι') (S':=S') hp h1;exact⟨k1,k2⟩
  |cons t ts=>obtain⟨k1,k0,k2⟩:=jf (t:=t) (ι':=ι') (S':=S') hp h1;cases ts<;>exact⟨k1,k2⟩
 |v::u::l,ds,hp,h=>
  obtain⟨k1,k2⟩:=many (ts:=ts) hp h;obtain⟨d,m',rfl,h1,h2⟩:=ax h;obtain⟨d',m'',rfl,h3,h4⟩:=ax h2;refine⟨k1,?_⟩;have e:∀{ts:List cy},jV (bK ts (v::u::l))=.tup (bK ts (v::u::l)):=by
   intro ts;cases ts with
   |nil=>simp only[bK,jV]
   |cons t ts=>cases ts<;>simp only[bK,jV]
  rw[e];simp only[oneOf,DV.strip,RT];exact k2
theorem RX{ts:List cy}{vs:cn}{ds:cj}(hp:vs.all dY=true)(h:cz ι S vs ds):RT ι' S' (jV (bK ts vs)) (oneOf ds):=by
 have k:=kL (ts:=ts) (ι':=ι') (S':=S') hp h
 match vs,ds,hp,h,k with
 |[],ds,_,h,k=>rw[aN h];cases ts<;>(simp only[bK,jV,oneOf,RT];exact bH)
 |[v],ds,hp,h,k=>
  obtain⟨d,m',rfl,h1,h2⟩:=ax h;rw[aN h2]at k⊢;cases ts with
  |nil=>simp only[bK]at k⊢;obtain⟨_,_,e,k1,-⟩:=ax k;cases e;exact k1
  |cons t ts=>cases ts<;>(simp only[bK]at k⊢;obtain⟨_,_,e,k1,-⟩:=ax k;cases e;exact k1)
 |v::u::l,ds,hp,h,k=>
  obtain⟨d,m',rfl,h1,h2⟩:=ax h;obtain⟨d',m'',rfl,h3,h4⟩:=ax h2;have e:∀{ts:List cy},jV (bK ts (v::u::l))=.tup (bK ts (v::u::l)):=by
   intro ts;cases ts with
   |nil=>simp only[bK,jV]
   |cons t ts=>cases ts<;>simp only[bK,jV]
  rw[e];simp only[oneOf,RT];exact k
section
variable (P:Program) (ty:fo) (cE:bR) (L:Nat)
def CX(n:Nat):bR:=lK cE (dU P ty cE L n).1
def Bg(n:Nat):aY:=(dU P ty cE L n).1
def yfN(n:Nat):di:=(dU P ty cE L n).2
end
theorem iu{t:TT}:∀{l:List t.den}{ds:cj},fC t l ds->ds.length=l.length*t.size
 |[],ds,h=>by simp only[fC]at h;subst h;simp
 |x::l,ds,h=>by simp only[fC]at h;obtain⟨c,m,rfl,h1,h2⟩:=h;rw[dM,nB h1,iu h2,dA,j7,Nat.one_mul,yl]
theorem xl{t:TT}(h0:(t.agg||t.size==1)=true):∀{l:List t.den}{ds:cj},fC t l ds->dZ (CR t) t.agg l (rowsOf t.size t.agg ds l.length)
 |[],ds,h=>by simp only[fC]at h;subst h;simp[rowsOf,dZ]
 |x::l,ds,h=>by
  simp only[fC]at h;obtain⟨c,m,rfl,h1,h2⟩:=h;rw[dA,Bs (nB h1)];refine⟨?_,xl h0 h2⟩;cases ha:t.agg with
  |true=>exact⟨h1,by simp[vR]⟩
  |false=>
   have h3:=row_one h1 ha;rw[ha]at h3;have hs:t.size=1:=by rw[ha]at h0;simpa using h0
   have e2:(c++m).getD 0 bD=c.getD 0 bD:=by have:=nB h1;simp only[aP,eC (show 0<c.length by omega)]
   simp only[aJ,if_false];rw[e2];exact h3
theorem FO(h:bL ι te tS env S){g:Nat}{t t':TT}{e:Nat}{l:List t'.den}{z:Bool}{d:DV}(hg:tS[g]? =some (.rows t' e l z))(hd:RT ι S (.so g t) d)(ht:t'=t):∃id ds,d=.jl id l.length t'.agg/\ι g=some id/\S[id]? =some (.op e t'.size ds z)/\Cb S id l.length=some (e,t'.size,ds,z)/\fC t' l ds/\0<t'.size/\(t'.agg||t'.size==1)=true:=by subst ht;cases d<;>simp only[RT]at hd;rename_i id n agg;obtain⟨h1,rfl,e',s',l',z',h2,h3⟩:=hd;obtain⟨q0,q1,ds,q2,q3⟩:=h.mp g _ hg id h1;rw[h2]at q2;cases q2;have hl:=iu q3;have hn:n=l.length:=Nat.eq_of_mul_eq_mul_right q0 (h3.trans hl);subst hn;refine⟨id,l',rfl,h1,h2,?_,q3,q0,q1⟩;unfold Cb;rw[h2];simp only[h3,if_true]
theorem PF{id n:Nat}{t:TT}{e:Nat}{ds:cj}(h:Cb S id n=some (e,t.size,ds,true))(h0:0<t.size)(h1:(t.agg||t.size==1)=true):iD S (.jl id n t.agg)=.sl (rowsOf t.size t.agg ds n) none ⟨false,some false⟩:=by simp only[iD,h,pU h0,h1,gh,if_true]
def Fi(tS:cp):TV->TV
 |.so g t=>match tS[g]? with
  |some (.rows t' _ l _)=>if h:t'=t then .sl t (h▸l) .no else .so g t
  |_=>.so g t
 |v=>v
def Jx(tS:cp):TV->TV
 |.agg l=>.agg (l.map (Fi tS))
 |v=>Fi tS v
def xI(tS:cp)(vs:cn):cn:=vs.map (Jx tS)
section
variable {id:Nat} {e:TypeId} {s:Nat} {l:cj}
theorem PU{z:Bool}(h:S[id]? =some (.op e s l z))(d:DV):∃z',(xG S d)[id]? =some (.op e s l z')/\(z=true->z'=true)/\∀n ag,d=.jl id n ag->n*s=l.length->z'=true:=by
 have hn:∀n,n*s=l.length->Cb S id n=some (e,s,l,z):=λn hn=>by unfold Cb;rw[h];simp only[hn,if_true]
 unfold xG;split;rename_i iz n' ag';split;rename_i e1 s1 l1 ho;have h1:S[iz]? =some (.op e1 s1 l1 false):=by
  unfold Cb at ho;split at ho
  grind
  cases ho
 by_cases he:iz=id
 grind
 grind
 grind
 grind
theorem PW:∀(m:cj){S:aj}{z:Bool},S[id]? =some (.op e s l z)->∃z',(m.foldl xG S)[id]? =some (.op e s l z')/\(z=true->z'=true)/\∀n ag,DV.jl id n ag∈m->n*s=l.length->z'=true
 |[],S,z,h=>⟨z,h,λh=>h,λ_ _ hm=>by simp at hm⟩
 |d::m,S,z,h=>by
  obtain⟨z1,h1,h2,h3⟩:=PU h d;obtain⟨z2,k1,k2,k3⟩:=PW m h1;refine⟨z2,k1,λhz=>k2 (h2 hz),λn ag hm hn=>?_⟩;rcases aX.1 hm with hm|hm
  grind
  grind
def Zc(d:DV)(id n:Nat):Prop:=∃ag,d=.jl id n ag\/∃m,d=.agg m/\DV.jl id n ag∈m
theorem PZ{z:Bool}(h:S[id]? =some (.op e s l z))(d:DV):∃z',(sS S d)[id]? =some (.op e s l z')/\(z=true->z'=true)/\∀n,Zc d id n->n*s=l.length->z'=true:=by
 unfold sS;split;rename_i m;obtain⟨z1,h1,h2,h3⟩:=PW m h;refine⟨z1,h1,h2,λn hs hn=>?_⟩;obtain⟨ag,hs|⟨m',hs,hm⟩⟩:=hs;cases hs
 grind
 rename_i hno;obtain⟨z1,h1,h2,h3⟩:=PU h d;refine⟨z1,h1,h2,λn hs hn=>?_⟩;obtain⟨ag,hs|⟨m',hs,hm⟩⟩:=hs
 grind
 grind
theorem PT:∀(m:cj){S:aj}{z:Bool},S[id]? =some (.op e s l z)->∃z',(m.foldl sS S)[id]? =some (.op e s l z')/\(z=true->z'=true)/\∀d∈m,∀n,Zc d id n->n*s=l.length->z'=true
 |[],S,z,h=>⟨z,h,λh=>h,λ_ hm=>by simp at hm⟩
 |d::m,S,z,h=>by
  obtain⟨z1,h1,h2,h3⟩:=PZ h d;obtain⟨z2,k1,k2,k3⟩:=PT m h1;refine⟨z2,k1,λhz=>k2 (h2 hz),λd' hm n hs hn=>?_⟩;rcases aX.1 hm with rfl|hm
  grind
  grind
end
theorem KQ(h:bL ι te tS env S){S':aj}{v:TV}{d:DV}(hv:RT ι S v d)(hp:dY (Fi tS v)=true)(hh:∀id n ag e s l z,d=.jl id n ag->S[id]? =some (.op e s l z)->n*s=l.length->S'[id]? =some (.op e s l true)):RT ι S (Fi tS v) (iD S' d):=by
 cases v
 case so g t=>
  simp only[Fi]at hp⊢;split at hp;rename_i t' e l z hg;split at hp;rename_i ht;obtain⟨id,cs,rfl,h1,h2,h3,h4,h5,h6⟩:=FO h hg hv ht;subst ht;have hn:l.length*t'.size=cs.length:=(iu h4).symm;have hS:Cb S' id l.length=some (e,t'.size,cs,true):=by unfold Cb;rw[hh _ _ _ _ _ _ _ rfl h2 hn];simp only[hn,if_true]
  rw[PF hS h5 h6,dif_pos rfl];simp only[RT,pq,and_true];exact xl h6 h4;cases hp;cases hp
 all_goals first|(cases hp;done)|skip
 all_goals (simp only[Fi]at hp⊢;cases d<;>simp only[RT]at hv<;>simp only[iD,RT]<;>exact hv)
theorem Z8{v:TV}(h:zO v=true):dY v=true:=by cases v<;>first|rfl|cases h
theorem GB(h:bL ι te tS env S){S':aj}:∀{l:cn}{m:cj},cz ι S l m->(l.map (Fi tS)).all zO=true->(∀d∈m,∀id n ag e s l z,d=.jl id n ag->S[id]? =some (.op e s l z)->n*s=l.length->S'[id]? =some (.op e s l true))->cz ι S (l.map (Fi tS)) (m.map (iD S'))
 |[],m,hd,_,_=>by rw[aN hd];exact bH
 |v::l,m,hd,hp,hh=>by obtain⟨d,m',rfl,h1,h2⟩:=ax hd;simp only[bg,cA,aC]at hp⊢;exact aO (KQ h h1 (Z8 hp.1) (hh d gG)) (GB h h2 hp.2 λd hd=>hh d (mH _ hd))
theorem ad5{v:TV}{d:DV}(hv:RT ι S v d)(hp:dY (Jx tS v)=true):∀l,d≠.tup l:=by intro l e;subst e;cases v<;>first|(simp only[RT]at hv;done)|(simp only[Jx,Fi]at hp;cases hp)
theorem Sj(h:bL ι te tS env S){S':aj}{v:TV}{d:DV}(hv:RT ι S v d)(hp:dY (Jx tS v)=true)(hh:∀id n e s l z,Zc d id n->S[id]? =some (.op e s l z)->n*s=l.length->S'[id]? =some (.op e s l true)):RT ι S (Jx tS v) (sK S' d)/\∀l,d≠.tup l:=by
 cases v
 case agg l=>
  cases d<;>simp only[RT]at hv;rename_i m;simp only[Jx,dY]at hp;refine⟨?_,λ_ e=>ar⟩;simp only[Jx,sK,RT];exact GB h hv hp λd hd id n ag e s l z he=>hh id n e s l z ⟨ag,.inr ⟨m,rfl,he▸hd⟩⟩
 all_goals
  have hd:(∀l,d≠.agg l)/\∀l,d≠.tup l:=by constructor<;>intro l e<;>subst e<;>first|(simp only[RT]at hv;done)|(simp only[Jx,Fi]at hp;cases hp)
  refine⟨?_,hd.2⟩;have e:sK S' d=iD S' d:=by cases d<;>first|rfl|exact(hd.1 _ rfl).elim
  rw[e];exact KQ h hv hp λid n ag e s l z he=>hh id n e s l z ⟨ag,.inl he⟩
theorem ad4(h:bL ι te tS env S){vs:cn}{ds:cj}(hd:cz ι S vs ds)(hp:(xI tS vs).all dY=true):∃hU,oneOf hU=tf (HH S (oneOf ds)) (oneOf ds)/\cz ι S (xI tS vs) hU:=by
 have many:∀{S':aj}{vs:cn}{ds:cj},cz ι S vs ds->(xI tS vs).all dY=true->(∀d∈ds,∀id n e s l z,Zc d id n->S[id]? =some (.op e s l z)->n*s=l.length->S'[id]? =some (.op e s l true))->cz ι S (xI tS vs) (ds.map (sK S'))/\∀d∈ds,∀l,d≠.tup l:=by
  intro S' vs;induction vs with
  |nil=>intro ds hd _ _;rw[aN hd];exact⟨bH,ab⟩
  |cons v vs ih=>
   intro ds hd hp hh;obtain⟨d,m',rfl,h1,h2⟩:=ax hd;simp only[xI,bg,cA,aC]at hp;obtain⟨a1,a2⟩:=Sj h h1 hp.1 (hh d gG);obtain⟨b1,b2⟩:=ih h2 hp.2 λd hd=>hh d (mH _ hd);refine⟨aO a1 b1,λd' xz=>?_⟩;rcases aX.1 xz with rfl|xz;exact a2
   grind
 match vs,ds,hd,hp with
 |[v],ds,hd,hp=>
  obtain⟨d,m',rfl,k1,k2⟩:=ax hd;rw[aN k2]at hd⊢;have hp1:=hp;simp only[xI,bg,eY,cA,List.all_nil,rL]at hp1;have h0:=ad5 k1 hp1;have e1:HH S d=sS S d:=by cases d<;>first|rfl|exact(h0 _ rfl).elim
  have e2:tf (sS S d) d=sK (sS S d) d:=by cases d<;>first|rfl|exact(h0 _ rfl).elim
  refine⟨[d].map (sK (sS S d)),by simp only[oneOf,bg,eY,e1,e2],(many hd hp λd' xz id n e s l z hs ho hn=>?_).1⟩;simp only[bQ]at xz;subst xz;obtain⟨z',q1,-,q3⟩:=PZ ho d';rw[q3 n hs hn]at q1;exact q1
 |[],ds,hd,_=>exact⟨[],by rw[aN hd];rfl,bH⟩
 |v::u::vs,ds,hd,hp=>
  obtain⟨d,m',rfl,k1,k2⟩:=ax hd;obtain⟨d',m'',rfl,k3,k4⟩:=ax k2;refine⟨(d::d'::m'').map (sK ((d::d'::m'').foldl sS S)),rfl,(many hd hp λd1 YG id n e s l z hs ho hn=>?_).1⟩;obtain⟨z',q1,-,q3⟩:=PT (d::d'::m'') ho;rw[q3 d1 YG n hs hn]at q1;exact q1
def acZ(ty:fo)(rs:List ResultVar)(kQ:List cy)(Q:TV->Prop)(e:DX)(te:cn)(tS:cp):Prop:=
 (match e with|.exit _=>False|_=>True)/\∃vs,wB ty te tS rs=some vs/\(xI tS vs).all dY=true/\refs (jV (bK kQ (xI tS vs)))=[]/\Q (jV (bK kQ (xI tS vs)))
theorem Xv{cE:bR}{L n:Nat}{f:FuncId}{fn:Func}{c:Code}{targs:cn}{kQ:List cy}{Q:TV->Prop}(hf:P.funcs[f]? =some fn)(hb:fn.body=some c)(ht:∀a,cz gC [] targs a->cE f a=none)
  (h:WT P ty (CX P ty cE L n) (Bg P ty cE L n) (yfN P ty cE L n) [] L f false c (targs++List.replicate (fn.ntmps-targs.length) .unk) [] (acZ ty fn.results.toList kQ Q)):tE (CX P ty cE L (n+1)) f targs Q:=by
 intro bT hd;have hlen:=gR hd;have hR:bL gC (targs++List.replicate (fn.ntmps-targs.length) .unk) [] (bT++List.replicate (fn.ntmps-bT.length) bD) []:=by refine⟨eH hd (by rw[hlen];exact x6 _ _),λk l hk=>(by simp at hk),λk e s hk=>(by simp at hk),λk k' hk=>(by cases hk),λi j k' hi=>(by cases hi),λk b hk=>(by simp at hk)⟩
 obtain⟨e,aK,S',ι',bO,bI,h1,h2,h3,h4,h5,h6⟩:=h gC _ [] hR (λk hk=>(by cases hk));obtain⟨h6,vs,h7,h8,h9,vE⟩:=h6;obtain⟨ds,k1,k2⟩:=x7 h2 h7;obtain⟨ds2,c1,c2⟩:=ad4 h2 k2 h8;obtain⟨k3,k4⟩:=RU (ts:=kQ) (ι':=gC) (S':=[]) h8 c2;refine⟨(oneOf ds2).strip,_,?_,k3,k4,h9,vE⟩;have hc:(dU P ty cE L (n+1)).1 f bT []=some (oneOf ds,S'):=by
  simp only[dU,hf,vP,hb];have Mh:cD P ty (lK cE (dU P ty cE L n).1) (dU P ty cE L n).1 (dU P ty cE L n).2 L f false c (bT++List.replicate (fn.ntmps-bT.length) bD) []=some (e,aK,S'):=h1;rw[Mh];cases e with
  |normal=>simp only[k1,az]
  |ret=>simp only[k1,az]
  |exit id=>exact h6.elim
 simp only[CX,lK,ht _ hd,hc,<-c1,k3,if_true]
def Uk(ty:fo)(rs:List ResultVar)(kQ:List cy)(ni:List cy)(Q:TV->cn->Prop)(e:DX)(te:cn)(tS:cp):Prop:=
 (match e with|.exit _=>False|_=>True)/\∃vs ts,wB ty te tS rs=some vs/\vs.all dY=true/\refs (jV (bK kQ vs))=[]/\tS[0]? =some (.cells ts)/\ts.all dY=true/\eL (bK ni ts)=[]/\Q (jV (bK kQ vs)) (bK ni ts)
theorem XL{cE:bR}{L n:Nat}{f:FuncId}{fn:Func}{c:Code}{targs ts:cn}{kQ ni:List cy}{Q:TV->cn->Prop}(hf:P.funcs[f]? =some fn)(hb:fn.body=some c)
  (h:WT P ty (CX P ty cE L n) (Bg P ty cE L n) (yfN P ty cE L n) [0] L f false c (targs++List.replicate (fn.ntmps-targs.length) .unk) [.cells ts] (Uk ty fn.results.toList kQ ni Q)):Bj (Bg P ty cE L (n+1)) f targs ts Q:=by
 intro ι bT S hR;have hlen:=gR hR.env;have jM:bL ι (targs++List.replicate (fn.ntmps-targs.length) .unk) [.cells ts] (bT++List.replicate (fn.ntmps-bT.length) bD) S:=
  ⟨eH hR.env (by rw[hlen];exact x6 _ _),hR.cells,hR.own,hR.qc,hR.inj,hR.mp⟩
 obtain⟨e,aK,S',ι',bO,bI,h1,h2,h3,h4,h5,h6⟩:=h ι _ S jM (λk hk=>(by
  have:k=0:=by simpa using hk
  subst this;exact⟨ts,rfl⟩))
 obtain⟨h6,vs,zw,h7,h8,h9,vE,FJ,TQ,h13⟩:=h6;obtain⟨ds,k1,k2⟩:=x7 h2 h7;obtain⟨k',hU,m1,m2,m3⟩:=h2.cells 0 zw vE;refine⟨oneOf ds,S',ι',_,bK ni zw,k',hU,?_,RX (ts:=kQ) h8 k2,h9,TQ,by rw[<-h4.base 0 ab];exact m1,m2,kL FJ m3,h4,h5,h13⟩;simp only[Bg,dU,hf,vP,hb];have Mh:cD P ty (lK cE (dU P ty cE L n).1) (dU P ty cE L n).1 (dU P ty cE L n).2 L f false c (bT++List.replicate (fn.ntmps-bT.length) bD) S=some (e,aK,S'):=h1;rw[Mh];cases e with
 |normal=>simp only[k1,az]
 |ret=>simp only[k1,az]
 |exit id=>exact h6.elim
end Go.Tv
namespace Go.Tv
open Go Go.Di
section
variable (P:Program) (ty:fo) (tt:TypeId->cy)
def Us:cn->Option Nat
 |[]=>none
 |v::l=>match refs v with
  |k::_=>if isRef v then some k else Us l
  |[]=>Us l
end
variable {P:Program} {ty:fo} {tt:TypeId->cy} {ι ι' w:kB} {S S':aj} {te lG:cn} {env:cj} {tS gZ:cp} {aD:bR} {call:aY} {yf:di} {o:Oper} {aB nT:Nat} {B:cx} {r:TR} {ops:Array Oper} {L:Nat} {fn:FuncId} {iA:Bool} {a b c:Code} {Q Q':DX->cn->cp->Prop}
variable {fs:cX}
def WI(P:Program)(ty:fo)(aD:bR)(call:aY)(yf:di)(B:cx)(L:Nat)(fn:FuncId)(iA:Bool)(n:Nat)(c:Code)(te:cn)(tS:cp)(Q:DX->cn->cp->Prop):Prop:=
 ∀ι env S,bL ι te tS env S->nM B tS->∃e aK S' ι' bO bI,nG (cD P ty aD call yf L fn iA c) n env S=some (e,aK,S')/\bL ι' bO bI aK S'/\nM B bI/\Fr B ι S ι' S'/\Nn S.length S S'/\Q e bO bI
theorem AB{f:cj->aj->Option (DX×cj×aj)}:∀{n m:Nat}{env:cj}{S:aj}{r:DX×cj×aj},n<=m->nG f n env S=some r->nG f m env S=some r
 |0,_,_,_,_,_,h=>ao
 |n+1,0,_,_,_,hn,_=>U
 |n+1,m+1,env,S,r,hn,h=>by simp only[nG]at h⊢;split at h;rename_i aK S' e;exact AB U h;exact h
theorem QM{n:Nat}(hn:n<=L)(h:WI P ty aD call yf B L fn iA n c te tS Q):WT P ty aD call yf B L fn iA (.loop c) te tS Q:=by intro ι env S hR hB;obtain⟨e,aK,S',ι',bO,bI,h1,h2⟩:=h ι env S hR hB;exact⟨e,aK,S',ι',bO,bI,by simp only[cD];exact AB hn h1,h2⟩
theorem ZA{n:Nat}(h:WT P ty aD call yf B L fn iA c te tS λe te tS=>match e with|.normal=>WI P ty aD call yf B L fn iA n c te tS Q|e=>Q e te tS):WI P ty aD call yf B L fn iA (n+1) c te tS Q:=by
 intro ι env S hR hB;obtain⟨e,aK,S',ι',bO,bI,h1,h2,h3,h4,h5,h6⟩:=h ι env S hR hB;cases e with
 |normal=>obtain⟨e,qC,wq,ι'',s5,s6,k1,k2,k3,k4,k5,k6⟩:=h6 ι' aK S' h2 h3;exact⟨e,qC,wq,ι'',s5,s6,by simp only[nG,h1,k1],k2,k3,h4.trans k4,tT h5 k5,k6⟩
 |exit id=>exact⟨_,aK,S',ι',bO,bI,by simp only[nG,h1],h2,h3,h4,h5,h6⟩
 |ret=>exact⟨_,aK,S',ι',bO,bI,by simp only[nG,h1],h2,h3,h4,h5,h6⟩
theorem ZD{n:Nat}(hl:uD lG te)(hb:BR gZ tS)(jU:okB lG gZ=true)(hB:∀k,k∈B->kU gZ k=true)(h:WI P ty aD call yf B L fn iA n c lG gZ Q):WI P ty aD call yf B L fn iA n c te tS Q:=by intro ι env S hR Qt;have Qu:=yU hb Qt hB;obtain⟨ι1,h1,h2,-⟩:=yH hR hl hb jU Qu;obtain⟨e,aK,S',ι',bO,bI,m1,m2,m3,m4,m5⟩:=h ι1 env S h1 Qu;exact⟨e,aK,S',ι',bO,bI,m1,m2,m3,h2.trans m4,m5⟩
theorem ZC{σ:Type}{N:Nat}(f:σ->cn×cp)(kO:σ->Prop)(m:σ->Nat)(s0:σ)(h0:Fits B (f s0).1 (f s0).2 te tS)(hg:kO s0)(hm:m s0<N)
  (hstep:∀s,kO s->WT P ty aD call yf B L fn iA c (f s).1 (f s).2 λe te tS=>match e with|.normal=>∃s',Fits B (f s').1 (f s').2 te tS/\kO s'/\m s'<m s|e=>Q e te tS):WI P ty aD call yf B L fn iA N c te tS Q:=by
 refine ZD h0.l h0.b h0.ok h0.base ?_;have key:∀n s,kO s->m s<n->∀ι env S,bL ι (f s).1 (f s).2 env S->nM B (f s).2->∃e aK S' ι' bO bI,nG (cD P ty aD call yf L fn iA c) n env S=some (e,aK,S')/\bL ι' bO bI aK S'/\nM B bI/\Fr B ι S ι' S'/\Nn S.length S S'/\Q e bO bI:=by
  intro n;induction n with
  |zero=>intro s _ h;omega
  |succ n ih=>
   intro s hs hn ι env S hR hB;obtain⟨e,aK,S',ι',bO,bI,h1,h2,h3,h4,h5,h6⟩:=hstep s hs ι env S hR hB;cases e with
   |normal=>obtain⟨s',hf,q9,hlt⟩:=h6;have Qu:=yU hf.b h3 hf.base;obtain⟨ι1,k1,k2,-⟩:=yH h2 hf.l hf.b hf.ok Qu;obtain⟨e,qC,wq,ι'',s5,s6,m1,m2,m3,m4,m5,m6⟩:=ih s' q9 U ι1 aK S' k1 Qu;exact⟨e,qC,wq,ι'',s5,s6,by simp only[nG,h1,m1],m2,m3,(h4.trans k2).trans m4,tT h5 m5,m6⟩
   |exit id=>exact⟨_,aK,S',ι',bO,bI,by simp only[nG,h1],h2,h3,h4,h5,h6⟩
   |ret=>exact⟨_,aK,S',ι',bO,bI,by simp only[nG,h1],h2,h3,h4,h5,h6⟩
 intro ι env S hR hB;exact key N s0 hg hm ι env S hR hB
theorem Zt{σ:Type}(f:σ->cn×cp)(kO:σ->Prop)(h1:WT P ty aD call yf B L fn iA a te tS λe te tS=>match e with|.normal=>∃s,Fits B (f s).1 (f s).2 te tS/\kO s|e=>Q e te tS)
  (h2:∀s,kO s->WT P ty aD call yf B L fn iA b (f s).1 (f s).2 Q):WT P ty aD call yf B L fn iA (.seq a b) te tS Q:=by
 refine U2 (h1.mono ?_);intro e te tS hq;cases e with
 |normal=>obtain⟨s,hf,hg⟩:=hq;exact Zs hf.l hf.b hf.ok hf.base (h2 s hg)
 |exit id=>exact hq
 |ret=>exact hq
theorem KW:∀owns:List (Nat×Nat),BR (owns.map λp=>TB.own p.1 p.2) []
 |[]=>.nil
 |_::l=>.new (KW l)
end Go.Tv
namespace Go.Di
open Go Go.Proofs
def afG(d:Tmp)(t:TypeId):Nat:=if t==23 then(if d==53 then 1 else if d==2 then 1 else 0)else if t==42 then(if d==39 then 1 else if d==53 then 2 else 0)else 0
noncomputable abbrev TyH:fo:=⟨TW Tryz.prog,afG⟩
end Go.Di
