import Derived.Test.YtadeehilamokkaaGreatDoorPk04
import Derived.Test.YtadeehilamokkaaGreatDoorPk01
import Derived.Test.YtadeehilamokkaaGreatDoorProg
namespace Go.Tv
open Go Go.Di
def Aw:TV->Bool
 |.val v=>!(v matches .tuple _)
 |.jD|.sl _ _ _=>true
 |_=>false
def eu:TV->Bool
 |.agg l=>l.all Aw
 |.val _|.jD|.sl _ _ _=>true
 |_=>false
def qY:TV->TV
 |.sl k l _=>.sl k l .no
 |.jD=>.unk
 |v=>v
def kE:cJ->TV->TV
 |some (.sl e),.jD=>.sl e [] .no
 |_,.jD=>.unk
 |_,.sl k l (.stop _)=>.sl k l (.stop false)
 |_,.sl k l _=>.sl k l .no
 |some t,.agg l=>match t.of l with
  |some (x,[])=>.agg (t.cells x)
  |_=>.agg (l.map qY)
 |none,.agg l=>.agg (l.map qY)
 |_,v=>v
def bL:List cJ->cp->cp
 |_,[]=>[]
 |[],v::l=>kE none v::bL [] l
 |t::ts,v::l=>kE t v::bL ts l
def fM(tt:TypeId->cJ)(fs:cp)(argTypes:Array TypeId):List cJ:=fs.map (λ_=>none)++argTypes.toList.map tt
variable {P:Program} {ty:fo} {tt:TypeId->cJ} {ι ι' w:kW} {S S':aj} {te mh:cp} {env:cn} {tS iq:cx} {aD:bT} {call:bg} {yf:dx} {o:Oper} {aB nT:Nat} {B:cy} {r:TR} {ops:Array Oper}
mutual
theorem oN:∀(v:TV)(d:DV),refs v=[]->RT ι S v d->RT ι' S' v d
 |.unk,_,_,_=>by simp only[RT]
 |.val _,d,_,k=>by cases d<;>simp only[RT]at k⊢;exact k
 |.jD,d,_,k=>by cases d<;>simp only[RT]at k⊢;exact k
 |.agg l,d,h,k=>by cases d<;>simp only[RT]at k⊢;exact jq l _ h k
 |.tup l,d,h,k=>by cases d<;>simp only[RT]at k⊢;exact jq l _ h k
 |.sl t l .no,d,_,k=>by cases d<;>simp only[RT]at k⊢;exact k
 |.sl t l .full,d,_,k=>by cases d<;>simp only[RT]at k⊢;exact k
 |.sl t l (.stop _),d,_,k=>by cases d<;>simp only[RT]at k⊢;exact k
 |.sl t l (.Ci g),d,h,k=>by simp[refs]at h
 |.sl t l (.oS g),d,h,k=>by simp[refs]at h
 |.ptr id off,d,h,k=>by simp[refs]at h
 |.eU t l i off,d,_,k=>by cases d<;>simp only[RT]at k⊢;exact k
 |.mp id,d,h,k=>by simp[refs]at h
 |.so g t,d,h,k=>by simp[refs]at h
 |.nN k0 fn te,d,h,k=>by simp[refs]at h
 |.sp g t i off,d,h,k=>by simp[refs]at h
 |.fn f a b,d,h,k=>by cases d<;>simp only[RT]at k⊢;simp only[refs,List.append_eq_nil_iff]at h;exact⟨k.1,jq a _ h.1 k.2.1,jq b _ h.2 k.2.2⟩
theorem jq:∀(l:cp)(m:cn),eM l=[]->cq ι S l m->cq ι' S' l m
 |[],m,_,k=>by rw[aO k];exact bJ
 |a::l,m,h,k=>by obtain⟨d,m',rfl,h1,h2⟩:=ax k;simp only[eM,List.append_eq_nil_iff]at h;exact aP (oN a d h.1 h1) (jq l m' h.2 h2)
end
theorem Md{v:TV}{d:DV}(hp:Aw v=true)(h:RT ι S v d):d.aM.bU=true/\RT ι' S' (qY v) d.aM:=by
 cases v<;>first|(cases hp;done)|skip
 cases d<;>simp only[RT]at h;subst h;exact⟨hp,by simp only[qY,RT,DV.aM]⟩;cases d<;>simp only[RT]at h;exact⟨rfl,by simp only[qY,RT]⟩;cases d<;>simp only[RT]at h;exact⟨rfl,by simp only[qY,RT,DV.aM];exact⟨h.1,trivial⟩⟩
theorem BQ:∀{l:cp}{m:cn},l.all Aw=true->cq ι S l m->(m.map DV.aM).all DV.bU=true/\cq ι' S' (l.map qY) (m.map DV.aM)
 |[],m,_,h=>by rw[aO h];exact⟨rfl,bJ⟩
 |a::l,m,hp,h=>by obtain⟨d,m',rfl,h1,h2⟩:=ax h;simp only[cg,aC]at hp;obtain⟨k1,k2⟩:=Md (ι':=ι') (S':=S') hp.1 h1;obtain⟨k3,k4⟩:=BQ hp.2 h2;exact⟨by simp[k1]at k3⊢;exact k3,aP k2 k4⟩
theorem El:∀{t:TT}{l:cp}{x:t.den}{r:cp}{m:cn},t.of l=some (x,r)->cq ι S l m->∃c m',m=c++m'/\cq ι' S' (t.cells x) c/\cq ι S r m'
 |.int k,l,x,r,m,h,hm=>by simp only[TT.of]at h;unfold ofInt at h;split at h;split at h;rename_i hk;cases h;obtain⟨d,m',rfl,h1,h2⟩:=ax hm;cases d<;>simp only[RT]at h1;subst h1;subst hk;exact⟨[_],m',rfl,kI (by simp only[RT]),h2⟩;cases h;cases h
 |.bool,l,x,r,m,h,hm=>by simp only[TT.of]at h;unfold ofBool at h;split at h;cases h;obtain⟨d,m',rfl,h1,h2⟩:=ax hm;cases d<;>simp only[RT]at h1;subst h1;exact⟨[_],m',rfl,kI (by simp only[RT]),h2⟩;cases h
 |.str,l,x,r,m,h,hm=>by simp only[TT.of]at h;unfold ofStr at h;split at h;cases h;obtain⟨d,m',rfl,h1,h2⟩:=ax hm;cases d<;>simp only[RT]at h1;subst h1;exact⟨[_],m',rfl,kI (by simp only[RT]),h2⟩;cases h
 |.unit,l,x,r,m,h,hm=>by simp only[TT.of]at h;cases h;exact⟨[],m,rfl,bJ,hm⟩
 |.pair a b,l,x,r,m,h,hm=>by simp only[TT.of]at h;split at h;rename_i x1 r1 h1;split at h;rename_i y r2 h2;cases h;obtain⟨c,m1,rfl,k1,k2⟩:=El h1 hm;obtain⟨c',m2,rfl,k3,k4⟩:=El h2 k2;exact⟨c++c',m2,ae,eH k1 k3,k4⟩;cases h;cases h
 |.sl t,l,x,r,m,h,hm=>by simp only[TT.of]at h;unfold aah at h;split at h;split at h;rename_i ht;subst ht;cases h;obtain⟨d,m',rfl,h1,h2⟩:=ax hm;cases d<;>simp only[RT]at h1;exact⟨[_],m',rfl,kI (by simp only[RT];exact⟨h1.1,trivial⟩),h2⟩;cases h;cases h;obtain⟨d,m',rfl,h1,h2⟩:=ax hm;cases d<;>simp only[RT]at h1;obtain⟨rfl,rfl,rfl⟩:=h1;exact⟨[_],m',rfl,kI (by simp only[RT,ei];exact⟨trivial,trivial⟩),h2⟩;cases h
theorem js{t:cJ}{v:TV}{d:DV}(hp:eu v=true)(h:RT ι S v d):d.strip.pure=true/\(∀l,d≠.tup l)/\RT ι' S' (kE t v) d.strip:=by
 cases v with
 |agg l=>
  cases d<;>simp only[RT]at h;rename_i m;obtain⟨k1,k2⟩:=BQ (ι':=ι') (S':=S') hp h;refine⟨k1,λ_ e=>aE,?_⟩;cases t with
  |none=>simp only[kE,RT,DV.strip,DV.cZ];exact k2
  |some t=>
   have e:kE (some t) (.agg l)=match t.of l with|some (x,[])=>.agg (t.cells x)|_=>.agg (l.map qY):=by cases t<;>rfl
   rw[e];split;rename_i x ho;obtain⟨c,m',rfl,n1,n2⟩:=Gk ho h;rw[aO n2,iR];simp only[RT,DV.strip,DV.cZ];exact pO n1;simp only[RT,DV.strip,DV.cZ];exact k2
 |val u=>
  cases d<;>simp only[RT]at h;rename_i u';subst h;refine⟨rfl,λ_ e=>aE,?_⟩;have e:kE t (.val u')=.val u':=by cases t with|none=>rfl|some t=>cases t<;>rfl
  rw[e];simp only[RT,DV.strip,DV.cZ]
 |jD=>
  cases d<;>simp only[RT]at h;obtain⟨rfl,rfl,rfl⟩:=h;refine⟨rfl,λ_ e=>aE,?_⟩;cases t with
  |none=>simp only[kE,RT]
  |some t=>
   cases t with
   |sl e=>simp only[kE,RT,DV.strip,DV.cZ,ei];exact⟨trivial,trivial⟩
   |_=>simp only[kE,RT]
 |sl k l ap=>
  cases d<;>simp only[RT]at h;refine⟨rfl,λ_ e=>aE,?_⟩;have e:∃RH,kE t (.sl k l ap)=.sl k l RH/\(RH=.no\/∃b,RH=.stop b):=by
   cases ap with
   |stop b=>exact⟨.stop false,by cases t with|none=>rfl|some t=>cases t<;>rfl,.inr ⟨_,rfl⟩⟩
   |_=>exact⟨.no,by cases t with|none=>rfl|some t=>cases t<;>rfl,.inl rfl⟩
  obtain⟨RH,e,e'⟩:=e;rw[e];have e':∀{ι S n tok f},qb ι S n tok f RH:=by rcases e' with rfl|⟨b,rfl⟩<;>exact trivial
  simp only[RT,DV.strip,DV.cZ];exact⟨h.1,e'⟩
 |_=>cases hp
theorem sL{t:cJ}{v:TV}{d:DV}(hp:eu v=true)(h:RT ι S v d):RT ι' S' (kE t v) d:=by
 have n1:∀{l:cp}{m:cn},l.all Aw=true->cq ι S l m->cq ι' S' (l.map qY) m:=by
  intro l;induction l with
  |nil=>intro m _ h;rw[aO h];exact bJ
  |cons a l ih=>
   intro m hp h;obtain⟨d,m',rfl,h1,h2⟩:=ax h;simp only[cg,aC]at hp;refine aP ?_ (ih hp.2 h2);cases a<;>first|(cases hp.1;done)|skip
   cases d<;>simp only[RT]at h1;simp only[qY,RT];exact h1
   simp only[qY,RT];cases d<;>simp only[RT]at h1;simp only[qY,RT];exact⟨h1.1,trivial⟩
 cases v with
 |agg l=>
  cases d<;>simp only[RT]at h;rename_i m;cases t with
  |none=>simp only[kE,RT];exact n1 hp h
  |some t=>
   have e:kE (some t) (.agg l)=match t.of l with|some (x,[])=>.agg (t.cells x)|_=>.agg (l.map qY):=by cases t<;>rfl
   rw[e];split;rename_i x ho;obtain⟨c,m',rfl,k1,k2⟩:=El (ι':=ι') (S':=S') ho h;rw[aO k2,iR];simp only[RT];exact k1;simp only[RT];exact n1 hp h
 |val u=>
  cases d<;>simp only[RT]at h;have e:kE t (.val u)=.val u:=by cases t with|none=>rfl|some t=>cases t<;>rfl
  rw[e];simp only[RT];exact h
 |jD=>
  cases d<;>simp only[RT]at h;obtain⟨rfl,rfl,rfl⟩:=h;cases t with
  |none=>simp only[kE,RT]
  |some t=>
   cases t with
   |sl e=>simp only[kE,RT,ei];exact⟨trivial,trivial⟩
   |_=>simp only[kE,RT]
 |sl k l ap=>
  cases d<;>simp only[RT]at h;have e:∃RH,kE t (.sl k l ap)=.sl k l RH/\(RH=.no\/∃b,RH=.stop b):=by
   cases ap with
   |stop b=>exact⟨.stop false,by cases t with|none=>rfl|some t=>cases t<;>rfl,.inr ⟨_,rfl⟩⟩
   |_=>exact⟨.no,by cases t with|none=>rfl|some t=>cases t<;>rfl,.inl rfl⟩
  obtain⟨RH,e,e'⟩:=e;rw[e];have e':∀{ι S n tok f},qb ι S n tok f RH:=by rcases e' with rfl|⟨b,rfl⟩<;>exact trivial
  simp only[RT];exact⟨h.1,e'⟩
 |_=>cases hp
theorem jy:∀{ts:List cJ}{l:cp}{m:cn},l.all eu=true->cq ι S l m->(m.map DV.strip).all DV.pure=true/\cq ι' S' (bL ts l) (m.map DV.strip)
 |_,[],m,_,h=>by rw[aO h];exact⟨rfl,by simp only[bL,dR];exact bJ⟩
 |[],a::l,m,hp,h=>by obtain⟨d,m',rfl,h1,h2⟩:=ax h;simp only[cg,aC]at hp;obtain⟨k1,-,k2⟩:=js (t:=none) (ι':=ι') (S':=S') hp.1 h1;obtain⟨k3,k4⟩:=jy (ts:=[]) hp.2 h2;refine⟨?_,by simp only[bL,aZ];exact aP k2 k4⟩;rw[aZ,cg,k1,k3];rfl
 |t::ts,a::l,m,hp,h=>by obtain⟨d,m',rfl,h1,h2⟩:=ax h;simp only[cg,aC]at hp;obtain⟨k1,-,k2⟩:=js (t:=t) (ι':=ι') (S':=S') hp.1 h1;obtain⟨k3,k4⟩:=jy (ts:=ts) hp.2 h2;refine⟨?_,by simp only[bL,aZ];exact aP k2 k4⟩;rw[aZ,cg,k1,k3];rfl
theorem lB:∀{ts:List cJ}{l:cp}{m:cn},l.all eu=true->cq ι S l m->cq ι' S' (bL ts l) m
 |_,[],m,_,h=>by rw[aO h];simp only[bL];exact bJ
 |[],a::l,m,hp,h=>by obtain⟨d,m',rfl,h1,h2⟩:=ax h;simp only[cg,aC]at hp;simp only[bL];exact aP (sL hp.1 h1) (lB hp.2 h2)
 |t::ts,a::l,m,hp,h=>by obtain⟨d,m',rfl,h1,h2⟩:=ax h;simp only[cg,aC]at hp;simp only[bL];exact aP (sL hp.1 h1) (lB hp.2 h2)
def gI:kW:=λ_=>none
def ug(aD:bT)(g:FuncId)(targs:cp)(Q:TV->Prop):Prop:=
 ∀bV,cq gI [] targs bV->∃d v,aD g bV=some d/\d.pure=true/\RT gI [] v d/\refs v=[]/\Q v
theorem ug.mono {g:FuncId}{targs:cp}{Q Q':TV->Prop}(h:ug aD g targs Q)(hq:∀v,Q v->Q' v):ug aD g targs Q':=λbV hd=>by obtain⟨d,v,h1,h2,h3,h4,h5⟩:=h bV hd;exact⟨d,v,h1,h2,h3,h4,hq v h5⟩
theorem ig(hE:cq ι S te env){f:Operand}{args:Array Operand}{g:FuncId}{fs cs xs:cp}(hf:eL te f=some (.fn g fs cs))(ha:lD te args.toList=some xs):
  ∃xe iB F5,ir env f=some (.fn g xe iB)/\evs (ir env) args.toList=some F5/\cq ι S (fs++xs++cs) (xe++F5++iB):=by
 obtain⟨d,k1,k2⟩:=bp hE hf;obtain⟨F5,k3,k4⟩:=sA hE ha;cases d<;>simp only[RT]at k2;obtain⟨rfl,k5,k6⟩:=k2;exact⟨_,_,F5,k1,k3,eH (eH k5 k4) k6⟩
theorem Fj{f:Operand}{args:Array Operand}{argTypes:Array TypeId}{g:FuncId}{fs cs xs targs:cp}{Q:TV->Prop}(hop:o.op=.call {callee:=.value f,args,argTypes})(hh:ty.h o≠1)(hf:eL te f=some (.fn g fs cs))(ha:lD te args.toList=some xs)(hp:(fs++xs++cs).all eu=true)
  (hn:bL (fM tt fs argTypes) (fs++xs++cs)=targs) (hs:ug aD g targs Q) (dr:Bool):Does P ty aD call yf B o nT te tS dr λv bS bK ft=>Q v/\bS=te/\bK=tS/\ft=⟨some [],false⟩:=by
 intro ι w env S aB hR hB hw hT Dh hS;obtain⟨xe,iB,F5,k1,k2,k3⟩:=ig hR.env hf ha;obtain⟨k4,k5⟩:=jy (ts:=fM tt fs argTypes) (ι':=gI) (S':=[]) hp k3;rw[hn]at k5;obtain⟨d,v,m1,m2,m3,m4,m5⟩:=hs _ k5;refine⟨d,S,ι,w,v,te,tS,⟨some [],false⟩,⟨some [],false⟩,λ_=>?_,λhd=>?_,⟨id,λl hl=>⟨[],rfl,λj hj=>(by cases hj)⟩⟩,λl m _ hm j hj=>(by cases hm;cases hj),hR,oN _ _ m4 m3,hw,λ_ _ _=>rfl,Fr.refl _ _ _,hB,fP _ _,m5,rfl,rfl,rfl⟩;simp only[ah,hop,k1,k2,wN,k4,if_true,m1];simp only[aH,hop,k1,k2,if_neg hh,k4,if_true,m1,ay]
theorem Xp{k:Nat}{f:Operand}{args:Array Operand}{argTypes:Array TypeId}{g:FuncId}{fs cs xs targs:cp}{K:TV->Prop}{Q:cp->Prop}(ho:ops[k]? =some o)(hw:dN ops te o=some true)(hop:o.op=.call {callee:=.value f,args,argTypes})(hh:ty.h o≠1)(hf:eL te f=some (.fn g fs cs))(ha:lD te args.toList=some xs)(hp:(fs++xs++cs).all eu=true)
  (hn:bL (fM tt fs argTypes) (fs++xs++cs)=targs) (hs:ug aD g targs K) (h:∀v,K v->WQ P ty aD call yf ops tS (k+1) (jV te o.dst v) Q):WQ P ty aD call yf ops tS k te Q:=by
 intro ι env S hR;obtain⟨xe,iB,F5,k1,k2,k3⟩:=ig hR.env hf ha;obtain⟨k4,k5⟩:=jy (ts:=fM tt fs argTypes) (ι':=gI) (S':=[]) hp k3;rw[hn]at k5;obtain⟨d,v,m1,m2,m3,m4,m5⟩:=hs _ k5;obtain⟨aL,bS,n1,n2,n3⟩:=h v m5 ι (j4 env o.dst d) S (oA hR (oN _ _ m4 m3) _);refine⟨aL,bS,?_,n2,n3⟩;rw[oE ho];have hq:de P ty aD call yf (ir env) o S=some d:=by simp only[de,hop,k1,k2,if_neg hh,k4,if_true,m1]
 simp only[qI,ia hR.env hw,if_true,hq,n1]
def isRef:TV->Bool
 |.ptr _ _|.fn _ _ _=>true
 |_=>false
def aaD(kp:Nat)(t:cJ):TV->Option TV
 |.ptr k off=>if k=kp then some (.ptr 0 off)else none
 |v=>if eu v then some (kE t v)else none
def KA(kp:Nat):cp->Option cp
 |[]=>some []
 |v::l=>match aaD kp none v,KA kp l with
  |some a,some b=>some (a::b)
  |_,_=>none
def aaG(kp:Nat)(t:cJ):TV->Option TV
 |.fn g fs cs=>match KA kp fs,KA kp cs with
  |some a,some b=>some (.fn g a b)
  |_,_=>none
 |v=>aaD kp t v
def yB(kp:Nat):List cJ->cp->Option cp
 |_,[]=>some []
 |[],v::l=>match aaG kp none v,yB kp [] l with
  |some a,some b=>some (a::b)
  |_,_=>none
 |t::ts,v::l=>match aaG kp t v,yB kp ts l with
  |some a,some b=>some (a::b)
  |_,_=>none
def jX(id:Nat):kW:=λj=>if j=0 then some id else none
theorem Rg{kp id:Nat}{t:cJ}{v v':TV}{d:DV}(hk:ι kp=some id)(h:aaD kp t v=some v')(hv:RT ι S v d):RT (jX id) S v' d:=by unfold aaD at h;split at h;split at h;rename_i k off F9;subst F9;cases h;cases d<;>simp only[RT]at hv⊢;rw[hk]at hv;exact⟨hv.1,hv.2⟩;cases h;split at h;rename_i hp;cases h;exact sL hp hv;cases h
theorem EG{kp id:Nat}(hk:ι kp=some id):∀{l l':cp}{m:cn},KA kp l=some l'->cq ι S l m->cq (jX id) S l' m
 |[],l',m,h,hv=>by cases h;rw[aO hv];exact bJ
 |v::l,l',m,h,hv=>by obtain⟨d,m',rfl,h1,h2⟩:=ax hv;simp only[KA]at h;split at h;rename_i a b e1 e2;cases h;exact aP (Rg hk e1 h1) (EG hk e2 h2);cases h
theorem Rk{kp id:Nat}{t:cJ}{v v':TV}{d:DV}(hk:ι kp=some id)(h:aaG kp t v=some v')(hv:RT ι S v d):RT (jX id) S v' d:=by unfold aaG at h;split at h;split at h;rename_i g fs cs a b e1 e2;cases h;cases d<;>simp only[RT]at hv⊢;exact⟨hv.1,EG hk e1 hv.2.1,EG hk e2 hv.2.2⟩;cases h;exact Rg hk h hv
theorem EH{kp id:Nat}(hk:ι kp=some id):∀{ts:List cJ}{l l':cp}{m:cn},yB kp ts l=some l'->cq ι S l m->cq (jX id) S l' m
 |_,[],l',m,h,hv=>by simp only[yB]at h;cases h;rw[aO hv];exact bJ
 |[],v::l,l',m,h,hv=>by obtain⟨d,m',rfl,h1,h2⟩:=ax hv;simp only[yB]at h;split at h;rename_i a b e1 e2;cases h;exact aP (Rk hk e1 h1) (EH hk e2 h2);cases h
 |t::ts,v::l,l',m,h,hv=>by obtain⟨d,m',rfl,h1,h2⟩:=ax hv;simp only[yB]at h;split at h;rename_i a b e1 e2;cases h;exact aP (Rk hk e1 h1) (EH hk e2 h2);cases h
theorem mO:∀{l:cp}{m:cn},l.any isRef=true->cq ι S l m->(m.map DV.strip).all DV.pure=false
 |[],_,h,_=>ar
 |v::l,m,h,hv=>by
  obtain⟨d,m',rfl,h1,h2⟩:=ax hv;simp only[List.any_cons,jK]at h;rw[aZ,cg];rcases h with h|h
  .cases v<;>first|(cases h;done)|skip
   cases d<;>simp only[RT]at h1;rfl
   cases d<;>simp only[RT]at h1;rfl
  rw[mO h h2,kM]
def BM(call:bg)(g:FuncId)(targs ts:cp)(Q:TV->cp->Prop):Prop:=
 ∀ι bV S,bO ι targs [.cells ts] bV S->∃d S' ι' v Ai k' iu,call g bV S=some (d,S')/\RT ι' S' v d/\refs v=[]/\eM Ai=[]/\ι 0=some k'/\S'[k']? =some (.cells iu)/\cq ι' S' Ai iu/\Fr [0] ι S ι' S'/\Nn S.length S S'/\Q v Ai
theorem BM.mono {g:FuncId}{targs ts:cp}{Q Q':TV->cp->Prop}(h:BM call g targs ts Q)(hq:∀v ts,Q v ts->Q' v ts):BM call g targs ts Q':=λι bV S hd=>by obtain⟨d,S',ι',v,Ai,k',iu,h1,h2,h3,h4,h5,h6,h7,h8,h9,wz⟩:=h ι bV S hd;exact⟨d,S',ι',v,Ai,k',iu,h1,h2,h3,h4,h5,h6,h7,h8,h9,hq _ _ wz⟩
theorem O8{f:Operand}{args:Array Operand}{argTypes:Array TypeId}{g:FuncId}{fs cs xs targs ts:cp}{kp:Nat}{Q:TV->cp->Prop}(hop:o.op=.call {callee:=.value f,args,argTypes})(hf:eL te f=some (.fn g fs cs))(ha:lD te args.toList=some xs)
  (hn:yB kp (fM tt fs argTypes) (fs++xs++cs)=some targs) (hr:(fs++xs++cs).any isRef=true) (hts:tS[kp]? =some (.cells ts)) (J3:eM ts=[]) (hs:BM call g targs ts Q):Does P ty aD call yf B o nT te tS false λv bS bK ft=>∃Ai,Q v Ai/\bS=te/\bK=tS.set kp (.cells Ai)/\ft=⟨none,true⟩:=by
 intro ι w env S aB hR hB hw hT Dh hS;obtain⟨xe,iB,F5,k1,k2,k3⟩:=ig hR.env hf ha;obtain⟨iG,ds,k6,m2,m3⟩:=hR.cells kp ts hts;have hc:bO (jX iG) targs [.cells ts] (xe++F5++iB) S:=by
  refine⟨EH k6 hn k3,λk l hk=>?_,λk e s hk=>?_,λk k' hk=>?_,λi j k' hi hj=>?_,λk b hk t ht=>by cases k with|zero=>cases hk;trivial|succ k=>simp at hk⟩;cases k with
  |zero=>cases hk;exact⟨iG,ds,rfl,m2,jq _ _ J3 m3⟩
  |succ k=>simp at hk
  grind
  by_cases h0:k=0
  grind
  simp only[jX,h0,if_false]at hk;cases hk
  by_cases Gb:i=0<;>by_cases UO:j=0
  grind
  simp only[jX,UO,if_false]at hj;cases hj
  simp only[jX,Gb,if_false]at hi;cases hi
  simp only[jX,Gb,if_false]at hi;cases hi
 obtain⟨d,S',ι',v,Ai,k',iu,n1,n2,n3,n4,n5,n6,n7,n8,n9,n10⟩:=hs _ _ S hc;simp only[jX,if_true,aF]at n5;subst n5;have lM:∀k k0,k≠kp->ι k=some k0->S'[k0]? =S[k0]? :=by intro k k0 hk h0;refine n8.rest k0 (hR.live h0) λj hj=>?_;by_cases UO:j=0;subst UO;simp only[jX,if_true,aF]at hj;subst hj;exact hk (hR.inj _ _ _ h0 k6);simp only[jX,UO,if_false]at hj;cases hj
 have K:iY ι S ι S' λ_=>False:=λk k0 _ hk=>⟨hk,by by_cases F9:k=kp;subst F9;rw[k6]at hk;cases hk;exact vt (by rw[m2];simp) (by rw[m2];simp) (by rw[m2];simp);exact dz (lM k k0 F9 hk)⟩;have ZQ:=mO hr k3;refine⟨d,S',ι,w,v,te,tS.set kp (.cells Ai),⟨none,true⟩,⟨none,true⟩,λ_=>?_,λhd=>bj,⟨λe=>e,λl hl=>bc⟩,λl m hl=>bc,?_,oN _ _ n3 n2,hw,λ_ _ _=>rfl,⟨λk0 hl hno=>n8.rest k0 hl λj hj=>?_,λk k0 hk=>.inl ⟨k,hk⟩,λ_ _=>rfl⟩,λk hk=>?_,⟨n9.1,λj hj dU=>?_⟩,Ai,n10,rfl,rfl,rfl⟩;simp only[ah,hop,k1,k2,wN,ZQ,aJ,if_false,n1];split<;>rfl;refine⟨bn K _ _ hR.env,λk l hk=>?_,λk e s hk t ht=>?_,λk k0 hk=>?_,hR.inj,λk b hk t ht=>by rw[aN]at hk;split at hk;split at hk<;>cases hk;trivial;rename_i e1;rw[lM k t (λe=>e1 e.symm) ht];exact hR.mp k b hk t ht⟩;rw[aN]at hk;split at hk;rename_i e1;subst e1;split at hk;cases hk;exact⟨iG,iu,k6,n6,jq _ _ n4 n7⟩;cases hk;rename_i e1;obtain⟨k0,M8,q1,q2,q3⟩:=hR.cells k l hk;exact⟨k0,M8,q1,by rw[lM k k0 (Ne.symm e1) q1];exact q2,bn K _ _ q3⟩;rw[aN]at hk;split at hk
 grind
 obtain⟨n,q1⟩:=hR.own k e s hk t ht;exact⟨n,(K k t (λe=>e) ht).2.1 _ _ _ q1⟩;rw[aN];split
 grind
 exact hR.qH k k0 hk;by_cases UO:j=0;subst UO;simp only[jX,if_true,aF]at hj;subst hj;exact hno _ k6;simp only[jX,UO,if_false]at hj;cases hj
 rw[aN];split;rename_i e1;subst e1;exact⟨some _,if_pos (aI.1 hts).1⟩;exact hB k hk;have:=(aI.1 dU).1;exact n9.2 j ab dU
def kG:TV->Bool
 |.val v=>!(v matches .tuple _)
 |.sl _ _ .no=>true
 |.sl _ _ (.stop _)=>true
 |_=>false
def DF:TV->Bool
 |.agg l=>l.all kG
 |.val _|.sl _ _ .no=>true
 |_=>false
def BH:TV->Bool
 |.tup l=>l.all DF
 |v=>DF v
theorem uP{v:TV}{d:DV}(hp:kG v=true)(h:RT ι S v d):d.aM.bU=true/\RT ι' S' v d.aM:=by
 cases v<;>first|(cases hp;done)|skip
 cases d<;>simp only[RT]at h;subst h;exact⟨hp,by simp only[RT,DV.aM]⟩;rename_i t l ap;cases ap<;>first|(cases hp;done)|skip
 all_goals
  cases d<;>simp only[RT]at h;exact⟨rfl,by simp only[RT,DV.aM];exact⟨h.1,trivial⟩⟩
theorem oM:∀{l:cp}{m:cn},l.all kG=true->cq ι S l m->(m.map DV.aM).all DV.bU=true/\cq ι' S' l (m.map DV.aM)
 |[],m,_,h=>by rw[aO h];exact⟨rfl,bJ⟩
 |a::l,m,hp,h=>by obtain⟨d,m',rfl,h1,h2⟩:=ax h;simp only[cg,aC]at hp;obtain⟨k1,k2⟩:=uP (ι':=ι') (S':=S') hp.1 h1;obtain⟨k3,k4⟩:=oM hp.2 h2;exact⟨by rw[aZ,cg,k1,k3];rfl,aP k2 k4⟩
theorem Cb{v:TV}{d:DV}(hp:DF v=true)(h:RT ι S v d):d.cZ.jW=true/\RT ι' S' v d.cZ:=by
 cases v<;>first|(cases hp;done)|skip
 cases d<;>simp only[RT]at h;subst h;exact⟨rfl,by simp only[RT,DV.cZ]⟩;cases d<;>simp only[RT]at h;obtain⟨k1,k2⟩:=oM (ι':=ι') (S':=S') hp h;exact⟨k1,by simp only[RT,DV.cZ];exact k2⟩;rename_i t l ap;cases ap<;>first|(cases hp;done)|skip
 cases d<;>simp only[RT]at h;exact⟨rfl,by simp only[RT,DV.cZ];exact⟨h.1,trivial⟩⟩
theorem Aa:∀{l:cp}{m:cn},l.all DF=true->cq ι S l m->(m.map DV.cZ).all DV.jW=true/\cq ι' S' l (m.map DV.cZ)
 |[],m,_,h=>by rw[aO h];exact⟨rfl,bJ⟩
 |a::l,m,hp,h=>by obtain⟨d,m',rfl,h1,h2⟩:=ax h;simp only[cg,aC]at hp;obtain⟨k1,k2⟩:=Cb (ι':=ι') (S':=S') hp.1 h1;obtain⟨k3,k4⟩:=Aa hp.2 h2;exact⟨by rw[aZ,cg,k1,k3];rfl,aP k2 k4⟩
theorem Ca{v:TV}{d:DV}(hp:BH v=true)(h:RT ι S v d):d.strip.pure=true/\RT ι' S' v d.strip:=by
 by_cases hd:∃l,d=.tup l
 .obtain⟨m,rfl⟩:=hd;cases v<;>simp only[RT]at h<;>first|(cases hp;done)|skip
  obtain⟨k1,k2⟩:=Aa (ι':=ι') (S':=S') hp h;exact⟨k1,by simp only[RT,DV.strip];exact k2⟩
 have hv:DF v=true:=by
  cases v<;>first|exact hp|skip
  cases d<;>simp only[RT]at h;exact(hd ⟨_,rfl⟩).elim
 obtain⟨k1,k2⟩:=Cb (ι':=ι') (S':=S') hv h;have e:d.strip=d.cZ:=by cases d<;>first|rfl|exact(hd ⟨_,rfl⟩).elim
 refine⟨?_,by rw[e];exact k2⟩;rw[e];have:∀c:DV,c.jW=true->(∀l,c≠.tup l)->c.pure=true:=λc h hn=>by cases c<;>first|exact h|exact(hn _ rfl).elim
 refine this _ k1 λl hl=>?_;cases d<;>simp only[DV.cZ]at hl<;>first|(cases hl;done)|exact hd ⟨_,rfl⟩
theorem MH{f:Operand}{args:Array Operand}{argTypes:Array TypeId}{g:FuncId}{fs cs xs rest ts:cp}{kp off:Nat}{Q:TV->cp->Prop}(hop:o.op=.call {callee:=.value f,args,argTypes})(hh:ty.h o≠1)(hf:eL te f=some (.fn g fs cs))(ha:lD te args.toList=some xs)
  (hl:fs++xs++cs=.ptr kp off::rest) (hp:rest.all eu=true) (hts:tS[kp]? =some (.cells ts)) (x7:ts.all kG=true) (hs:BM call g (.ptr 0 off::bL (fM tt fs argTypes).tail rest) ts Q) (hq:∀v Ai,Q v Ai->BH v=true/\Ai.all kG=true):
  Does P ty aD call yf B o nT te tS true λv bS bK ft=>∃Ai,Q v Ai/\bS=te/\bK=tS.set kp (.cells Ai)/\ft=⟨some [kp],true⟩:=by
 intro ι w env S aB hR hB hw hT Dh hS;obtain⟨xe,iB,F5,k1,k2,k3⟩:=ig hR.env hf ha;obtain⟨iG,ds,k6,m2,m3⟩:=hR.cells kp ts hts;rw[hl]at k3;obtain⟨d0,m0,hm0,ZO,Pq⟩:=ax k3;have M6:d0=.ptr iG off:=by cases d0<;>simp only[RT]at ZO;obtain⟨e1,e2⟩:=ZO;rw[k6]at e1;cases e1;rw[e2]
 subst M6;obtain⟨p1,p2⟩:=jy (ts:=(fM tt fs argTypes).tail) (ι':=jX 0) (S':=[.cells (ds.map DV.aM)]) hp Pq;obtain⟨c1,c2⟩:=oM (ι':=jX 0) (S':=[.cells (ds.map DV.aM)]) x7 m3;have hc:bO (jX 0) (.ptr 0 off::bL (fM tt fs argTypes).tail rest) [.cells ts] (.ptr 0 off::m0.map DV.strip) [.cells (ds.map DV.aM)]:=by
  refine⟨aP (by simp only[RT];exact⟨rfl,trivial⟩) p2,λk l hk=>?_,λk e s hk=>?_,λk k' hk=>?_,λi j k' hi hj=>?_,λk b hk t ht=>by cases k with|zero=>cases hk;trivial|succ k=>simp at hk⟩;cases k with
  |zero=>cases hk;exact⟨0,_,rfl,rfl,c2⟩
  |succ k=>simp at hk
  grind
  by_cases h0:k=0
  grind
  simp only[jX,h0,if_false]at hk;cases hk
  by_cases Gb:i=0<;>by_cases UO:j=0
  grind
  simp only[jX,UO,if_false]at hj;cases hj
  simp only[jX,Gb,if_false]at hi;cases hi
  simp only[jX,Gb,if_false]at hi;cases hi
 obtain⟨d,S1,ι1,v,Ai,k',iu,n1,n2,n3,n4,n5,n6,n7,n8,n9,n10⟩:=hs _ _ _ hc;simp only[jX,if_true,aF]at n5;subst n5;obtain⟨q1,q2⟩:=hq _ _ n10;obtain⟨r1,r2⟩:=Ca (ι':=ι) (S':=S.set iG (.cells (iu.map DV.aM))) q1 n2;obtain⟨r3,r4⟩:=oM (ι':=ι) (S':=S.set iG (.cells (iu.map DV.aM))) q2 n7;have ahx:∃T,S1=.cells iu::T:=by
  cases S1 with
  |nil=>simp at n6
  |cons a T=>simp only[dH,aF]at n6;exact⟨T,by rw[n6]⟩
 obtain⟨T,rfl⟩:=ahx;have hid:iG<S.length:=(aI.1 m2).1;have lM:∀k0,k0≠iG->(S.set iG (.cells (iu.map DV.aM)))[k0]? =S[k0]? :=λk0 h=>by rw[aN,if_neg λe=>h e.symm]
 have hkp:∀k,k≠kp->∀k0,ι k=some k0->k0≠iG:=λk hk k0 h0 e=>hk (hR.inj _ _ _ (e▸h0) k6);have K:iY ι S ι (S.set iG (.cells (iu.map DV.aM))) λ_=>False:=λk k0 _ hk=>⟨hk,by by_cases F9:k0=iG;subst F9;exact vt (by rw[m2];simp) (by rw[m2];simp) (by rw[m2];simp);exact dz (lM k0 F9)⟩;have ZQ:((xe++F5++iB).map DV.strip).all DV.pure=false:=by rw[hm0];rfl
 have ho:pn call g (xe++F5++iB) S=some (iG,d.strip,iu.map DV.aM):=by rw[hm0];simp only[pn,m2,p1,c1,gq,if_true,n1,r1,r3]
 refine⟨d.strip,S.set iG (.cells (iu.map DV.aM)),ι,w,v,te,tS.set kp (.cells Ai),⟨some [iG],true⟩,⟨some [kp],true⟩,λhd=>bj,λ_=>?_,⟨λe=>e,λl hl=>?_⟩,λl m hl hm j hj=>?_,?_,r2,hw,λ_ _ _=>rfl,⟨λk0 hl hno=>lM k0 λe=>hno _ (e▸k6),λk k0 hk=>.inl ⟨k,hk⟩,λ_ _=>rfl⟩,λk hk=>?_,⟨ae,λj hj dU=>?_⟩,Ai,n10,rfl,rfl,rfl⟩;simp only[aH,hop,k1,k2,if_neg hh,ZQ,aJ,if_false,ho];cases hl;exact⟨[iG],rfl,λj hj=>⟨kp,ae,by simp only[bX]at hj;rw[hj];exact hw _ _ k6⟩⟩
 grind
 refine⟨bn K _ _ hR.env,λk l hk=>?_,λk e s hk t ht=>?_,λk k0 hk=>?_,hR.inj,λk b hk t ht=>by rw[aN]at hk;split at hk;split at hk<;>cases hk;trivial;rename_i e1;rw[lM t (hkp k (λe=>e1 e.symm) t ht)];exact hR.mp k b hk t ht⟩;rw[aN]at hk;split at hk
 grind
 rename_i e1;obtain⟨k0,M8,q1,q2,q3⟩:=hR.cells k l hk;exact⟨k0,M8,q1,by rw[lM k0 (hkp k (Ne.symm e1) k0 q1)];exact q2,bn K _ _ q3⟩;rw[aN]at hk;split at hk
 grind
 obtain⟨n,q1⟩:=hR.own k e s hk t ht;exact⟨n,(K k t (λe=>e) ht).2.1 _ _ _ q1⟩;rw[aN];split
 grind
 exact hR.qH k k0 hk;rw[aN];split;rename_i e1;subst e1;exact⟨some _,if_pos (aI.1 hts).1⟩;exact hB k hk
 grind
end Go.Tv
namespace Go.Tv
open Go Go.Di
def acT(ty:fo)(te:cp)(tS:cx):ResultVar->Option TV
 |.tmp t=>some (te.getD t .unk)
 |.cell a t=>match ty t,te.getD a .unk with
  |some d,.ptr id off=>match tS[id]? with
   |some (.cells l)=>wD d.k.isAgg d.size l off
   |_=>none
  |_,_=>none
def xo(ty:fo)(te:cp)(tS:cx):List ResultVar->Option cp
 |[]=>some []
 |x::r=>match acT ty te tS x,xo ty te tS r with
  |some v,some l=>some (v::l)
  |_,_=>none
def kC:cp->TV
 |[d]=>d
 |l=>.tup l
variable {P:Program} {ty:fo} {tt:TypeId->cJ} {ι ι' w:kW} {S S':aj} {te mh:cp} {env:cn} {tS iq:cx} {aD:bT} {call:bg} {yf:dx} {o:Oper} {aB nT:Nat} {B:cy} {r:TR} {ops:Array Oper}
theorem yJ(h:bO ι te tS env S):∀{rs:List ResultVar}{vs:cp},xo ty te tS rs=some vs->∃ds,tr ty env S rs=some ds/\cq ι S vs ds
 |[],vs,hx=>by cases hx;exact⟨[],rfl,bJ⟩
 |x::r,vs,hx=>by
  simp only[xo]at hx;split at hx;rename_i v l h1 h2;cases hx;obtain⟨ds,k1,k2⟩:=yJ h h2;cases x with
  |tmp t=>cases h1;exact⟨_,by simp only[tr,k1,ay],aP (Eb h.env t) k2⟩
  |cell a t=>simp only[acT]at h1;split at h1;rename_i d id off e1 e2;split at h1;rename_i l' e3;have hg:=Eb h.env a;rw[e2]at hg;generalize hd:env.getD a bD=da at hg;cases da<;>simp only[RT]at hg;obtain⟨g1,rfl⟩:=hg;obtain⟨iG,iu,m1,m2,m3⟩:=h.cells id l' e3;rw[g1]at m1;cases m1;obtain⟨q,m4,m5⟩:=ry m3 h1;exact⟨q::ds,by simp only[tr,hd,kX,e1,m2,m4,k1],aP m5 k2⟩;cases h1;cases h1
  cases hx
theorem Tx{ts:List cJ}{vs:cp}{ds:cn}(hp:vs.all eu=true)(h:cq ι S vs ds):(oneOf ds).strip.pure=true/\RT ι' S' (kC (bL ts vs)) (oneOf ds).strip:=by
 have many:∀{ts:List cJ}{l:cp}{m:cn},l.all eu=true->cq ι S l m->(m.map DV.cZ).all DV.jW=true/\cq ι' S' (bL ts l) (m.map DV.cZ):=by
  intro ts l;induction l generalizing ts with
  |nil=>intro m _ h;rw[aO h];cases ts<;>exact⟨rfl,by simp only[bL,dR];exact bJ⟩
  |cons a l ih=>
   intro m hp h;obtain⟨d,m',rfl,h1,h2⟩:=ax h;simp only[cg,aC]at hp;cases ts with
   |nil=>
    obtain⟨k1,k0,k2⟩:=js (t:=none) (ι':=ι') (S':=S') hp.1 h1;obtain⟨k3,k4⟩:=ih (ts:=[]) hp.2 h2;have e:d.strip=d.cZ:=by cases d<;>first|rfl|exact(k0 _ rfl).elim
    rw[e]at k1 k2;have e2:d.cZ.jW=true:=by cases d<;>first|exact k1|exact(k0 _ rfl).elim
    exact⟨by rw[aZ,cg,e2,k3];rfl,by simp only[bL,aZ];exact aP k2 k4⟩
   |cons t ts=>
    obtain⟨k1,k0,k2⟩:=js (t:=t) (ι':=ι') (S':=S') hp.1 h1;obtain⟨k3,k4⟩:=ih (ts:=ts) hp.2 h2;have e:d.strip=d.cZ:=by cases d<;>first|rfl|exact(k0 _ rfl).elim
    rw[e]at k1 k2;have e2:d.cZ.jW=true:=by cases d<;>first|exact k1|exact(k0 _ rfl).elim
    exact⟨by rw[aZ,cg,e2,k3];rfl,by simp only[bL,aZ];exact aP k2 k4⟩
 match vs,ds,hp,h with
 |[],ds,_,h=>rw[aO h];cases ts<;>exact⟨rfl,by simp only[bL,kC,oneOf,DV.strip,RT,dR];exact bJ⟩
 |[v],ds,hp,h=>
  obtain⟨d,m',rfl,h1,h2⟩:=ax h;rw[aO h2];simp only[cg,List.all_nil,qx]at hp;cases ts with
  |nil=>obtain⟨k1,k0,k2⟩:=js (t:=none) (ι':=ι') (S':=S') hp h1;exact⟨k1,k2⟩
  |cons t ts=>obtain⟨k1,k0,k2⟩:=js (t:=t) (ι':=ι') (S':=S') hp h1;cases ts<;>exact⟨k1,k2⟩
 |v::u::l,ds,hp,h=>
  obtain⟨k1,k2⟩:=many (ts:=ts) hp h;obtain⟨d,m',rfl,h1,h2⟩:=ax h;obtain⟨d',m'',rfl,h3,h4⟩:=ax h2;refine⟨k1,?_⟩;have e:∀{ts:List cJ},kC (bL ts (v::u::l))=.tup (bL ts (v::u::l)):=by
   intro ts;cases ts with
   |nil=>simp only[bL,kC]
   |cons t ts=>cases ts<;>simp only[bL,kC]
  rw[e];simp only[oneOf,DV.strip,RT];exact k2
theorem Tz{ts:List cJ}{vs:cp}{ds:cn}(hp:vs.all eu=true)(h:cq ι S vs ds):RT ι' S' (kC (bL ts vs)) (oneOf ds):=by
 have k:=lB (ts:=ts) (ι':=ι') (S':=S') hp h
 match vs,ds,hp,h,k with
 |[],ds,_,h,k=>rw[aO h];cases ts<;>(simp only[bL,kC,oneOf,RT];exact bJ)
 |[v],ds,hp,h,k=>
  obtain⟨d,m',rfl,h1,h2⟩:=ax h;rw[aO h2]at k⊢;cases ts with
  |nil=>simp only[bL]at k⊢;obtain⟨_,_,e,k1,-⟩:=ax k;cases e;exact k1
  |cons t ts=>cases ts<;>(simp only[bL]at k⊢;obtain⟨_,_,e,k1,-⟩:=ax k;cases e;exact k1)
 |v::u::l,ds,hp,h,k=>
  obtain⟨d,m',rfl,h1,h2⟩:=ax h;obtain⟨d',m'',rfl,h3,h4⟩:=ax h2;have e:∀{ts:List cJ},kC (bL ts (v::u::l))=.tup (bL ts (v::u::l)):=by
   intro ts;cases ts with
   |nil=>simp only[bL,kC]
   |cons t ts=>cases ts<;>simp only[bL,kC]
  rw[e];simp only[oneOf,RT];exact k
section
variable (P:Program) (ty:fo) (cF:bT) (L:Nat)
def Dr(n:Nat):bT:=mo cF (dZ P ty cF L n).1
def BI(n:Nat):bg:=(dZ P ty cF L n).1
def yfN(n:Nat):dx:=(dZ P ty cF L n).2
end
theorem iD{t:TT}:∀{l:List t.den}{ds:cn},fC t l ds->ds.length=l.length*t.size
 |[],ds,h=>by simp only[fC]at h;subst h;simp
 |x::l,ds,h=>by simp only[fC]at h;obtain⟨c,m,rfl,h1,h2⟩:=h;rw[cL,oa h1,iD h2,cT,kL,Nat.one_mul,yU]
theorem xX{t:TT}(h0:(t.agg||t.size==1)=true):∀{l:List t.den}{ds:cn},fC t l ds->ei (CR t) t.agg l (rowsOf t.size t.agg ds l.length)
 |[],ds,h=>by simp only[fC]at h;subst h;simp[rowsOf,ei]
 |x::l,ds,h=>by
  simp only[fC]at h;obtain⟨c,m,rfl,h1,h2⟩:=h;rw[cT,BU (oa h1)];refine⟨?_,xX h0 h2⟩;cases ha:t.agg with
  |true=>exact⟨h1,by simp[wQ]⟩
  |false=>
   have h3:=row_one h1 ha;rw[ha]at h3;have hs:t.size=1:=by rw[ha]at h0;simpa using h0
   have e2:(c++m).getD 0 bD=c.getD 0 bD:=by have:=oa h1;simp only[aK,eD (show 0<c.length by omega)]
   simp only[aJ,if_false];rw[e2];exact h3
theorem Gj(h:bO ι te tS env S){g:Nat}{t t':TT}{e:Nat}{l:List t'.den}{z:Bool}{d:DV}(hg:tS[g]? =some (.rows t' e l z))(hd:RT ι S (.so g t) d)(ht:t'=t):∃id ds,d=.jB id l.length t'.agg/\ι g=some id/\S[id]? =some (.op e t'.size ds z)/\CI S id l.length=some (e,t'.size,ds,z)/\fC t' l ds/\0<t'.size/\(t'.agg||t'.size==1)=true:=by subst ht;cases d<;>simp only[RT]at hd;rename_i id n agg;obtain⟨h1,rfl,e',s',l',z',h2,h3⟩:=hd;obtain⟨q0,q1,ds,q2,q3⟩:=h.mp g _ hg id h1;rw[h2]at q2;cases q2;have hl:=iD q3;have hn:n=l.length:=Nat.eq_of_mul_eq_mul_right q0 (h3.trans hl);subst hn;refine⟨id,l',rfl,h1,h2,?_,q3,q0,q1⟩;unfold CI;rw[h2];simp only[h3,if_true]
theorem QN{id n:Nat}{t:TT}{e:Nat}{ds:cn}(h:CI S id n=some (e,t.size,ds,true))(h0:0<t.size)(h1:(t.agg||t.size==1)=true):iK S (.jB id n t.agg)=.sl (rowsOf t.size t.agg ds n) none ⟨false,some false⟩:=by simp only[iK,h,lT h0,h1,gq,if_true]
def FR(tS:cx):TV->TV
 |.so g t=>match tS[g]? with
  |some (.rows t' _ l _)=>if h:t'=t then .sl t (h▸l) .no else .so g t
  |_=>.so g t
 |v=>v
def Kh(tS:cx):TV->TV
 |.agg l=>.agg (l.map (FR tS))
 |v=>FR tS v
def yj(tS:cx)(vs:cp):cp:=vs.map (Kh tS)
section
variable {id:Nat} {e:TypeId} {s:Nat} {l:cn}
theorem Q1{z:Bool}(h:S[id]? =some (.op e s l z))(d:DV):∃z',(yg S d)[id]? =some (.op e s l z')/\(z=true->z'=true)/\∀n ag,d=.jB id n ag->n*s=l.length->z'=true:=by
 have hn:∀n,n*s=l.length->CI S id n=some (e,s,l,z):=λn hn=>by unfold CI;rw[h];simp only[hn,if_true]
 unfold yg;split;rename_i iG n' ag';split;rename_i e1 s1 l1 ho;have h1:S[iG]? =some (.op e1 s1 l1 false):=by
  unfold CI at ho;split at ho
  grind
  cases ho
 by_cases he:iG=id
 grind
 grind
 grind
 grind
theorem Q3:∀(m:cn){S:aj}{z:Bool},S[id]? =some (.op e s l z)->∃z',(m.foldl yg S)[id]? =some (.op e s l z')/\(z=true->z'=true)/\∀n ag,DV.jB id n ag∈m->n*s=l.length->z'=true
 |[],S,z,h=>⟨z,h,λh=>h,λ_ _ hm=>by simp at hm⟩
 |d::m,S,z,h=>by
  obtain⟨z1,h1,h2,h3⟩:=Q1 h d;obtain⟨z2,k1,k2,k3⟩:=Q3 m h1;refine⟨z2,k1,λhz=>k2 (h2 hz),λn ag hm hn=>?_⟩;rcases aV.1 hm with hm|hm
  grind
  grind
def aaw(d:DV)(id n:Nat):Prop:=∃ag,d=.jB id n ag\/∃m,d=.agg m/\DV.jB id n ag∈m
theorem Q6{z:Bool}(h:S[id]? =some (.op e s l z))(d:DV):∃z',(tA S d)[id]? =some (.op e s l z')/\(z=true->z'=true)/\∀n,aaw d id n->n*s=l.length->z'=true:=by
 unfold tA;split;rename_i m;obtain⟨z1,h1,h2,h3⟩:=Q3 m h;refine⟨z1,h1,h2,λn hs hn=>?_⟩;obtain⟨ag,hs|⟨m',hs,hm⟩⟩:=hs;cases hs
 grind
 rename_i hno;obtain⟨z1,h1,h2,h3⟩:=Q1 h d;refine⟨z1,h1,h2,λn hs hn=>?_⟩;obtain⟨ag,hs|⟨m',hs,hm⟩⟩:=hs
 grind
 grind
theorem Q0:∀(m:cn){S:aj}{z:Bool},S[id]? =some (.op e s l z)->∃z',(m.foldl tA S)[id]? =some (.op e s l z')/\(z=true->z'=true)/\∀d∈m,∀n,aaw d id n->n*s=l.length->z'=true
 |[],S,z,h=>⟨z,h,λh=>h,λ_ hm=>by simp at hm⟩
 |d::m,S,z,h=>by
  obtain⟨z1,h1,h2,h3⟩:=Q6 h d;obtain⟨z2,k1,k2,k3⟩:=Q0 m h1;refine⟨z2,k1,λhz=>k2 (h2 hz),λd' hm n hs hn=>?_⟩;rcases aV.1 hm with rfl|hm
  grind
  grind
end
theorem LC(h:bO ι te tS env S){S':aj}{v:TV}{d:DV}(hv:RT ι S v d)(hp:eu (FR tS v)=true)(hh:∀id n ag e s l z,d=.jB id n ag->S[id]? =some (.op e s l z)->n*s=l.length->S'[id]? =some (.op e s l true)):RT ι S (FR tS v) (iK S' d):=by
 cases v
 case so g t=>
  simp only[FR]at hp⊢;split at hp;rename_i t' e l z hg;split at hp;rename_i ht;obtain⟨id,cs,rfl,h1,h2,h3,h4,h5,h6⟩:=Gj h hg hv ht;subst ht;have hn:l.length*t'.size=cs.length:=(iD h4).symm;have hS:CI S' id l.length=some (e,t'.size,cs,true):=by unfold CI;rw[hh _ _ _ _ _ _ _ rfl h2 hn];simp only[hn,if_true]
  rw[QN hS h5 h6,dif_pos rfl];simp only[RT,qb,and_true];exact xX h6 h4;cases hp;cases hp
 all_goals first|(cases hp;done)|skip
 all_goals (simp only[FR]at hp⊢;cases d<;>simp only[RT]at hv<;>simp only[iK,RT]<;>exact hv)
theorem abw{v:TV}(h:Aw v=true):eu v=true:=by cases v<;>first|rfl|cases h
theorem Hh(h:bO ι te tS env S){S':aj}:∀{l:cp}{m:cn},cq ι S l m->(l.map (FR tS)).all Aw=true->(∀d∈m,∀id n ag e s l z,d=.jB id n ag->S[id]? =some (.op e s l z)->n*s=l.length->S'[id]? =some (.op e s l true))->cq ι S (l.map (FR tS)) (m.map (iK S'))
 |[],m,hd,_,_=>by rw[aO hd];exact bJ
 |v::l,m,hd,hp,hh=>by obtain⟨d,m',rfl,h1,h2⟩:=ax hd;simp only[aZ,cg,aC]at hp⊢;exact aP (LC h h1 (abw hp.1) (hh d gO)) (Hh h h2 hp.2 λd hd=>hh d (nt _ hd))
theorem afF{v:TV}{d:DV}(hv:RT ι S v d)(hp:eu (Kh tS v)=true):∀l,d≠.tup l:=by intro l e;subst e;cases v<;>first|(simp only[RT]at hv;done)|(simp only[Kh,FR]at hp;cases hp)
theorem TQ(h:bO ι te tS env S){S':aj}{v:TV}{d:DV}(hv:RT ι S v d)(hp:eu (Kh tS v)=true)(hh:∀id n e s l z,aaw d id n->S[id]? =some (.op e s l z)->n*s=l.length->S'[id]? =some (.op e s l true)):RT ι S (Kh tS v) (s9 S' d)/\∀l,d≠.tup l:=by
 cases v
 case agg l=>
  cases d<;>simp only[RT]at hv;rename_i m;simp only[Kh,eu]at hp;refine⟨?_,λ_ e=>aE⟩;simp only[Kh,s9,RT];exact Hh h hv hp λd hd id n ag e s l z he=>hh id n e s l z ⟨ag,.inr ⟨m,rfl,he▸hd⟩⟩
 all_goals
  have hd:(∀l,d≠.agg l)/\∀l,d≠.tup l:=by constructor<;>intro l e<;>subst e<;>first|(simp only[RT]at hv;done)|(simp only[Kh,FR]at hp;cases hp)
  refine⟨?_,hd.2⟩;have e:s9 S' d=iK S' d:=by cases d<;>first|rfl|exact(hd.1 _ rfl).elim
  rw[e];exact LC h hv hp λid n ag e s l z he=>hh id n e s l z ⟨ag,.inl he⟩
theorem afE(h:bO ι te tS env S){vs:cp}{ds:cn}(hd:cq ι S vs ds)(hp:(yj tS vs).all eu=true):∃iu,oneOf iu=tT (Iq S (oneOf ds)) (oneOf ds)/\cq ι S (yj tS vs) iu:=by
 have many:∀{S':aj}{vs:cp}{ds:cn},cq ι S vs ds->(yj tS vs).all eu=true->(∀d∈ds,∀id n e s l z,aaw d id n->S[id]? =some (.op e s l z)->n*s=l.length->S'[id]? =some (.op e s l true))->cq ι S (yj tS vs) (ds.map (s9 S'))/\∀d∈ds,∀l,d≠.tup l:=by
  intro S' vs;induction vs with
  |nil=>intro ds hd _ _;rw[aO hd];exact⟨bJ,ae⟩
  |cons v vs ih=>
   intro ds hd hp hh;obtain⟨d,m',rfl,h1,h2⟩:=ax hd;simp only[yj,aZ,cg,aC]at hp;obtain⟨a1,a2⟩:=TQ h h1 hp.1 (hh d gO);obtain⟨b1,b2⟩:=ih h2 hp.2 λd hd=>hh d (nt _ hd);refine⟨aP a1 b1,λd' wv=>?_⟩;rcases aV.1 wv with rfl|wv;exact a2
   grind
 match vs,ds,hd,hp with
 |[v],ds,hd,hp=>
  obtain⟨d,m',rfl,k1,k2⟩:=ax hd;rw[aO k2]at hd⊢;have hp1:=hp;simp only[yj,aZ,dR,cg,List.all_nil,qx]at hp1;have h0:=afF k1 hp1;have e1:Iq S d=tA S d:=by cases d<;>first|rfl|exact(h0 _ rfl).elim
  have e2:tT (tA S d) d=s9 (tA S d) d:=by cases d<;>first|rfl|exact(h0 _ rfl).elim
  refine⟨[d].map (s9 (tA S d)),by simp only[oneOf,aZ,dR,e1,e2],(many hd hp λd' wv id n e s l z hs ho hn=>?_).1⟩;simp only[bX]at wv;subst wv;obtain⟨z',q1,-,q3⟩:=Q6 ho d';rw[q3 n hs hn]at q1;exact q1
 |[],ds,hd,_=>exact⟨[],by rw[aO hd];rfl,bJ⟩
 |v::u::vs,ds,hd,hp=>
  obtain⟨d,m',rfl,k1,k2⟩:=ax hd;obtain⟨d',m'',rfl,k3,k4⟩:=ax k2;refine⟨(d::d'::m'').map (s9 ((d::d'::m'').foldl tA S)),rfl,(many hd hp λd1 ZZ id n e s l z hs ho hn=>?_).1⟩;obtain⟨z',q1,-,q3⟩:=Q0 (d::d'::m'') ho;rw[q3 d1 ZZ n hs hn]at q1;exact q1
def aet(ty:fo)(rs:List ResultVar)(lE:List cJ)(Q:TV->Prop)(e:DX)(te:cp)(tS:cx):Prop:=
 (match e with|.exit _=>False|_=>True)/\∃vs,xo ty te tS rs=some vs/\(yj tS vs).all eu=true/\refs (kC (bL lE (yj tS vs)))=[]/\Q (kC (bL lE (yj tS vs)))
theorem YP{cF:bT}{L n:Nat}{f:FuncId}{fn:Func}{c:Code}{targs:cp}{lE:List cJ}{Q:TV->Prop}(hf:P.funcs[f]? =some fn)(hb:fn.body=some c)(ht:∀a,cq gI [] targs a->cF f a=none)
  (h:WT P ty (Dr P ty cF L n) (BI P ty cF L n) (yfN P ty cF L n) [] L f false c (targs++List.replicate (fn.ntmps-targs.length) .unk) [] (aet ty fn.results.toList lE Q)):ug (Dr P ty cF L (n+1)) f targs Q:=by
 intro bV hd;have hlen:=gY hd;have hR:bO gI (targs++List.replicate (fn.ntmps-targs.length) .unk) [] (bV++List.replicate (fn.ntmps-bV.length) bD) []:=by refine⟨eH hd (by rw[hlen];exact yI _ _),λk l hk=>(by simp at hk),λk e s hk=>(by simp at hk),λk k' hk=>(by cases hk),λi j k' hi=>(by cases hi),λk b hk=>(by simp at hk)⟩
 obtain⟨e,aL,S',ι',bS,bK,h1,h2,h3,h4,h5,h6⟩:=h gI _ [] hR (λk hk=>(by cases hk));obtain⟨h6,vs,h7,h8,h9,wz⟩:=h6;obtain⟨ds,k1,k2⟩:=yJ h2 h7;obtain⟨ds2,c1,c2⟩:=afE h2 k2 h8;obtain⟨k3,k4⟩:=Tx (ts:=lE) (ι':=gI) (S':=[]) h8 c2;refine⟨(oneOf ds2).strip,_,?_,k3,k4,h9,wz⟩;have hc:(dZ P ty cF L (n+1)).1 f bV []=some (oneOf ds,S'):=by
  simp only[dZ,hf,wO,hb];have M7:cI P ty (mo cF (dZ P ty cF L n).1) (dZ P ty cF L n).1 (dZ P ty cF L n).2 L f false c (bV++List.replicate (fn.ntmps-bV.length) bD) []=some (e,aL,S'):=h1;rw[M7];cases e with
  |normal=>simp only[k1,ay]
  |ret=>simp only[k1,ay]
  |exit id=>exact h6.elim
 simp only[Dr,mo,ht _ hd,hc,<-c1,k3,if_true]
def Vt(ty:fo)(rs:List ResultVar)(lE:List cJ)(nM:List cJ)(Q:TV->cp->Prop)(e:DX)(te:cp)(tS:cx):Prop:=
 (match e with|.exit _=>False|_=>True)/\∃vs ts,xo ty te tS rs=some vs/\vs.all eu=true/\refs (kC (bL lE vs))=[]/\tS[0]? =some (.cells ts)/\ts.all eu=true/\eM (bL nM ts)=[]/\Q (kC (bL lE vs)) (bL nM ts)
theorem Y6{cF:bT}{L n:Nat}{f:FuncId}{fn:Func}{c:Code}{targs ts:cp}{lE nM:List cJ}{Q:TV->cp->Prop}(hf:P.funcs[f]? =some fn)(hb:fn.body=some c)
  (h:WT P ty (Dr P ty cF L n) (BI P ty cF L n) (yfN P ty cF L n) [0] L f false c (targs++List.replicate (fn.ntmps-targs.length) .unk) [.cells ts] (Vt ty fn.results.toList lE nM Q)):BM (BI P ty cF L (n+1)) f targs ts Q:=by
 intro ι bV S hR;have hlen:=gY hR.env;have j3:bO ι (targs++List.replicate (fn.ntmps-targs.length) .unk) [.cells ts] (bV++List.replicate (fn.ntmps-bV.length) bD) S:=
  ⟨eH hR.env (by rw[hlen];exact yI _ _),hR.cells,hR.own,hR.qH,hR.inj,hR.mp⟩
 obtain⟨e,aL,S',ι',bS,bK,h1,h2,h3,h4,h5,h6⟩:=h ι _ S j3 (λk hk=>(by
  have:k=0:=by simpa using hk
  subst this;exact⟨ts,rfl⟩))
 obtain⟨h6,vs,Ai,h7,h8,h9,wz,Ge,U0,h13⟩:=h6;obtain⟨ds,k1,k2⟩:=yJ h2 h7;obtain⟨k',iu,m1,m2,m3⟩:=h2.cells 0 Ai wz;refine⟨oneOf ds,S',ι',_,bL nM Ai,k',iu,?_,Tz (ts:=lE) h8 k2,h9,U0,by rw[<-h4.base 0 ae];exact m1,m2,lB Ge m3,h4,h5,h13⟩;simp only[BI,dZ,hf,wO,hb];have M7:cI P ty (mo cF (dZ P ty cF L n).1) (dZ P ty cF L n).1 (dZ P ty cF L n).2 L f false c (bV++List.replicate (fn.ntmps-bV.length) bD) S=some (e,aL,S'):=h1;rw[M7];cases e with
 |normal=>simp only[k1,ay]
 |ret=>simp only[k1,ay]
 |exit id=>exact h6.elim
end Go.Tv
namespace Go.Tv
open Go Go.Di
section
variable (P:Program) (ty:fo) (tt:TypeId->cJ)
def VE:cp->Option Nat
 |[]=>none
 |v::l=>match refs v with
  |k::_=>if isRef v then some k else VE l
  |[]=>VE l
end
variable {P:Program} {ty:fo} {tt:TypeId->cJ} {ι ι' w:kW} {S S':aj} {te mh:cp} {env:cn} {tS iq:cx} {aD:bT} {call:bg} {yf:dx} {o:Oper} {aB nT:Nat} {B:cy} {r:TR} {ops:Array Oper} {L:Nat} {fn:FuncId} {iH:Bool} {a b c:Code} {Q Q':DX->cp->cx->Prop}
variable {fs:cY}
def WI(P:Program)(ty:fo)(aD:bT)(call:bg)(yf:dx)(B:cy)(L:Nat)(fn:FuncId)(iH:Bool)(n:Nat)(c:Code)(te:cp)(tS:cx)(Q:DX->cp->cx->Prop):Prop:=
 ∀ι env S,bO ι te tS env S->oy B tS->∃e aL S' ι' bS bK,oq (cI P ty aD call yf L fn iH c) n env S=some (e,aL,S')/\bO ι' bS bK aL S'/\oy B bK/\Fr B ι S ι' S'/\Nn S.length S S'/\Q e bS bK
theorem Bg{f:cn->aj->Option (DX×cn×aj)}:∀{n m:Nat}{env:cn}{S:aj}{r:DX×cn×aj},n<=m->oq f n env S=some r->oq f m env S=some r
 |0,_,_,_,_,_,h=>ar
 |n+1,0,_,_,_,hn,_=>ab
 |n+1,m+1,env,S,r,hn,h=>by simp only[oq]at h⊢;split at h;rename_i aL S' e;exact Bg ab h;exact h
theorem Sa{n:Nat}(hn:n<=L)(h:WI P ty aD call yf B L fn iH n c te tS Q):WT P ty aD call yf B L fn iH (.loop c) te tS Q:=by intro ι env S hR hB;obtain⟨e,aL,S',ι',bS,bK,h1,h2⟩:=h ι env S hR hB;exact⟨e,aL,S',ι',bS,bK,by simp only[cI];exact Bg hn h1,h2⟩
theorem aaX{n:Nat}(h:WT P ty aD call yf B L fn iH c te tS λe te tS=>match e with|.normal=>WI P ty aD call yf B L fn iH n c te tS Q|e=>Q e te tS):WI P ty aD call yf B L fn iH (n+1) c te tS Q:=by
 intro ι env S hR hB;obtain⟨e,aL,S',ι',bS,bK,h1,h2,h3,h4,h5,h6⟩:=h ι env S hR hB;cases e with
 |normal=>obtain⟨e,q8,xh,ι'',tK,tL,k1,k2,k3,k4,k5,k6⟩:=h6 ι' aL S' h2 h3;exact⟨e,q8,xh,ι'',tK,tL,by simp only[oq,h1,k1],k2,k3,h4.trans k4,uz h5 k5,k6⟩
 |exit id=>exact⟨_,aL,S',ι',bS,bK,by simp only[oq,h1],h2,h3,h4,h5,h6⟩
 |ret=>exact⟨_,aL,S',ι',bS,bK,by simp only[oq,h1],h2,h3,h4,h5,h6⟩
theorem aa0{n:Nat}(hl:u6 mh te)(hb:Cq iq tS)(jU:okB mh iq=true)(hB:∀k,k∈B->lJ iq k=true)(h:WI P ty aD call yf B L fn iH n c mh iq Q):WI P ty aD call yf B L fn iH n c te tS Q:=by intro ι env S hR RE;have RF:=zI hb RE hB;obtain⟨ι1,h1,h2,-⟩:=zk hR hl hb jU RF;obtain⟨e,aL,S',ι',bS,bK,m1,m2,m3,m4,m5⟩:=h ι1 env S h1 RF;exact⟨e,aL,S',ι',bS,bK,m1,m2,m3,h2.trans m4,m5⟩
theorem aaZ{σ:Type}{N:Nat}(f:σ->cp×cx)(gV:σ->Prop)(m:σ->Nat)(s0:σ)(h0:Fits B (f s0).1 (f s0).2 te tS)(hg:gV s0)(hm:m s0<N)
  (hstep:∀s,gV s->WT P ty aD call yf B L fn iH c (f s).1 (f s).2 λe te tS=>match e with|.normal=>∃s',Fits B (f s').1 (f s').2 te tS/\gV s'/\m s'<m s|e=>Q e te tS):WI P ty aD call yf B L fn iH N c te tS Q:=by
 refine aa0 h0.l h0.b h0.ok h0.base ?_;have key:∀n s,gV s->m s<n->∀ι env S,bO ι (f s).1 (f s).2 env S->oy B (f s).2->∃e aL S' ι' bS bK,oq (cI P ty aD call yf L fn iH c) n env S=some (e,aL,S')/\bO ι' bS bK aL S'/\oy B bK/\Fr B ι S ι' S'/\Nn S.length S S'/\Q e bS bK:=by
  intro n;induction n with
  |zero=>intro s _ h;omega
  |succ n ih=>
   intro s hs hn ι env S hR hB;obtain⟨e,aL,S',ι',bS,bK,h1,h2,h3,h4,h5,h6⟩:=hstep s hs ι env S hR hB;cases e with
   |normal=>obtain⟨s',hf,rT,hlt⟩:=h6;have RF:=zI hf.b h3 hf.base;obtain⟨ι1,k1,k2,-⟩:=zk h2 hf.l hf.b hf.ok RF;obtain⟨e,q8,xh,ι'',tK,tL,m1,m2,m3,m4,m5,m6⟩:=ih s' rT ab ι1 aL S' k1 RF;exact⟨e,q8,xh,ι'',tK,tL,by simp only[oq,h1,m1],m2,m3,(h4.trans k2).trans m4,uz h5 m5,m6⟩
   |exit id=>exact⟨_,aL,S',ι',bS,bK,by simp only[oq,h1],h2,h3,h4,h5,h6⟩
   |ret=>exact⟨_,aL,S',ι',bS,bK,by simp only[oq,h1],h2,h3,h4,h5,h6⟩
 intro ι env S hR hB;exact key N s0 hg hm ι env S hR hB
theorem aaQ{σ:Type}(f:σ->cp×cx)(gV:σ->Prop)(h1:WT P ty aD call yf B L fn iH a te tS λe te tS=>match e with|.normal=>∃s,Fits B (f s).1 (f s).2 te tS/\gV s|e=>Q e te tS)
  (h2:∀s,gV s->WT P ty aD call yf B L fn iH b (f s).1 (f s).2 Q):WT P ty aD call yf B L fn iH (.seq a b) te tS Q:=by
 refine Wl (h1.mono ?_);intro e te tS hq;cases e with
 |normal=>obtain⟨s,hf,hg⟩:=hq;exact aaP hf.l hf.b hf.ok hf.base (h2 s hg)
 |exit id=>exact hq
 |ret=>exact hq
theorem LH:∀owns:List (Nat×Nat),Cq (owns.map λp=>TB.own p.1 p.2) []
 |[]=>.nil
 |_::l=>.new (LH l)
end Go.Tv
namespace Go.Di
open Go Go.Proofs
def ahp(d:Tmp)(t:TypeId):Nat:=if t==23 then(if d==53 then 1 else if d==2 then 1 else 0)else if t==42 then(if d==39 then 1 else if d==53 then 2 else 0)else if t==35 then(if d==7 then 1 else 0)else if t==9 then(if d==97 then 2 else 0)else 0
noncomputable abbrev TyH:fo:=⟨Va Tryz.prog,ahp⟩
end Go.Di
