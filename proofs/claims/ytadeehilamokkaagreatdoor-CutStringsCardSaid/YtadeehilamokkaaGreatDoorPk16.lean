import Derived.Test.YtadeehilamokkaaGreatDoorPk15
import Derived.Lib.ConvBytes
import Derived.Laws.BytesArg
import Derived.Laws.AppendOwn
namespace Go.Di
open Go
variable {P:Program} {ty:fo} {x:Cx} {w':World} {ρd:Operand->Option DV} {ρ:Operand->Value} {o:Oper} {aB:Nat}
theorem wX(off:Nat):∀(cs:List Value)(i:Nat)(arr:Array Value),off+i+cs.length<=arr.size->
  ((cs.zipIdx i).foldl (λa (p:Value×Nat)=>a.setIfInBounds (off+p.2) p.1) arr)=(arr.toList.take (off+i)++cs++arr.toList.drop (off+i+cs.length)).toArray
 |[],i,arr,_=>ae
 |c::cs,i,arr,h=>by simp only[cT]at h;simp only[List.zipIdx_cons,oG];rw[wX off cs (i+1) _ (by simp;omega)];have e:=list_seg_step arr.toList (off+i) c cs (by simp;omega);congr 1;simpa [Array.toList_setIfInBounds,fS]using e
theorem fold_eq(off:Nat)(cs arr:Array Value)(h:off+cs.size<=arr.size):
  cs.zipIdx.foldl (λa (p:Value×Nat)=>a.setIfInBounds (off+p.2) p.1) arr=(arr.toList.take off++cs.toList++arr.toList.drop (off+cs.size)).toArray:=by
 have:=wX off cs.toList 0 arr (by simpa using h);rw[<-yZ];simpa using this
def aep(x:Cx)(r:List (Nat×DV))(vs:List (Nat×Value)):Prop:=vs.length=r.length/\∀(j:Nat)(p:Nat×DV),r[j]? =some p->∃v,vs[j]? =some (p.1,v)/\RV x p.2 v
def uj(ρ:Operand->Value)(l:List (Nat×Operand)):List (Nat×Value):=l.map λp=>(p.1,ρ p.2)
theorem vN(hρ:xw x ρd ρ):∀{l:List (Nat×Operand)}{r:List (Nat×DV)},ku ρd l=some r->aep x r (uj ρ l)
 |[],r,h=>by simp only[ku,aF]at h;subst h;exact⟨rfl,ae⟩
 |(i,a)::l,r,h=>by
  unfold ku at h;split at h;rename_i d r' h1 h2;cases h;obtain⟨h3,h4⟩:=vN hρ h2;refine⟨by simpa [uj]using h3,λj p hp=>?_⟩;cases j with
  |zero=>simp only[dH,aF]at hp;subst hp;exact⟨ρ a,rfl,hρ a d h1⟩
  |succ j=>simpa [uj]using h4 j p (by simpa using hp)
  cases h
theorem C9{pd pl:Nat->Option (Nat×Nat)}(Ck:∀i p,pd i=some p->pl i=some p):∀{r:List (Nat×DV)}{vs:List (Nat×Value)}{l l':cn}{arr:Array Value},aep x r vs->gb x l arr->kY pd l r=some l'->∃aaF,Instr.fill pl arr vs=some aaF/\gb x l' aaF
 |[],vs,l,l',arr,hv,hl,h=>by have:vs=[]:=eE (by simpa using hv.1);subst this;simp only[kY,aF]at h;subst h;exact⟨arr,rfl,hl⟩
 |(i,d)::r,vs,l,l',arr,hv,hl,h=>by
  obtain⟨v,ZO,hd⟩:=hv.2 0 (i,d) rfl;have hd:RV x d v:=hd;cases vs with
  |nil=>simp at ZO
  |cons v0 vs=>
   simp only[dH,aF]at ZO;subst ZO;unfold kY at h;split at h;cases h;rename_i off size hp;split at h;rename_i hsz;split at h;rename_i l1 h1;have hc:=uu hd;obtain⟨h2,h3⟩:=rH h1;have Up:=Qh hl hc h1;obtain⟨aaF,h4,h5⟩:=C9 Ck (r:=r) (vs:=vs) ⟨by simpa using hv.1,λj p hj=>by simpa using hv.2 (j+1) p (by simpa using hj)⟩ Up h;refine⟨aaF,?_,h5⟩;unfold Instr.fill;simp only[Ck i _ hp];have c1:v.cells.size=size:=by rw[hc.1,<-hsz]
   have c2:¬(v.cells.size≠size\/off+v.cells.size>arr.size):=by rw[hl.1,hc.1];omega
   simp only[gt_iff_lt,jK,bR,c2,if_false];rw[fold_eq off v.cells arr (by rw[hl.1,hc.1];exact h2)];exact h4;cases h;cases h
theorem CE(eV:j6 P ty)(hR:Rel x)(hρ:xw x ρd ρ){t:TypeId}{fs:List (Nat×Nat×Bool)}{sz:Nat}{z cs:cn}{ps:Array (Nat×Operand)}{l:List (Nat×DV)}(h:ty t=some ⟨.struct fs,sz,some z⟩)(hl:ku ρd ps.toList=some l)
  (hf:kY (λi=>(fs[i]?).map λf=>(f.1,f.2.1)) z l=some cs):Yields x ((do pure (.value (<-Instr.build t (ps.map λp=>(p.1,ρ p.2)))):Sem Next).run P x.w) (.agg cs) x.S:=by
 obtain⟨hk,i,hi,-,hz⟩:=bZ (eV t _ h);obtain⟨fields,hu,hfs,hff⟩:=AM hk;obtain⟨zv,h1,h2,-⟩:=jx hz;obtain⟨h3,h4⟩:=ic (x:=x) h2;have CJ:gb x z zv.cells:=⟨by simpa using h3,λj c hc=>by simpa [aW,aK]using h4 j c hc⟩;have Ck:∀w:World,(fields.mapM (λf=>do pure (f.offset,<-sizeOf f.type):Field->Sem (Nat×Nat))).run P w=.ok ((fs.map λf=>(f.1,f.2.1)).toArray) w:=by
  intro w;have key:∀(l:List Field)(fs:List (Nat×Nat×Bool)),l.length=fs.length->(∀(j:Nat)(r:Nat×Nat×Bool),fs[j]? =some r->∃f,l[j]? =some f/\Jr P f r)->(l.mapM (λf=>do pure (f.offset,<-sizeOf f.type):Field->Sem (Nat×Nat))).run P w=.ok (fs.map λf=>(f.1,f.2.1)) w:=by
   intro l;induction l with
   |nil=>intro fs h _;have:fs=[]:=eE (by simpa using h.symm);subst this;rfl
   |cons f l ih=>
    intro fs h hj;cases fs with
    |nil=>simp at h
    |cons r fs=>
     obtain⟨f',h1,h2,inf,h3,h4,-,-⟩:=hj 0 r rfl;simp only[dH,aF]at h1;subst h1;have:=ih fs (by simpa using h) λj r hr=>by simpa using hj (j+1) r (by simpa using hr)
     simp only[List.mapM_cons,Sem.run_bind,run_sizeOf h3,Result.andThen_ok,Sem.run_pure,this,aZ];rw[h2,h4]
  rw[Array.mapM_eq_mapM_toList];simp only[Sem.run_map,key fields.toList fs (by simpa using hfs) (λj r hr=>by simpa using hff j r hr),Result.andThen_ok]
 have tj:=vN hρ hl;obtain⟨arr,h5,h6⟩:=C9 (x:=x) (pl:=λi=>((fs.map λf=>(f.1,f.2.1)).toArray)[i]?) (λi p hp=>by simpa using hp) (vs:=uj ρ ps.toList) tj CJ hf;unfold uj at h5;refine aQ hR (v:=.agg arr) ?_ (.agg h6.1 h6.2);simp only[Instr.build,Sem.run_bind,zeroValue,typeInfo,run_program,Result.andThen_ok,hi,Sem.run_pure,h1,run_underlying hu,Ck,Array.toList_map,h5]
theorem Fs(eV:j6 P ty)(hR:Rel x)(hρ:xw x ρd ρ){t:TypeId}{n s sz:Nat}{agg:Bool}{z cs:cn}{ps:Array (Nat×Operand)}{l:List (Nat×DV)}(h:ty t=some ⟨.array n s agg,sz,some z⟩)(hl:ku ρd ps.toList=some l)
  (hf:kY (λi=>some (i*s,s)) z l=some cs):Yields x ((do pure (.value (<-Instr.build t (ps.map λp=>(p.1,ρ p.2)))):Sem Next).run P x.w) (.agg cs) x.S:=by
 obtain⟨hk,i,hi,-,hz⟩:=bZ (eV t _ h);obtain⟨e,hu,ie,tn,rS,-,-⟩:=zc hk;obtain⟨zv,h1,h2,-⟩:=jx hz;obtain⟨h3,h4⟩:=ic (x:=x) h2;have CJ:gb x z zv.cells:=⟨by simpa using h3,λj c hc=>by simpa [aW,aK]using h4 j c hc⟩;have tj:=vN hρ hl;obtain⟨arr,h5,h6⟩:=C9 (x:=x) (pl:=λi=>some (i*s,s)) (λi p hp=>hp) (vs:=uj ρ ps.toList) tj CJ hf;unfold uj at h5;refine aQ hR (v:=.agg arr) ?_ (.agg h6.1 h6.2);subst rS;simp only[Instr.build,Sem.run_bind,zeroValue,typeInfo,run_program,Result.andThen_ok,hi,Sem.run_pure,h1,run_underlying hu,run_sizeOf tn,Array.toList_map,h5]
theorem B8{z:cn}{s:Nat}(hs:z.length=s):∀(n j:Nat),j<n*s->((List.replicate n z).flatten)[j]? =z[j % s]?
 |0,j,h=>by simp at h
 |n+1,j,h=>by
  have FM:0<s:=by grind
  simp only[De,List.flatten_cons];by_cases hj:j<s;rw[eD ab,Nat.mod_eq_of_lt hj];rw[fT ab,hs,B8 hs n (j-s) (by rw[ni]at h;omega),<-Nat.mod_eq_sub_mod ab]
theorem jr{s:Nat}{agg:Bool}{l:cn}{n:Nat}(hl:l.length=n*s)(hs:0<s)(ha:agg=true\/s=1)(hp:∀c∈l,c.bU=true):∀i,i<n->(rowOf s agg l i).cells=(l.drop (i*s)).take s:=by
 intro i hi;have h1:i*s+s<=l.length:=by rw[hl,<-ni];exact gv _ hi
 unfold rowOf;cases agg with
 |true=>rfl
 |false=>
  have HW:s=1:=by simpa using ha
  subst HW;have hlt:i*1<l.length:=ab
  have e:l.getD (i*1) bD=l[i*1]:=by rw[aK,aT hlt];rfl
  have Up:=hp l[i*1] (iS hlt);simp only[aJ,if_false,e];have hc:(l[i*1]).cells=[l[i*1]]:=by
   revert Up
   generalize l[i*1]=c;cases c<;>simp[DV.bU,DV.cells]
  rw[hc,jM hlt,List.take_succ_cons,List.take_zero]
theorem Hu{s:Nat}{agg:Bool}{l:cn}(hs:0<s)(ha:agg=true\/s=1)(hp:∀c∈l,c.bU=true):∀n,l.length=n*s->flat (rowsOf s agg l n)=l/\∀r∈rowsOf s agg l n,r.cells.length=s:=by
 intro n hl;have hc:=jr hl hs ha hp;have hlen:∀r∈rowsOf s agg l n,r.cells.length=s:=by
  intro r hr;unfold rowsOf at hr;simp only[fQ,Dc]at hr;obtain⟨i,hi,rfl⟩:=hr;rw[hc i hi,List.length_take,List.length_drop];have h1:i*s+s<=l.length:=by rw[hl,<-ni];exact gv _ hi
  omega
 refine⟨?_,hlen⟩;have x7:=gT hlen;have ZP:(rowsOf s agg l n).length=n:=by simp[rowsOf]
 refine nj λj=>?_;by_cases hj:j<n*s;have hdiv:j/s<n:=by rw[Nat.div_lt_iff_lt_mul hs];exact hj
 have agi:j % s<s:=Nat.mod_lt _ hs;have hje:j=(j/s)*s+j % s:=by rw[Nat.mul_comm];exact(Nat.div_add_mod j s).symm
 have hr:(rowsOf s agg l n)[j/s]? =some (rowOf s agg l (j/s)):=by simp[rowsOf,hdiv]
 rw[hje,uF hlen hr agi,hc _ hdiv,qB,if_pos agi,y6]
 grind
theorem D7{rows:cn}{arr:Array Value}{s b:Nat}{y:Cx}{e:TypeId}(h1:∀r∈rows,r.cells.length=s)(h2:∀c∈flat rows,c.bU=true)(h3:(flat rows).length<=arr.size)(hb:y.w.heap[b]? =some (.cells arr e (0,0)))(hF:∀j,j<(flat rows).length->y.Fz b j):
  View y rows (some ⟨b,0,none⟩) s (λj=>arr.getD j undef):=by
 refine⟨h1,λj c hc=>⟨h2 c (bY hc),b,0,rfl,?_,?_⟩⟩
 grind
 have hj:j<arr.size:=cK (aI.1 hc).1 h3;simp[World.cell?,hb,hj,aW]
theorem GB{z:cn}{zv:Value}{s n:Nat}(hs:0<s)(Ij:z.length=s)(Ul:zv.cells.size=s)(h4:∀j c,z[j]? =some c->RV x c (zv.cells.toList.getD j undef)):gb x ((List.replicate n z).flatten) ((Array.range (n*s)).map (zv.cells[·% zv.cells.size]!)):=by
 refine⟨by simp[Ij],λj c hc=>?_⟩;have hj:j<n*s:=by have:=(aI.1 hc).1;simpa [Ij]using this
 rw[B8 Ij n j hj]at hc;have hm:j % s<s:=Nat.mod_lt _ hs;have:=h4 _ c hc;have J5:j % zv.cells.size<zv.cells.size:=by rw[Ul];exact hm
 have e1:((Array.range (n*s)).map (zv.cells[·% zv.cells.size]!)).getD j undef=zv.cells[j % zv.cells.size]! :=by simp[aW,hj]
 rw[e1,sC zv.cells (j % zv.cells.size) J5];have e2:zv.cells.toList.getD (j % s) undef=zv.cells[j % zv.cells.size]:=by simp[aK,<-Ul,J5]
 rw[<-e2];exact this
theorem HK(eV:j6 P ty)(hR:Rel x)(hρ:xw x ρd ρ){t e:TypeId}{n s iU sz sz':Nat}{agg:Bool}{k:TK}{z0:Option cn}{z cs:cn}{ps:Array (Nat×Operand)}{l:List (Nat×DV)}(h:ty t=some ⟨.slice e s iU agg,sz,z0⟩)(hl:ku ρd ps.toList=some l)(he:ty e=some ⟨k,sz',some z⟩)
  (hs:0<s) (hn:n*s<=16777216) (hf:kY (λi=>some (i*s,s)) ((List.replicate n z).flatten) (l.map λ(i,v)=>(i,v.strip))=some cs):
  ∃arr,gb x cs arr/\cs.length=n*s/\(Instr.buildSlice t n (ps.map λp=>(p.1,ρ p.2))).run P x.w=.ok (.slice (some ⟨x.w.heap.size,0,none⟩) n n) (x.w.alloc (.cells arr e)):=by
 obtain⟨hk,i,hi,-,-⟩:=bZ (eV t _ h);obtain⟨hu,ie,tn,rS,-,HZ⟩:=lW hk;obtain⟨-,ie',Dt,-,hz⟩:=bZ (eV e _ he);rw[tn]at Dt;cases Dt;obtain⟨zv,h1,h2,hzl⟩:=jx hz;obtain⟨h3,h4⟩:=ic (x:=x) h2;have Ul:zv.cells.size=s:=by rw[<-rS,<-hzl];simpa using h3
 have Ij:z.length=s:=by rw[hzl,rS]
 have CJ:=GB (n:=n) hs Ij Ul h4;have tj:aep x (l.map λ(i,v)=>(i,v.strip)) (uj ρ ps.toList):=by have:=vN hρ hl;refine⟨by simpa using this.1,λj p hp=>?_⟩;simp only[cH,af]at hp;obtain⟨q,hq,rfl⟩:=hp;obtain⟨v,Rw,Zo⟩:=this.2 j q hq;exact⟨v,by simpa using Rw,Zo.strip⟩
 obtain⟨arr,h5,h6⟩:=C9 (x:=x) (pl:=λi=>some (i*s,s)) (λi p hp=>hp) tj CJ hf;have nR:cs.length=n*s:=by
  have key:∀(r:List (Nat×DV))(l l':cn),kY (λi=>some (i*s,s)) l r=some l'->l'.length=l.length:=by
   intro r;induction r with
   |nil=>intro l l' h;simp only[kY,aF]at h;rw[h]
   |cons p r ih=>
    intro l l' h;obtain⟨i,d⟩:=p;unfold kY at h;simp only at h;split at h;split at h;rename_i l1 h1;rw[ih _ _ h];obtain⟨h2,rfl⟩:=rH h1;simp;omega
    cases h;cases h
  rw[key _ _ _ hf];simp[Ij]
 refine⟨arr,h6,nR,?_⟩;subst rS;have c1:¬(n*ie.size>2^24):=by rw[show(2:Nat)^24=16777216 from by decide];omega
 have h5':Instr.fill (λi=>some (i*ie.size,ie.size)) ((Array.range (n*ie.size)).map (zv.cells[·% zv.cells.size]!)) (ps.toList.map λp=>(p.1,ρ p.2))=some arr:=h5;by_cases h0:n*ie.size=0;have e0:(Array.range (n*ie.size)).map ((#[]:Array Value)[·% (#[]:Array Value).size]!)=(Array.range (n*ie.size)).map (zv.cells[·% zv.cells.size]!):=by rw[h0];simp
 simp only[Instr.buildSlice,Sem.run_bind,run_underlying hu,Result.andThen_ok,run_sizeOf tn,if_neg c1,if_pos h0,Sem.run_pure,e0,Array.toList_map,h5',newRow,run_newObj];rfl;simp only[Instr.buildSlice,Sem.run_bind,run_underlying hu,Result.andThen_ok,run_sizeOf tn,if_neg c1,if_neg h0,Sem.run_pure,zeroValue,typeInfo,run_program,tn,h1,Array.toList_map,h5',newRow,run_newObj];rfl
theorem FZ(eV:j6 P ty)(hR:Rel x)(hρ:xw x ρd ρ){t e:TypeId}{n s iU sz sz':Nat}{agg:Bool}{k:TK}{z0:Option cn}{z cs:cn}{ps:Array (Nat×Operand)}{l:List (Nat×DV)}(h:ty t=some ⟨.slice e s iU agg,sz,z0⟩)(hl:ku ρd ps.toList=some l)(he:ty e=some ⟨k,sz',some z⟩)
  (hs:0<s) (hn:n*s<=16777216) (hf:kY (λi=>some (i*s,s)) ((List.replicate n z).flatten) (l.map λ(i,v)=>(i,v.strip))=some cs) (hp:cs.all DV.bU=true) (ha:agg=true\/s=1):
  Yields x ((do pure (.value (<-Instr.buildSlice t n (ps.map λp=>(p.1,ρ p.2)))):Sem Next).run P x.w) (.sl (rowsOf s agg cs n) none ⟨true,some false⟩) x.S:=by
 obtain⟨arr,h6,nR,hrun⟩:=HK eV hR hρ h hl he hs hn hf;have UM:∀c∈cs,c.bU=true:=λc hc=>aU.1 hp c hc;obtain⟨x7,ZP⟩:=Hu hs ha UM n nR;have Up:oz x.w (x.w.alloc (.cells arr e)) (.cells arr e (0,0)):=gG _ _;have j3:=GR (F:=λo=>o<arr.size) hR Up λo ho=>⟨arr[o],by simp[ho]⟩;have hrn:(rowsOf s agg cs n).length=n:=by simp[rowsOf]
 have ye:(x.w.alloc (.cells arr e)).heap[x.w.heap.size]? =some (.cells arr e (0,0)):=Up.new;have BC:arr.size=cs.length:=h6.1;have M:=mQ (F:=λo=>o<arr.size) hR Up;refine gy (y:=x.froze _ (λo=>o<arr.size)) (v:=.slice (some ⟨x.w.heap.size,0,none⟩) n n) hrun rfl j3 M ?_
 suffices hk:RV (x.froze (x.w.alloc (.cells arr e)) (λo=>o<arr.size)) (.sl (rowsOf s agg cs n) none ⟨true,some false⟩) (.slice (some ⟨x.w.heap.size,0,none⟩) (rowsOf s agg cs n).length (rowsOf s agg cs n).length)by rw[hrn]at hk;exact hk
 have hv:View (x.froze (x.w.alloc (.cells arr e)) (λo=>o<arr.size)) (rowsOf s agg cs n) (some ⟨x.w.heap.size,0,none⟩) s (λj=>arr.getD j undef):=
  D7 ZP (by rw[x7];exact UM) (by rw[x7];omega) ye λj hj=>.inr ⟨rfl,by rw[x7]at hj;omega⟩
 refine RV.sl (tok:=none) hv (λj c hc=>?_) (ai _) ⟨λ_=>rfl,λb h=>by cases h;rfl⟩ ae (λad h _=>by cases h;rfl) (λt ht=>nomatch ht);rw[x7]at hc;exact(h6.2 j c hc).mono M
theorem Ow(w:World)(e:TypeId)(b:ByteArray):oz w (Lib.bytesWorld w e b) (.cells (Lib.bytesCells w e b) e ((Lib.bytesCells w e b).size,(Lib.bytesCells w e b).size+1)) where
 heap:=by refine Array.ext_getElem? λj=>?_;rcases Nat.lt_trichotomy j w.heap.size with h|rfl|h;rw[Lib.bytesWorld_at_old w e b j h,Array.getElem?_push_lt h,b7 h];rw[Lib.bytesWorld_at_new,Array.getElem?_push_size];rw[vF (by rw[Lib.bytesWorld_size];omega),vF (by simp;omega)]
 env:=⟨rfl,rfl⟩
theorem Yr(hR:Rel x){t d:TypeId}{a:Value}{r:DV}(h:N3 P t d a=some r):Yields x ((do pure (.value (<-Go.convert t d a)):Sem Next).run P x.w) r x.S:=by
 unfold N3 at h;split at h;rename_i b;split at h;rename_i u e hs hd;split at h;rename_i he;cases h;have hrun:=Lib.run_convert_string_bytes x.w t d e b hs hd he;have hlen:(b.data.toList.map λc=>DV.val (.int .u8 c.toNat)).length=b.size:=by rw[List.length_map,eZ];rfl
 have dB:∀j,j<b.size->(Lib.bytesWorld x.w e b).cell? ⟨x.w.heap.size,j,none⟩=some (.int .u8 (b.data.toList.getD j 0).toNat):=λj hj=>Lib.bytesWorld_cell x.w e b j hj;have Up:=Ow x.w e b;have j3:=GR (F:=λo=>o<b.size) hR Up λo ho=>⟨_,dB o ho⟩;have M:=mQ (F:=λo=>o<b.size) hR Up;refine gy (y:=x.froze _ (λo=>o<b.size)) hrun rfl j3 M ?_;have x7:flat (b.data.toList.map λc=>DV.val (.int .u8 c.toNat))=b.data.toList.map λc=>DV.val (.int .u8 c.toNat):=by
  generalize b.data.toList=l;induction l with
  |nil=>rfl
  |cons c l ih=>simpa [flat,DV.cells]using ih
 have aR:∀j c,(b.data.toList.map λc=>DV.val (.int .u8 c.toNat))[j]? =some c->j<b.size/\c=.val (.int .u8 (b.data.toList.getD j 0).toNat):=λj c hc=>by have hj:=(aI.1 hc).1;rw[hlen]at hj;simp only[cH,af]at hc;obtain⟨u,hu,rfl⟩:=hc;exact⟨hj,by simp[aK,hu]⟩
 rw[<-hlen];refine RV.sl (s:=1) (vs:=λj=>.int .u8 (b.data.toList.getD j 0).toNat) ⟨λr hr=>?_,λj c hc=>?_⟩ (λj c hc=>?_) ?_ ⟨(nofun),λb h=>by cases h;rfl⟩ (nofun) (λad h _=>by cases h;rfl) (λt ht=>nomatch ht);obtain⟨c,-,rfl⟩:=fQ.1 hr;rfl
 rw[x7]at hc;obtain⟨h1,rfl⟩:=aR j c hc;exact⟨rfl,x.w.heap.size,0,rfl,.inr ⟨rfl,by simpa using h1⟩,(by rw[eO];exact dB j h1)⟩;rw[x7]at hc;obtain⟨h1,rfl⟩:=aR j c hc;exact .val rfl;rw[hlen];exact grownCap_ge _ _ _ _
 cases h;cases h;cases h
theorem sU(eV:j6 P ty){t:TypeId}{fs:List (Nat×Nat×Bool)}{sz f off s:Nat}{agg:Bool}{z:Option cn}(h:ty t=some ⟨.struct fs,sz,z⟩)(hf:fs[f]? =some (off,s,agg))(hs:0<s)(b o0:Nat)(w:World):
  (Instr.fieldAt t (.pointer (some ⟨b,o0,none⟩)) f).run P w=.ok (.pointer (some ⟨b,o0+off,none⟩)) w:=by
 obtain⟨hk,i,hi,-,-⟩:=bZ (eV t _ h);obtain⟨fields,hu,hfs,hff⟩:=AM hk;obtain⟨fd,h1,h2,inf,h3,h4,-,-⟩:=hff f _ hf;simp only at h2 h4;have hne:¬(inf.size=0):=ab
 simp only[Instr.fieldAt,Sem.run_bind,run_underlying hu,Result.andThen_ok,h1,Instr.sureAddr,Sem.run_pure,fieldPlace,run_sizeOf h3,if_neg hne,iA,h2]
theorem B2(eV:j6 P ty){t:TypeId}{k s sz:Nat}{agg:Bool}{z:Option cn}(h:ty t=some ⟨.array k s agg,sz,z⟩){kd:IntKind}{n:Int}(h0:0<=n)(hlt:n.toNat<k)(b o0:Nat)(w:World):
  (Instr.indexAt t (.pointer (some ⟨b,o0,none⟩)) (.int kd n)).run P w=.ok (.pointer (some ⟨b,o0+n.toNat*s,none⟩)) w:=by
 obtain⟨hk,i,hi,-,-⟩:=bZ (eV t _ h);obtain⟨e,hu,ie,tn,rS,-,-⟩:=zc hk;have hc:0<=n/\n<(k:Int):=⟨h0,ab⟩;subst rS;simp only[Instr.indexAt,asIntOf,Sem.run_bind,Sem.run_pure,Result.andThen_ok,run_underlying hu,Instr.sureAddr,hc,and_self,if_true,run_sizeOf tn,iA]
theorem E8(eV:j6 P ty){t e:TypeId}{s iU sz:Nat}{agg:Bool}{z:Option cn}(h:ty t=some ⟨.slice e s iU agg,sz,z⟩){kd:IntKind}{n:Int}{len cap:Nat}(h0:0<=n)(hlt:n.toNat<len)(b o0:Nat)(w:World):
  (Instr.indexAt t (.slice (some ⟨b,o0,none⟩) len cap) (.int kd n)).run P w=.ok (.pointer (some ⟨b,o0+n.toNat*s,none⟩)) w:=by
 obtain⟨hk,i,hi,-,-⟩:=bZ (eV t _ h);obtain⟨hu,ie,tn,rS,-,-⟩:=lW hk;have hc:0<=n/\n<(len:Int):=⟨h0,ab⟩;subst rS;simp only[Instr.indexAt,asIntOf,Sem.run_bind,Sem.run_pure,Result.andThen_ok,run_underlying hu,hc,and_self,if_true,run_sizeOf tn,iA]
theorem P3:∀{rows:cn}{l:cj},u8D rows=some l->l.length=rows.length/\flat rows=rows/\∀j,j<l.length->rows[j]? =some (.val (.int .u8 (l.getD j 0)))
 |[],l,h=>by cases h;exact⟨rfl,rfl,λj hj=>by simp at hj⟩
 |d::rows,l,h=>by
  unfold u8D at h;split at h
  grind
  rename_i n r e;cases e;simp only[af]at h;obtain⟨m,h1,rfl⟩:=h;obtain⟨k1,k2,k3⟩:=P3 h1;refine⟨by simp[k1],by simpa [flat,DV.cells]using k2,λj hj=>?_⟩;cases j with
  |zero=>rfl
  |succ j=>simpa using k3 j (by simpa using hj)
  cases h
theorem afa(hR:Rel x){t d:TypeId}{rows:cn}{tok:Option Nat}{f:SF}{v:Value}{r:DV}(h:aaa P t d rows=some r)(hv:RV x (.sl rows tok f) v):Yields x ((do pure (.value (<-Go.convert t d v)):Sem Next).run P x.w) r x.S:=by
 unfold aaa at h;split at h;rename_i e hs hd;split at h;rename_i he;simp only[af]at h;obtain⟨l,h1,rfl⟩:=h;obtain⟨k1,k2,k3⟩:=P3 h1;cases hv with
 |sl hw hc h2 h3 h4 h5 h6=>
  rename_i A cap s vs;have key:(convert t d (.slice A rows.length cap)).run P x.w=.ok (.string (strOfNums l)) x.w:=by rw[<-k1];by_cases h0:l=[];subst h0;rw[gr,run_convert_bytes_string x.w t d e A 0 cap hs he hd];cases A<;>simp[Conv.bytesToString,loadCells]<;>rfl;have hp:0<l.length:=List.length_pos_iff.2 h0;have Pq:=k3 0 hp;obtain⟨-,b,o,rfl,-,-⟩:=hw.2 0 _ (by rw[k2];exact Pq);refine run_convert_bytes_arg x.w t e hs he b o l.length cap l rfl (λi hi=>?_) d hd;have RA:=k3 i hi;obtain⟨-,b',o',e1,-,m1⟩:=hw.2 i _ (by rw[k2];exact RA);cases e1;rw[m1,nX (hc i _ (by rw[k2];exact RA))]
  exact aQ hR key (.val rfl)
 cases h;cases h
end Go.Di
namespace Go.Di
open Go
variable {P:Program} {ty:fo} {x:Cx} {w':World} {ρd:Operand->Option DV} {ρ:Operand->Value} {o:Oper} {aB:Nat}
theorem ur{rows:cn}{tok:Option Nat}{full:SF}{A:Option Addr}{n cap s:Nat}(h:RV x (.sl rows tok full) (.slice A n cap))(hs:∀r∈rows,r.cells.length=s):
  n=rows.length/\n<=cap/\((full.full=true->cap=n)/\Wh full A)/\(A=none->cap=0)/\adp x tok rows A cap/\(∀ad,A=some ad->0<cap->ad.spot=none)/\
  (∀c∈flat rows,c.bU=true)/\∃vs:List Value,vs.length=n*s/\(∀j c,(flat rows)[j]? =some c->RV x c (vs.getD j undef))/\
   (∀j c,(flat rows)[j]? =some c->∃b o,A=some ⟨b,o,none⟩/\x.Fz b (o+j)/\x.w.cell? ⟨b,o+j,none⟩=some (vs.getD j undef))/\∀u∈vs,u.oneCell'=true:=by
 cases h with
 |@sl _ _ _ _ _ s' vs hv hr h1 h2 h3 hsp h4=>
  have x7:=gT hs;refine⟨rfl,h1,h2,h3,h4,hsp,λc hc=>?_,(List.range (rows.length*s)).map vs,ae,λj c hc=>?_,λj c hc=>?_,λu hu=>?_⟩;obtain⟨j,hj,rfl⟩:=List.mem_iff_getElem.1 hc;exact(hv.2 j _ (aT hj)).1
  grind
  have hj:j<rows.length*s:=by rw[<-x7];exact(aI.1 hc).1
  obtain⟨-,b,o,k1,k2,k3⟩:=hv.2 j c hc;exact⟨b,o,k1,k2,by simpa [aK,hj]using k3⟩;simp only[fQ,Dc]at hu;obtain⟨j,hj,rfl⟩:=hu;have CM:j<(flat rows).length:=ab
  have k:=aT CM;have hp:=(hv.2 j _ k).1;have h1:((flat rows)[j]).one=true:=by
   revert hp
   generalize(flat rows)[j]=c;cases c<;>simp[DV.bU,DV.one]
  exact(one_cell (hr j _ k) h1).1
theorem aeX{y:Cx}{R:cn}{t s N cap:Nat}{e:TypeId}{arr:Array Value}(hR:∀r∈R,r.cells.length=s)(hp:∀c∈flat R,c.bU=true)(hS:y.S[t]? =some (.tail e s N))(hN:N=R.length*s)
  (hh:y.w.heap[y.μ t]? =some (.cells arr e (0,0))) (hF:∀o,o<N->y.Fz (y.μ t) o) (hsz:N<=arr.size) (hc:∀j c,(flat R)[j]? =some c->RV y c (arr.getD j undef)) (hk:cap=y.κ t) (Cz:R.length<=cap):
  RV y (.sl R (some t) ⟨false,none⟩) (.slice (some ⟨y.μ t,0,none⟩) R.length cap):=by
 have x7:=gT hR;refine RV.sl (D7 hR hp ab hh λj hj=>hF j ab) hc Cz ⟨ae,λ_ h=>nomatch h⟩ ae (λad h _=>by cases h;rfl) λt' ht=>?_;cases ht;exact⟨e,s,N,hS,ab,hR,λ_=>⟨rfl,hk⟩⟩
theorem B9(a b:cn):flat (a++b)=flat a++flat b:=by simp[flat]
theorem AV{y:Cx}{rows news:cn}{HQ nO:List Value}{t s b cap:Nat}{e:TypeId}{arr:Array Value}(M:bE x y)(h1:∀r∈rows,r.cells.length=s)(h2:∀r∈news,r.cells.length=s)(hp1:∀c∈flat rows,c.bU=true)(hp2:∀c∈flat news,c.bU=true)
  (Ad:∀(j:Nat)(c:DV),(flat rows)[j]? =some c->RV x c (HQ.getD j undef)) (J3:∀(j:Nat)(c:DV),(flat news)[j]? =some c->RV x c (nO.getD j undef)) (hS:y.S[t]? =some (.tail e s ((rows.length+news.length)*s))) (hμ:y.μ t=b) (hκ:y.κ t=cap)
  (hh:y.w.heap[b]? =some (.cells arr e (0,0))) (hF:∀o,o<(rows.length+news.length)*s->y.Fz b o) (hsz:(rows.length+news.length)*s<=arr.size) (UX:∀j,j<rows.length*s->arr.getD j undef=HQ.getD j undef) (Pw:∀j,j<news.length*s->arr.getD (rows.length*s+j) undef=nO.getD j undef)
  (Cz:rows.length+news.length<=cap):RV y (.sl (rows++news) (some t) ⟨false,none⟩) (.slice (some ⟨b,0,none⟩) (rows.length+news.length) cap):=by
 have UU:=gT h1;have ZX:=gT h2;subst hμ hκ;have key:=aeX (y:=y) (R:=rows++news) (t:=t) (s:=s) (arr:=arr) (cap:=y.κ t) (N:=(rows.length+news.length)*s) (λr hr=>(iQ.1 hr).elim (h1 r) (h2 r)) (λc hc=>?_) hS (by rw[cL]) hh hF hsz (λj c hc=>?_) rfl (by rw[cL];exact Cz)
 grind
 rw[B9]at hc;exact(iQ.1 hc).elim (hp1 c) (hp2 c)
 rw[B9]at hc;by_cases hj:j<(flat rows).length;rw[eD hj]at hc;rw[UX j ab];exact(Ad j c hc).mono M;rw[fT ab]at hc;have hj2:j-(flat rows).length<(flat news).length:=(aI.1 hc).1;have e1:j=rows.length*s+(j-(flat rows).length):=ab
 rw[e1,Pw _ ab];exact(J3 _ c hc).mono M
theorem Bh{HQ nO:List Value}{Z:Array Value}{n m:Nat}(h1:HQ.length=n)(h2:nO.length=m):(∀j,j<n->(HQ.toArray++nO.toArray++Z).getD j undef=HQ.getD j undef)/\∀j,j<m->(HQ.toArray++nO.toArray++Z).getD (n+j) undef=nO.getD j undef:=by constructor;intro j hj;rw[aW,za (by simp;omega),za (by simp;omega)];simp[aK];intro j hj;rw[aW,za (by simp;omega),Rq (by simp;omega)];simp[aK,h1]
theorem Tu(eV:j6 P ty)(hR:Rel x)(hn:FD x.S aB){t u:TypeId}{a b d:DV}{va vb:Value}{S':aj}(ha:RV x a va)(hb:RV x b vb)(h:jJ ty x.S aB t a b=some (d,S')):
  Yields x ((do pure (.value (<-Builtin.append_ #[t,t] u #[va,vb])):Sem Next).run P x.w) d S':=by
 unfold jJ at h;split at h
 .rename_i e s iU agg sz z0 rows tok full news adz adj htt;obtain⟨hk,it,-,-,-⟩:=bZ (eV t _ htt);obtain⟨hu,ie,tn,rS,CN,-⟩:=lW hk;have Gc:=ha;have Dl:=hb;cases ha with
  |@sl _ _ _ A cap s1 vs1 Rw Ad k1 k2 k3 k4 k5=>
   cases hb with
   |@sl _ _ _ A2 tD s2 vs2 Zo J3 m1 m2 m3 m4 m5=>
    split at h;rename_i wm;cases h;have Nr:news=[]:=by simpa using wm
    subst Nr;refine aQ hR (v:=.slice A rows.length cap) ?_ Gc;subst rS;cases A with
    |none=>cases A2<;>simp[Builtin.append_,run_underlying hu,run_sizeOf tn,Builtin.lenOf,Builtin.firstCells,loadCells,loadCellsFrom,k1]
    |some ad=>cases A2<;>simp[Builtin.append_,run_underlying hu,run_sizeOf tn,Builtin.lenOf,Builtin.firstCells,loadCells,loadCellsFrom,storeCells,k1]
    rename_i wm;split at h
    .rename_i hte;split at h
     rotate_left
     cases h;rename_i pz;simp only[aC,bR,aU]at pz;obtain⟨⟨⟨hs,mD⟩,hlen⟩,nG⟩:=pz;have hm:0<news.length:=List.length_pos_iff.2 (by simpa using wm);obtain⟨z,hiz,Ul⟩:∃z,ie.zero=some z/\z.cells.size=s:=by obtain⟨-,ie',Dt,HX,CJ⟩:=bZ (eV e _ hte);rw[tn]at Dt;cases Dt;obtain⟨z,q1,q2,q3⟩:=jx CJ;have:=(ic (x:=x) q2).1;exact⟨z,q1,by rw[<-rS,<-q3];simpa using this⟩
     obtain⟨-,-,-,-,-,adV,hpN,nO,uY,Ik,Ae,Gu⟩:=ur Dl nG;obtain⟨ad2,rfl⟩:∃ad2,A2=some ad2:=by
      cases A2 with
      |none=>have:=m3 rfl;omega
      |some ad=>exact⟨ad,rfl⟩
     have Cy:=gT nG;obtain⟨b2,o2,sp2⟩:=ad2;have adU:sp2=none:=adV _ rfl ab;subst adU;have qQ:∀j v,nO[j]? =some v->x.w.cell? ((⟨b2,o2,none⟩:Addr).add j)=some v:=by
      intro j v hv;have hj:j<(flat news).length:=by rw[Cy,<-uY];exact(aI.1 hv).1
      obtain⟨b',o',q1,-,q2⟩:=Ae j _ (aT hj);cases q1;rw[iA,q2];simp[aK,hv]
     have akx:rows.length+news.length<=9223372036854775807:=ab
     have grown:∀(w1:List Value),w1.length=rows.length*s->∀(k:Nat),k=grownCap x.w (rows.length+news.length) cap e->k<=maxLen/\rows.length+news.length<=k/\
       (w1.toArray++nO.toArray++Builtin.zeroCells z.cells (k-(rows.length+news.length))).size=k*s:=by
      intro w1 MQ k hk;have JS:=grownCap_ge x.w (rows.length+news.length) cap e;have hle:=grownCap_le_maxLen x.w (rows.length+news.length) cap e (by simp only[maxLen];omega);subst hk;refine⟨hle,JS,?_⟩;simp only[Array.size_append,iT,size_zeroCells,Ul,MQ,uY,<-kL];congr 1;omega
     have aiB:∀(hf:full.full=true)(mw:∀r∈rows,r.cells.length=s),d=.sl (rows++news) (some aB) ⟨false,none⟩->S'=eF x.S aB (.tail e s ((rows.length+news.length)*s))->
       Yields x ((do pure (.value (<-Builtin.append_ #[t,t] u #[.slice A rows.length cap,.slice (some ⟨b2,o2,none⟩) news.length tD])):Sem Next).run P x.w) d S':=by
      intro hf mw hd hS;subst hd hS;have Cz:cap=rows.length:=k2.1 hf;obtain⟨-,-,-,-,-,ai7,hpR,HQ,Dj,aan,Dk,ahn⟩:=ur Gc mw;have aar:=gT mw;obtain⟨g1,g2,g3⟩:=grown HQ Dj _ rfl;have hrun:(Builtin.append_ #[t,t] u #[.slice A rows.length cap,.slice (some ⟨b2,o2,none⟩) news.length tD]).run P x.w=
        .ok (.slice (some ⟨x.w.heap.size,0,none⟩) (rows.length+news.length) (grownCap x.w (rows.length+news.length) cap e)) (x.w.drew.alloc (.cells (HQ.toArray++nO.toArray++Builtin.zeroCells z.cells (grownCap x.w (rows.length+news.length) cap e-(rows.length+news.length))) e)):=by
       cases A with
       |none=>
        have h0:=k3 rfl;have Pq:rows.length=0:=ab
        have hw0:HQ=[]:=eE (by rw[Dj,Pq];simp);subst hw0;rw[Pq,h0];have:=run_append_nil (P:=P) x.w t u e ie z hu tn hiz ⟨b2,o2,none⟩ news.length tD nO (by rw[uY,rS]) qQ hm ab (by rw[CN];unfold fE at mD;have:news.length*iU<=(rows.length+news.length)*iU:=gv _ ab;omega);simpa using this
       |some ad=>
        obtain⟨b1,o1,sp1⟩:=ad;have HW:0<rows.length->sp1=none:=λh=>ai7 _ rfl ab;refine run_append_grow (P:=P) x.w t u e ie z hu tn hiz ⟨b1,o1,sp1⟩ rows.length cap HQ (by rw[Dj,rS]) (λj v hv=>?_) ⟨b2,o2,none⟩ news.length tD nO (by rw[uY,rS]) qQ ab ab (growslice_fits ab (by rw[CN];exact mD));have hj:j<(flat rows).length:=by rw[aar,<-Dj];exact(aI.1 hv).1
        obtain rfl:=HW (Nat.pos_of_ne_zero λe=>by rw[aar,e]at hj;simp at hj);obtain⟨b',o',q1,-,q2⟩:=Dk j _ (aT hj);cases q1;rw[iA,q2];simp[aK,hv]
      generalize hk0:grownCap x.w (rows.length+news.length) cap e=k at*;obtain⟨v1,v2⟩:=Bh (Z:=Builtin.zeroCells z.cells (k-(rows.length+news.length))) Dj uY;generalize Ip:HQ.toArray++nO.toArray++Builtin.zeroCells z.cells (k-(rows.length+news.length))=arr at*;have hp:oz x.w (x.w.drew.alloc (.cells arr e)) (.cells arr e (0,0)):=⟨rfl,rfl,rfl⟩;have hNs:(rows.length+news.length)*s<=arr.size:=by rw[g3];exact gv _ g2
      have j3:=mG (k:=k) (F:=λo=>o<(rows.length+news.length)*s) (b:=.tail e s ((rows.length+news.length)*s)) hR hn hp (λo ho=>⟨arr[o]' ab,by simp only[World.cell?,hp.new];exact b7 _⟩) (.inr (.inl ⟨e,s,_,arr,rfl,rfl,g3,hNs,g1,λo ho=>ho⟩));have M:=jv (k:=k) (F:=λo=>o<(rows.length+news.length)*s) (b:=.tail e s ((rows.length+news.length)*s)) hR hn hp;exact gy hrun (y:=x.fresh (x.w.drew.alloc (.cells arr e)) aB k (λo=>o<(rows.length+news.length)*s) (.tail e s ((rows.length+news.length)*s))) rfl j3 M
       (AV M mw nG hpR hpN aan Ik (by show(eF _ _ _)[_]? =_;rw[bC hn.le,if_pos rfl]) (if_pos rfl) (if_pos rfl) hp.new (λo ho=>.inr ⟨rfl,ho⟩) hNs v1 v2 g2)
     cases tok with
     |none=>grind
     |some tk=>
      simp only at h;split at h;rename_i e' s' n' MR;split at h;rename_i W0;simp only[aC,bR]at W0;obtain⟨⟨w1,w2⟩,w3⟩:=W0;rw[w1,w2,w3]at MR;cases h;obtain⟨e2,s2',n2,q1,q2,q3,q4⟩:=k5 tk rfl;rw[MR]at q1;cases q1;obtain⟨rfl,rfl⟩:=q4 rfl;obtain⟨-,-,-,-,-,-,hpR,HQ,Dj,aan,Dk,ahn⟩:=ur Gc q3;have aar:=gT q3;obtain⟨cur,t1,t2,t3,t4⟩:=hR.cU tk _ _ _ MR;have ajx:∀j,j<rows.length*s->cur[j]? =some (HQ.getD j undef):=by
       intro j hj;have CM:j<(flat rows).length:=ab
       obtain⟨b',o',r1,-,r2⟩:=Dk j _ (aT CM);cases r1;simpa [World.cell?,t1]using r2
      by_cases hroom:rows.length+news.length<=x.κ tk;have Im:rows.length*s+nO.length<=cur.size:=by rw[uY,t2,<-kL];exact gv _ hroom
      have hrun:=run_append_room (P:=P) x.w t u e ie hu tn (x.μ tk) rows.length (x.κ tk) cur t1 ⟨b2,o2,none⟩ news.length tD nO (by rw[uY,rS]) qQ Gu hroom (by rw[rS];exact Im);rw[rS]at hrun;generalize Ip:(cur.toList.take (rows.length*s)++nO++cur.toList.drop (rows.length*s+nO.length)).toArray=arr at*;have agn:arr.size=cur.size:=by rw[<-Ip];simp;omega
      have adf:∀j,j<rows.length*s->arr[j]? =some (HQ.getD j undef):=by grind
      have ahs:∀j,j<news.length*s->arr[rows.length*s+j]? =some (nO.getD j undef):=by
       intro j hj;have e1:(cur.toList.take (rows.length*s)).length=rows.length*s:=by simp;omega
       rw[<-Ip,List.getElem?_toArray,qA,fT ab,e1,qE,eD ab];simp[aK,aT (show j<nO.length by omega)]
      have lM:∀o,o<rows.length*s->(x.w.setRow (x.μ tk) arr).cell? ⟨x.μ tk,o,none⟩=x.w.cell? ⟨x.μ tk,o,none⟩:=by intro o ho;rw[cell_setRow_same _ _ _ _ _ _ _ t1,adf o ho];simp[World.cell?,t1,ajx o ho]
      have hNs:(rows.length+news.length)*s<=arr.size:=by rw[agn,t2];exact gv _ hroom
      have hle:rows.length*s<=(rows.length+news.length)*s:=gv _ ab;have j3:=C1 (F:=λo=>o<(rows.length+news.length)*s) (arr:=arr) (b:=.tail e s ((rows.length+news.length)*s)) hR MR (.inr (.inl ⟨e,s,_,_,rfl,rfl,hle,lM,by rw[agn];exact t2,hNs,λo ho=>ho⟩));have M:=uA (F:=λo=>o<(rows.length+news.length)*s) (arr:=arr) (b:=.tail e s ((rows.length+news.length)*s)) hR MR (.inr (.inl ⟨e,s,_,_,rfl,rfl,hle,lM⟩));exact gy hrun (y:=x.upd tk arr (λo=>o<(rows.length+news.length)*s) (.tail e s ((rows.length+news.length)*s))) rfl j3 M
       (AV M q3 nG hpR hpN aan Ik (by show(x.S.set _ _)[_]? =_;rw[gK MR,if_pos rfl]) rfl rfl (setRow_heap _ _ _ _ _ _ t1) (λo ho=>.inr ⟨rfl,ho⟩) hNs (λj hj=>by rw[aW,adf j hj];rfl) (λj hj=>by rw[aW,ahs j hj];rfl) hroom)
      obtain⟨g1,g2,g3⟩:=grown HQ Dj _ rfl;have hrun:=run_append_grow (P:=P) x.w t u e ie z hu tn hiz ⟨x.μ tk,0,none⟩ rows.length (x.κ tk) HQ (by rw[Dj,rS]) (λj v hv=>by
        have hj:j<(flat rows).length:=by rw[aar,<-Dj];exact(aI.1 hv).1
        obtain⟨b',o',r1,-,r2⟩:=Dk j _ (aT hj);cases r1;rw[iA,r2];simp[aK,hv]) ⟨b2,o2,none⟩ news.length tD nO (by rw[uY,rS]) qQ ab ab (growslice_fits ab (by rw[CN];exact mD))
      generalize hk0:grownCap x.w (rows.length+news.length) (x.κ tk) e=k at*;obtain⟨v1,v2⟩:=Bh (Z:=Builtin.zeroCells z.cells (k-(rows.length+news.length))) Dj uY;generalize Ip:HQ.toArray++nO.toArray++Builtin.zeroCells z.cells (k-(rows.length+news.length))=arr at*;have hp:oz x.w (x.w.drew.alloc (.cells arr e)) (.cells arr e (0,0)):=⟨rfl,rfl,rfl⟩;have hNs:(rows.length+news.length)*s<=arr.size:=by rw[g3];exact gv _ g2
      have hlt:rows.length*s<(rows.length+news.length)*s:=Nat.mul_lt_mul_of_pos_right ab hs;have j3:=SL (k:=k) (F:=λo=>o<(rows.length+news.length)*s) hR MR hp hlt g3 hNs g1 λo ho=>ho;have M:=Fb (k:=k) (F:=λo=>o<(rows.length+news.length)*s) (n':=(rows.length+news.length)*s) hR MR hp hlt;exact gy hrun (y:=x.kF (x.w.drew.alloc (.cells arr e)) tk k (λo=>o<(rows.length+news.length)*s) (.tail e s ((rows.length+news.length)*s))) rfl j3 M
       (AV M q3 nG hpR hpN aan Ik (by show(x.S.set _ _)[_]? =_;rw[gK MR,if_pos rfl]) (if_pos rfl) (if_pos rfl) hp.new (λo ho=>.inr ⟨rfl,ho⟩) hNs v1 v2 g2)
      cases h;cases h
    cases h
 cases h
theorem find_congr(kt:TypeId)(k:Value):∀(l m:List MapEntry)(i:Nat),l.map (λe=>(e.key,e.val))=m.map (λe=>(e.key,e.val))->Instr.findAsking kt k l i=Instr.findAsking kt k m i
 |[],[],_,_=>rfl
 |[],_::_,_,h=>by simp at h
 |_::_,[],_,h=>by simp at h
 |e::l,f::m,i,h=>by simp only[aZ,List.cons.injEq,az]at h;unfold Instr.findAsking;rw[h.1.1,h.1.2,find_congr kt k l m (i+1) h.2]
theorem G5(kd:TypeDesc)(k:Value):∀(l m:List MapEntry)(i:Nat),l.map (λe=>(e.key,e.val))=m.map (λe=>(e.key,e.val))->Instr.findNow kd k l i=Instr.findNow kd k m i
 |[],[],_,_=>rfl
 |[],_::_,_,h=>by simp at h
 |_::_,[],_,h=>by simp at h
 |e::l,f::m,i,h=>by simp only[aZ,List.cons.injEq,az]at h;unfold Instr.findNow;rw[h.1.1,h.1.2,G5 kd k l m (i+1) h.2]
theorem Hr(kt:TypeId)(k:Value){l m:List MapEntry}(h:l.map (λe=>(e.key,e.val))=m.map (λe=>(e.key,e.val))):Instr.findKey kt k l=Instr.findKey kt k m:=by unfold Instr.findKey;have h1:∀kd,Instr.findNow kd k l 0=Instr.findNow kd k m 0:=λkd=>G5 kd k l m 0 h;have h2:=find_congr kt k l m 0 h;simp only[h1,h2]
theorem QK(es:List (Value×Value)):(es.map Zl).map (λe=>(e.key,e.val))=es:=by
 rw[vA]
 conv=>rhs;rw[<-List.map_id es]
 congr 1
theorem XW{v:Value}{d:DV}(h:Kn v=some d):RV x d v:=by
 unfold Kn at h;split at h;rename_i vs;split at h;rename_i v b hvs;simp only[af]at h;obtain⟨d',h1,rfl⟩:=h;have e:vs=#[v,.bool b]:=by rw[<-y8 (xs:=vs),hvs]
 subst e;refine .tup rfl λj c hc=>?_
 match j with
 |0=>simp only[dH,aF]at hc;subst hc;exact zf h1
 |1=>simp only[List.getElem?_cons_succ,dH,aF]at hc;subst hc;exact .val rfl
 |j+2=>simp at hc
 cases h;exact zf h
theorem OG(hR:Rel x)(hn:FD x.S aB){t:TypeId}:Yields x ((do pure (.value (<-Instr.makeMap t none)):Sem Next).run P x.w) (.map aB) (eF x.S aB (.map [])):=by have hp:oz x.w (x.w.alloc (.map #[] 0)) (.map #[] 0):=gG _ _;have j3:=mG (k:=0) (F:=λ_=>False) (b:=.map []) hR hn hp ae (.inr (.inr (.inl ⟨rfl,ae,rfl⟩)));refine gy (y:=x.fresh _ aB 0 (λ_=>False) (.map [])) (v:=.map (some x.w.heap.size)) ?_ rfl j3 (jv hR hn hp) ?_;simp[Instr.makeMap,Cx.fresh];have:(x.fresh (x.w.alloc (.map #[] 0)) aB 0 (λ_=>False) (.map [])).μ aB=x.w.heap.size:=if_pos rfl;rw[<-this];exact .map (es:=[]) (by show(eF _ _ _)[_]? =_;rw[bC hn.le,if_pos rfl])
theorem QM(hR:Rel x){id:Nat}{es:List (Value×Value)}(h:x.S[id]? =some (.map es)):∃Du clk,x.w.heap[x.μ id]? =some (.map Du clk)/\Du.toList.map (λe=>(e.key,e.val))=es:=by obtain⟨o,h1,h2⟩:=hR.dA id _ h rfl;cases o<;>simp only[uf]at h2;exact⟨_,_,h1,h2⟩
theorem xL{α β:Type}{s:Sem α}{f:α->Sem β}{b:β}(h:bN P (s>>=f)=some b):∃a,bN P s=some a/\bN P (f a)=some b:=by
 change bN P (s.bind f)=some b at h;induction s with
 |pure a=>exact⟨a,rfl,h⟩
 |program k ih=>exact ih P h
 |_=>simp[Sem.bind,bN]at h
theorem Tq(hR:Rel x){t:TypeId}{id:Nat}{es:List (Value×Value)}{k v:Value}{ok:Bool}{d:DV}(h:x.S[id]? =some (.map es))(hp:bN P (PB t (es.map Zl) k ok)=some v)(hd:Kn v=some d):
  Yields x ((do pure (.value (<-Instr.lookup t (.map (some (x.μ id))) k ok)):Sem Next).run P x.w) d x.S:=by
 obtain⟨Du,clk,h1,h2⟩:=QM hR h;refine aQ hR (v:=v) ?_ (XW hd);have hk:∀kt,Instr.findKey kt k (es.map Zl)=Instr.findKey kt k Du.toList:=λkt=>Hr kt k (by rw[QK,h2]);have he:(es.map Zl).isEmpty=Du.isEmpty:=by rw[<-h2,Bool.eq_iff_iff];simp
 have hg:=jm (P:=P) h1 ae;unfold PB at hp;obtain⟨td,p1,p2⟩:=xL hp;have r1:=oO p1 x.w;cases td with
 |map key elem=>simp only at p2;have r2:=oO p2 x.w;unfold Instr.lookup;simp only[Sem.run_bind,r1,Result.andThen_ok,hg,Sem.run_pure,hk,he]at r2⊢;exact r2
 |_=>simp[stuck,bN]at p2
theorem JE(hR:Rel x){t:TypeId}{id:Nat}{es es':List (Value×Value)}{k v:Value}{r:Option (Nat×Value)}(h:x.S[id]? =some (.map es))(hp:bN P (PO t (es.map Zl) k)=some r)(hs:Vc es k v r=some es'):
  Yields x ((do Instr.mapUpdate t (.map (some (x.μ id))) k v;pure .skip:Sem Next).run P x.w) bD (x.S.set id (.map es')):=by
 obtain⟨Du,clk,h1,h2⟩:=QM hR h;have hk:∀kt,Instr.findKey kt k (es.map Zl)=Instr.findKey kt k Du.toList:=λkt=>Hr kt k (by rw[QK,h2]);have hg:=jm (P:=P) h1 ae
 suffices hm:∃PR aek,(Instr.mapUpdate t (.map (some (x.μ id))) k v).run P x.w=.ok () (cz x.w (x.μ id) (.map PR aek))/\PR.toList.map (λe=>(e.key,e.val))=es' by obtain⟨PR,aek,q1,q2⟩:=hm;exact KL (y:=x.xm id (.map PR aek) (.map es')) q1 rfl (K9 hR h trivial ae q2) (A8 hR h trivial ae)
 unfold PO at hp;obtain⟨td,p1,p2⟩:=xL hp;have r1:=oO p1 x.w;cases td with
 |map key elem=>
  simp only at p2;obtain⟨u,p3,p4⟩:=xL p2;have r2:=oO p3 x.w;have r3:=oO p4 x.w;rw[hk]at r3;unfold Instr.mapUpdate;simp only[Sem.run_bind,r1,Result.andThen_ok,hg,r2,r3];cases r with
  |none=>simp only[Vc,aF]at hs;subst hs;exact⟨_,_,kV h1 ae,by simp[h2]⟩
  |some q=>
   obtain⟨i,v0⟩:=q;simp only[Vc]at hs;split at hs;rename_i k' v' hi;split at hs;rename_i hsb;cases hs;have hlt:i<Du.size:=by grind
   have hek:((Du[i]?).map (·.key)).getD k=k':=by grind
   simp only[hek,Instr.keyThatStays,hsb,if_true];refine⟨_,_,kV h1 ae,?_⟩;rw[Array.toList_modify];refine nj λj=>?_;rw[<-h2];simp only[cH,List.getElem?_modify,aN,List.length_map];by_cases hj:i=j
   grind
   simp[hj];cases hs;cases hs
 |_=>simp[stuck,bN]at p2
end Go.Di
