import Derived.Test.YtadeehilamokkaaGreatDoorPk14
import Derived.Lib.ConvBytes
import Derived.Laws.AppendOwn
namespace Go.Di
open Go
variable {P:Program} {ty:fo} {x:Cx} {w':World} {ρd:Operand->Option DV} {ρ:Operand->Value} {o:Oper} {aB:Nat}
theorem vY(off:Nat):∀(cs:List Value)(i:Nat)(arr:Array Value),off+i+cs.length<=arr.size->
  ((cs.zipIdx i).foldl (λa (p:Value×Nat)=>a.setIfInBounds (off+p.2) p.1) arr)=(arr.toList.take (off+i)++cs++arr.toList.drop (off+i+cs.length)).toArray
 |[],i,arr,_=>ab
 |c::cs,i,arr,h=>by simp only[dA]at h;simp only[List.zipIdx_cons,nX];rw[vY off cs (i+1) _ (by simp;omega)];have e:=list_seg_step arr.toList (off+i) c cs (by simp;omega);congr 1;simpa [Array.toList_setIfInBounds,fO]using e
theorem fold_eq(off:Nat)(cs arr:Array Value)(h:off+cs.size<=arr.size):
  cs.zipIdx.foldl (λa (p:Value×Nat)=>a.setIfInBounds (off+p.2) p.1) arr=(arr.toList.take off++cs.toList++arr.toList.drop (off+cs.size)).toArray:=by
 have:=vY off cs.toList 0 arr (by simpa using h);rw[<-yt];simpa using this
def acV(x:Cx)(r:List (Nat×DV))(vs:List (Nat×Value)):Prop:=vs.length=r.length/\∀(j:Nat)(p:Nat×DV),r[j]? =some p->∃v,vs[j]? =some (p.1,v)/\RV x p.2 v
def tG(ρ:Operand->Value)(l:List (Nat×Operand)):List (Nat×Value):=l.map λp=>(p.1,ρ p.2)
theorem vc(hρ:wF x ρd ρ):∀{l:List (Nat×Operand)}{r:List (Nat×DV)},jR ρd l=some r->acV x r (tG ρ l)
 |[],r,h=>by simp only[jR,aF]at h;subst h;exact⟨rfl,ab⟩
 |(i,a)::l,r,h=>by
  unfold jR at h;split at h;rename_i d r' h1 h2;cases h;obtain⟨h3,h4⟩:=vc hρ h2;refine⟨by simpa [tG]using h3,λj p hp=>?_⟩;cases j with
  |zero=>simp only[dB,aF]at hp;subst hp;exact⟨ρ a,rfl,hρ a d h1⟩
  |succ j=>simpa [tG]using h4 j p (by simpa using hp)
  cases h
theorem CE{pd pl:Nat->Option (Nat×Nat)}(BN:∀i p,pd i=some p->pl i=some p):∀{r:List (Nat×DV)}{vs:List (Nat×Value)}{l l':cj}{arr:Array Value},acV x r vs->fZ x l arr->kE pd l r=some l'->∃Zl,Instr.fill pl arr vs=some Zl/\fZ x l' Zl
 |[],vs,l,l',arr,hv,hl,h=>by have:vs=[]:=eP (by simpa using hv.1);subst this;simp only[kE,aF]at h;subst h;exact⟨arr,rfl,hl⟩
 |(i,d)::r,vs,l,l',arr,hv,hl,h=>by
  obtain⟨v,Yv,hd⟩:=hv.2 0 (i,d) rfl;have hd:RV x d v:=hd;cases vs with
  |nil=>simp at Yv
  |cons v0 vs=>
   simp only[dB,aF]at Yv;subst Yv;unfold kE at h;split at h;cases h;rename_i off size hp;split at h;rename_i hsz;split at h;rename_i l1 h1;have hc:=tN hd;obtain⟨h2,h3⟩:=qP h1;have SX:=O3 hl hc h1;obtain⟨Zl,h4,h5⟩:=CE BN (r:=r) (vs:=vs) ⟨by simpa using hv.1,λj p hj=>by simpa using hv.2 (j+1) p (by simpa using hj)⟩ SX h;refine⟨Zl,?_,h5⟩;unfold Instr.fill;simp only[BN i _ hp];have c1:v.cells.size=size:=by rw[hc.1,<-hsz]
   have c2:¬(v.cells.size≠size\/off+v.cells.size>arr.size):=by rw[hl.1,hc.1];omega
   simp only[gt_iff_lt,jw,bP,c2,if_false];rw[fold_eq off v.cells arr (by rw[hl.1,hc.1];exact h2)];exact h4;cases h;cases h
theorem B6(eV:jP P ty)(hR:Rel x)(hρ:wF x ρd ρ){t:TypeId}{fs:List (Nat×Nat×Bool)}{sz:Nat}{z cs:cj}{ps:Array (Nat×Operand)}{l:List (Nat×DV)}(h:ty t=some ⟨.struct fs,sz,some z⟩)(hl:jR ρd ps.toList=some l)
  (hf:kE (λi=>(fs[i]?).map λf=>(f.1,f.2.1)) z l=some cs):Yields x ((do pure (.value (<-Instr.build t (ps.map λp=>(p.1,ρ p.2)))):Sem Next).run P x.w) (.agg cs) x.S:=by
 obtain⟨hk,i,hi,-,hz⟩:=bW (eV t _ h);obtain⟨fields,hu,hfs,hff⟩:=Ab hk;obtain⟨zv,h1,h2,-⟩:=ji hz;obtain⟨h3,h4⟩:=gX (x:=x) h2;have Cc:fZ x z zv.cells:=⟨by simpa using h3,λj c hc=>by simpa [aU,aP]using h4 j c hc⟩;have BN:∀w:World,(fields.mapM (λf=>do pure (f.offset,<-sizeOf f.type):Field->Sem (Nat×Nat))).run P w=.ok ((fs.map λf=>(f.1,f.2.1)).toArray) w:=by
  intro w;have key:∀(l:List Field)(fs:List (Nat×Nat×Bool)),l.length=fs.length->(∀(j:Nat)(r:Nat×Nat×Bool),fs[j]? =some r->∃f,l[j]? =some f/\IG P f r)->(l.mapM (λf=>do pure (f.offset,<-sizeOf f.type):Field->Sem (Nat×Nat))).run P w=.ok (fs.map λf=>(f.1,f.2.1)) w:=by
   intro l;induction l with
   |nil=>intro fs h _;have:fs=[]:=eP (by simpa using h.symm);subst this;rfl
   |cons f l ih=>
    intro fs h hj;cases fs with
    |nil=>simp at h
    |cons r fs=>
     obtain⟨f',h1,h2,inf,h3,h4,-,-⟩:=hj 0 r rfl;simp only[dB,aF]at h1;subst h1;have:=ih fs (by simpa using h) λj r hr=>by simpa using hj (j+1) r (by simpa using hr)
     simp only[List.mapM_cons,Sem.run_bind,run_sizeOf h3,Result.andThen_ok,Sem.run_pure,this,bg];rw[h2,h4]
  rw[Array.mapM_eq_mapM_toList];simp only[Sem.run_map,key fields.toList fs (by simpa using hfs) (λj r hr=>by simpa using hff j r hr),Result.andThen_ok]
 have sP:=vc hρ hl;obtain⟨arr,h5,h6⟩:=CE (x:=x) (pl:=λi=>((fs.map λf=>(f.1,f.2.1)).toArray)[i]?) (λi p hp=>by simpa using hp) (vs:=tG ρ ps.toList) sP Cc hf;unfold tG at h5;refine aQ hR (v:=.agg arr) ?_ (.agg h6.1 h6.2);simp only[Instr.build,Sem.run_bind,zeroValue,typeInfo,run_program,Result.andThen_ok,hi,Sem.run_pure,h1,run_underlying hu,BN,Array.toList_map,h5]
theorem EW(eV:jP P ty)(hR:Rel x)(hρ:wF x ρd ρ){t:TypeId}{n s sz:Nat}{agg:Bool}{z cs:cj}{ps:Array (Nat×Operand)}{l:List (Nat×DV)}(h:ty t=some ⟨.array n s agg,sz,some z⟩)(hl:jR ρd ps.toList=some l)
  (hf:kE (λi=>some (i*s,s)) z l=some cs):Yields x ((do pure (.value (<-Instr.build t (ps.map λp=>(p.1,ρ p.2)))):Sem Next).run P x.w) (.agg cs) x.S:=by
 obtain⟨hk,i,hi,-,hz⟩:=bW (eV t _ h);obtain⟨e,hu,ie,sZ,q8,-,-⟩:=yC hk;obtain⟨zv,h1,h2,-⟩:=ji hz;obtain⟨h3,h4⟩:=gX (x:=x) h2;have Cc:fZ x z zv.cells:=⟨by simpa using h3,λj c hc=>by simpa [aU,aP]using h4 j c hc⟩;have sP:=vc hρ hl;obtain⟨arr,h5,h6⟩:=CE (x:=x) (pl:=λi=>some (i*s,s)) (λi p hp=>hp) (vs:=tG ρ ps.toList) sP Cc hf;unfold tG at h5;refine aQ hR (v:=.agg arr) ?_ (.agg h6.1 h6.2);subst q8;simp only[Instr.build,Sem.run_bind,zeroValue,typeInfo,run_program,Result.andThen_ok,hi,Sem.run_pure,h1,run_underlying hu,run_sizeOf sZ,Array.toList_map,h5]
theorem BD{z:cj}{s:Nat}(hs:z.length=s):∀(n j:Nat),j<n*s->((List.replicate n z).flatten)[j]? =z[j % s]?
 |0,j,h=>by simp at h
 |n+1,j,h=>by
  have Fc:0<s:=by grind
  simp only[CK,List.flatten_cons];by_cases hj:j<s;rw[eC U,Nat.mod_eq_of_lt hj];rw[fP U,hs,BD hs n (j-s) (by rw[mD]at h;omega),<-Nat.mod_eq_sub_mod U]
theorem je{s:Nat}{agg:Bool}{l:cj}{n:Nat}(hl:l.length=n*s)(hs:0<s)(ha:agg=true\/s=1)(hp:∀c∈l,c.bS=true):∀i,i<n->(rowOf s agg l i).cells=(l.drop (i*s)).take s:=by
 intro i hi;have h1:i*s+s<=l.length:=by rw[hl,<-mD];exact gp _ hi
 unfold rowOf;cases agg with
 |true=>rfl
 |false=>
  have He:s=1:=by simpa using ha
  subst He;have hlt:i*1<l.length:=U
  have e:l.getD (i*1) bD=l[i*1]:=by rw[aP,bn hlt];rfl
  have SX:=hp l[i*1] (lp hlt);simp only[aJ,if_false,e];have hc:(l[i*1]).cells=[l[i*1]]:=by
   revert SX
   generalize l[i*1]=c;cases c<;>simp[DV.bS,DV.cells]
  rw[hc,rS hlt,List.take_succ_cons,List.take_zero]
theorem GJ{s:Nat}{agg:Bool}{l:cj}(hs:0<s)(ha:agg=true\/s=1)(hp:∀c∈l,c.bS=true):∀n,l.length=n*s->flat (rowsOf s agg l n)=l/\∀r∈rowsOf s agg l n,r.cells.length=s:=by
 intro n hl;have hc:=je hl hs ha hp;have hlen:∀r∈rowsOf s agg l n,r.cells.length=s:=by
  intro r hr;unfold rowsOf at hr;simp only[eO,CI]at hr;obtain⟨i,hi,rfl⟩:=hr;rw[hc i hi,List.length_take,List.length_drop];have h1:i*s+s<=l.length:=by rw[hl,<-mD];exact gp _ hi
  omega
 refine⟨?_,hlen⟩;have xy:=gK hlen;have Yw:(rowsOf s agg l n).length=n:=by simp[rowsOf]
 refine mG λj=>?_;by_cases hj:j<n*s;have hdiv:j/s<n:=by rw[Nat.div_lt_iff_lt_mul hs];exact hj
 have aeE:j % s<s:=Nat.mod_lt _ hs;have hje:j=(j/s)*s+j % s:=by rw[Nat.mul_comm];exact(Nat.div_add_mod j s).symm
 have hr:(rowsOf s agg l n)[j/s]? =some (rowOf s agg l (j/s)):=by simp[rowsOf,hdiv]
 rw[hje,tY hlen hr aeE,hc _ hdiv,pX,if_pos aeE,yu]
 grind
theorem Du{rows:cj}{arr:Array Value}{s b:Nat}{y:Cx}{e:TypeId}(h1:∀r∈rows,r.cells.length=s)(h2:∀c∈flat rows,c.bS=true)(h3:(flat rows).length<=arr.size)(hb:y.w.heap[b]? =some (.cells arr e (0,0)))(hF:∀j,j<(flat rows).length->y.Fz b j):
  View y rows (some ⟨b,0,none⟩) s (λj=>arr.getD j undef):=by
 refine⟨h1,λj c hc=>⟨h2 c (bV hc),b,0,rfl,?_,?_⟩⟩
 grind
 have hj:j<arr.size:=cG (aI.1 hc).1 h3;simp[World.cell?,hb,hj,aU]
theorem F3{z:cj}{zv:Value}{s n:Nat}(hs:0<s)(Hy:z.length=s)(SP:zv.cells.size=s)(h4:∀j c,z[j]? =some c->RV x c (zv.cells.toList.getD j undef)):fZ x ((List.replicate n z).flatten) ((Array.range (n*s)).map (zv.cells[·% zv.cells.size]!)):=by
 refine⟨by simp[Hy],λj c hc=>?_⟩;have hj:j<n*s:=by have:=(aI.1 hc).1;simpa [Hy]using this
 rw[BD Hy n j hj]at hc;have hm:j % s<s:=Nat.mod_lt _ hs;have:=h4 _ c hc;have Jo:j % zv.cells.size<zv.cells.size:=by rw[SP];exact hm
 have e1:((Array.range (n*s)).map (zv.cells[·% zv.cells.size]!)).getD j undef=zv.cells[j % zv.cells.size]! :=by simp[aU,hj]
 rw[e1,rK zv.cells (j % zv.cells.size) Jo];have e2:zv.cells.toList.getD (j % s) undef=zv.cells[j % zv.cells.size]:=by simp[aP,<-SP,Jo]
 rw[<-e2];exact this
theorem GX(eV:jP P ty)(hR:Rel x)(hρ:wF x ρd ρ){t e:TypeId}{n s kN sz sz':Nat}{agg:Bool}{k:TK}{z0:Option cj}{z cs:cj}{ps:Array (Nat×Operand)}{l:List (Nat×DV)}(h:ty t=some ⟨.slice e s kN agg,sz,z0⟩)(hl:jR ρd ps.toList=some l)(he:ty e=some ⟨k,sz',some z⟩)
  (hs:0<s) (hn:n*s<=16777216) (hf:kE (λi=>some (i*s,s)) ((List.replicate n z).flatten) (l.map λ(i,v)=>(i,v.strip))=some cs):
  ∃arr,fZ x cs arr/\cs.length=n*s/\(Instr.buildSlice t n (ps.map λp=>(p.1,ρ p.2))).run P x.w=.ok (.slice (some ⟨x.w.heap.size,0,none⟩) n n) (x.w.alloc (.cells arr e)):=by
 obtain⟨hk,i,hi,-,-⟩:=bW (eV t _ h);obtain⟨hu,ie,sZ,q8,-,Hj⟩:=lu hk;obtain⟨-,ie',CZ,-,hz⟩:=bW (eV e _ he);rw[sZ]at CZ;cases CZ;obtain⟨zv,h1,h2,hzl⟩:=ji hz;obtain⟨h3,h4⟩:=gX (x:=x) h2;have SP:zv.cells.size=s:=by rw[<-q8,<-hzl];simpa using h3
 have Hy:z.length=s:=by rw[hzl,q8]
 have Cc:=F3 (n:=n) hs Hy SP h4;have sP:acV x (l.map λ(i,v)=>(i,v.strip)) (tG ρ ps.toList):=by have:=vc hρ hl;refine⟨by simpa using this.1,λj p hp=>?_⟩;simp only[cI,af]at hp;obtain⟨q,hq,rfl⟩:=hp;obtain⟨v,Qo,X2⟩:=this.2 j q hq;exact⟨v,by simpa using Qo,X2.strip⟩
 obtain⟨arr,h5,h6⟩:=CE (x:=x) (pl:=λi=>some (i*s,s)) (λi p hp=>hp) sP Cc hf;have nK:cs.length=n*s:=by
  have key:∀(r:List (Nat×DV))(l l':cj),kE (λi=>some (i*s,s)) l r=some l'->l'.length=l.length:=by
   intro r;induction r with
   |nil=>intro l l' h;simp only[kE,aF]at h;rw[h]
   |cons p r ih=>
    intro l l' h;obtain⟨i,d⟩:=p;unfold kE at h;simp only at h;split at h;split at h;rename_i l1 h1;rw[ih _ _ h];obtain⟨h2,rfl⟩:=qP h1;simp;omega
    cases h;cases h
  rw[key _ _ _ hf];simp[Hy]
 refine⟨arr,h6,nK,?_⟩;subst q8;have c1:¬(n*ie.size>2^24):=by rw[show(2:Nat)^24=16777216 from by decide];omega
 have h5':Instr.fill (λi=>some (i*ie.size,ie.size)) ((Array.range (n*ie.size)).map (zv.cells[·% zv.cells.size]!)) (ps.toList.map λp=>(p.1,ρ p.2))=some arr:=h5;by_cases h0:n*ie.size=0;have e0:(Array.range (n*ie.size)).map ((#[]:Array Value)[·% (#[]:Array Value).size]!)=(Array.range (n*ie.size)).map (zv.cells[·% zv.cells.size]!):=by rw[h0];simp
 simp only[Instr.buildSlice,Sem.run_bind,run_underlying hu,Result.andThen_ok,run_sizeOf sZ,if_neg c1,if_pos h0,Sem.run_pure,e0,Array.toList_map,h5',newRow,run_newObj];rfl;simp only[Instr.buildSlice,Sem.run_bind,run_underlying hu,Result.andThen_ok,run_sizeOf sZ,if_neg c1,if_neg h0,Sem.run_pure,zeroValue,typeInfo,run_program,sZ,h1,Array.toList_map,h5',newRow,run_newObj];rfl
theorem Fu(eV:jP P ty)(hR:Rel x)(hρ:wF x ρd ρ){t e:TypeId}{n s kN sz sz':Nat}{agg:Bool}{k:TK}{z0:Option cj}{z cs:cj}{ps:Array (Nat×Operand)}{l:List (Nat×DV)}(h:ty t=some ⟨.slice e s kN agg,sz,z0⟩)(hl:jR ρd ps.toList=some l)(he:ty e=some ⟨k,sz',some z⟩)
  (hs:0<s) (hn:n*s<=16777216) (hf:kE (λi=>some (i*s,s)) ((List.replicate n z).flatten) (l.map λ(i,v)=>(i,v.strip))=some cs) (hp:cs.all DV.bS=true) (ha:agg=true\/s=1):
  Yields x ((do pure (.value (<-Instr.buildSlice t n (ps.map λp=>(p.1,ρ p.2)))):Sem Next).run P x.w) (.sl (rowsOf s agg cs n) none ⟨true,some false⟩) x.S:=by
 obtain⟨arr,h6,nK,hrun⟩:=GX eV hR hρ h hl he hs hn hf;have TA:∀c∈cs,c.bS=true:=λc hc=>aR.1 hp c hc;obtain⟨xy,Yw⟩:=GJ hs ha TA n nK;have SX:nN x.w (x.w.alloc (.cells arr e)) (.cells arr e (0,0)):=gA _ _;have jM:=Gj (F:=λo=>o<arr.size) hR SX λo ho=>⟨arr[o],by simp[ho]⟩;have hrn:(rowsOf s agg cs n).length=n:=by simp[rowsOf]
 have xF:(x.w.alloc (.cells arr e)).heap[x.w.heap.size]? =some (.cells arr e (0,0)):=SX.new;have Ba:arr.size=cs.length:=h6.1;have M:=mg (F:=λo=>o<arr.size) hR SX;refine gq (y:=x.froze _ (λo=>o<arr.size)) (v:=.slice (some ⟨x.w.heap.size,0,none⟩) n n) hrun rfl jM M ?_
 suffices hk:RV (x.froze (x.w.alloc (.cells arr e)) (λo=>o<arr.size)) (.sl (rowsOf s agg cs n) none ⟨true,some false⟩) (.slice (some ⟨x.w.heap.size,0,none⟩) (rowsOf s agg cs n).length (rowsOf s agg cs n).length)by rw[hrn]at hk;exact hk
 have hv:View (x.froze (x.w.alloc (.cells arr e)) (λo=>o<arr.size)) (rowsOf s agg cs n) (some ⟨x.w.heap.size,0,none⟩) s (λj=>arr.getD j undef):=
  Du Yw (by rw[xy];exact TA) (by rw[xy];omega) xF λj hj=>.inr ⟨rfl,by rw[xy]at hj;omega⟩
 refine RV.sl (tok:=none) hv (λj c hc=>?_) (ai _) ⟨λ_=>rfl,λb h=>by cases h;rfl⟩ ab (λad h _=>by cases h;rfl) (λt ht=>nomatch ht);rw[xy]at hc;exact(h6.2 j c hc).mono M
theorem Ny(w:World)(e:TypeId)(b:ByteArray):nN w (Lib.bytesWorld w e b) (.cells (Lib.bytesCells w e b) e ((Lib.bytesCells w e b).size,(Lib.bytesCells w e b).size+1)) where
 heap:=by refine Array.ext_getElem? λj=>?_;rcases Nat.lt_trichotomy j w.heap.size with h|rfl|h;rw[Lib.bytesWorld_at_old w e b j h,Array.getElem?_push_lt h,bX h];rw[Lib.bytesWorld_at_new,Array.getElem?_push_size];rw[uU (by rw[Lib.bytesWorld_size];omega),uU (by simp;omega)]
 env:=⟨rfl,rfl⟩
theorem W7(hR:Rel x){t d:TypeId}{a:Value}{r:DV}(h:M6 P t d a=some r):Yields x ((do pure (.value (<-Go.convert t d a)):Sem Next).run P x.w) r x.S:=by
 unfold M6 at h;split at h;rename_i b;split at h;rename_i u e hs hd;split at h;rename_i he;cases h;have hrun:=Lib.run_convert_string_bytes x.w t d e b hs hd he;have hlen:(b.data.toList.map λc=>DV.val (.int .u8 c.toNat)).length=b.size:=by rw[List.length_map,eB];rfl
 have dw:∀j,j<b.size->(Lib.bytesWorld x.w e b).cell? ⟨x.w.heap.size,j,none⟩=some (.int .u8 (b.data.toList.getD j 0).toNat):=λj hj=>Lib.bytesWorld_cell x.w e b j hj;have SX:=Ny x.w e b;have jM:=Gj (F:=λo=>o<b.size) hR SX λo ho=>⟨_,dw o ho⟩;have M:=mg (F:=λo=>o<b.size) hR SX;refine gq (y:=x.froze _ (λo=>o<b.size)) hrun rfl jM M ?_;have xy:flat (b.data.toList.map λc=>DV.val (.int .u8 c.toNat))=b.data.toList.map λc=>DV.val (.int .u8 c.toNat):=by
  generalize b.data.toList=l;induction l with
  |nil=>rfl
  |cons c l ih=>simpa [flat,DV.cells]using ih
 have aS:∀j c,(b.data.toList.map λc=>DV.val (.int .u8 c.toNat))[j]? =some c->j<b.size/\c=.val (.int .u8 (b.data.toList.getD j 0).toNat):=λj c hc=>by have hj:=(aI.1 hc).1;rw[hlen]at hj;simp only[cI,af]at hc;obtain⟨u,hu,rfl⟩:=hc;exact⟨hj,by simp[aP,hu]⟩
 rw[<-hlen];refine RV.sl (s:=1) (vs:=λj=>.int .u8 (b.data.toList.getD j 0).toNat) ⟨λr hr=>?_,λj c hc=>?_⟩ (λj c hc=>?_) ?_ ⟨(nofun),λb h=>by cases h;rfl⟩ (nofun) (λad h _=>by cases h;rfl) (λt ht=>nomatch ht);obtain⟨c,-,rfl⟩:=eO.1 hr;rfl
 rw[xy]at hc;obtain⟨h1,rfl⟩:=aS j c hc;exact⟨rfl,x.w.heap.size,0,rfl,.inr ⟨rfl,by simpa using h1⟩,(by rw[eN];exact dw j h1)⟩;rw[xy]at hc;obtain⟨h1,rfl⟩:=aS j c hc;exact .val rfl;rw[hlen];exact grownCap_ge _ _ _ _
 cases h;cases h;cases h
theorem sx(eV:jP P ty){t:TypeId}{fs:List (Nat×Nat×Bool)}{sz f off s:Nat}{agg:Bool}{z:Option cj}(h:ty t=some ⟨.struct fs,sz,z⟩)(hf:fs[f]? =some (off,s,agg))(hs:0<s)(b o0:Nat)(w:World):
  (Instr.fieldAt t (.pointer (some ⟨b,o0,none⟩)) f).run P w=.ok (.pointer (some ⟨b,o0+off,none⟩)) w:=by
 obtain⟨hk,i,hi,-,-⟩:=bW (eV t _ h);obtain⟨fields,hu,hfs,hff⟩:=Ab hk;obtain⟨fd,h1,h2,inf,h3,h4,-,-⟩:=hff f _ hf;simp only at h2 h4;have hne:¬(inf.size=0):=U
 simp only[Instr.fieldAt,Sem.run_bind,run_underlying hu,Result.andThen_ok,h1,Instr.sureAddr,Sem.run_pure,fieldPlace,run_sizeOf h3,if_neg hne,ij,h2]
theorem Bw(eV:jP P ty){t:TypeId}{k s sz:Nat}{agg:Bool}{z:Option cj}(h:ty t=some ⟨.array k s agg,sz,z⟩){kd:IntKind}{n:Int}(h0:0<=n)(hlt:n.toNat<k)(b o0:Nat)(w:World):
  (Instr.indexAt t (.pointer (some ⟨b,o0,none⟩)) (.int kd n)).run P w=.ok (.pointer (some ⟨b,o0+n.toNat*s,none⟩)) w:=by
 obtain⟨hk,i,hi,-,-⟩:=bW (eV t _ h);obtain⟨e,hu,ie,sZ,q8,-,-⟩:=yC hk;have hc:0<=n/\n<(k:Int):=⟨h0,U⟩;subst q8;simp only[Instr.indexAt,asIntOf,Sem.run_bind,Sem.run_pure,Result.andThen_ok,run_underlying hu,Instr.sureAddr,hc,and_self,if_true,run_sizeOf sZ,ij]
theorem EF(eV:jP P ty){t e:TypeId}{s kN sz:Nat}{agg:Bool}{z:Option cj}(h:ty t=some ⟨.slice e s kN agg,sz,z⟩){kd:IntKind}{n:Int}{len cap:Nat}(h0:0<=n)(hlt:n.toNat<len)(b o0:Nat)(w:World):
  (Instr.indexAt t (.slice (some ⟨b,o0,none⟩) len cap) (.int kd n)).run P w=.ok (.pointer (some ⟨b,o0+n.toNat*s,none⟩)) w:=by
 obtain⟨hk,i,hi,-,-⟩:=bW (eV t _ h);obtain⟨hu,ie,sZ,q8,-,-⟩:=lu hk;have hc:0<=n/\n<(len:Int):=⟨h0,U⟩;subst q8;simp only[Instr.indexAt,asIntOf,Sem.run_bind,Sem.run_pure,Result.andThen_ok,run_underlying hu,hc,and_self,if_true,run_sizeOf sZ,ij]
end Go.Di
namespace Go.Di
open Go
variable {P:Program} {ty:fo} {x:Cx} {w':World} {ρd:Operand->Option DV} {ρ:Operand->Value} {o:Oper} {aB:Nat}
theorem tM{rows:cj}{tok:Option Nat}{full:SF}{A:Option Addr}{n cap s:Nat}(h:RV x (.sl rows tok full) (.slice A n cap))(hs:∀r∈rows,r.cells.length=s):
  n=rows.length/\n<=cap/\((full.full=true->cap=n)/\UZ full A)/\(A=none->cap=0)/\abP x tok rows A cap/\(∀ad,A=some ad->0<cap->ad.spot=none)/\
  (∀c∈flat rows,c.bS=true)/\∃vs:List Value,vs.length=n*s/\(∀j c,(flat rows)[j]? =some c->RV x c (vs.getD j undef))/\
   (∀j c,(flat rows)[j]? =some c->∃b o,A=some ⟨b,o,none⟩/\x.Fz b (o+j)/\x.w.cell? ⟨b,o+j,none⟩=some (vs.getD j undef))/\∀u∈vs,u.oneCell'=true:=by
 cases h with
 |@sl _ _ _ _ _ s' vs hv hr h1 h2 h3 hsp h4=>
  have xy:=gK hs;refine⟨rfl,h1,h2,h3,h4,hsp,λc hc=>?_,(List.range (rows.length*s)).map vs,ab,λj c hc=>?_,λj c hc=>?_,λu hu=>?_⟩;obtain⟨j,hj,rfl⟩:=List.mem_iff_getElem.1 hc;exact(hv.2 j _ (bn hj)).1
  grind
  have hj:j<rows.length*s:=by rw[<-xy];exact(aI.1 hc).1
  obtain⟨-,b,o,k1,k2,k3⟩:=hv.2 j c hc;exact⟨b,o,k1,k2,by simpa [aP,hj]using k3⟩;simp only[eO,CI]at hu;obtain⟨j,hj,rfl⟩:=hu;have Jd:j<(flat rows).length:=U
  have k:=bn Jd;have hp:=(hv.2 j _ k).1;have h1:((flat rows)[j]).one=true:=by
   revert hp
   generalize(flat rows)[j]=c;cases c<;>simp[DV.bS,DV.one]
  exact(one_cell (hr j _ k) h1).1
theorem adp{y:Cx}{R:cj}{t s N cap:Nat}{e:TypeId}{arr:Array Value}(hR:∀r∈R,r.cells.length=s)(hp:∀c∈flat R,c.bS=true)(hS:y.S[t]? =some (.tail e s N))(hN:N=R.length*s)
  (hh:y.w.heap[y.μ t]? =some (.cells arr e (0,0))) (hF:∀o,o<N->y.Fz (y.μ t) o) (hsz:N<=arr.size) (hc:∀j c,(flat R)[j]? =some c->RV y c (arr.getD j undef)) (hk:cap=y.κ t) (BZ:R.length<=cap):
  RV y (.sl R (some t) ⟨false,none⟩) (.slice (some ⟨y.μ t,0,none⟩) R.length cap):=by
 have xy:=gK hR;refine RV.sl (Du hR hp U hh λj hj=>hF j U) hc BZ ⟨ab,λ_ h=>nomatch h⟩ ab (λad h _=>by cases h;rfl) λt' ht=>?_;cases ht;exact⟨e,s,N,hS,U,hR,λ_=>⟨rfl,hk⟩⟩
theorem BF(a b:cj):flat (a++b)=flat a++flat b:=by simp[flat]
theorem Ah{y:Cx}{rows news:cj}{G4 nk:List Value}{t s b cap:Nat}{e:TypeId}{arr:Array Value}(M:bE x y)(h1:∀r∈rows,r.cells.length=s)(h2:∀r∈news,r.cells.length=s)(hp1:∀c∈flat rows,c.bS=true)(hp2:∀c∈flat news,c.bS=true)
  (zn:∀(j:Nat)(c:DV),(flat rows)[j]? =some c->RV x c (G4.getD j undef)) (Jm:∀(j:Nat)(c:DV),(flat news)[j]? =some c->RV x c (nk.getD j undef)) (hS:y.S[t]? =some (.tail e s ((rows.length+news.length)*s))) (hμ:y.μ t=b) (hκ:y.κ t=cap)
  (hh:y.w.heap[b]? =some (.cells arr e (0,0))) (hF:∀o,o<(rows.length+news.length)*s->y.Fz b o) (hsz:(rows.length+news.length)*s<=arr.size) (X8:∀j,j<rows.length*s->arr.getD j undef=G4.getD j undef) (Oo:∀j,j<news.length*s->arr.getD (rows.length*s+j) undef=nk.getD j undef)
  (BZ:rows.length+news.length<=cap):RV y (.sl (rows++news) (some t) ⟨false,none⟩) (.slice (some ⟨b,0,none⟩) (rows.length+news.length) cap):=by
 have TJ:=gK h1;have YE:=gK h2;subst hμ hκ;have key:=adp (y:=y) (R:=rows++news) (t:=t) (s:=s) (arr:=arr) (cap:=y.κ t) (N:=(rows.length+news.length)*s) (λr hr=>(gV.1 hr).elim (h1 r) (h2 r)) (λc hc=>?_) hS (by rw[dM]) hh hF hsz (λj c hc=>?_) rfl (by rw[dM];exact BZ)
 grind
 rw[BF]at hc;exact(gV.1 hc).elim (hp1 c) (hp2 c)
 rw[BF]at hc;by_cases hj:j<(flat rows).length;rw[eC hj]at hc;rw[X8 j U];exact(zn j c hc).mono M;rw[fP U]at hc;have hj2:j-(flat rows).length<(flat news).length:=(aI.1 hc).1;have e1:j=rows.length*s+(j-(flat rows).length):=U
 rw[e1,Oo _ U];exact(Jm _ c hc).mono M
theorem AD{G4 nk:List Value}{Z:Array Value}{n m:Nat}(h1:G4.length=n)(h2:nk.length=m):(∀j,j<n->(G4.toArray++nk.toArray++Z).getD j undef=G4.getD j undef)/\∀j,j<m->(G4.toArray++nk.toArray++Z).getD (n+j) undef=nk.getD j undef:=by constructor;intro j hj;rw[aU,yA (by simp;omega),yA (by simp;omega)];simp[aP];intro j hj;rw[aU,yA (by simp;omega),Qi (by simp;omega)];simp[aP,h1]
theorem RR(eV:jP P ty)(hR:Rel x)(hn:E3 x.S aB){t u:TypeId}{a b d:DV}{va vb:Value}{S':aj}(ha:RV x a va)(hb:RV x b vb)(h:jv ty x.S aB t a b=some (d,S')):
  Yields x ((do pure (.value (<-Builtin.append_ #[t,t] u #[va,vb])):Sem Next).run P x.w) d S':=by
 unfold jv at h;split at h
 .rename_i e s kN agg sz z0 rows tok full news abZ abJ htt;obtain⟨hk,it,-,-,-⟩:=bW (eV t _ htt);obtain⟨hu,ie,sZ,q8,Cg,-⟩:=lu hk;have Hl:=ha;have CQ:=hb;cases ha with
  |@sl _ _ _ A cap s1 vs1 Qo zn k1 k2 k3 k4 k5=>
   cases hb with
   |@sl _ _ _ A2 sU s2 vs2 X2 Jm m1 m2 m3 m4 m5=>
    split at h;rename_i vA;cases h;have Mu:news=[]:=by simpa using vA
    subst Mu;refine aQ hR (v:=.slice A rows.length cap) ?_ Hl;subst q8;cases A with
    |none=>cases A2<;>simp[Builtin.append_,run_underlying hu,run_sizeOf sZ,Builtin.lenOf,Builtin.firstCells,loadCells,loadCellsFrom,k1]
    |some ad=>cases A2<;>simp[Builtin.append_,run_underlying hu,run_sizeOf sZ,Builtin.lenOf,Builtin.firstCells,loadCells,loadCellsFrom,storeCells,k1]
    rename_i vA;split at h
    .rename_i hte;split at h
     rotate_left
     cases h;rename_i oH;simp only[aC,bP,aR]at oH;obtain⟨⟨⟨hs,lS⟩,hlen⟩,mV⟩:=oH;have hm:0<news.length:=List.length_pos_iff.2 (by simpa using vA);obtain⟨z,hiz,SP⟩:∃z,ie.zero=some z/\z.cells.size=s:=by obtain⟨-,ie',CZ,Hf,Cc⟩:=bW (eV e _ hte);rw[sZ]at CZ;cases CZ;obtain⟨z,q1,q2,q3⟩:=ji Cc;have:=(gX (x:=x) q2).1;exact⟨z,q1,by rw[<-q8,<-q3];simpa using this⟩
     obtain⟨-,-,-,-,-,acp,hpN,nk,uB,HA,zo,FW⟩:=tM CQ mV;obtain⟨ad2,rfl⟩:∃ad2,A2=some ad2:=by
      cases A2 with
      |none=>have:=m3 rfl;omega
      |some ad=>exact⟨ad,rfl⟩
     have BX:=gK mV;obtain⟨b2,o2,sp2⟩:=ad2;have aco:sp2=none:=acp _ rfl U;subst aco;have qp:∀j v,nk[j]? =some v->x.w.cell? ((⟨b2,o2,none⟩:Addr).add j)=some v:=by
      intro j v hv;have hj:j<(flat news).length:=by rw[BX,<-uB];exact(aI.1 hv).1
      obtain⟨b',o',q1,-,q2⟩:=zo j _ (bn hj);cases q1;rw[ij,q2];simp[aP,hv]
     have aiN:rows.length+news.length<=9223372036854775807:=U
     have grown:∀(w1:List Value),w1.length=rows.length*s->∀(k:Nat),k=grownCap x.w (rows.length+news.length) cap e->k<=maxLen/\rows.length+news.length<=k/\
       (w1.toArray++nk.toArray++Builtin.zeroCells z.cells (k-(rows.length+news.length))).size=k*s:=by
      intro w1 L4 k hk;have Hi:=grownCap_ge x.w (rows.length+news.length) cap e;have hle:=grownCap_le_maxLen x.w (rows.length+news.length) cap e (by simp only[maxLen];omega);subst hk;refine⟨hle,Hi,?_⟩;simp only[Array.size_append,iK,size_zeroCells,SP,L4,uB,<-j7];congr 1;omega
     have agS:∀(hf:full.full=true)(lN:∀r∈rows,r.cells.length=s),d=.sl (rows++news) (some aB) ⟨false,none⟩->S'=eE x.S aB (.tail e s ((rows.length+news.length)*s))->
       Yields x ((do pure (.value (<-Builtin.append_ #[t,t] u #[.slice A rows.length cap,.slice (some ⟨b2,o2,none⟩) news.length sU])):Sem Next).run P x.w) d S':=by
      intro hf lN hd hS;subst hd hS;have BZ:cap=rows.length:=k2.1 hf;obtain⟨-,-,-,-,-,ahl,hpR,G4,CO,Y3,CP,afE⟩:=tM Hl lN;have Y7:=gK lN;obtain⟨g1,g2,g3⟩:=grown G4 CO _ rfl;have hrun:(Builtin.append_ #[t,t] u #[.slice A rows.length cap,.slice (some ⟨b2,o2,none⟩) news.length sU]).run P x.w=
        .ok (.slice (some ⟨x.w.heap.size,0,none⟩) (rows.length+news.length) (grownCap x.w (rows.length+news.length) cap e)) (x.w.drew.alloc (.cells (G4.toArray++nk.toArray++Builtin.zeroCells z.cells (grownCap x.w (rows.length+news.length) cap e-(rows.length+news.length))) e)):=by
       cases A with
       |none=>
        have h0:=k3 rfl;have SV:rows.length=0:=U
        have hw0:G4=[]:=eP (by rw[CO,SV];simp);subst hw0;rw[SV,h0];have:=run_append_nil (P:=P) x.w t u e ie z hu sZ hiz ⟨b2,o2,none⟩ news.length sU nk (by rw[uB,q8]) qp hm U (by rw[Cg];unfold fE at lS;have:news.length*kN<=(rows.length+news.length)*kN:=gp _ U;omega);simpa using this
       |some ad=>
        obtain⟨b1,o1,sp1⟩:=ad;have He:0<rows.length->sp1=none:=λh=>ahl _ rfl U;refine run_append_grow (P:=P) x.w t u e ie z hu sZ hiz ⟨b1,o1,sp1⟩ rows.length cap G4 (by rw[CO,q8]) (λj v hv=>?_) ⟨b2,o2,none⟩ news.length sU nk (by rw[uB,q8]) qp U U (growslice_fits U (by rw[Cg];exact lS));have hj:j<(flat rows).length:=by rw[Y7,<-CO];exact(aI.1 hv).1
        obtain rfl:=He (Nat.pos_of_ne_zero λe=>by rw[Y7,e]at hj;simp at hj);obtain⟨b',o',q1,-,q2⟩:=CP j _ (bn hj);cases q1;rw[ij,q2];simp[aP,hv]
      generalize hk0:grownCap x.w (rows.length+news.length) cap e=k at*;obtain⟨v1,v2⟩:=AD (Z:=Builtin.zeroCells z.cells (k-(rows.length+news.length))) CO uB;generalize HF:G4.toArray++nk.toArray++Builtin.zeroCells z.cells (k-(rows.length+news.length))=arr at*;have hp:nN x.w (x.w.drew.alloc (.cells arr e)) (.cells arr e (0,0)):=⟨rfl,rfl,rfl⟩;have hNs:(rows.length+news.length)*s<=arr.size:=by rw[g3];exact gp _ g2
      have jM:=lU (k:=k) (F:=λo=>o<(rows.length+news.length)*s) (b:=.tail e s ((rows.length+news.length)*s)) hR hn hp (λo ho=>⟨arr[o]' U,by simp only[World.cell?,hp.new];exact bX _⟩) (.inr (.inl ⟨e,s,_,arr,rfl,rfl,g3,hNs,g1,λo ho=>ho⟩));have M:=jg (k:=k) (F:=λo=>o<(rows.length+news.length)*s) (b:=.tail e s ((rows.length+news.length)*s)) hR hn hp;exact gq hrun (y:=x.fresh (x.w.drew.alloc (.cells arr e)) aB k (λo=>o<(rows.length+news.length)*s) (.tail e s ((rows.length+news.length)*s))) rfl jM M
       (Ah M lN mV hpR hpN Y3 HA (by show(eE _ _ _)[_]? =_;rw[bC hn.le,if_pos rfl]) (if_pos rfl) (if_pos rfl) hp.new (λo ho=>.inr ⟨rfl,ho⟩) hNs v1 v2 g2)
     cases tok with
     |none=>grind
     |some tk=>
      simp only at h;split at h;rename_i e' s' n' L5;split at h;rename_i Vx;simp only[aC,bP]at Vx;obtain⟨⟨w1,w2⟩,w3⟩:=Vx;rw[w1,w2,w3]at L5;cases h;obtain⟨e2,s2',n2,q1,q2,q3,q4⟩:=k5 tk rfl;rw[L5]at q1;cases q1;obtain⟨rfl,rfl⟩:=q4 rfl;obtain⟨-,-,-,-,-,-,hpR,G4,CO,Y3,CP,afE⟩:=tM Hl q3;have Y7:=gK q3;obtain⟨cur,t1,t2,t3,t4⟩:=hR.cQ tk _ _ _ L5;have ahL:∀j,j<rows.length*s->cur[j]? =some (G4.getD j undef):=by
       intro j hj;have Jd:j<(flat rows).length:=U
       obtain⟨b',o',r1,-,r2⟩:=CP j _ (bn Jd);cases r1;simpa [World.cell?,t1]using r2
      by_cases hroom:rows.length+news.length<=x.κ tk;have HD:rows.length*s+nk.length<=cur.size:=by rw[uB,t2,<-j7];exact gp _ hroom
      have hrun:=run_append_room (P:=P) x.w t u e ie hu sZ (x.μ tk) rows.length (x.κ tk) cur t1 ⟨b2,o2,none⟩ news.length sU nk (by rw[uB,q8]) qp FW hroom (by rw[q8];exact HD);rw[q8]at hrun;generalize HF:(cur.toList.take (rows.length*s)++nk++cur.toList.drop (rows.length*s+nk.length)).toArray=arr at*;have aeJ:arr.size=cur.size:=by rw[<-HF];simp;omega
      have abF:∀j,j<rows.length*s->arr[j]? =some (G4.getD j undef):=by grind
      have afJ:∀j,j<news.length*s->arr[rows.length*s+j]? =some (nk.getD j undef):=by
       intro j hj;have e1:(cur.toList.take (rows.length*s)).length=rows.length*s:=by simp;omega
       rw[<-HF,List.getElem?_toArray,rP,fP U,e1,rR,eC U];simp[aP,bn (show j<nk.length by omega)]
      have kW:∀o,o<rows.length*s->(x.w.setRow (x.μ tk) arr).cell? ⟨x.μ tk,o,none⟩=x.w.cell? ⟨x.μ tk,o,none⟩:=by intro o ho;rw[cell_setRow_same _ _ _ _ _ _ _ t1,abF o ho];simp[World.cell?,t1,ahL o ho]
      have hNs:(rows.length+news.length)*s<=arr.size:=by rw[aeJ,t2];exact gp _ hroom
      have hle:rows.length*s<=(rows.length+news.length)*s:=gp _ U;have jM:=Cv (F:=λo=>o<(rows.length+news.length)*s) (arr:=arr) (b:=.tail e s ((rows.length+news.length)*s)) hR L5 (.inr (.inl ⟨e,s,_,_,rfl,rfl,hle,kW,by rw[aeJ];exact t2,hNs,λo ho=>ho⟩));have M:=tU (F:=λo=>o<(rows.length+news.length)*s) (arr:=arr) (b:=.tail e s ((rows.length+news.length)*s)) hR L5 (.inr (.inl ⟨e,s,_,_,rfl,rfl,hle,kW⟩));exact gq hrun (y:=x.upd tk arr (λo=>o<(rows.length+news.length)*s) (.tail e s ((rows.length+news.length)*s))) rfl jM M
       (Ah M q3 mV hpR hpN Y3 HA (by show(x.S.set _ _)[_]? =_;rw[gE L5,if_pos rfl]) rfl rfl (setRow_heap _ _ _ _ _ _ t1) (λo ho=>.inr ⟨rfl,ho⟩) hNs (λj hj=>by rw[aU,abF j hj];rfl) (λj hj=>by rw[aU,afJ j hj];rfl) hroom)
      obtain⟨g1,g2,g3⟩:=grown G4 CO _ rfl;have hrun:=run_append_grow (P:=P) x.w t u e ie z hu sZ hiz ⟨x.μ tk,0,none⟩ rows.length (x.κ tk) G4 (by rw[CO,q8]) (λj v hv=>by
        have hj:j<(flat rows).length:=by rw[Y7,<-CO];exact(aI.1 hv).1
        obtain⟨b',o',r1,-,r2⟩:=CP j _ (bn hj);cases r1;rw[ij,r2];simp[aP,hv]) ⟨b2,o2,none⟩ news.length sU nk (by rw[uB,q8]) qp U U (growslice_fits U (by rw[Cg];exact lS))
      generalize hk0:grownCap x.w (rows.length+news.length) (x.κ tk) e=k at*;obtain⟨v1,v2⟩:=AD (Z:=Builtin.zeroCells z.cells (k-(rows.length+news.length))) CO uB;generalize HF:G4.toArray++nk.toArray++Builtin.zeroCells z.cells (k-(rows.length+news.length))=arr at*;have hp:nN x.w (x.w.drew.alloc (.cells arr e)) (.cells arr e (0,0)):=⟨rfl,rfl,rfl⟩;have hNs:(rows.length+news.length)*s<=arr.size:=by rw[g3];exact gp _ g2
      have hlt:rows.length*s<(rows.length+news.length)*s:=Nat.mul_lt_mul_of_pos_right U hs;have jM:=Ri (k:=k) (F:=λo=>o<(rows.length+news.length)*s) hR L5 hp hlt g3 hNs g1 λo ho=>ho;have M:=EI (k:=k) (F:=λo=>o<(rows.length+news.length)*s) (n':=(rows.length+news.length)*s) hR L5 hp hlt;exact gq hrun (y:=x.jY (x.w.drew.alloc (.cells arr e)) tk k (λo=>o<(rows.length+news.length)*s) (.tail e s ((rows.length+news.length)*s))) rfl jM M
       (Ah M q3 mV hpR hpN Y3 HA (by show(x.S.set _ _)[_]? =_;rw[gE L5,if_pos rfl]) (if_pos rfl) (if_pos rfl) hp.new (λo ho=>.inr ⟨rfl,ho⟩) hNs v1 v2 g2)
      cases h;cases h
    cases h
 cases h
theorem find_congr(kt:TypeId)(k:Value):∀(l m:List MapEntry)(i:Nat),l.map (λe=>(e.key,e.val))=m.map (λe=>(e.key,e.val))->Instr.findAsking kt k l i=Instr.findAsking kt k m i
 |[],[],_,_=>rfl
 |[],_::_,_,h=>by simp at h
 |_::_,[],_,h=>by simp at h
 |e::l,f::m,i,h=>by simp only[bg,List.cons.injEq,ay]at h;unfold Instr.findAsking;rw[h.1.1,h.1.2,find_congr kt k l m (i+1) h.2]
theorem Gu(kd:TypeDesc)(k:Value):∀(l m:List MapEntry)(i:Nat),l.map (λe=>(e.key,e.val))=m.map (λe=>(e.key,e.val))->Instr.findNow kd k l i=Instr.findNow kd k m i
 |[],[],_,_=>rfl
 |[],_::_,_,h=>by simp at h
 |_::_,[],_,h=>by simp at h
 |e::l,f::m,i,h=>by simp only[bg,List.cons.injEq,ay]at h;unfold Instr.findNow;rw[h.1.1,h.1.2,Gu kd k l m (i+1) h.2]
theorem GG(kt:TypeId)(k:Value){l m:List MapEntry}(h:l.map (λe=>(e.key,e.val))=m.map (λe=>(e.key,e.val))):Instr.findKey kt k l=Instr.findKey kt k m:=by unfold Instr.findKey;have h1:∀kd,Instr.findNow kd k l 0=Instr.findNow kd k m 0:=λkd=>Gu kd k l m 0 h;have h2:=find_congr kt k l m 0 h;simp only[h1,h2]
theorem PB(es:List (Value×Value)):(es.map X0).map (λe=>(e.key,e.val))=es:=by
 rw[nV]
 conv=>rhs;rw[<-List.map_id es]
 congr 1
theorem Wu{v:Value}{d:DV}(h:JD v=some d):RV x d v:=by
 unfold JD at h;split at h;rename_i vs;split at h;rename_i v b hvs;simp only[af]at h;obtain⟨d',h1,rfl⟩:=h;have e:vs=#[v,.bool b]:=by rw[<-yx (xs:=vs),hvs]
 subst e;refine .tup rfl λj c hc=>?_
 match j with
 |0=>simp only[dB,aF]at hc;subst hc;exact yE h1
 |1=>simp only[List.getElem?_cons_succ,dB,aF]at hc;subst hc;exact .val rfl
 |j+2=>simp at hc
 cases h;exact yE h
theorem NG(hR:Rel x)(hn:E3 x.S aB){t:TypeId}:Yields x ((do pure (.value (<-Instr.makeMap t none)):Sem Next).run P x.w) (.map aB) (eE x.S aB (.map [])):=by have hp:nN x.w (x.w.alloc (.map #[] 0)) (.map #[] 0):=gA _ _;have jM:=lU (k:=0) (F:=λ_=>False) (b:=.map []) hR hn hp ab (.inr (.inr (.inl ⟨rfl,ab,rfl⟩)));refine gq (y:=x.fresh _ aB 0 (λ_=>False) (.map [])) (v:=.map (some x.w.heap.size)) ?_ rfl jM (jg hR hn hp) ?_;simp[Instr.makeMap,Cx.fresh];have:(x.fresh (x.w.alloc (.map #[] 0)) aB 0 (λ_=>False) (.map [])).μ aB=x.w.heap.size:=if_pos rfl;rw[<-this];exact .map (es:=[]) (by show(eE _ _ _)[_]? =_;rw[bC hn.le,if_pos rfl])
theorem PE(hR:Rel x){id:Nat}{es:List (Value×Value)}(h:x.S[id]? =some (.map es)):∃C0 clk,x.w.heap[x.μ id]? =some (.map C0 clk)/\C0.toList.map (λe=>(e.key,e.val))=es:=by obtain⟨o,h1,h2⟩:=hR.dn id _ h rfl;cases o<;>simp only[tD]at h2;exact⟨_,_,h1,h2⟩
theorem wW{α β:Type}{s:Sem α}{f:α->Sem β}{b:β}(h:cC P (s>>=f)=some b):∃a,cC P s=some a/\cC P (f a)=some b:=by
 change cC P (s.bind f)=some b at h;induction s with
 |pure a=>exact⟨a,rfl,h⟩
 |program k ih=>exact ih P h
 |_=>simp[Sem.bind,cC]at h
theorem RP(hR:Rel x){t:TypeId}{id:Nat}{es:List (Value×Value)}{k v:Value}{ok:Bool}{d:DV}(h:x.S[id]? =some (.map es))(hp:cC P (Ox t (es.map X0) k ok)=some v)(hd:JD v=some d):
  Yields x ((do pure (.value (<-Instr.lookup t (.map (some (x.μ id))) k ok)):Sem Next).run P x.w) d x.S:=by
 obtain⟨C0,clk,h1,h2⟩:=PE hR h;refine aQ hR (v:=v) ?_ (Wu hd);have hk:∀kt,Instr.findKey kt k (es.map X0)=Instr.findKey kt k C0.toList:=λkt=>GG kt k (by rw[PB,h2]);have he:(es.map X0).isEmpty=C0.isEmpty:=by rw[<-h2,Bool.eq_iff_iff];simp
 have hg:=ja (P:=P) h1 ab;unfold Ox at hp;obtain⟨td,p1,p2⟩:=wW hp;have r1:=ot p1 x.w;cases td with
 |map key elem=>simp only at p2;have r2:=ot p2 x.w;unfold Instr.lookup;simp only[Sem.run_bind,r1,Result.andThen_ok,hg,Sem.run_pure,hk,he]at r2⊢;exact r2
 |_=>simp[stuck,cC]at p2
theorem IZ(hR:Rel x){t:TypeId}{id:Nat}{es es':List (Value×Value)}{k v:Value}{r:Option (Nat×Value)}(h:x.S[id]? =some (.map es))(hp:cC P (OI t (es.map X0) k)=some r)(hs:TY es k v r=some es'):
  Yields x ((do Instr.mapUpdate t (.map (some (x.μ id))) k v;pure .skip:Sem Next).run P x.w) bD (x.S.set id (.map es')):=by
 obtain⟨C0,clk,h1,h2⟩:=PE hR h;have hk:∀kt,Instr.findKey kt k (es.map X0)=Instr.findKey kt k C0.toList:=λkt=>GG kt k (by rw[PB,h2]);have hg:=ja (P:=P) h1 ab
 suffices hm:∃OJ acQ,(Instr.mapUpdate t (.map (some (x.μ id))) k v).run P x.w=.ok () (cg x.w (x.μ id) (.map OJ acQ))/\OJ.toList.map (λe=>(e.key,e.val))=es' by obtain⟨OJ,acQ,q1,q2⟩:=hm;exact JX (y:=x.wA id (.map OJ acQ) (.map es')) q1 rfl (Kl hR h trivial ab q2) (As hR h trivial ab)
 unfold OI at hp;obtain⟨td,p1,p2⟩:=wW hp;have r1:=ot p1 x.w;cases td with
 |map key elem=>
  simp only at p2;obtain⟨u,p3,p4⟩:=wW p2;have r2:=ot p3 x.w;have r3:=ot p4 x.w;rw[hk]at r3;unfold Instr.mapUpdate;simp only[Sem.run_bind,r1,Result.andThen_ok,hg,r2,r3];cases r with
  |none=>simp only[TY,aF]at hs;subst hs;exact⟨_,_,kA h1 ab,by simp[h2]⟩
  |some q=>
   obtain⟨i,v0⟩:=q;simp only[TY]at hs;split at hs;rename_i k' v' hi;split at hs;rename_i hsb;cases hs;have hlt:i<C0.size:=by grind
   have hek:((C0[i]?).map (·.key)).getD k=k':=by grind
   simp only[hek,Instr.keyThatStays,hsb,if_true];refine⟨_,_,kA h1 ab,?_⟩;rw[Array.toList_modify];refine mG λj=>?_;rw[<-h2];simp only[cI,List.getElem?_modify,aM,List.length_map];by_cases hj:i=j
   grind
   simp[hj];cases hs;cases hs
 |_=>simp[stuck,cC]at p2
end Go.Di
