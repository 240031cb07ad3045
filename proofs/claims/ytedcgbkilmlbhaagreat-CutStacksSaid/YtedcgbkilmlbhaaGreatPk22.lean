import Derived.Test.YtedcgbkilmlbhaaGreatPk21
namespace Go.Di
open Go
variable {P:Program} {ty:gb} {x:Cx} {w':World} {ρd:Operand->Option DV} {ρ:Operand->Value} {o:Oper} {aC:Nat}
theorem xH(off:Nat):∀(cs:List Value)(i:Nat)(arr:Array Value),off+i+cs.length<=arr.size->
  ((cs.zipIdx i).foldl (λa (p:Value×Nat)=>a.setIfInBounds (off+p.2) p.1) arr)=(arr.toList.take (off+i)++cs++arr.toList.drop (off+i+cs.length)).toArray
 |[],i,arr,_=>ae
 |c::cs,i,arr,h=>by simp only[di]at h;simp only[List.zipIdx_cons,gh];rw[xH off cs (i+1) _ (by simp;omega)];have e:=list_seg_step arr.toList (off+i) c cs (by simp;omega);congr 1;simpa [Array.toList_setIfInBounds,gf]using e
theorem fold_eq(off:Nat)(cs arr:Array Value)(h:off+cs.size<=arr.size):
  cs.zipIdx.foldl (λa (p:Value×Nat)=>a.setIfInBounds (off+p.2) p.1) arr=(arr.toList.take off++cs.toList++arr.toList.drop (off+cs.size)).toArray:=by
 have:=xH off cs.toList 0 arr (by simpa using h);rw[<-zF];simpa using this
def aeJ(x:Cx)(r:List (Nat×DV))(vs:List (Nat×Value)):Prop:=vs.length=r.length/\∀(j:Nat)(p:Nat×DV),r[j]? =some p->∃v,vs[j]? =some (p.1,v)/\RV x p.2 v
def vg(ρ:Operand->Value)(l:List (Nat×Operand)):List (Nat×Value):=l.map λp=>(p.1,ρ p.2)
theorem wN(hρ:yT x ρd ρ):∀{l:List (Nat×Operand)}{r:List (Nat×DV)},kO ρd l=some r->aeJ x r (vg ρ l)
 |[],r,h=>by simp only[kO,aG]at h;subst h;exact⟨rfl,ae⟩
 |(i,a)::l,r,h=>by
  unfold kO at h;split at h;rename_i d r' h1 h2;cases h;obtain⟨h3,h4⟩:=wN hρ h2;refine⟨by simpa [vg]using h3,λj p hp=>?_⟩;cases j with
  |zero=>simp only[eu,aG]at hp;subst hp;exact⟨ρ a,rfl,hρ a d h1⟩
  |succ j=>simpa [vg]using h4 j p (by simpa using hp)
  cases h
theorem Dm{pd pl:Nat->Option (Nat×Nat)}(CI:∀i p,pd i=some p->pl i=some p):∀{r:List (Nat×DV)}{vs:List (Nat×Value)}{l l':cj}{arr:Array Value},aeJ x r vs->ig x l arr->lS pd l r=some l'->∃aaG,Instr.fill pl arr vs=some aaG/\ig x l' aaG
 |[],vs,l,l',arr,hv,hl,h=>by have:vs=[]:=eR (by simpa using hv.1);subst this;simp only[lS,aG]at h;subst h;exact⟨arr,rfl,hl⟩
 |(i,d)::r,vs,l,l',arr,hv,hl,h=>by
  obtain⟨v,ZT,hd⟩:=hv.2 0 (i,d) rfl;have hd:RV x d v:=hd;cases vs with
  |nil=>simp at ZT
  |cons v0 vs=>
   simp only[eu,aG]at ZT;subst ZT;unfold lS at h;split at h;cases h;rename_i off size hp;split at h;rename_i hsz;split at h;rename_i l1 h1;have hc:=vr hd;obtain⟨h2,h3⟩:=sI h1;have ZU:=Qj hl hc h1;obtain⟨aaG,h4,h5⟩:=Dm CI (r:=r) (vs:=vs) ⟨by simpa using hv.1,λj p hj=>by simpa using hv.2 (j+1) p (by simpa using hj)⟩ ZU h;refine⟨aaG,?_,h5⟩;unfold Instr.fill;simp only[CI i _ hp];have c1:v.cells.size=size:=by rw[hc.1,<-hsz]
   have c2:¬(v.cells.size≠size\/off+v.cells.size>arr.size):=by rw[hl.1,hc.1];omega
   simp only[gt_iff_lt,j9,cA,c2,if_false];rw[fold_eq off v.cells arr (by rw[hl.1,hc.1];exact h2)];exact h4;cases h;cases h
theorem C0(fN:kM P ty)(hR:Rel x)(hρ:yT x ρd ρ){t:TypeId}{fs:List (Nat×Nat×Bool)}{sz:Nat}{z cs:cj}{ps:Array (Nat×Operand)}{l:List (Nat×DV)}(h:ty t=some ⟨.struct fs,sz,some z⟩)(hl:kO ρd ps.toList=some l)
  (hf:lS (λi=>(fs[i]?).map λf=>(f.1,f.2.1)) z l=some cs):Yields x ((do pure (.value (<-Instr.build t (ps.map λp=>(p.1,ρ p.2)))):Sem Next).run P x.w) (.agg cs) x.S:=by
 obtain⟨hk,i,hi,-,hz⟩:=cu (fN t _ h);obtain⟨fields,hu,hfs,hff⟩:=Bg hk;obtain⟨zv,h1,h2,-⟩:=jU hz;obtain⟨h3,h4⟩:=iQ (x:=x) h2;have C4:ig x z zv.cells:=⟨by simpa using h3,λj c hc=>by simpa [bF,aU]using h4 j c hc⟩;have CI:∀w:World,(fields.mapM (λf=>do pure (f.offset,<-sizeOf f.type):Field->Sem (Nat×Nat))).run P w=.ok ((fs.map λf=>(f.1,f.2.1)).toArray) w:=by
  intro w;have key:∀(l:List Field)(fs:List (Nat×Nat×Bool)),l.length=fs.length->(∀(j:Nat)(r:Nat×Nat×Bool),fs[j]? =some r->∃f,l[j]? =some f/\JR P f r)->(l.mapM (λf=>do pure (f.offset,<-sizeOf f.type):Field->Sem (Nat×Nat))).run P w=.ok (fs.map λf=>(f.1,f.2.1)) w:=by
   intro l;induction l with
   |nil=>intro fs h _;have:fs=[]:=eR (by simpa using h.symm);subst this;rfl
   |cons f l ih=>
    intro fs h hj;cases fs with
    |nil=>simp at h
    |cons r fs=>
     obtain⟨f',h1,h2,inf,h3,h4,-,-⟩:=hj 0 r rfl;simp only[eu,aG]at h1;subst h1;have:=ih fs (by simpa using h) λj r hr=>by simpa using hj (j+1) r (by simpa using hr)
     simp only[List.mapM_cons,Sem.run_bind,run_sizeOf h3,Result.andThen_ok,Sem.run_pure,this,aY];rw[h2,h4]
  rw[Array.mapM_eq_mapM_toList];simp only[Sem.run_map,key fields.toList fs (by simpa using hfs) (λj r hr=>by simpa using hff j r hr),Result.andThen_ok]
 have uF:=wN hρ hl;obtain⟨arr,h5,h6⟩:=Dm (x:=x) (pl:=λi=>((fs.map λf=>(f.1,f.2.1)).toArray)[i]?) (λi p hp=>by simpa using hp) (vs:=vg ρ ps.toList) uF C4 hf;unfold vg at h5;refine bk hR (v:=.agg arr) ?_ (.agg h6.1 h6.2);simp only[Instr.build,Sem.run_bind,zeroValue,typeInfo,run_program,Result.andThen_ok,hi,Sem.run_pure,h1,run_underlying hu,CI,Array.toList_map,h5]
theorem Fy(fN:kM P ty)(hR:Rel x)(hρ:yT x ρd ρ){t:TypeId}{n s sz:Nat}{agg:Bool}{z cs:cj}{ps:Array (Nat×Operand)}{l:List (Nat×DV)}(h:ty t=some ⟨.array n s agg,sz,some z⟩)(hl:kO ρd ps.toList=some l)
  (hf:lS (λi=>some (i*s,s)) z l=some cs):Yields x ((do pure (.value (<-Instr.build t (ps.map λp=>(p.1,ρ p.2)))):Sem Next).run P x.w) (.agg cs) x.S:=by
 obtain⟨hk,i,hi,-,hz⟩:=cu (fN t _ h);obtain⟨e,hu,ie,uN,sZ,-,-⟩:=zQ hk;obtain⟨zv,h1,h2,-⟩:=jU hz;obtain⟨h3,h4⟩:=iQ (x:=x) h2;have C4:ig x z zv.cells:=⟨by simpa using h3,λj c hc=>by simpa [bF,aU]using h4 j c hc⟩;have uF:=wN hρ hl;obtain⟨arr,h5,h6⟩:=Dm (x:=x) (pl:=λi=>some (i*s,s)) (λi p hp=>hp) (vs:=vg ρ ps.toList) uF C4 hf;unfold vg at h5;refine bk hR (v:=.agg arr) ?_ (.agg h6.1 h6.2);subst sZ;simp only[Instr.build,Sem.run_bind,zeroValue,typeInfo,run_program,Result.andThen_ok,hi,Sem.run_pure,h1,run_underlying hu,run_sizeOf uN,Array.toList_map,h5]
theorem Cy{z:cj}{s:Nat}(hs:z.length=s):∀(n j:Nat),j<n*s->((List.replicate n z).flatten)[j]? =z[j % s]?
 |0,j,h=>by simp at h
 |n+1,j,h=>by
  have FW:0<s:=by grind
  simp only[zJ,List.flatten_cons];by_cases hj:j<s;rw[fI ab,Nat.mod_eq_of_lt hj];rw[jr ab,hs,Cy hs n (j-s) (by rw[nN]at h;omega),<-Nat.mod_eq_sub_mod ab]
theorem jQ{s:Nat}{agg:Bool}{l:cj}{n:Nat}(hl:l.length=n*s)(hs:0<s)(ha:agg=true\/s=1)(hp:∀c∈l,c.ct=true):∀i,i<n->(rowOf s agg l i).cells=(l.drop (i*s)).take s:=by
 intro i hi;have h1:i*s+s<=l.length:=by rw[hl,<-nN];exact fH _ hi
 unfold rowOf;cases agg with
 |true=>rfl
 |false=>
  have FK:s=1:=by simpa using ha
  subst FK;have hlt:i*1<l.length:=ab
  have e:l.getD (i*1) bK=l[i*1]:=by rw[aU,cq hlt];rfl
  have ZU:=hp l[i*1] (nQ hlt);simp only[aK,if_false,e];have hc:(l[i*1]).cells=[l[i*1]]:=by
   revert ZU
   generalize l[i*1]=c;cases c<;>simp[DV.ct,DV.cells]
  rw[hc,nU hlt,List.take_succ_cons,List.take_zero]
theorem HL{s:Nat}{agg:Bool}{l:cj}(hs:0<s)(ha:agg=true\/s=1)(hp:∀c∈l,c.ct=true):∀n,l.length=n*s->flat (rowsOf s agg l n)=l/\∀r∈rowsOf s agg l n,r.cells.length=s:=by
 intro n hl;have hc:=jQ hl hs ha hp;have hlen:∀r∈rowsOf s agg l n,r.cells.length=s:=by
  intro r hr;unfold rowsOf at hr;simp only[er,qY]at hr;obtain⟨i,hi,rfl⟩:=hr;rw[hc i hi,List.length_take,List.length_drop];have h1:i*s+s<=l.length:=by rw[hl,<-nN];exact fH _ hi
  omega
 refine⟨?_,hlen⟩;have AM:=iH hlen;have Zq:(rowsOf s agg l n).length=n:=by simp[rowsOf]
 refine nR λj=>?_;by_cases hj:j<n*s;have hdiv:j/s<n:=by rw[Nat.div_lt_iff_lt_mul hs];exact hj
 have agS:j % s<s:=Nat.mod_lt _ hs;have hje:j=(j/s)*s+j % s:=by rw[Nat.mul_comm];exact(Nat.div_add_mod j s).symm
 have hr:(rowsOf s agg l n)[j/s]? =some (rowOf s agg l (j/s)):=by simp[rowsOf,hdiv]
 rw[hje,Ae hlen hr agS,hc _ hdiv,wD,if_pos agS,zG]
 grind
theorem Eg{rows:cj}{arr:Array Value}{s b:Nat}{y:Cx}{e:TypeId}(h1:∀r∈rows,r.cells.length=s)(h2:∀c∈flat rows,c.ct=true)(h3:(flat rows).length<=arr.size)(hb:y.w.heap[b]? =some (.cells arr e (0,0)))(hF:∀j,j<(flat rows).length->y.Fz b j):
  View y rows (some ⟨b,0,none⟩) s (λj=>arr.getD j undef):=by
 refine⟨h1,λj c hc=>⟨h2 c (cB hc),b,0,rfl,?_,?_⟩⟩
 grind
 have hj:j<arr.size:=dD (aM.1 hc).1 h3;simp[World.cell?,hb,hj,bF]
theorem GL{z:cj}{zv:Value}{s n:Nat}(hs:0<s)(It:z.length=s)(Uq:zv.cells.size=s)(h4:∀j c,z[j]? =some c->RV x c (zv.cells.toList.getD j undef)):ig x ((List.replicate n z).flatten) ((Array.range (n*s)).map (zv.cells[·% zv.cells.size]!)):=by
 refine⟨by simp[It],λj c hc=>?_⟩;have hj:j<n*s:=by have:=(aM.1 hc).1;simpa [It]using this
 rw[Cy It n j hj]at hc;have hm:j % s<s:=Nat.mod_lt _ hs;have:=h4 _ c hc;have Ks:j % zv.cells.size<zv.cells.size:=by rw[Uq];exact hm
 have e1:((Array.range (n*s)).map (zv.cells[·% zv.cells.size]!)).getD j undef=zv.cells[j % zv.cells.size]! :=by simp[bF,hj]
 rw[e1,tF zv.cells (j % zv.cells.size) Ks];have e2:zv.cells.toList.getD (j % s) undef=zv.cells[j % zv.cells.size]:=by simp[aU,<-Uq,Ks]
 rw[<-e2];exact this
theorem HW(fN:kM P ty)(hR:Rel x)(hρ:yT x ρd ρ){t e:TypeId}{n s mh sz sz':Nat}{agg:Bool}{k:TK}{z0:Option cj}{z cs:cj}{ps:Array (Nat×Operand)}{l:List (Nat×DV)}(h:ty t=some ⟨.slice e s mh agg,sz,z0⟩)(hl:kO ρd ps.toList=some l)(he:ty e=some ⟨k,sz',some z⟩)
  (hs:0<s) (hn:n*s<=16777216) (hf:lS (λi=>some (i*s,s)) ((List.replicate n z).flatten) (l.map λ(i,v)=>(i,v.strip))=some cs):
  ∃arr,ig x cs arr/\cs.length=n*s/\(Instr.buildSlice t n (ps.map λp=>(p.1,ρ p.2))).run P x.w=.ok (.slice (some ⟨x.w.heap.size,0,none⟩) n n) (x.w.alloc (.cells arr e)):=by
 obtain⟨hk,i,hi,-,-⟩:=cu (fN t _ h);obtain⟨hu,ie,uN,sZ,-,Ic⟩:=mQ hk;obtain⟨-,ie',DJ,-,hz⟩:=cu (fN e _ he);rw[uN]at DJ;cases DJ;obtain⟨zv,h1,h2,hzl⟩:=jU hz;obtain⟨h3,h4⟩:=iQ (x:=x) h2;have Uq:zv.cells.size=s:=by rw[<-sZ,<-hzl];simpa using h3
 have It:z.length=s:=by rw[hzl,sZ]
 have C4:=GL (n:=n) hs It Uq h4;have uF:aeJ x (l.map λ(i,v)=>(i,v.strip)) (vg ρ ps.toList):=by have:=wN hρ hl;refine⟨by simpa using this.1,λj p hp=>?_⟩;simp only[dG,ah]at hp;obtain⟨q,hq,rfl⟩:=hp;obtain⟨v,RU,Zo⟩:=this.2 j q hq;exact⟨v,by simpa using RU,Zo.strip⟩
 obtain⟨arr,h5,h6⟩:=Dm (x:=x) (pl:=λi=>some (i*s,s)) (λi p hp=>hp) uF C4 hf;have rS:cs.length=n*s:=by
  have key:∀(r:List (Nat×DV))(l l':cj),lS (λi=>some (i*s,s)) l r=some l'->l'.length=l.length:=by
   intro r;induction r with
   |nil=>intro l l' h;simp only[lS,aG]at h;rw[h]
   |cons p r ih=>
    intro l l' h;obtain⟨i,d⟩:=p;unfold lS at h;simp only at h;split at h;split at h;rename_i l1 h1;rw[ih _ _ h];obtain⟨h2,rfl⟩:=sI h1;simp;omega
    cases h;cases h
  rw[key _ _ _ hf];simp[It]
 refine⟨arr,h6,rS,?_⟩;subst sZ;have c1:¬(n*ie.size>2^24):=by rw[show(2:Nat)^24=16777216 from by decide];omega
 have h5':Instr.fill (λi=>some (i*ie.size,ie.size)) ((Array.range (n*ie.size)).map (zv.cells[·% zv.cells.size]!)) (ps.toList.map λp=>(p.1,ρ p.2))=some arr:=h5;by_cases h0:n*ie.size=0;have e0:(Array.range (n*ie.size)).map ((#[]:Array Value)[·% (#[]:Array Value).size]!)=(Array.range (n*ie.size)).map (zv.cells[·% zv.cells.size]!):=by rw[h0];simp
 simp only[Instr.buildSlice,Sem.run_bind,run_underlying hu,Result.andThen_ok,run_sizeOf uN,if_neg c1,if_pos h0,Sem.run_pure,e0,Array.toList_map,h5',newRow,run_newObj];rfl;simp only[Instr.buildSlice,Sem.run_bind,run_underlying hu,Result.andThen_ok,run_sizeOf uN,if_neg c1,if_neg h0,Sem.run_pure,zeroValue,typeInfo,run_program,uN,h1,Array.toList_map,h5',newRow,run_newObj];rfl
theorem F7(fN:kM P ty)(hR:Rel x)(hρ:yT x ρd ρ){t e:TypeId}{n s mh sz sz':Nat}{agg:Bool}{k:TK}{z0:Option cj}{z cs:cj}{ps:Array (Nat×Operand)}{l:List (Nat×DV)}(h:ty t=some ⟨.slice e s mh agg,sz,z0⟩)(hl:kO ρd ps.toList=some l)(he:ty e=some ⟨k,sz',some z⟩)
  (hs:0<s) (hn:n*s<=16777216) (hf:lS (λi=>some (i*s,s)) ((List.replicate n z).flatten) (l.map λ(i,v)=>(i,v.strip))=some cs) (hp:cs.all DV.ct=true) (ha:agg=true\/s=1):
  Yields x ((do pure (.value (<-Instr.buildSlice t n (ps.map λp=>(p.1,ρ p.2)))):Sem Next).run P x.w) (.sl (rowsOf s agg cs n) none ⟨true,some false⟩) x.S:=by
 obtain⟨arr,h6,rS,hrun⟩:=HW fN hR hρ h hl he hs hn hf;have UO:∀c∈cs,c.ct=true:=λc hc=>aX.1 hp c hc;obtain⟨AM,Zq⟩:=HL hs ha UO n rS;have ZU:pS x.w (x.w.alloc (.cells arr e)) (.cells arr e (0,0)):=hU _ _;have mY:=SV (F:=λo=>o<arr.size) hR ZU λo ho=>⟨arr[o],by simp[ho]⟩;have hrn:(rowsOf s agg cs n).length=n:=by simp[rowsOf]
 have yP:(x.w.alloc (.cells arr e)).heap[x.w.heap.size]? =some (.cells arr e (0,0)):=ZU.new;have B4:arr.size=cs.length:=h6.1;have M:=tV (F:=λo=>o<arr.size) hR ZU;refine iG (y:=x.froze _ (λo=>o<arr.size)) (v:=.slice (some ⟨x.w.heap.size,0,none⟩) n n) hrun rfl mY M ?_
 suffices hk:RV (x.froze (x.w.alloc (.cells arr e)) (λo=>o<arr.size)) (.sl (rowsOf s agg cs n) none ⟨true,some false⟩) (.slice (some ⟨x.w.heap.size,0,none⟩) (rowsOf s agg cs n).length (rowsOf s agg cs n).length)by rw[hrn]at hk;exact hk
 have hv:View (x.froze (x.w.alloc (.cells arr e)) (λo=>o<arr.size)) (rowsOf s agg cs n) (some ⟨x.w.heap.size,0,none⟩) s (λj=>arr.getD j undef):=
  Eg Zq (by rw[AM];exact UO) (by rw[AM];omega) yP λj hj=>.inr ⟨rfl,by rw[AM]at hj;omega⟩
 refine RV.sl (tok:=none) hv (λj c hc=>?_) (ak _) ⟨λ_=>rfl,λb h=>by cases h;rfl⟩ ae (λad h _=>by cases h;rfl) (λt ht=>nomatch ht);rw[AM]at hc;exact(h6.2 j c hc).mono M
theorem ue(fN:kM P ty){t:TypeId}{fs:List (Nat×Nat×Bool)}{sz f off s:Nat}{agg:Bool}{z:Option cj}(h:ty t=some ⟨.struct fs,sz,z⟩)(hf:fs[f]? =some (off,s,agg))(hs:0<s)(b o0:Nat)(w:World):
  (Instr.fieldAt t (.pointer (some ⟨b,o0,none⟩)) f).run P w=.ok (.pointer (some ⟨b,o0+off,none⟩)) w:=by
 obtain⟨hk,i,hi,-,-⟩:=cu (fN t _ h);obtain⟨fields,hu,hfs,hff⟩:=Bg hk;obtain⟨fd,h1,h2,inf,h3,h4,-,-⟩:=hff f _ hf;simp only at h2 h4;have hne:¬(inf.size=0):=ab
 simp only[Instr.fieldAt,Sem.run_bind,run_underlying hu,Result.andThen_ok,h1,Instr.sureAddr,Sem.run_pure,fieldPlace,run_sizeOf h3,if_neg hne,iY,h2]
theorem Cq(fN:kM P ty){t:TypeId}{k s sz:Nat}{agg:Bool}{z:Option cj}(h:ty t=some ⟨.array k s agg,sz,z⟩){kd:IntKind}{n:Int}(h0:0<=n)(hlt:n.toNat<k)(b o0:Nat)(w:World):
  (Instr.indexAt t (.pointer (some ⟨b,o0,none⟩)) (.int kd n)).run P w=.ok (.pointer (some ⟨b,o0+n.toNat*s,none⟩)) w:=by
 obtain⟨hk,i,hi,-,-⟩:=cu (fN t _ h);obtain⟨e,hu,ie,uN,sZ,-,-⟩:=zQ hk;have hc:0<=n/\n<(k:Int):=⟨h0,ab⟩;subst sZ;simp only[Instr.indexAt,asIntOf,Sem.run_bind,Sem.run_pure,Result.andThen_ok,run_underlying hu,Instr.sureAddr,hc,and_self,if_true,run_sizeOf uN,iY]
theorem Fe(fN:kM P ty){t e:TypeId}{s mh sz:Nat}{agg:Bool}{z:Option cj}(h:ty t=some ⟨.slice e s mh agg,sz,z⟩){kd:IntKind}{n:Int}{len cap:Nat}(h0:0<=n)(hlt:n.toNat<len)(b o0:Nat)(w:World):
  (Instr.indexAt t (.slice (some ⟨b,o0,none⟩) len cap) (.int kd n)).run P w=.ok (.pointer (some ⟨b,o0+n.toNat*s,none⟩)) w:=by
 obtain⟨hk,i,hi,-,-⟩:=cu (fN t _ h);obtain⟨hu,ie,uN,sZ,-,-⟩:=mQ hk;have hc:0<=n/\n<(len:Int):=⟨h0,ab⟩;subst sZ;simp only[Instr.indexAt,asIntOf,Sem.run_bind,Sem.run_pure,Result.andThen_ok,run_underlying hu,hc,and_self,if_true,run_sizeOf uN,iY]
end Go.Di
namespace Go.Di
open Go
variable {P:Program} {ty:gb} {x:Cx} {w':World} {ρd:Operand->Option DV} {ρ:Operand->Value} {o:Oper} {aC:Nat}
theorem vq{rows:cj}{tok:Option Nat}{full:SF}{A:Option Addr}{n cap s:Nat}(h:RV x (.sl rows tok full) (.slice A n cap))(hs:∀r∈rows,r.cells.length=s):
  n=rows.length/\n<=cap/\((full.full=true->cap=n)/\We full A)/\(A=none->cap=0)/\adJ x tok rows A cap/\(∀ad,A=some ad->0<cap->ad.spot=none)/\
  (∀c∈flat rows,c.ct=true)/\∃vs:List Value,vs.length=n*s/\(∀j c,(flat rows)[j]? =some c->RV x c (vs.getD j undef))/\
   (∀j c,(flat rows)[j]? =some c->∃b o,A=some ⟨b,o,none⟩/\x.Fz b (o+j)/\x.w.cell? ⟨b,o+j,none⟩=some (vs.getD j undef))/\∀u∈vs,u.oneCell'=true:=by
 cases h with
 |@sl _ _ _ _ _ s' vs hv hr h1 h2 h3 hsp h4=>
  have AM:=iH hs;refine⟨rfl,h1,h2,h3,h4,hsp,λc hc=>?_,(List.range (rows.length*s)).map vs,ae,λj c hc=>?_,λj c hc=>?_,λu hu=>?_⟩;obtain⟨j,hj,rfl⟩:=List.mem_iff_getElem.1 hc;exact(hv.2 j _ (cq hj)).1
  grind
  have hj:j<rows.length*s:=by rw[<-AM];exact(aM.1 hc).1
  obtain⟨-,b,o,k1,k2,k3⟩:=hv.2 j c hc;exact⟨b,o,k1,k2,by simpa [aU,hj]using k3⟩;simp only[er,qY]at hu;obtain⟨j,hj,rfl⟩:=hu;have AL:j<(flat rows).length:=ab
  have k:=cq AL;have hp:=(hv.2 j _ k).1;have h1:((flat rows)[j]).one=true:=by
   revert hp
   generalize(flat rows)[j]=c;cases c<;>simp[DV.ct,DV.one]
  exact(one_cell (hr j _ k) h1).1
theorem afD{y:Cx}{R:cj}{t s N cap:Nat}{e:TypeId}{arr:Array Value}(hR:∀r∈R,r.cells.length=s)(hp:∀c∈flat R,c.ct=true)(hS:y.S[t]? =some (.tail e s N))(hN:N=R.length*s)
  (hh:y.w.heap[y.μ t]? =some (.cells arr e (0,0))) (hF:∀o,o<N->y.Fz (y.μ t) o) (hsz:N<=arr.size) (hc:∀j c,(flat R)[j]? =some c->RV y c (arr.getD j undef)) (hk:cap=y.κ t) (KE:R.length<=cap):
  RV y (.sl R (some t) ⟨false,none⟩) (.slice (some ⟨y.μ t,0,none⟩) R.length cap):=by
 have AM:=iH hR;refine RV.sl (Eg hR hp ab hh λj hj=>hF j ab) hc KE ⟨ae,λ_ h=>nomatch h⟩ ae (λad h _=>by cases h;rfl) λt' ht=>?_;cases ht;exact⟨e,s,N,hS,ab,hR,λ_=>⟨rfl,hk⟩⟩
theorem Cz(a b:cj):flat (a++b)=flat a++flat b:=by simp[flat]
theorem Bn{y:Cx}{rows news:cj}{H7 oA:List Value}{t s b cap:Nat}{e:TypeId}{arr:Array Value}(M:cg x y)(h1:∀r∈rows,r.cells.length=s)(h2:∀r∈news,r.cells.length=s)(hp1:∀c∈flat rows,c.ct=true)(hp2:∀c∈flat news,c.ct=true)
  (xg:∀(j:Nat)(c:DV),(flat rows)[j]? =some c->RV x c (H7.getD j undef)) (Kq:∀(j:Nat)(c:DV),(flat news)[j]? =some c->RV x c (oA.getD j undef)) (hS:y.S[t]? =some (.tail e s ((rows.length+news.length)*s))) (hμ:y.μ t=b) (hκ:y.κ t=cap)
  (hh:y.w.heap[b]? =some (.cells arr e (0,0))) (hF:∀o,o<(rows.length+news.length)*s->y.Fz b o) (hsz:(rows.length+news.length)*s<=arr.size) (Zv:∀j,j<rows.length*s->arr.getD j undef=H7.getD j undef) (Pu:∀j,j<news.length*s->arr.getD (rows.length*s+j) undef=oA.getD j undef)
  (KE:rows.length+news.length<=cap):RV y (.sl (rows++news) (some t) ⟨false,none⟩) (.slice (some ⟨b,0,none⟩) (rows.length+news.length) cap):=by
 have Nr:=iH h1;have UW:=iH h2;subst hμ hκ;have key:=afD (y:=y) (R:=rows++news) (t:=t) (s:=s) (arr:=arr) (cap:=y.κ t) (N:=(rows.length+news.length)*s) (λr hr=>(eG.1 hr).elim (h1 r) (h2 r)) (λc hc=>?_) hS (by rw[cn]) hh hF hsz (λj c hc=>?_) rfl (by rw[cn];exact KE)
 grind
 rw[Cz]at hc;exact(eG.1 hc).elim (hp1 c) (hp2 c)
 rw[Cz]at hc;by_cases hj:j<(flat rows).length;rw[fI hj]at hc;rw[Zv j ab];exact(xg j c hc).mono M;rw[jr ab]at hc;have hj2:j-(flat rows).length<(flat news).length:=(aM.1 hc).1;have e1:j=rows.length*s+(j-(flat rows).length):=ab
 rw[e1,Pu _ ab];exact(Kq _ c hc).mono M
theorem BF{H7 oA:List Value}{Z:Array Value}{n m:Nat}(h1:H7.length=n)(h2:oA.length=m):(∀j,j<n->(H7.toArray++oA.toArray++Z).getD j undef=H7.getD j undef)/\∀j,j<m->(H7.toArray++oA.toArray++Z).getD (n+j) undef=oA.getD j undef:=by constructor;intro j hj;rw[bF,zO (by simp;omega),zO (by simp;omega)];simp[aU];intro j hj;rw[bF,zO (by simp;omega),RM (by simp;omega)];simp[aU,h1]
theorem Tw(fN:kM P ty)(hR:Rel x)(hn:FI x.S aC){t u:TypeId}{a b d:DV}{va vb:Value}{S':ai}(ha:RV x a va)(hb:RV x b vb)(h:j6 ty x.S aC t a b=some (d,S')):
  Yields x ((do pure (.value (<-Builtin.append_ #[t,t] u #[va,vb])):Sem Next).run P x.w) d S':=by
 unfold j6 at h;split at h
 .rename_i e s mh agg sz z0 rows tok full news FP adu htt;obtain⟨hk,it,-,-,-⟩:=cu (fN t _ htt);obtain⟨hu,ie,uN,sZ,FH,-⟩:=mQ hk;have Ie:=ha;have Kv:=hb;cases ha with
  |@sl _ _ _ A cap s1 vs1 RU xg k1 k2 k3 k4 k5=>
   cases hb with
   |@sl _ _ _ A2 uK s2 vs2 Zo Kq m1 m2 m3 m4 m5=>
    split at h;rename_i wY;cases h;have NJ:news=[]:=by simpa using wY
    subst NJ;refine bk hR (v:=.slice A rows.length cap) ?_ Ie;subst sZ;cases A with
    |none=>cases A2<;>simp[Builtin.append_,run_underlying hu,run_sizeOf uN,Builtin.lenOf,Builtin.firstCells,loadCells,loadCellsFrom,k1]
    |some ad=>cases A2<;>simp[Builtin.append_,run_underlying hu,run_sizeOf uN,Builtin.lenOf,Builtin.firstCells,loadCells,loadCellsFrom,storeCells,k1]
    rename_i wY;split at h
    .rename_i hte;split at h
     rotate_left
     cases h;rename_i qd;simp only[aD,cA,aX]at qd;obtain⟨⟨⟨hs,nk⟩,hlen⟩,om⟩:=qd;have hm:0<news.length:=List.length_pos_iff.2 (by simpa using wY);obtain⟨z,hiz,Uq⟩:∃z,ie.zero=some z/\z.cells.size=s:=by obtain⟨-,ie',DJ,Kp,C4⟩:=cu (fN e _ hte);rw[uN]at DJ;cases DJ;obtain⟨z,q1,q2,q3⟩:=jU C4;have:=(iQ (x:=x) q2).1;exact⟨z,q1,by rw[<-sZ,<-q3];simpa using this⟩
     obtain⟨-,-,-,-,-,aed,hpN,oA,uM,Iv,AO,GD⟩:=vq Kv om;obtain⟨ad2,rfl⟩:∃ad2,A2=some ad2:=by
      cases A2 with
      |none=>have:=m3 rfl;omega
      |some ad=>exact⟨ad,rfl⟩
     have CS:=iH om;obtain⟨b2,o2,sp2⟩:=ad2;have aec:sp2=none:=aed _ rfl ab;subst aec;have rN:∀j v,oA[j]? =some v->x.w.cell? ((⟨b2,o2,none⟩:Addr).add j)=some v:=by
      intro j v hv;have hj:j<(flat news).length:=by rw[CS,<-uM];exact(aM.1 hv).1
      obtain⟨b',o',q1,-,q2⟩:=AO j _ (cq hj);cases q1;rw[iY,q2];simp[aU,hv]
     have akE:rows.length+news.length<=9223372036854775807:=ab
     have grown:∀(w1:List Value),w1.length=rows.length*s->∀(k:Nat),k=grownCap x.w (rows.length+news.length) cap e->k<=maxLen/\rows.length+news.length<=k/\
       (w1.toArray++oA.toArray++Builtin.zeroCells z.cells (k-(rows.length+news.length))).size=k*s:=by
      intro w1 Po k hk;have FG:=grownCap_ge x.w (rows.length+news.length) cap e;have hle:=grownCap_le_maxLen x.w (rows.length+news.length) cap e (by simp only[maxLen];omega);subst hk;refine⟨hle,FG,?_⟩;simp only[Array.size_append,mO,size_zeroCells,Uq,Po,uM,<-j8];congr 1;omega
     have aiJ:∀(hf:full.full=true)(qc:∀r∈rows,r.cells.length=s),d=.sl (rows++news) (some aC) ⟨false,none⟩->S'=fu x.S aC (.tail e s ((rows.length+news.length)*s))->
       Yields x ((do pure (.value (<-Builtin.append_ #[t,t] u #[.slice A rows.length cap,.slice (some ⟨b2,o2,none⟩) news.length uK])):Sem Next).run P x.w) d S':=by
      intro hf qc hd hS;subst hd hS;have KE:cap=rows.length:=k2.1 hf;obtain⟨-,-,-,-,-,ajg,hpR,H7,FF,aaq,Dy,ahY⟩:=vq Ie qc;have aau:=iH qc;obtain⟨g1,g2,g3⟩:=grown H7 FF _ rfl;have hrun:(Builtin.append_ #[t,t] u #[.slice A rows.length cap,.slice (some ⟨b2,o2,none⟩) news.length uK]).run P x.w=
        .ok (.slice (some ⟨x.w.heap.size,0,none⟩) (rows.length+news.length) (grownCap x.w (rows.length+news.length) cap e)) (x.w.drew.alloc (.cells (H7.toArray++oA.toArray++Builtin.zeroCells z.cells (grownCap x.w (rows.length+news.length) cap e-(rows.length+news.length))) e)):=by
       cases A with
       |none=>
        have h0:=k3 rfl;have Uv:rows.length=0:=ab
        have hw0:H7=[]:=eR (by rw[FF,Uv];simp);subst hw0;rw[Uv,h0];have:=run_append_nil (P:=P) x.w t u e ie z hu uN hiz ⟨b2,o2,none⟩ news.length uK oA (by rw[uM,sZ]) rN hm ab (by rw[FH];unfold ga at nk;have:news.length*mh<=(rows.length+news.length)*mh:=fH _ ab;omega);simpa using this
       |some ad=>
        obtain⟨b1,o1,sp1⟩:=ad;have FK:0<rows.length->sp1=none:=λh=>ajg _ rfl ab;refine run_append_grow (P:=P) x.w t u e ie z hu uN hiz ⟨b1,o1,sp1⟩ rows.length cap H7 (by rw[FF,sZ]) (λj v hv=>?_) ⟨b2,o2,none⟩ news.length uK oA (by rw[uM,sZ]) rN ab ab (growslice_fits ab (by rw[FH];exact nk));have hj:j<(flat rows).length:=by rw[aau,<-FF];exact(aM.1 hv).1
        obtain rfl:=FK (Nat.pos_of_ne_zero λe=>by rw[aau,e]at hj;simp at hj);obtain⟨b',o',q1,-,q2⟩:=Dy j _ (cq hj);cases q1;rw[iY,q2];simp[aU,hv]
      generalize hk0:grownCap x.w (rows.length+news.length) cap e=k at*;obtain⟨v1,v2⟩:=BF (Z:=Builtin.zeroCells z.cells (k-(rows.length+news.length))) FF uM;generalize Iz:H7.toArray++oA.toArray++Builtin.zeroCells z.cells (k-(rows.length+news.length))=arr at*;have hp:pS x.w (x.w.drew.alloc (.cells arr e)) (.cells arr e (0,0)):=⟨rfl,rfl,rfl⟩;have hNs:(rows.length+news.length)*s<=arr.size:=by rw[g3];exact fH _ g2
      have mY:=nu (k:=k) (F:=λo=>o<(rows.length+news.length)*s) (b:=.tail e s ((rows.length+news.length)*s)) hR hn hp (λo ho=>⟨arr[o]' ab,by simp only[World.cell?,hp.new];exact cD _⟩) (.inr (.inl ⟨e,s,_,arr,rfl,rfl,g3,hNs,g1,λo ho=>ho⟩));have M:=jS (k:=k) (F:=λo=>o<(rows.length+news.length)*s) (b:=.tail e s ((rows.length+news.length)*s)) hR hn hp;exact iG hrun (y:=x.fresh (x.w.drew.alloc (.cells arr e)) aC k (λo=>o<(rows.length+news.length)*s) (.tail e s ((rows.length+news.length)*s))) rfl mY M
       (Bn M qc om hpR hpN aaq Iv (by show(fu _ _ _)[_]? =_;rw[bN hn.le,if_pos rfl]) (if_pos rfl) (if_pos rfl) hp.new (λo ho=>.inr ⟨rfl,ho⟩) hNs v1 v2 g2)
     cases tok with
     |none=>grind
     |some tk=>
      simp only at h;split at h;rename_i e' s' n' Nd;split at h;rename_i W4;simp only[aD,cA]at W4;obtain⟨⟨w1,w2⟩,w3⟩:=W4;rw[w1,w2,w3]at Nd;cases h;obtain⟨e2,s2',n2,q1,q2,q3,q4⟩:=k5 tk rfl;rw[Nd]at q1;cases q1;obtain⟨rfl,rfl⟩:=q4 rfl;obtain⟨-,-,-,-,-,-,hpR,H7,FF,aaq,Dy,ahY⟩:=vq Ie q3;have aau:=iH q3;obtain⟨cur,t1,t2,t3,t4⟩:=hR.ej tk _ _ _ Nd;have ajG:∀j,j<rows.length*s->cur[j]? =some (H7.getD j undef):=by
       intro j hj;have AL:j<(flat rows).length:=ab
       obtain⟨b',o',r1,-,r2⟩:=Dy j _ (cq AL);cases r1;simpa [World.cell?,t1]using r2
      by_cases hroom:rows.length+news.length<=x.κ tk;have Iy:rows.length*s+oA.length<=cur.size:=by rw[uM,t2,<-j8];exact fH _ hroom
      have hrun:=run_append_room (P:=P) x.w t u e ie hu uN (x.μ tk) rows.length (x.κ tk) cur t1 ⟨b2,o2,none⟩ news.length uK oA (by rw[uM,sZ]) rN GD hroom (by rw[sZ];exact Iy);rw[sZ]at hrun;generalize Iz:(cur.toList.take (rows.length*s)++oA++cur.toList.drop (rows.length*s+oA.length)).toArray=arr at*;have agY:arr.size=cur.size:=by rw[<-Iz];simp;omega
      have ado:∀j,j<rows.length*s->arr[j]? =some (H7.getD j undef):=by grind
      have ah2:∀j,j<news.length*s->arr[rows.length*s+j]? =some (oA.getD j undef):=by
       intro j hj;have e1:(cur.toList.take (rows.length*s)).length=rows.length*s:=by simp;omega
       rw[<-Iz,List.getElem?_toArray,iO,jr ab,e1,tM,fI ab];simp[aU,cq (show j<oA.length by omega)]
      have mG:∀o,o<rows.length*s->(x.w.setRow (x.μ tk) arr).cell? ⟨x.μ tk,o,none⟩=x.w.cell? ⟨x.μ tk,o,none⟩:=by intro o ho;rw[cell_setRow_same _ _ _ _ _ _ _ t1,ado o ho];simp[World.cell?,t1,ajG o ho]
      have hNs:(rows.length+news.length)*s<=arr.size:=by rw[agY,t2];exact fH _ hroom
      have hle:rows.length*s<=(rows.length+news.length)*s:=fH _ ab;have mY:=Dc (F:=λo=>o<(rows.length+news.length)*s) (arr:=arr) (b:=.tail e s ((rows.length+news.length)*s)) hR Nd (.inr (.inl ⟨e,s,_,_,rfl,rfl,hle,mG,by rw[agY];exact t2,hNs,λo ho=>ho⟩));have M:=vA (F:=λo=>o<(rows.length+news.length)*s) (arr:=arr) (b:=.tail e s ((rows.length+news.length)*s)) hR Nd (.inr (.inl ⟨e,s,_,_,rfl,rfl,hle,mG⟩));exact iG hrun (y:=x.upd tk arr (λo=>o<(rows.length+news.length)*s) (.tail e s ((rows.length+news.length)*s))) rfl mY M
       (Bn M q3 om hpR hpN aaq Iv (by show(x.S.set _ _)[_]? =_;rw[iu Nd,if_pos rfl]) rfl rfl (setRow_heap _ _ _ _ _ _ t1) (λo ho=>.inr ⟨rfl,ho⟩) hNs (λj hj=>by rw[bF,ado j hj];rfl) (λj hj=>by rw[bF,ah2 j hj];rfl) hroom)
      obtain⟨g1,g2,g3⟩:=grown H7 FF _ rfl;have hrun:=run_append_grow (P:=P) x.w t u e ie z hu uN hiz ⟨x.μ tk,0,none⟩ rows.length (x.κ tk) H7 (by rw[FF,sZ]) (λj v hv=>by
        have hj:j<(flat rows).length:=by rw[aau,<-FF];exact(aM.1 hv).1
        obtain⟨b',o',r1,-,r2⟩:=Dy j _ (cq hj);cases r1;rw[iY,r2];simp[aU,hv]) ⟨b2,o2,none⟩ news.length uK oA (by rw[uM,sZ]) rN ab ab (growslice_fits ab (by rw[FH];exact nk))
      generalize hk0:grownCap x.w (rows.length+news.length) (x.κ tk) e=k at*;obtain⟨v1,v2⟩:=BF (Z:=Builtin.zeroCells z.cells (k-(rows.length+news.length))) FF uM;generalize Iz:H7.toArray++oA.toArray++Builtin.zeroCells z.cells (k-(rows.length+news.length))=arr at*;have hp:pS x.w (x.w.drew.alloc (.cells arr e)) (.cells arr e (0,0)):=⟨rfl,rfl,rfl⟩;have hNs:(rows.length+news.length)*s<=arr.size:=by rw[g3];exact fH _ g2
      have hlt:rows.length*s<(rows.length+news.length)*s:=Nat.mul_lt_mul_of_pos_right ab hs;have mY:=SU (k:=k) (F:=λo=>o<(rows.length+news.length)*s) hR Nd hp hlt g3 hNs g1 λo ho=>ho;have M:=Fh (k:=k) (F:=λo=>o<(rows.length+news.length)*s) (n':=(rows.length+news.length)*s) hR Nd hp hlt;exact iG hrun (y:=x.kS (x.w.drew.alloc (.cells arr e)) tk k (λo=>o<(rows.length+news.length)*s) (.tail e s ((rows.length+news.length)*s))) rfl mY M
       (Bn M q3 om hpR hpN aaq Iv (by show(x.S.set _ _)[_]? =_;rw[iu Nd,if_pos rfl]) (if_pos rfl) (if_pos rfl) hp.new (λo ho=>.inr ⟨rfl,ho⟩) hNs v1 v2 g2)
      cases h;cases h
    cases h
 cases h
theorem find_congr(kt:TypeId)(k:Value):∀(l m:List MapEntry)(i:Nat),l.map (λe=>(e.key,e.val))=m.map (λe=>(e.key,e.val))->Instr.findAsking kt k l i=Instr.findAsking kt k m i
 |[],[],_,_=>rfl
 |[],_::_,_,h=>by simp at h
 |_::_,[],_,h=>by simp at h
 |e::l,f::m,i,h=>by simp only[aY,List.cons.injEq,aA]at h;unfold Instr.findAsking;rw[h.1.1,h.1.2,find_congr kt k l m (i+1) h.2]
theorem Hr(kd:TypeDesc)(k:Value):∀(l m:List MapEntry)(i:Nat),l.map (λe=>(e.key,e.val))=m.map (λe=>(e.key,e.val))->Instr.findNow kd k l i=Instr.findNow kd k m i
 |[],[],_,_=>rfl
 |[],_::_,_,h=>by simp at h
 |_::_,[],_,h=>by simp at h
 |e::l,f::m,i,h=>by simp only[aY,List.cons.injEq,aA]at h;unfold Instr.findNow;rw[h.1.1,h.1.2,Hr kd k l m (i+1) h.2]
theorem HE(kt:TypeId)(k:Value){l m:List MapEntry}(h:l.map (λe=>(e.key,e.val))=m.map (λe=>(e.key,e.val))):Instr.findKey kt k l=Instr.findKey kt k m:=by unfold Instr.findKey;have h1:∀kd,Instr.findNow kd k l 0=Instr.findNow kd k m 0:=λkd=>Hr kd k l m 0 h;have h2:=find_congr kt k l m 0 h;simp only[h1,h2]
theorem QX(es:List (Value×Value)):(es.map Zm).map (λe=>(e.key,e.val))=es:=by
 rw[jm]
 conv=>rhs;rw[<-List.map_id es]
 congr 1
theorem XX{v:Value}{d:DV}(h:KR v=some d):RV x d v:=by
 unfold KR at h;split at h;rename_i vs;split at h;rename_i v b hvs;simp only[ah]at h;obtain⟨d',h1,rfl⟩:=h;have e:vs=#[v,.bool b]:=by rw[<-zK (xs:=vs),hvs]
 subst e;refine .tup rfl λj c hc=>?_
 match j with
 |0=>simp only[eu,aG]at hc;subst hc;exact zT h1
 |1=>simp only[List.getElem?_cons_succ,eu,aG]at hc;subst hc;exact .val rfl
 |j+2=>simp at hc
 cases h;exact zT h
theorem OR(hR:Rel x)(hn:FI x.S aC){t:TypeId}:Yields x ((do pure (.value (<-Instr.makeMap t none)):Sem Next).run P x.w) (.map aC) (fu x.S aC (.map [])):=by have hp:pS x.w (x.w.alloc (.map #[] 0)) (.map #[] 0):=hU _ _;have mY:=nu (k:=0) (F:=λ_=>False) (b:=.map []) hR hn hp ae (.inr (.inr (.inl ⟨rfl,ae,rfl⟩)));refine iG (y:=x.fresh _ aC 0 (λ_=>False) (.map [])) (v:=.map (some x.w.heap.size)) ?_ rfl mY (jS hR hn hp) ?_;simp[Instr.makeMap,Cx.fresh];have:(x.fresh (x.w.alloc (.map #[] 0)) aC 0 (λ_=>False) (.map [])).μ aC=x.w.heap.size:=if_pos rfl;rw[<-this];exact .map (es:=[]) (by show(fu _ _ _)[_]? =_;rw[bN hn.le,if_pos rfl])
theorem Q1(hR:Rel x){id:Nat}{es:List (Value×Value)}(h:x.S[id]? =some (.map es)):∃DL clk,x.w.heap[x.μ id]? =some (.map DL clk)/\DL.toList.map (λe=>(e.key,e.val))=es:=by obtain⟨o,h1,h2⟩:=hR.eH id _ h rfl;cases o<;>simp only[u9]at h2;exact⟨_,_,h1,h2⟩
theorem yq{α β:Type}{s:Sem α}{f:α->Sem β}{b:β}(h:cZ P (s>>=f)=some b):∃a,cZ P s=some a/\cZ P (f a)=some b:=by
 change cZ P (s.bind f)=some b at h;induction s with
 |pure a=>exact⟨a,rfl,h⟩
 |program k ih=>exact ih P h
 |_=>simp[Sem.bind,cZ]at h
theorem Tt(hR:Rel x){t:TypeId}{id:Nat}{es:List (Value×Value)}{k v:Value}{ok:Bool}{d:DV}(h:x.S[id]? =some (.map es))(hp:cZ P (PE t (es.map Zm) k ok)=some v)(hd:KR v=some d):
  Yields x ((do pure (.value (<-Instr.lookup t (.map (some (x.μ id))) k ok)):Sem Next).run P x.w) d x.S:=by
 obtain⟨DL,clk,h1,h2⟩:=Q1 hR h;refine bk hR (v:=v) ?_ (XX hd);have hk:∀kt,Instr.findKey kt k (es.map Zm)=Instr.findKey kt k DL.toList:=λkt=>HE kt k (by rw[QX,h2]);have he:(es.map Zm).isEmpty=DL.isEmpty:=by rw[<-h2,Bool.eq_iff_iff];simp
 have hg:=jN (P:=P) h1 ae;unfold PE at hp;obtain⟨td,p1,p2⟩:=yq hp;have r1:=pL p1 x.w;cases td with
 |map key elem=>simp only at p2;have r2:=pL p2 x.w;unfold Instr.lookup;simp only[Sem.run_bind,r1,Result.andThen_ok,hg,Sem.run_pure,hk,he]at r2⊢;exact r2
 |_=>simp[stuck,cZ]at p2
theorem J5(hR:Rel x){t:TypeId}{id:Nat}{es es':List (Value×Value)}{k v:Value}{r:Option (Nat×Value)}(h:x.S[id]? =some (.map es))(hp:cZ P (PS t (es.map Zm) k)=some r)(hs:Ve es k v r=some es'):
  Yields x ((do Instr.mapUpdate t (.map (some (x.μ id))) k v;pure .skip:Sem Next).run P x.w) bK (x.S.set id (.map es')):=by
 obtain⟨DL,clk,h1,h2⟩:=Q1 hR h;have hk:∀kt,Instr.findKey kt k (es.map Zm)=Instr.findKey kt k DL.toList:=λkt=>HE kt k (by rw[QX,h2]);have hg:=jN (P:=P) h1 ae
 suffices hm:∃PT aeD,(Instr.mapUpdate t (.map (some (x.μ id))) k v).run P x.w=.ok () (cK x.w (x.μ id) (.map PT aeD))/\PT.toList.map (λe=>(e.key,e.val))=es' by obtain⟨PT,aeD,q1,q2⟩:=hm;exact Le (y:=x.xQ id (.map PT aeD) (.map es')) q1 rfl (LC hR h trivial ae q2) (Bv hR h trivial ae)
 unfold PS at hp;obtain⟨td,p1,p2⟩:=yq hp;have r1:=pL p1 x.w;cases td with
 |map key elem=>
  simp only at p2;obtain⟨u,p3,p4⟩:=yq p2;have r2:=pL p3 x.w;have r3:=pL p4 x.w;rw[hk]at r3;unfold Instr.mapUpdate;simp only[Sem.run_bind,r1,Result.andThen_ok,hg,r2,r3];cases r with
  |none=>simp only[Ve,aG]at hs;subst hs;exact⟨_,_,lM h1 ae,by simp[h2]⟩
  |some q=>
   obtain⟨i,v0⟩:=q;simp only[Ve]at hs;split at hs;rename_i k' v' hi;split at hs;rename_i hsb;cases hs;have hlt:i<DL.size:=by grind
   have hek:((DL[i]?).map (·.key)).getD k=k':=by grind
   simp only[hek,Instr.keyThatStays,hsb,if_true];refine⟨_,_,lM h1 ae,?_⟩;rw[Array.toList_modify];refine nR λj=>?_;rw[<-h2];simp only[dG,List.getElem?_modify,aS,List.length_map];by_cases hj:i=j
   grind
   simp[hj];cases hs;cases hs
 |_=>simp[stuck,cZ]at p2
end Go.Di
