import Derived.Test.YtedcgbkilmlbhaaPk19
namespace Go.Di
open Go
variable {P:Program} {ty:fR} {x:Cx} {w':World} {aK:bR} {call:bt}
def Yields(x:Cx)(r:Result Next)(d:DV)(S':ai):Prop:=∃v y,(r=.ok (.value v) y.w\/(r=.ok .skip y.w/\v=undef))/\y.S=S'/\Rel y/\bV x y/\RV y d v
theorem iu{s:Sem Value}{d:DV}{S':ai}{v:Value}{y:Cx}(h:s.run P x.w=.ok v y.w)(h1:y.S=S')(h2:Rel y)(h3:bV x y)(h4:RV y d v):Yields x ((do pure (.value (<-s)):Sem Next).run P x.w) d S':=
 ⟨v,y,.inl (by simp[h]),h1,h2,h3,h4⟩
theorem aZ{s:Sem Value}{d:DV}{v:Value}(hR:Rel x)(h:s.run P x.w=.ok v x.w)(h4:RV x d v):Yields x ((do pure (.value (<-s)):Sem Next).run P x.w) d x.S:=iu h rfl hR (bV.refl x) h4
theorem Ko{s:Sem Unit}{S':ai}{y:Cx}(h:s.run P x.w=.ok () y.w)(h1:y.S=S')(h2:Rel y)(h3:bV x y):Yields x ((do s;pure .skip:Sem Next).run P x.w) bF S':=
 ⟨undef,y,.inr ⟨by simp[h],rfl⟩,h1,h2,h3,.val rfl⟩
theorem pn{s:Sem Value}{d:DV}(h:jw P s=some d)(w:World):∃v,s.run P w=.ok v w/\RV x d v:=by unfold jw at h;simp only[qO]at h;obtain⟨v,h1,h2⟩:=h;exact⟨v,pg h1 w,zn h2⟩
def kC(P:Program)(ty:fR):Prop:=∀t d,ty t=some d->Tz P t=some d
variable {ρd:Operand->Option DV} {ρ:Operand->Value} {o:Oper} {aF:Nat}
def yy(x:Cx)(ρd:Operand->Option DV)(ρ:Operand->Value):Prop:=∀a d,ρd a=some d->RV x d (ρ a)
theorem gh(hρ:yy x ρd ρ){a:Operand}{v:Value}(h:valOf ρd a=some v):ρ a=v:=by unfold valOf at h;simp only[qO]at h;obtain⟨d,h1,h2⟩:=h;exact KH (hρ a d h1) h2
theorem nW(hρ:yy x ρd ρ){a:Operand}{n:Int}(h:intOf ρd a=some n):∃k,ρ a=.int k n:=by
 unfold intOf at h;split at h;.rename_i k m h1;cases h;exact⟨k,xz (hρ a _ h1)⟩
 cases h
theorem xB(hρ:yy x ρd ρ):∀{l:List Operand}{r:List DV},evs ρd l=some r->ia x r (l.map ρ).toArray
 |[],r,h=>by simp only[evs,aB]at h;subst h;exact⟨rfl,by simp⟩
 |a::l,r,h=>by
  unfold evs at h;split at h
  .rename_i d r' h1 h2;cases h;obtain⟨h3,h4⟩:=xB hρ h2;refine⟨by simpa using h3,λj c hc=>?_⟩;cases j with
   |zero=>simp only[bY,aB]at hc;subst hc;exact hρ a _ h1
   |succ j=>simpa [bz]using h4 j c (by simpa using hc)
  cases h
theorem W5(fu:kC P ty)(hR:Rel x)(hn:Fi x.S aF){e:TypeId}{k:TK}{sz:Nat}{z:List DV}(h:ty e=some ⟨k,sz,some z⟩):
  Yields x ((do pure (.value (<-Instr.alloc e true (.tuple #[]))):Sem Next).run P x.w) (.ptr aF 0) (eU x.S aF (.cells z)):=by
 obtain⟨-,i,hi,-,hz⟩:=b9 (fu e _ h);obtain⟨zv,h1,h2,-⟩:=jO hz;obtain⟨h3,h4⟩:=iK (x:=x) h2;have hp:pK x.w (x.w.alloc (.cells zv.cells e)) (.cells zv.cells e (0,0)):=gO _ _;have mP:=mZ (k:=0) (F:=λ_=>False) (b:=.cells z) hR hn hp (by simp) (.inl ⟨z,zv.cells,e,rfl,rfl,by simpa using h3,by simp,λj c hc=>by simpa [bz,aP]using h4 j c hc⟩);refine iu (y:=x.fresh _ aF 0 (λ_=>False) (.cells z)) (v:=.pointer (some ⟨x.w.heap.size,0,none⟩)) ?_ rfl mP (jN hR hn hp) ?_;.simp[Instr.alloc,zeroValue,typeInfo,hi,h1,newVar,newRow,Cx.fresh]
 have:(x.fresh (x.w.alloc (.cells zv.cells e)) aF 0 (λ_=>False) (.cells z)).μ aF=x.w.heap.size:=if_pos rfl;rw[<-this];exact .ptr (l:=z) (by show(eU _ _ _)[_]? =_;rw[bG hn.le,if_pos rfl])
theorem aep(hR:Rel x)(hn:Fi x.S aF){e:TypeId}{d:DV}{v:Value}(h:RV x d v):
  Yields x ((do pure (.value (<-Instr.box e v)):Sem Next).run P x.w) (.ptr aF 0) (eU x.S aF (.cells d.cells)):=by
 obtain⟨h3,h4⟩:=uP h;have hp:pK x.w (x.w.alloc (.cells v.cells e)) (.cells v.cells e (0,0)):=gO _ _;have mP:=mZ (k:=0) (F:=λ_=>False) (b:=.cells d.cells) hR hn hp (by simp) (.inl ⟨d.cells,v.cells,e,rfl,rfl,h3,by simp,h4⟩);refine iu (y:=x.fresh _ aF 0 (λ_=>False) (.cells d.cells)) (v:=.pointer (some ⟨x.w.heap.size,0,none⟩)) ?_ rfl mP (jN hR hn hp) ?_;.simp[Instr.box,newVar,newRow,Cx.fresh]
 have:(x.fresh (x.w.alloc (.cells v.cells e)) aF 0 (λ_=>False) (.cells d.cells)).μ aF=x.w.heap.size:=if_pos rfl;rw[<-this];exact .ptr (l:=d.cells) (by show(eU _ _ _)[_]? =_;rw[bG hn.le,if_pos rfl])
theorem Q6{rows:List DV}{b o s:Nat}{vs:Nat->Value}(hv:View x rows (some ⟨b,o,none⟩) s vs)(hr:∀j c,(flat rows)[j]? =some c->RV x c (vs j)){i:Nat}{r:DV}(h:rows[i]? =some r):
  ∀j c,r.cells[j]? =some c->∃v,x.w.cell? ⟨b,o+i*s+j,none⟩=some v/\RV x c v:=by
 intro j c hc;have hj:j<s:=by rw[<-hv.1 r (cr h)];exact(aA.1 hc).1
 have hf:=Em hv.1 h hj;rw[hc]at hf;obtain⟨-,b',o',h1,-,h2⟩:=hv.2 _ _ hf;cases h1;exact⟨_,by rw[eE];exact h2,hr _ _ hf⟩
theorem Le(fu:kC P ty)(hR:Rel x){t:TypeId}{a d:DV}{va:Value}(ha:RV x a va)(h:lE ty x.S t a=some d):∃v,(Instr.loadAt t va).run P x.w=.ok v x.w/\RV x d v:=by
 unfold lE at h;split at h
 .rename_i td id off hk;obtain⟨k,sz,z⟩:=td;obtain⟨tZ,i,hi,hs,-⟩:=b9 (fu t _ hk);obtain⟨HH,d0,hu⟩:=MV tZ;split at h
  .rename_i l hl;obtain⟨arr,e,h1,h2,h3⟩:=hR.cells id l hl;cases ha with
   |ptr _=>
    have:=A5 (x:=x) (b:=x.μ id) (o:=0) (l:=l) hi hu hs HH.symm (λj c hc=>?_) h;.obtain⟨v,h4,h5⟩:=this;refine⟨v,?_,h5⟩;simpa [Instr.loadAt,Instr.sureAddr]using h4
    have hj:j<arr.size:=by rw[h2];exact(aA.1 hc).1
    refine⟨arr[j],?_,by simpa [bz,hj]using h3 j c hc⟩;simp[World.cell?,h1,hj]
  cases h
 .rename_i td rows i off hk;obtain⟨k,sz,z⟩:=td;obtain⟨tZ,inf,hi,hs,-⟩:=b9 (fu t _ hk);obtain⟨HH,d0,hu⟩:=MV tZ;split at h
  .rename_i r hr;cases ha with
   |@fq _ _ _ b o s vs hv SG=>obtain⟨v,h4,h5⟩:=A5 (x:=x) (b:=b) (o:=o+i*s) (l:=r.cells) hi hu hs HH.symm (Q6 hv SG hr) h;refine⟨v,?_,h5⟩;rw[eE]at h4;simpa [Instr.loadAt,Instr.sureAddr]using h4
  cases h
 .rename_i td id n off hk;obtain⟨k,sz,z⟩:=td;obtain⟨tZ,i,hi,hs,-⟩:=b9 (fu t _ hk);obtain⟨HH,d0,hu⟩:=MV tZ;split at h
  .rename_i e s l zz hop;obtain⟨hS,HD⟩:=mF hop;obtain⟨arr,h1,-,h2,-,h3,-⟩:=hR.ops id e s l zz hS;cases ha with
   |gu CJ Ci hA=>rw[hS]at CJ;cases CJ;rw[hA HD];obtain⟨v,h4,h5⟩:=A5 (x:=x) (b:=x.μ id) (o:=0) (l:=l) hi hu hs HH.symm (λj c hc=>by have hj:j<arr.size:=dH (aA.1 hc).1 h2;refine⟨arr[j],?_,by simpa [bz,hj]using(h3 j c hc).2⟩;simp[World.cell?,h1,hj]) h;exact⟨v,by simpa [Instr.loadAt,Instr.sureAddr]using h4,h5⟩
  cases h
 cases h
theorem Rh(fu:kC P ty)(hR:Rel x){t:TypeId}{a d:DV}{va vd:Value}{S':ai}(ha:RV x a va)(hd:RV x d vd)(h:pX ty x.S t a d=some S'):
  ∃y,(Instr.storeAt t va vd).run P x.w=.ok () y.w/\y.S=S'/\Rel y/\bV x y:=by
 unfold pX at h;split at h
 .rename_i td id off hk;obtain⟨k,sz,z⟩:=td;obtain⟨tZ,i,hi,hs,-⟩:=b9 (fu t _ hk);split at h
  .rename_i l hl;split at h
   .rename_i hc;simp only[aC,cq]at hc;simp only[af]at h;obtain⟨l',h6,rfl⟩:=h;obtain⟨arr,e,h1,h2,h3⟩:=hR.cells id l hl;have sH:=uP hd;cases ha with
    |ptr _=>
     have hp:=Pd ⟨h2,h3⟩ sH h6;obtain⟨h7,h8⟩:=rW h6;refine⟨x.upd id (arr.toList.take off++vd.cells.toList++arr.toList.drop (off+vd.cells.size)).toArray (λ_=>False) (.cells l'),?_,rfl,CP hR hl (.inl ⟨l,l',rfl,rfl,by simp,hp.1,hp.2⟩),uT hR hl (.inl ⟨l,l',rfl,rfl⟩)⟩;have hst:=run_storeCells_at P (x.μ id) off e vd.cells.toList 0 arr x.w h1 (by simp only[Nat.add_zero,za];rw[sH.1,h2];exact h7) (cells_one hd hc.2);simp only[Nat.add_zero,za]at hst;have hsz:¬(vd.cells.size≠i.size):=by rw[sH.1,hc.1,hs];simp
     simp only[Instr.storeAt,Instr.sureAddr,Sem.run_bind,Sem.run_pure,Result.andThen_ok,storeVar,run_sizeOf hi,if_neg hsz];exact hst
   cases h
  cases h
 .rename_i td id n off hk;obtain⟨k,sz,z⟩:=td;obtain⟨tZ,i,hi,hs,-⟩:=b9 (fu t _ hk);split at h
  .rename_i e s l hop;obtain⟨hS,HD⟩:=mF hop;split at h
   .rename_i hc;simp only[aC,cq]at hc;simp only[af]at h;obtain⟨l',h6,rfl⟩:=h;obtain⟨arr,h1,h0,h2,hκ,h3,-,-⟩:=hR.ops id e s l false hS;have xg:=hd.strip;have sH:=uP xg;cases ha with
    |gu CJ Ci hA=>
     rw[hS]at CJ;cases CJ;rw[hA HD];obtain⟨h7,h8⟩:=rW h6;have hp:=IW (off:=off) h2 (λj c hc=>(h3 j c hc).2) sH (by omega) (by omega);rw[<-h8]at hp;have YC:∀c∈l',c.ck=true:=λc hm=>by
      rw[h8]at hm;rcases eY.1 hm with hm|hm
      .rcases eY.1 hm with hm|hm;.obtain⟨j,hj⟩:=sX.1 (zf hm);exact(h3 j c hj).1
       exact aX.1 hc.2 c hm
      obtain⟨j,hj⟩:=sX.1 (List.mem_of_mem_drop hm);exact(h3 j c hj).1
     have hll:l'.length=l.length:=by rw[h8];simp;omega
     have afk:(arr.toList.take off++vd.cells.toList++arr.toList.drop (off+vd.cells.size)).toArray.size=arr.size:=by have:=sH.1;simp;omega
     refine⟨x.upd id (arr.toList.take off++vd.cells.toList++arr.toList.drop (off+vd.cells.size)).toArray (λ_=>False) (.op e s l' false),?_,rfl,CP hR hS (.inr (.inr ⟨e,s,l,l',rfl,rfl,by omega,by simp,by rw[afk];exact h0,by rw[afk];omega,λj c hj=>⟨YC c (cr hj),hp j c hj⟩⟩)),uT hR hS (.inr (.inr ⟨e,s,l,l',rfl,rfl,by omega⟩))⟩;have hst:=run_storeCells_at P (x.μ id) off e vd.cells.toList 0 arr x.w h1 (by simp only[Nat.add_zero,za];rw[sH.1];omega) (cells_one xg (aX.2 λc hm=>RH (aX.1 hc.2 c hm)));simp only[Nat.add_zero,za]at hst;have hsz:¬(vd.cells.size≠i.size):=by rw[sH.1,hc.1,hs];simp
     simp only[Instr.storeAt,Instr.sureAddr,Sem.run_bind,Sem.run_pure,Result.andThen_ok,storeVar,run_sizeOf hi,if_neg hsz];exact hst
   cases h
  cases h
 cases h
end Go.Di
namespace Go.Di
open Go
variable {P:Program} {ty:fR} {x:Cx} {w':World} {ρd:Operand->Option DV} {ρ:Operand->Value} {o:Oper} {aF:Nat}
theorem wX(off:Nat):∀(cs:List Value)(i:Nat)(arr:Array Value),off+i+cs.length<=arr.size->
  ((cs.zipIdx i).foldl (λa (p:Value×Nat)=>a.setIfInBounds (off+p.2) p.1) arr)=(arr.toList.take (off+i)++cs++arr.toList.drop (off+i+cs.length)).toArray
 |[],i,arr,_=>by simp
 |c::cs,i,arr,h=>by simp only[dN]at h;simp only[List.zipIdx_cons,gp];rw[wX off cs (i+1) _ (by simp;omega)];have e:=list_seg_step arr.toList (off+i) c cs (by simp;omega);congr 1;simpa [Array.toList_setIfInBounds,eE]using e
theorem fold_eq(off:Nat)(cs arr:Array Value)(h:off+cs.size<=arr.size):
  cs.zipIdx.foldl (λa (p:Value×Nat)=>a.setIfInBounds (off+p.2) p.1) arr=(arr.toList.take off++cs.toList++arr.toList.drop (off+cs.size)).toArray:=by
 have:=wX off cs.toList 0 arr (by simpa using h);rw[<-y9];simpa using this
def adu(x:Cx)(r:List (Nat×DV))(vs:List (Nat×Value)):Prop:=vs.length=r.length/\∀(j:Nat)(p:Nat×DV),r[j]? =some p->∃v,vs[j]? =some (p.1,v)/\RV x p.2 v
def uI(ρ:Operand->Value)(l:List (Nat×Operand)):List (Nat×Value):=l.map λp=>(p.1,ρ p.2)
theorem vY(hρ:yy x ρd ρ):∀{l:List (Nat×Operand)}{r:List (Nat×DV)},kE ρd l=some r->adu x r (uI ρ l)
 |[],r,h=>by simp only[kE,aB]at h;subst h;exact⟨rfl,by simp⟩
 |(i,a)::l,r,h=>by
  unfold kE at h;split at h
  .rename_i d r' h1 h2;cases h;obtain⟨h3,h4⟩:=vY hρ h2;refine⟨by simpa [uI]using h3,λj p hp=>?_⟩;cases j with
   |zero=>simp only[bY,aB]at hp;subst hp;exact⟨ρ a,rfl,hρ a d h1⟩
   |succ j=>simpa [uI]using h4 j p (by simpa using hp)
  cases h
theorem CY{pd pl:Nat->Option (Nat×Nat)}(Bn:∀i p,pd i=some p->pl i=some p):∀{r:List (Nat×DV)}{vs:List (Nat×Value)}{l l':List DV}{arr:Array Value},adu x r vs->ia x l arr->lG pd l r=some l'->∃Zl,Instr.fill pl arr vs=some Zl/\ia x l' Zl
 |[],vs,l,l',arr,hv,hl,h=>by have:vs=[]:=eS (by simpa using hv.1);subst this;simp only[lG,aB]at h;subst h;exact⟨arr,rfl,hl⟩
 |(i,d)::r,vs,l,l',arr,hv,hl,h=>by
  obtain⟨v,YB,hd⟩:=hv.2 0 (i,d) rfl;have hd:RV x d v:=hd;cases vs with
  |nil=>simp at YB
  |cons v0 vs=>
   simp only[bY,aB]at YB;subst YB;unfold lG at h;split at h;.cases h
   rename_i off size hp;split at h
   .rename_i hsz;split at h
    .rename_i l1 h1;have hc:=uP hd;obtain⟨h2,h3⟩:=rW h1;have YC:=Pd hl hc h1;obtain⟨Zl,h4,h5⟩:=CY Bn (r:=r) (vs:=vs) ⟨by simpa using hv.1,λj p hj=>by simpa using hv.2 (j+1) p (by simpa using hj)⟩ YC h;refine⟨Zl,?_,h5⟩;unfold Instr.fill;simp only[Bn i _ hp];have c1:v.cells.size=size:=by rw[hc.1,<-hsz]
     have c2:¬(v.cells.size≠size\/off+v.cells.size>arr.size):=by rw[hl.1,hc.1];omega
     simp only[gt_iff_lt,gY,cq,c2,if_false];rw[fold_eq off v.cells arr (by rw[hl.1,hc.1];exact h2)];exact h4
    cases h
   cases h
theorem CB(fu:kC P ty)(hR:Rel x)(hρ:yy x ρd ρ){t:TypeId}{fs:List (Nat×Nat×Bool)}{sz:Nat}{z cs:List DV}{ps:Array (Nat×Operand)}{l:List (Nat×DV)}(h:ty t=some ⟨.struct fs,sz,some z⟩)(hl:kE ρd ps.toList=some l)
  (hf:lG (λi=>(fs[i]?).map λf=>(f.1,f.2.1)) z l=some cs):Yields x ((do pure (.value (<-Instr.build t (ps.map λp=>(p.1,ρ p.2)))):Sem Next).run P x.w) (.agg cs) x.S:=by
 obtain⟨hk,i,hi,-,hz⟩:=b9 (fu t _ h);obtain⟨fields,hu,hfs,hff⟩:=AK hk;obtain⟨zv,h1,h2,-⟩:=jO hz;obtain⟨h3,h4⟩:=iK (x:=x) h2;have CH:ia x z zv.cells:=⟨by simpa using h3,λj c hc=>by simpa [bz,aP]using h4 j c hc⟩;have Bn:∀w:World,(fields.mapM (λf=>do pure (f.offset,<-sizeOf f.type):Field->Sem (Nat×Nat))).run P w=.ok ((fs.map λf=>(f.1,f.2.1)).toArray) w:=by
  intro w;have key:∀(l:List Field)(fs:List (Nat×Nat×Bool)),l.length=fs.length->(∀(j:Nat)(r:Nat×Nat×Bool),fs[j]? =some r->∃f,l[j]? =some f/\Jg P f r)->(l.mapM (λf=>do pure (f.offset,<-sizeOf f.type):Field->Sem (Nat×Nat))).run P w=.ok (fs.map λf=>(f.1,f.2.1)) w:=by
   intro l;induction l with
   |nil=>intro fs h _;have:fs=[]:=eS (by simpa using h.symm);subst this;rfl
   |cons f l ih=>
    intro fs h hj;cases fs with
    |nil=>simp at h
    |cons r fs=>
     obtain⟨f',h1,h2,inf,h3,h4,-,-⟩:=hj 0 r rfl;simp only[bY,aB]at h1;subst h1;have:=ih fs (by simpa using h) λj r hr=>by simpa using hj (j+1) r (by simpa using hr)
     simp only[List.mapM_cons,Sem.run_bind,run_sizeOf h3,Result.andThen_ok,Sem.run_pure,this,bn];rw[h2,h4]
  rw[Array.mapM_eq_mapM_toList];simp only[Sem.run_map,key fields.toList fs (by simpa using hfs) (λj r hr=>by simpa using hff j r hr),Result.andThen_ok]
 have rC:=vY hρ hl;obtain⟨arr,h5,h6⟩:=CY (x:=x) (pl:=λi=>((fs.map λf=>(f.1,f.2.1)).toArray)[i]?) (λi p hp=>by simpa using hp) (vs:=uI ρ ps.toList) rC CH hf;unfold uI at h5;refine aZ hR (v:=.agg arr) ?_ (.agg h6.1 h6.2);simp only[Instr.build,Sem.run_bind,zeroValue,typeInfo,run_program,Result.andThen_ok,hi,Sem.run_pure,h1,run_underlying hu,Bn,Array.toList_map,h5]
theorem E7(fu:kC P ty)(hR:Rel x)(hρ:yy x ρd ρ){t:TypeId}{n s sz:Nat}{agg:Bool}{z cs:List DV}{ps:Array (Nat×Operand)}{l:List (Nat×DV)}(h:ty t=some ⟨.array n s agg,sz,some z⟩)(hl:kE ρd ps.toList=some l)
  (hf:lG (λi=>some (i*s,s)) z l=some cs):Yields x ((do pure (.value (<-Instr.build t (ps.map λp=>(p.1,ρ p.2)))):Sem Next).run P x.w) (.agg cs) x.S:=by
 obtain⟨hk,i,hi,-,hz⟩:=b9 (fu t _ h);obtain⟨e,hu,ie,uc,sB,-,-⟩:=zk hk;obtain⟨zv,h1,h2,-⟩:=jO hz;obtain⟨h3,h4⟩:=iK (x:=x) h2;have CH:ia x z zv.cells:=⟨by simpa using h3,λj c hc=>by simpa [bz,aP]using h4 j c hc⟩;have rC:=vY hρ hl;obtain⟨arr,h5,h6⟩:=CY (x:=x) (pl:=λi=>some (i*s,s)) (λi p hp=>hp) (vs:=uI ρ ps.toList) rC CH hf;unfold uI at h5;refine aZ hR (v:=.agg arr) ?_ (.agg h6.1 h6.2);subst sB;simp only[Instr.build,Sem.run_bind,zeroValue,typeInfo,run_program,Result.andThen_ok,hi,Sem.run_pure,h1,run_underlying hu,run_sizeOf uc,Array.toList_map,h5]
theorem B4{z:List DV}{s:Nat}(hs:z.length=s):∀(n j:Nat),j<n*s->((List.replicate n z).flatten)[j]? =z[j % s]?
 |0,j,h=>by simp at h
 |n+1,j,h=>by
  have FF:0<s:=by
   rcases oZ s with h0|h0;.subst h0;simp at h
   exact h0
  simp only[zb,List.flatten_cons];by_cases hj:j<s;.rw[ee (by omega),Nat.mod_eq_of_lt hj]
  rw[iI (by omega),hs,B4 hs n (j-s) (by rw[mo]at h;omega),<-Nat.mod_eq_sub_mod (by omega)]
theorem jL{s:Nat}{agg:Bool}{l:List DV}{n:Nat}(hl:l.length=n*s)(hs:0<s)(ha:agg=true\/s=1)(hp:∀c∈l,c.ck=true):∀i,i<n->(rowOf s agg l i).cells=(l.drop (i*s)).take s:=by
 intro i hi;have h1:i*s+s<=l.length:=by rw[hl,<-mo];exact fU _ hi
 unfold rowOf;cases agg with
 |true=>rfl
 |false=>
  have Me:s=1:=by simpa using ha
  subst Me;have hlt:i*1<l.length:=by omega
  have e:l.getD (i*1) bF=l[i*1]:=by rw[aP,bP hlt];rfl
  have YC:=hp l[i*1] (sU hlt);simp only[aI,if_false,e];have hc:(l[i*1]).cells=[l[i*1]]:=by
   revert YC
   generalize l[i*1]=c;cases c<;>simp[DV.ck,DV.cells]
  rw[hc,qP hlt,List.take_succ_cons,List.take_zero]
theorem He{s:Nat}{agg:Bool}{l:List DV}(hs:0<s)(ha:agg=true\/s=1)(hp:∀c∈l,c.ck=true):∀n,l.length=n*s->flat (rowsOf s agg l n)=l/\∀r∈rowsOf s agg l n,r.cells.length=s:=by
 intro n hl;have hc:=jL hl hs ha hp;have hlen:∀r∈rowsOf s agg l n,r.cells.length=s:=by
  intro r hr;unfold rowsOf at hr;simp only[dM,iG]at hr;obtain⟨i,hi,rfl⟩:=hr;rw[hc i hi,List.length_take,List.length_drop];have h1:i*s+s<=l.length:=by rw[hl,<-mo];exact fU _ hi
  omega
 refine⟨?_,hlen⟩;have xe:=jG hlen;have hrl:(rowsOf s agg l n).length=n:=by simp[rowsOf]
 refine mA λj=>?_;by_cases hj:j<n*s
 .have hdiv:j/s<n:=by rw[Nat.div_lt_iff_lt_mul hs];exact hj
  have aft:j % s<s:=Nat.mod_lt _ hs;have hje:j=(j/s)*s+j % s:=by rw[Nat.mul_comm];exact(Nat.div_add_mod j s).symm
  have hr:(rowsOf s agg l n)[j/s]? =some (rowOf s agg l (j/s)):=by simp[rowsOf,hdiv]
  rw[hje,Em hlen hr aft,hc _ hdiv,qJ,if_pos aft,vN]
 rw[fI (by rw[xe,hrl];omega),fI (by omega)]
theorem DR{rows:List DV}{arr:Array Value}{s b:Nat}{y:Cx}{e:TypeId}(h1:∀r∈rows,r.cells.length=s)(h2:∀c∈flat rows,c.ck=true)(h3:(flat rows).length<=arr.size)(hb:y.w.heap[b]? =some (.cells arr e (0,0)))(hF:∀j,j<(flat rows).length->y.Fz b j):
  View y rows (some ⟨b,0,none⟩) s (λj=>arr.getD j undef):=by
 refine⟨h1,λj c hc=>⟨h2 c (cr hc),b,0,rfl,?_,?_⟩⟩;.rw[jk];exact hF j (aA.1 hc).1
 have hj:j<arr.size:=dH (aA.1 hc).1 h3;simp[World.cell?,hb,hj,bz]
theorem Gr{z:List DV}{zv:Value}{s n:Nat}(hs:0<s)(HS:z.length=s)(SD:zv.cells.size=s)(h4:∀j c,z[j]? =some c->RV x c (zv.cells.toList.getD j undef)):ia x ((List.replicate n z).flatten) ((Array.range (n*s)).map (zv.cells[·% zv.cells.size]!)):=by
 refine⟨by simp[HS],λj c hc=>?_⟩;have hj:j<n*s:=by have:=(aA.1 hc).1;simpa [HS]using this
 rw[B4 HS n j hj]at hc;have hm:j % s<s:=Nat.mod_lt _ hs;have:=h4 _ c hc;have HE:j % zv.cells.size<zv.cells.size:=by rw[SD];exact hm
 have e1:((Array.range (n*s)).map (zv.cells[·% zv.cells.size]!)).getD j undef=zv.cells[j % zv.cells.size]! :=by simp[bz,hj]
 rw[e1,sR zv.cells (j % zv.cells.size) HE];have e2:zv.cells.toList.getD (j % s) undef=zv.cells[j % zv.cells.size]:=by simp[aP,<-SD,HE]
 rw[<-e2];exact this
theorem Ht(fu:kC P ty)(hR:Rel x)(hρ:yy x ρd ρ){t e:TypeId}{n s lR sz sz':Nat}{agg:Bool}{k:TK}{z0:Option (List DV)}{z cs:List DV}{ps:Array (Nat×Operand)}{l:List (Nat×DV)}(h:ty t=some ⟨.slice e s lR agg,sz,z0⟩)(hl:kE ρd ps.toList=some l)(he:ty e=some ⟨k,sz',some z⟩)
  (hs:0<s) (hn:n*s<=16777216) (hf:lG (λi=>some (i*s,s)) ((List.replicate n z).flatten) (l.map λ(i,v)=>(i,v.strip))=some cs):
  ∃arr,ia x cs arr/\cs.length=n*s/\(Instr.buildSlice t n (ps.map λp=>(p.1,ρ p.2))).run P x.w=.ok (.slice (some ⟨x.w.heap.size,0,none⟩) n n) (x.w.alloc (.cells arr e)):=by
 obtain⟨hk,i,hi,-,-⟩:=b9 (fu t _ h);obtain⟨hu,ie,uc,sB,-,HH⟩:=mE hk;obtain⟨-,ie',Dg,-,hz⟩:=b9 (fu e _ he);rw[uc]at Dg;cases Dg;obtain⟨zv,h1,h2,hzl⟩:=jO hz;obtain⟨h3,h4⟩:=iK (x:=x) h2;have SD:zv.cells.size=s:=by rw[<-sB,<-hzl];simpa using h3
 have HS:z.length=s:=by rw[hzl,sB]
 have CH:=Gr (n:=n) hs HS SD h4;have rC:adu x (l.map λ(i,v)=>(i,v.strip)) (uI ρ ps.toList):=by have:=vY hρ hl;refine⟨by simpa using this.1,λj p hp=>?_⟩;simp only[cM,af]at hp;obtain⟨q,hq,rfl⟩:=hp;obtain⟨v,Qz,S8⟩:=this.2 j q hq;exact⟨v,by simpa using Qz,S8.strip⟩
 obtain⟨arr,h5,h6⟩:=CY (x:=x) (pl:=λi=>some (i*s,s)) (λi p hp=>hp) rC CH hf;have om:cs.length=n*s:=by
  have key:∀(r:List (Nat×DV))(l l':List DV),lG (λi=>some (i*s,s)) l r=some l'->l'.length=l.length:=by
   intro r;induction r with
   |nil=>intro l l' h;simp only[lG,aB]at h;rw[h]
   |cons p r ih=>
    intro l l' h;obtain⟨i,d⟩:=p;unfold lG at h;simp only at h;split at h
    .split at h;.rename_i l1 h1;rw[ih _ _ h];obtain⟨h2,rfl⟩:=rW h1;simp;omega
     cases h
    cases h
  rw[key _ _ _ hf];simp[HS]
 refine⟨arr,h6,om,?_⟩;subst sB;have c1:¬(n*ie.size>2^24):=by rw[show(2:Nat)^24=16777216 from by decide];omega
 have h5':Instr.fill (λi=>some (i*ie.size,ie.size)) ((Array.range (n*ie.size)).map (zv.cells[·% zv.cells.size]!)) (ps.toList.map λp=>(p.1,ρ p.2))=some arr:=h5;by_cases h0:n*ie.size=0
 .have e0:(Array.range (n*ie.size)).map ((#[]:Array Value)[·% (#[]:Array Value).size]!)=(Array.range (n*ie.size)).map (zv.cells[·% zv.cells.size]!):=by rw[h0];simp
  simp only[Instr.buildSlice,Sem.run_bind,run_underlying hu,Result.andThen_ok,run_sizeOf uc,if_neg c1,if_pos h0,Sem.run_pure,e0,Array.toList_map,h5',newRow,run_newObj];rfl
 simp only[Instr.buildSlice,Sem.run_bind,run_underlying hu,Result.andThen_ok,run_sizeOf uc,if_neg c1,if_neg h0,Sem.run_pure,zeroValue,typeInfo,run_program,uc,h1,Array.toList_map,h5',newRow,run_newObj];rfl
theorem FP(fu:kC P ty)(hR:Rel x)(hρ:yy x ρd ρ){t e:TypeId}{n s lR sz sz':Nat}{agg:Bool}{k:TK}{z0:Option (List DV)}{z cs:List DV}{ps:Array (Nat×Operand)}{l:List (Nat×DV)}(h:ty t=some ⟨.slice e s lR agg,sz,z0⟩)(hl:kE ρd ps.toList=some l)(he:ty e=some ⟨k,sz',some z⟩)
  (hs:0<s) (hn:n*s<=16777216) (hf:lG (λi=>some (i*s,s)) ((List.replicate n z).flatten) (l.map λ(i,v)=>(i,v.strip))=some cs) (hp:cs.all DV.ck=true) (ha:agg=true\/s=1):
  Yields x ((do pure (.value (<-Instr.buildSlice t n (ps.map λp=>(p.1,ρ p.2)))):Sem Next).run P x.w) (.sl (rowsOf s agg cs n) none ⟨true,some false⟩) x.S:=by
 obtain⟨arr,h6,om,hrun⟩:=Ht fu hR hρ h hl he hs hn hf;have Tc:∀c∈cs,c.ck=true:=λc hc=>aX.1 hp c hc;obtain⟨xe,hrl⟩:=He hs ha Tc n om;have YC:pK x.w (x.w.alloc (.cells arr e)) (.cells arr e (0,0)):=gO _ _;have mP:=Rv (F:=λo=>o<arr.size) hR YC λo ho=>⟨arr[o],by simp[ho]⟩;have hrn:(rowsOf s agg cs n).length=n:=by simp[rowsOf]
 have yq:(x.w.alloc (.cells arr e)).heap[x.w.heap.size]? =some (.cells arr e (0,0)):=YC.new;have Bz:arr.size=cs.length:=h6.1;have M:=s7 (F:=λo=>o<arr.size) hR YC;refine iu (y:=x.froze _ (λo=>o<arr.size)) (v:=.slice (some ⟨x.w.heap.size,0,none⟩) n n) hrun rfl mP M ?_
 suffices hk:RV (x.froze (x.w.alloc (.cells arr e)) (λo=>o<arr.size)) (.sl (rowsOf s agg cs n) none ⟨true,some false⟩) (.slice (some ⟨x.w.heap.size,0,none⟩) (rowsOf s agg cs n).length (rowsOf s agg cs n).length)by rw[hrn]at hk;exact hk
 have hv:View (x.froze (x.w.alloc (.cells arr e)) (λo=>o<arr.size)) (rowsOf s agg cs n) (some ⟨x.w.heap.size,0,none⟩) s (λj=>arr.getD j undef):=
  DR hrl (by rw[xe];exact Tc) (by rw[xe];omega) yq λj hj=>.inr ⟨rfl,by rw[xe]at hj;omega⟩
 refine RV.sl (tok:=none) hv (λj c hc=>?_) (ak _) ⟨λ_=>rfl,λb h=>by cases h;rfl⟩ (by simp) (λad h _=>by cases h;rfl) (λt ht=>nomatch ht);rw[xe]at hc;exact(h6.2 j c hc).mono M
theorem tj(fu:kC P ty){t:TypeId}{fs:List (Nat×Nat×Bool)}{sz f off s:Nat}{agg:Bool}{z:Option (List DV)}(h:ty t=some ⟨.struct fs,sz,z⟩)(hf:fs[f]? =some (off,s,agg))(hs:0<s)(b o0:Nat)(w:World):
  (Instr.fieldAt t (.pointer (some ⟨b,o0,none⟩)) f).run P w=.ok (.pointer (some ⟨b,o0+off,none⟩)) w:=by
 obtain⟨hk,i,hi,-,-⟩:=b9 (fu t _ h);obtain⟨fields,hu,hfs,hff⟩:=AK hk;obtain⟨fd,h1,h2,inf,h3,h4,-,-⟩:=hff f _ hf;simp only at h2 h4;have hne:¬(inf.size=0):=by omega
 simp only[Instr.fieldAt,Sem.run_bind,run_underlying hu,Result.andThen_ok,h1,Instr.sureAddr,Sem.run_pure,fieldPlace,run_sizeOf h3,if_neg hne,iS,h2]
theorem BV(fu:kC P ty){t:TypeId}{k s sz:Nat}{agg:Bool}{z:Option (List DV)}(h:ty t=some ⟨.array k s agg,sz,z⟩){kd:IntKind}{n:Int}(h0:0<=n)(hlt:n.toNat<k)(b o0:Nat)(w:World):
  (Instr.indexAt t (.pointer (some ⟨b,o0,none⟩)) (.int kd n)).run P w=.ok (.pointer (some ⟨b,o0+n.toNat*s,none⟩)) w:=by
 obtain⟨hk,i,hi,-,-⟩:=b9 (fu t _ h);obtain⟨e,hu,ie,uc,sB,-,-⟩:=zk hk;have hc:0<=n/\n<(k:Int):=⟨h0,by omega⟩;subst sB;simp only[Instr.indexAt,asIntOf,Sem.run_bind,Sem.run_pure,Result.andThen_ok,run_underlying hu,Instr.sureAddr,hc,and_self,if_true,run_sizeOf uc,iS]
theorem ER(fu:kC P ty){t e:TypeId}{s lR sz:Nat}{agg:Bool}{z:Option (List DV)}(h:ty t=some ⟨.slice e s lR agg,sz,z⟩){kd:IntKind}{n:Int}{len cap:Nat}(h0:0<=n)(hlt:n.toNat<len)(b o0:Nat)(w:World):
  (Instr.indexAt t (.slice (some ⟨b,o0,none⟩) len cap) (.int kd n)).run P w=.ok (.pointer (some ⟨b,o0+n.toNat*s,none⟩)) w:=by
 obtain⟨hk,i,hi,-,-⟩:=b9 (fu t _ h);obtain⟨hu,ie,uc,sB,-,-⟩:=mE hk;have hc:0<=n/\n<(len:Int):=⟨h0,by omega⟩;subst sB;simp only[Instr.indexAt,asIntOf,Sem.run_bind,Sem.run_pure,Result.andThen_ok,run_underlying hu,hc,and_self,if_true,run_sizeOf uc,iS]
end Go.Di
namespace Go.Di
open Go
variable {P:Program} {ty:fR} {x:Cx} {w':World} {ρd:Operand->Option DV} {ρ:Operand->Value} {o:Oper} {aF:Nat}
theorem uO{rows:List DV}{tok:Option Nat}{full:SF}{A:Option Addr}{n cap s:Nat}(h:RV x (.sl rows tok full) (.slice A n cap))(hs:∀r∈rows,r.cells.length=s):
  n=rows.length/\n<=cap/\((full.full=true->cap=n)/\UR full A)/\(A=none->cap=0)/\ack x tok rows A cap/\(∀ad,A=some ad->0<cap->ad.spot=none)/\
  (∀c∈flat rows,c.ck=true)/\∃vs:List Value,vs.length=n*s/\(∀j c,(flat rows)[j]? =some c->RV x c (vs.getD j undef))/\
   (∀j c,(flat rows)[j]? =some c->∃b o,A=some ⟨b,o,none⟩/\x.Fz b (o+j)/\x.w.cell? ⟨b,o+j,none⟩=some (vs.getD j undef))/\∀u∈vs,u.oneCell'=true:=by
 cases h with
 |@sl _ _ _ _ _ s' vs hv hr h1 h2 h3 hsp h4=>
  have xe:=jG hs;refine⟨rfl,h1,h2,h3,h4,hsp,λc hc=>?_,(List.range (rows.length*s)).map vs,by simp,λj c hc=>?_,λj c hc=>?_,λu hu=>?_⟩;.obtain⟨j,hj,rfl⟩:=List.mem_iff_getElem.1 hc;exact(hv.2 j _ (bP hj)).1
  .have hj:j<rows.length*s:=by rw[<-xe];exact(aA.1 hc).1
   simpa [aP,hj]using hr j c hc
  .have hj:j<rows.length*s:=by rw[<-xe];exact(aA.1 hc).1
   obtain⟨-,b,o,k1,k2,k3⟩:=hv.2 j c hc;exact⟨b,o,k1,k2,by simpa [aP,hj]using k3⟩
  simp only[dM,iG]at hu;obtain⟨j,hj,rfl⟩:=hu;have wv:j<(flat rows).length:=by omega
  have k:=bP wv;have hp:=(hv.2 j _ k).1;have h1:((flat rows)[j]).one=true:=by
   revert hp
   generalize(flat rows)[j]=c;cases c<;>simp[DV.ck,DV.one]
  exact(one_cell (hr j _ k) h1).1
theorem aeb{y:Cx}{R:List DV}{t s N cap:Nat}{e:TypeId}{arr:Array Value}(hR:∀r∈R,r.cells.length=s)(hp:∀c∈flat R,c.ck=true)(hS:y.S[t]? =some (.tail e s N))(hN:N=R.length*s)
  (hh:y.w.heap[y.μ t]? =some (.cells arr e (0,0))) (hF:∀o,o<N->y.Fz (y.μ t) o) (hsz:N<=arr.size) (hc:∀j c,(flat R)[j]? =some c->RV y c (arr.getD j undef)) (hk:cap=y.κ t) (JS:R.length<=cap):
  RV y (.sl R (some t) ⟨false,none⟩) (.slice (some ⟨y.μ t,0,none⟩) R.length cap):=by
 have xe:=jG hR;refine RV.sl (DR hR hp (by omega) hh λj hj=>hF j (by omega)) hc JS ⟨by simp,λ_ h=>nomatch h⟩ (by simp) (λad h _=>by cases h;rfl) λt' ht=>?_;cases ht;exact⟨e,s,N,hS,by omega,hR,λ_=>⟨rfl,hk⟩⟩
theorem B6(a b:List DV):flat (a++b)=flat a++flat b:=by simp[flat]
theorem AU{y:Cx}{rows news:List DV}{Hy oe:List Value}{t s b cap:Nat}{e:TypeId}{arr:Array Value}(M:bV x y)(h1:∀r∈rows,r.cells.length=s)(h2:∀r∈news,r.cells.length=s)(hp1:∀c∈flat rows,c.ck=true)(hp2:∀c∈flat news,c.ck=true)
  (ye:∀(j:Nat)(c:DV),(flat rows)[j]? =some c->RV x c (Hy.getD j undef)) (Mp:∀(j:Nat)(c:DV),(flat news)[j]? =some c->RV x c (oe.getD j undef)) (hS:y.S[t]? =some (.tail e s ((rows.length+news.length)*s))) (hμ:y.μ t=b) (hκ:y.κ t=cap)
  (hh:y.w.heap[b]? =some (.cells arr e (0,0))) (hF:∀o,o<(rows.length+news.length)*s->y.Fz b o) (hsz:(rows.length+news.length)*s<=arr.size) (Yd:∀j,j<rows.length*s->arr.getD j undef=Hy.getD j undef) (Ox:∀j,j<news.length*s->arr.getD (rows.length*s+j) undef=oe.getD j undef)
  (JS:rows.length+news.length<=cap):RV y (.sl (rows++news) (some t) ⟨false,none⟩) (.slice (some ⟨b,0,none⟩) (rows.length+news.length) cap):=by
 have Ms:=jG h1;have Tk:=jG h2;subst hμ hκ;have key:=aeb (y:=y) (R:=rows++news) (t:=t) (s:=s) (arr:=arr) (cap:=y.κ t) (N:=(rows.length+news.length)*s) (λr hr=>(eY.1 hr).elim (h1 r) (h2 r)) (λc hc=>?_) hS (by rw[bU]) hh hF hsz (λj c hc=>?_) rfl (by rw[bU];exact JS);.rw[bU]at key;exact key
 .rw[B6]at hc;exact(eY.1 hc).elim (hp1 c) (hp2 c)
 rw[B6]at hc;by_cases hj:j<(flat rows).length;.rw[ee hj]at hc;rw[Yd j (by omega)];exact(ye j c hc).mono M
 rw[iI (by omega)]at hc;have hj2:j-(flat rows).length<(flat news).length:=(aA.1 hc).1;have e1:j=rows.length*s+(j-(flat rows).length):=by omega
 rw[e1,Ox _ (by omega)];exact(Mp _ c hc).mono M
theorem Ba{Hy oe:List Value}{Z:Array Value}{n m:Nat}(h1:Hy.length=n)(h2:oe.length=m):(∀j,j<n->(Hy.toArray++oe.toArray++Z).getD j undef=Hy.getD j undef)/\∀j,j<m->(Hy.toArray++oe.toArray++Z).getD (n+j) undef=oe.getD j undef:=by
 constructor;.intro j hj;rw[bz,zg (by simp;omega),zg (by simp;omega)];simp[aP]
 intro j hj;rw[bz,zg (by simp;omega),zi (by simp;omega)];simp[aP,h1]
theorem RX(fu:kC P ty)(hR:Rel x)(hn:Fi x.S aF){t u:TypeId}{a b d:DV}{va vb:Value}{S':ai}(ha:RV x a va)(hb:RV x b vb)(h:jW ty x.S aF t a b=some (d,S')):
  Yields x ((do pure (.value (<-Builtin.append_ #[t,t] u #[va,vb])):Sem Next).run P x.w) d S':=by
 unfold jW at h;split at h
 .rename_i e s lR agg sz z0 rows tok full news Fv ab8 htt;obtain⟨hk,it,-,-,-⟩:=b9 (fu t _ htt);obtain⟨hu,ie,uc,sB,Fh,-⟩:=mE hk;have Fs:=ha;have JL:=hb;cases ha with
  |@sl _ _ _ A cap s1 vs1 Qz ye k1 k2 k3 k4 k5=>
   cases hb with
   |@sl _ _ _ A2 tW s2 vs2 S8 Mp m1 m2 m3 m4 m5=>
    split at h
    .rename_i wC;cases h;have MJ:news=[]:=by simpa using wC
     subst MJ;refine aZ hR (v:=.slice A rows.length cap) ?_ Fs;subst sB;cases A with
     |none=>cases A2<;>simp[Builtin.append_,run_underlying hu,run_sizeOf uc,Builtin.lenOf,Builtin.firstCells,loadCells,loadCellsFrom,k1]
     |some ad=>cases A2<;>simp[Builtin.append_,run_underlying hu,run_sizeOf uc,Builtin.lenOf,Builtin.firstCells,loadCells,loadCellsFrom,storeCells,k1]
    rename_i wC;split at h
    .rename_i hte;split at h
     rotate_left
     .cases h
     rename_i pS;simp only[aC,cq,aX]at pS;obtain⟨⟨⟨hs,mX⟩,hlen⟩,mR⟩:=pS;have hm:0<news.length:=List.length_pos_iff.2 (by simpa using wC);obtain⟨z,hiz,SD⟩:∃z,ie.zero=some z/\z.cells.size=s:=by obtain⟨-,ie',Dg,JJ,CH⟩:=b9 (fu e _ hte);rw[uc]at Dg;cases Dg;obtain⟨z,q1,q2,q3⟩:=jO CH;have:=(iK (x:=x) q2).1;exact⟨z,q1,by rw[<-sB,<-q3];simpa using this⟩
     obtain⟨-,-,-,-,-,acW,YD,oe,qS,FE,Ah,Gj⟩:=uO JL mR;obtain⟨ad2,rfl⟩:∃ad2,A2=some ad2:=by
      cases A2 with
      |none=>have:=m3 rfl;omega
      |some ad=>exact⟨ad,rfl⟩
     have Cu:=jG mR;obtain⟨b2,o2,sp2⟩:=ad2;have acV:sp2=none:=acW _ rfl (by omega);subst acV;have rq:∀j v,oe[j]? =some v->x.w.cell? ((⟨b2,o2,none⟩:Addr).add j)=some v:=by
      intro j v hv;have hj:j<(flat news).length:=by rw[Cu,<-qS];exact(aA.1 hv).1
      obtain⟨b',o',q1,-,q2⟩:=Ah j _ (bP hj);cases q1;rw[iS,q2];simp[aP,hv]
     have aiS:rows.length+news.length<=9223372036854775807:=by omega
     have grown:∀(w1:List Value),w1.length=rows.length*s->∀(k:Nat),k=grownCap x.w (rows.length+news.length) cap e->k<=maxLen/\rows.length+news.length<=k/\
       (w1.toArray++oe.toArray++Builtin.zeroCells z.cells (k-(rows.length+news.length))).size=k*s:=by
      intro w1 Oo k hk;have JK:=grownCap_ge x.w (rows.length+news.length) cap e;have hle:=grownCap_le_maxLen x.w (rows.length+news.length) cap e (by simp only[maxLen];omega);subst hk;refine⟨hle,JK,?_⟩;simp only[Array.size_append,mB,size_zeroCells,SD,Oo,qS,<-jX];congr 1;omega
     have XC:∀(hf:full.full=true)(pR:∀r∈rows,r.cells.length=s),d=.sl (rows++news) (some aF) ⟨false,none⟩->S'=eU x.S aF (.tail e s ((rows.length+news.length)*s))->
       Yields x ((do pure (.value (<-Builtin.append_ #[t,t] u #[.slice A rows.length cap,.slice (some ⟨b2,o2,none⟩) news.length tW])):Sem Next).run P x.w) d S':=by
      intro hf pR hd hS;subst hd hS;have JS:cap=rows.length:=k2.1 hf;obtain⟨-,-,-,-,-,ahA,hpR,Hy,Ff,Y6,Da,agv⟩:=uO Fs pR;have Za:=jG pR;obtain⟨g1,g2,g3⟩:=grown Hy Ff _ rfl;have hrun:(Builtin.append_ #[t,t] u #[.slice A rows.length cap,.slice (some ⟨b2,o2,none⟩) news.length tW]).run P x.w=
        .ok (.slice (some ⟨x.w.heap.size,0,none⟩) (rows.length+news.length) (grownCap x.w (rows.length+news.length) cap e)) (x.w.drew.alloc (.cells (Hy.toArray++oe.toArray++Builtin.zeroCells z.cells (grownCap x.w (rows.length+news.length) cap e-(rows.length+news.length))) e)):=by
       cases A with
       |none=>
        have h0:=k3 rfl;have Mq:rows.length=0:=by omega
        have hw0:Hy=[]:=eS (by rw[Ff,Mq];simp);subst hw0;rw[Mq,h0];have:=run_append_nil (P:=P) x.w t u e ie z hu uc hiz ⟨b2,o2,none⟩ news.length tW oe (by rw[qS,sB]) rq hm (by omega) (by rw[Fh];unfold fQ at mX;have:news.length*lR<=(rows.length+news.length)*lR:=fU _ (by omega);omega);simpa using this
       |some ad=>
        obtain⟨b1,o1,sp1⟩:=ad;have Me:0<rows.length->sp1=none:=λh=>ahA _ rfl (by omega);refine run_append_grow (P:=P) x.w t u e ie z hu uc hiz ⟨b1,o1,sp1⟩ rows.length cap Hy (by rw[Ff,sB]) (λj v hv=>?_) ⟨b2,o2,none⟩ news.length tW oe (by rw[qS,sB]) rq (by omega) (by omega) (growslice_fits (by omega) (by rw[Fh];exact mX));have hj:j<(flat rows).length:=by rw[Za,<-Ff];exact(aA.1 hv).1
        obtain rfl:=Me (Nat.pos_of_ne_zero λe=>by rw[Za,e]at hj;simp at hj);obtain⟨b',o',q1,-,q2⟩:=Da j _ (bP hj);cases q1;rw[iS,q2];simp[aP,hv]
      generalize hk0:grownCap x.w (rows.length+news.length) cap e=k at*;obtain⟨v1,v2⟩:=Ba (Z:=Builtin.zeroCells z.cells (k-(rows.length+news.length))) Ff qS;generalize FH:Hy.toArray++oe.toArray++Builtin.zeroCells z.cells (k-(rows.length+news.length))=arr at*;have hp:pK x.w (x.w.drew.alloc (.cells arr e)) (.cells arr e (0,0)):=⟨rfl,rfl,rfl⟩;have hNs:(rows.length+news.length)*s<=arr.size:=by rw[g3];exact fU _ g2
      have mP:=mZ (k:=k) (F:=λo=>o<(rows.length+news.length)*s) (b:=.tail e s ((rows.length+news.length)*s)) hR hn hp (λo ho=>⟨arr[o]'(by omega),by simp only[World.cell?,hp.new];exact ct _⟩) (.inr (.inl ⟨e,s,_,arr,rfl,rfl,g3,hNs,g1,λo ho=>ho⟩));have M:=jN (k:=k) (F:=λo=>o<(rows.length+news.length)*s) (b:=.tail e s ((rows.length+news.length)*s)) hR hn hp;exact iu hrun (y:=x.fresh (x.w.drew.alloc (.cells arr e)) aF k (λo=>o<(rows.length+news.length)*s) (.tail e s ((rows.length+news.length)*s))) rfl mP M
       (AU M pR mR hpR YD Y6 FE (by show(eU _ _ _)[_]? =_;rw[bG hn.le,if_pos rfl]) (if_pos rfl) (if_pos rfl) hp.new (λo ho=>.inr ⟨rfl,ho⟩) hNs v1 v2 g2)
     cases tok with
     |none=>
      simp only at h;split at h;.rename_i hfc;simp only[aC,aX,cq]at hfc;cases h;exact XC hfc.1 hfc.2 rfl rfl
      cases h
     |some tk=>
      simp only at h;split at h
      .rename_i e' s' n' Mh;split at h
       .rename_i Vv;simp only[aC,cq]at Vv;obtain⟨⟨w1,w2⟩,w3⟩:=Vv;rw[w1,w2,w3]at Mh;cases h;obtain⟨e2,s2',n2,q1,q2,q3,q4⟩:=k5 tk rfl;rw[Mh]at q1;cases q1;obtain⟨rfl,rfl⟩:=q4 rfl;obtain⟨-,-,-,-,-,-,hpR,Hy,Ff,Y6,Da,agv⟩:=uO Fs q3;have Za:=jG q3;obtain⟨cur,t1,t2,t3,t4⟩:=hR.dR tk _ _ _ Mh;have afz:∀j,j<rows.length*s->cur[j]? =some (Hy.getD j undef):=by
         intro j hj;have wv:j<(flat rows).length:=by omega
         obtain⟨b',o',r1,-,r2⟩:=Da j _ (bP wv);cases r1;simpa [World.cell?,t1]using r2
        by_cases hroom:rows.length+news.length<=x.κ tk
        .have HV:rows.length*s+oe.length<=cur.size:=by rw[qS,t2,<-jX];exact fU _ hroom
         have hrun:=run_append_room (P:=P) x.w t u e ie hu uc (x.μ tk) rows.length (x.κ tk) cur t1 ⟨b2,o2,none⟩ news.length tW oe (by rw[qS,sB]) rq Gj hroom (by rw[sB];exact HV);rw[sB]at hrun;generalize FH:(cur.toList.take (rows.length*s)++oe++cur.toList.drop (rows.length*s+oe.length)).toArray=arr at*;have afB:arr.size=cur.size:=by rw[<-FH];simp;omega
         have ab3:∀j,j<rows.length*s->arr[j]? =some (Hy.getD j undef):=by intro j hj;have h1:=afz j hj;rw[<-FH,List.getElem?_toArray,jm,ee (by simp;omega),qJ,if_pos hj];simpa using h1
         have agz:∀j,j<news.length*s->arr[rows.length*s+j]? =some (oe.getD j undef):=by
          intro j hj;have e1:(cur.toList.take (rows.length*s)).length=rows.length*s:=by simp;omega
          rw[<-FH,List.getElem?_toArray,jm,iI (by omega),e1,qN,ee (by omega)];simp[aP,bP (show j<oe.length by omega)]
         have lF:∀o,o<rows.length*s->(x.w.setRow (x.μ tk) arr).cell? ⟨x.μ tk,o,none⟩=x.w.cell? ⟨x.μ tk,o,none⟩:=by intro o ho;rw[cell_setRow_same _ _ _ _ _ _ _ t1,ab3 o ho];simp[World.cell?,t1,afz o ho]
         have hNs:(rows.length+news.length)*s<=arr.size:=by rw[afB,t2];exact fU _ hroom
         have hle:rows.length*s<=(rows.length+news.length)*s:=fU _ (by omega);have mP:=CP (F:=λo=>o<(rows.length+news.length)*s) (arr:=arr) (b:=.tail e s ((rows.length+news.length)*s)) hR Mh (.inr (.inl ⟨e,s,_,_,rfl,rfl,hle,lF,by rw[afB];exact t2,hNs,λo ho=>ho⟩));have M:=uT (F:=λo=>o<(rows.length+news.length)*s) (arr:=arr) (b:=.tail e s ((rows.length+news.length)*s)) hR Mh (.inr (.inl ⟨e,s,_,_,rfl,rfl,hle,lF⟩));exact iu hrun (y:=x.upd tk arr (λo=>o<(rows.length+news.length)*s) (.tail e s ((rows.length+news.length)*s))) rfl mP M
          (AU M q3 mR hpR YD Y6 FE (by show(x.S.set _ _)[_]? =_;rw[gW Mh,if_pos rfl]) rfl rfl (setRow_heap _ _ _ _ _ _ t1) (λo ho=>.inr ⟨rfl,ho⟩) hNs (λj hj=>by rw[bz,ab3 j hj];rfl) (λj hj=>by rw[bz,agz j hj];rfl) hroom)
        obtain⟨g1,g2,g3⟩:=grown Hy Ff _ rfl;have hrun:=run_append_grow (P:=P) x.w t u e ie z hu uc hiz ⟨x.μ tk,0,none⟩ rows.length (x.κ tk) Hy (by rw[Ff,sB]) (λj v hv=>by
          have hj:j<(flat rows).length:=by rw[Za,<-Ff];exact(aA.1 hv).1
          obtain⟨b',o',r1,-,r2⟩:=Da j _ (bP hj);cases r1;rw[iS,r2];simp[aP,hv]) ⟨b2,o2,none⟩ news.length tW oe (by rw[qS,sB]) rq (by omega) (by omega) (growslice_fits (by omega) (by rw[Fh];exact mX))
        generalize hk0:grownCap x.w (rows.length+news.length) (x.κ tk) e=k at*;obtain⟨v1,v2⟩:=Ba (Z:=Builtin.zeroCells z.cells (k-(rows.length+news.length))) Ff qS;generalize FH:Hy.toArray++oe.toArray++Builtin.zeroCells z.cells (k-(rows.length+news.length))=arr at*;have hp:pK x.w (x.w.drew.alloc (.cells arr e)) (.cells arr e (0,0)):=⟨rfl,rfl,rfl⟩;have hNs:(rows.length+news.length)*s<=arr.size:=by rw[g3];exact fU _ g2
        have hlt:rows.length*s<(rows.length+news.length)*s:=Nat.mul_lt_mul_of_pos_right (by omega) hs;have mP:=Ru (k:=k) (F:=λo=>o<(rows.length+news.length)*s) hR Mh hp hlt g3 hNs g1 λo ho=>ho;have M:=EU (k:=k) (F:=λo=>o<(rows.length+news.length)*s) (n':=(rows.length+news.length)*s) hR Mh hp hlt;exact iu hrun (y:=x.kH (x.w.drew.alloc (.cells arr e)) tk k (λo=>o<(rows.length+news.length)*s) (.tail e s ((rows.length+news.length)*s))) rfl mP M
         (AU M q3 mR hpR YD Y6 FE (by show(x.S.set _ _)[_]? =_;rw[gW Mh,if_pos rfl]) (if_pos rfl) (if_pos rfl) hp.new (λo ho=>.inr ⟨rfl,ho⟩) hNs v1 v2 g2)
       cases h
      cases h
    cases h
 cases h
theorem find_congr(kt:TypeId)(k:Value):∀(l m:List MapEntry)(i:Nat),l.map (λe=>(e.key,e.val))=m.map (λe=>(e.key,e.val))->Instr.findAsking kt k l i=Instr.findAsking kt k m i
 |[],[],_,_=>rfl
 |[],_::_,_,h=>by simp at h
 |_::_,[],_,h=>by simp at h
 |e::l,f::m,i,h=>by simp only[bn,List.cons.injEq,az]at h;unfold Instr.findAsking;rw[h.1.1,h.1.2,find_congr kt k l m (i+1) h.2]
theorem GP(kd:TypeDesc)(k:Value):∀(l m:List MapEntry)(i:Nat),l.map (λe=>(e.key,e.val))=m.map (λe=>(e.key,e.val))->Instr.findNow kd k l i=Instr.findNow kd k m i
 |[],[],_,_=>rfl
 |[],_::_,_,h=>by simp at h
 |_::_,[],_,h=>by simp at h
 |e::l,f::m,i,h=>by simp only[bn,List.cons.injEq,az]at h;unfold Instr.findNow;rw[h.1.1,h.1.2,GP kd k l m (i+1) h.2]
theorem G5(kt:TypeId)(k:Value){l m:List MapEntry}(h:l.map (λe=>(e.key,e.val))=m.map (λe=>(e.key,e.val))):Instr.findKey kt k l=Instr.findKey kt k m:=by unfold Instr.findKey;have h1:∀kd,Instr.findNow kd k l 0=Instr.findNow kd k m 0:=λkd=>GP kd k l m 0 h;have h2:=find_congr kt k l m 0 h;simp only[h1,h2]
theorem PN(es:List (Value×Value)):(es.map Om).map (λe=>(e.key,e.val))=es:=by
 rw[qF]
 conv=>rhs;rw[<-List.map_id es]
 congr 1
theorem Ws{v:Value}{d:DV}(h:JY v=some d):RV x d v:=by
 unfold JY at h;split at h
 .rename_i vs;split at h
  .rename_i v b hvs;simp only[af]at h;obtain⟨d',h1,rfl⟩:=h;have e:vs=#[v,.bool b]:=by rw[<-zc (xs:=vs),hvs]
   subst e;refine .tup rfl λj c hc=>?_
   match j with
   |0=>simp only[bY,aB]at hc;subst hc;exact zn h1
   |1=>simp only[List.getElem?_cons_succ,bY,aB]at hc;subst hc;exact .val rfl
   |j+2=>simp at hc
  cases h
 exact zn h
theorem NT(hR:Rel x)(hn:Fi x.S aF){t:TypeId}:Yields x ((do pure (.value (<-Instr.makeMap t none)):Sem Next).run P x.w) (.map aF) (eU x.S aF (.map [])):=by
 have hp:pK x.w (x.w.alloc (.map #[] 0)) (.map #[] 0):=gO _ _;have mP:=mZ (k:=0) (F:=λ_=>False) (b:=.map []) hR hn hp (by simp) (.inr (.inr (.inl ⟨rfl,by simp,rfl⟩)));refine iu (y:=x.fresh _ aF 0 (λ_=>False) (.map [])) (v:=.map (some x.w.heap.size)) ?_ rfl mP (jN hR hn hp) ?_;.simp[Instr.makeMap,Cx.fresh]
 have:(x.fresh (x.w.alloc (.map #[] 0)) aF 0 (λ_=>False) (.map [])).μ aF=x.w.heap.size:=if_pos rfl;rw[<-this];exact .map (es:=[]) (by show(eU _ _ _)[_]? =_;rw[bG hn.le,if_pos rfl])
theorem PU(hR:Rel x){id:Nat}{es:List (Value×Value)}(h:x.S[id]? =some (.map es)):∃Dj clk,x.w.heap[x.μ id]? =some (.map Dj clk)/\Dj.toList.map (λe=>(e.key,e.val))=es:=by obtain⟨o,h1,h2⟩:=hR.eC id _ h rfl;cases o<;>simp only[uF]at h2;exact⟨_,_,h1,h2⟩
theorem xQ{α β:Type}{s:Sem α}{f:α->Sem β}{b:β}(h:cu P (s>>=f)=some b):∃a,cu P s=some a/\cu P (f a)=some b:=by
 change cu P (s.bind f)=some b at h;induction s with
 |pure a=>exact⟨a,rfl,h⟩
 |program k ih=>exact ih P h
 |_=>simp[Sem.bind,cu]at h
theorem RS(hR:Rel x){t:TypeId}{id:Nat}{es:List (Value×Value)}{k v:Value}{ok:Bool}{d:DV}(h:x.S[id]? =some (.map es))(hp:cu P (J3 t (es.map Om) k ok)=some v)(hd:JY v=some d):
  Yields x ((do pure (.value (<-Instr.lookup t (.map (some (x.μ id))) k ok)):Sem Next).run P x.w) d x.S:=by
 obtain⟨Dj,clk,h1,h2⟩:=PU hR h;refine aZ hR (v:=v) ?_ (Ws hd);have hk:∀kt,Instr.findKey kt k (es.map Om)=Instr.findKey kt k Dj.toList:=λkt=>G5 kt k (by rw[PN,h2]);have he:(es.map Om).isEmpty=Dj.isEmpty:=by rw[<-h2,Bool.eq_iff_iff];simp
 have hg:=jI (P:=P) h1 (by simp);unfold J3 at hp;obtain⟨td,p1,p2⟩:=xQ hp;have r1:=pg p1 x.w;cases td with
 |map key elem=>simp only at p2;have r2:=pg p2 x.w;unfold Instr.lookup;simp only[Sem.run_bind,r1,Result.andThen_ok,hg,Sem.run_pure,hk,he]at r2⊢;exact r2
 |_=>simp[stuck,cu]at p2
theorem Js(hR:Rel x){t:TypeId}{id:Nat}{es es':List (Value×Value)}{k v:Value}{r:Option (Nat×Value)}(h:x.S[id]? =some (.map es))(hp:cu P (Kb t (es.map Om) k)=some r)(hs:My es k v r=some es'):
  Yields x ((do Instr.mapUpdate t (.map (some (x.μ id))) k v;pure .skip:Sem Next).run P x.w) bF (x.S.set id (.map es')):=by
 obtain⟨Dj,clk,h1,h2⟩:=PU hR h;have hk:∀kt,Instr.findKey kt k (es.map Om)=Instr.findKey kt k Dj.toList:=λkt=>G5 kt k (by rw[PN,h2]);have hg:=jI (P:=P) h1 (by simp)
 suffices hm:∃OP adp,(Instr.mapUpdate t (.map (some (x.μ id))) k v).run P x.w=.ok () (cE x.w (x.μ id) (.map OP adp))/\OP.toList.map (λe=>(e.key,e.val))=es' by obtain⟨OP,adp,q1,q2⟩:=hm;exact Ko (y:=x.xq id (.map OP adp) (.map es')) q1 rfl (KN hR h trivial (by simp) q2) (A1 hR h trivial (by simp))
 unfold Kb at hp;obtain⟨td,p1,p2⟩:=xQ hp;have r1:=pg p1 x.w;cases td with
 |map key elem=>
  simp only at p2;obtain⟨u,p3,p4⟩:=xQ p2;have r2:=pg p3 x.w;have r3:=pg p4 x.w;rw[hk]at r3;unfold Instr.mapUpdate;simp only[Sem.run_bind,r1,Result.andThen_ok,hg,r2,r3];cases r with
  |none=>simp only[My,aB]at hs;subst hs;exact⟨_,_,lB h1 (by simp),by simp[h2]⟩
  |some q=>
   obtain⟨i,v0⟩:=q;simp only[My]at hs;split at hs
   .rename_i k' v' hi;split at hs
    .rename_i hsb;cases hs;have hlt:i<Dj.size:=by have:=(aA.1 hi).1;rw[<-h2]at this;simpa using this
     have hek:((Dj[i]?).map (·.key)).getD k=k':=by rw[<-h2]at hi;simp only[cM,kV,af,az]at hi;obtain⟨e,q1,q2,-⟩:=hi;rw[q1];exact q2
     simp only[hek,Instr.keyThatStays,hsb,if_true];refine⟨_,_,lB h1 (by simp),?_⟩;rw[Array.toList_modify];refine mA λj=>?_;rw[<-h2];simp only[cM,List.getElem?_modify,aH,List.length_map];by_cases hj:i=j;.subst hj;simp[hlt]
     simp[hj]
    cases hs
   cases hs
 |_=>simp[stuck,cu]at p2
end Go.Di
