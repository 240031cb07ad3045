import Derived.Test.YtedcgbkilmlbhaaPk20
namespace Go.Di
open Go
variable {P:Program} {ty:fP} {x:Cx} {w':World} {aI:bS} {call:bt}
def Yields(x:Cx)(r:Result Next)(d:DV)(S':ai):Prop:=∃v y,(r=.ok (.value v) y.w\/(r=.ok .skip y.w/\v=undef))/\y.S=S'/\Rel y/\bU x y/\RV y d v
theorem iD{s:Sem Value}{d:DV}{S':ai}{v:Value}{y:Cx}(h:s.run P x.w=.ok v y.w)(h1:y.S=S')(h2:Rel y)(h3:bU x y)(h4:RV y d v):Yields x ((do pure (.value (<-s)):Sem Next).run P x.w) d S':=
 ⟨v,y,.inl (by simp[h]),h1,h2,h3,h4⟩
theorem aZ{s:Sem Value}{d:DV}{v:Value}(hR:Rel x)(h:s.run P x.w=.ok v x.w)(h4:RV x d v):Yields x ((do pure (.value (<-s)):Sem Next).run P x.w) d x.S:=iD h rfl hR (bU.refl x) h4
theorem KH{s:Sem Unit}{S':ai}{y:Cx}(h:s.run P x.w=.ok () y.w)(h1:y.S=S')(h2:Rel y)(h3:bU x y):Yields x ((do s;pure .skip:Sem Next).run P x.w) bE S':=
 ⟨undef,y,.inr ⟨by simp[h],rfl⟩,h1,h2,h3,.val rfl⟩
theorem pH{s:Sem Value}{d:DV}(h:jC P s=some d)(w:World):∃v,s.run P w=.ok v w/\RV x d v:=by unfold jC at h;simp only[qY]at h;obtain⟨v,h1,h2⟩:=h;exact⟨v,pG h1 w,zD h2⟩
def kG(P:Program)(ty:fP):Prop:=∀t d,ty t=some d->TS P t=some d
variable {ρd:Operand->Option DV} {ρ:Operand->Value} {o:Oper} {aD:Nat}
def yK(x:Cx)(ρd:Operand->Option DV)(ρ:Operand->Value):Prop:=∀a d,ρd a=some d->RV x d (ρ a)
theorem gn(hρ:yK x ρd ρ){a:Operand}{v:Value}(h:valOf ρd a=some v):ρ a=v:=by unfold valOf at h;simp only[qY]at h;obtain⟨d,h1,h2⟩:=h;exact K1 (hρ a d h1) h2
theorem od(hρ:yK x ρd ρ){a:Operand}{n:Int}(h:intOf ρd a=some n):∃k,ρ a=.int k n:=by
 unfold intOf at h;split at h;.rename_i k m h1;cases h;exact⟨k,xN (hρ a _ h1)⟩
 cases h
theorem xQ(hρ:yK x ρd ρ):∀{l:List Operand}{r:List DV},evs ρd l=some r->iw x r (l.map ρ).toArray
 |[],r,h=>by simp only[evs,aB]at h;subst h;exact⟨rfl,by simp⟩
 |a::l,r,h=>by
  unfold evs at h;split at h
  .rename_i d r' h1 h2;cases h;obtain⟨h3,h4⟩:=xQ hρ h2;refine⟨by simpa using h3,λj c hc=>?_⟩;cases j with
   |zero=>simp only[cg,aB]at hc;subst hc;exact hρ a _ h1
   |succ j=>simpa [bq]using h4 j c (by simpa using hc)
  cases h
theorem Xm(fG:kG P ty)(hR:Rel x)(hn:Fy x.S aD){e:TypeId}{k:TK}{sz:Nat}{z:List DV}(h:ty e=some ⟨k,sz,some z⟩):
  Yields x ((do pure (.value (<-Instr.alloc e true (.tuple #[]))):Sem Next).run P x.w) (.ptr aD 0) (eW x.S aD (.cells z)):=by
 obtain⟨-,i,hi,-,hz⟩:=ck (fG e _ h);obtain⟨zv,h1,h2,-⟩:=jT hz;obtain⟨h3,h4⟩:=iQ (x:=x) h2;have hp:pP x.w (x.w.alloc (.cells zv.cells e)) (.cells zv.cells e (0,0)):=gZ _ _;have mS:=nk (k:=0) (F:=λ_=>False) (b:=.cells z) hR hn hp (by simp) (.inl ⟨z,zv.cells,e,rfl,rfl,by simpa using h3,by simp,λj c hc=>by simpa [bq,aR]using h4 j c hc⟩);refine iD (y:=x.fresh _ aD 0 (λ_=>False) (.cells z)) (v:=.pointer (some ⟨x.w.heap.size,0,none⟩)) ?_ rfl mS (jS hR hn hp) ?_;.simp[Instr.alloc,zeroValue,typeInfo,hi,h1,newVar,newRow,Cx.fresh]
 have:(x.fresh (x.w.alloc (.cells zv.cells e)) aD 0 (λ_=>False) (.cells z)).μ aD=x.w.heap.size:=if_pos rfl;rw[<-this];exact .ptr (l:=z) (by show(eW _ _ _)[_]? =_;rw[bF hn.le,if_pos rfl])
theorem aew(hR:Rel x)(hn:Fy x.S aD){e:TypeId}{d:DV}{v:Value}(h:RV x d v):
  Yields x ((do pure (.value (<-Instr.box e v)):Sem Next).run P x.w) (.ptr aD 0) (eW x.S aD (.cells d.cells)):=by
 obtain⟨h3,h4⟩:=uW h;have hp:pP x.w (x.w.alloc (.cells v.cells e)) (.cells v.cells e (0,0)):=gZ _ _;have mS:=nk (k:=0) (F:=λ_=>False) (b:=.cells d.cells) hR hn hp (by simp) (.inl ⟨d.cells,v.cells,e,rfl,rfl,h3,by simp,h4⟩);refine iD (y:=x.fresh _ aD 0 (λ_=>False) (.cells d.cells)) (v:=.pointer (some ⟨x.w.heap.size,0,none⟩)) ?_ rfl mS (jS hR hn hp) ?_;.simp[Instr.box,newVar,newRow,Cx.fresh]
 have:(x.fresh (x.w.alloc (.cells v.cells e)) aD 0 (λ_=>False) (.cells d.cells)).μ aD=x.w.heap.size:=if_pos rfl;rw[<-this];exact .ptr (l:=d.cells) (by show(eW _ _ _)[_]? =_;rw[bF hn.le,if_pos rfl])
theorem Rp{rows:List DV}{b o s:Nat}{vs:Nat->Value}(hv:View x rows (some ⟨b,o,none⟩) s vs)(hr:∀j c,(flat rows)[j]? =some c->RV x c (vs j)){i:Nat}{r:DV}(h:rows[i]? =some r):
  ∀j c,r.cells[j]? =some c->∃v,x.w.cell? ⟨b,o+i*s+j,none⟩=some v/\RV x c v:=by
 intro j c hc;have hj:j<s:=by rw[<-hv.1 r (b9 h)];exact(az.1 hc).1
 have hf:=EA hv.1 h hj;rw[hc]at hf;obtain⟨-,b',o',h1,-,h2⟩:=hv.2 _ _ hf;cases h1;exact⟨_,by rw[fo];exact h2,hr _ _ hf⟩
theorem Lz(fG:kG P ty)(hR:Rel x){t:TypeId}{a d:DV}{va:Value}(ha:RV x a va)(h:lH ty x.S t a=some d):∃v,(Instr.loadAt t va).run P x.w=.ok v x.w/\RV x d v:=by
 unfold lH at h;split at h
 .rename_i td id off hk;obtain⟨k,sz,z⟩:=td;obtain⟨uk,i,hi,hs,-⟩:=ck (fG t _ hk);obtain⟨HS,d0,hu⟩:=Nc uk;split at h
  .rename_i l hl;obtain⟨arr,e,h1,h2,h3⟩:=hR.cells id l hl;cases ha with
   |ptr _=>
    have:=Bn (x:=x) (b:=x.μ id) (o:=0) (l:=l) hi hu hs HS.symm (λj c hc=>?_) h;.obtain⟨v,h4,h5⟩:=this;refine⟨v,?_,h5⟩;simpa [Instr.loadAt,Instr.sureAddr]using h4
    have hj:j<arr.size:=by rw[h2];exact(az.1 hc).1
    refine⟨arr[j],?_,by simpa [bq,hj]using h3 j c hc⟩;simp[World.cell?,h1,hj]
  cases h
 .rename_i td rows i off hk;obtain⟨k,sz,z⟩:=td;obtain⟨uk,inf,hi,hs,-⟩:=ck (fG t _ hk);obtain⟨HS,d0,hu⟩:=Nc uk;split at h
  .rename_i r hr;cases ha with
   |@fF _ _ _ b o s vs hv SV=>obtain⟨v,h4,h5⟩:=Bn (x:=x) (b:=b) (o:=o+i*s) (l:=r.cells) hi hu hs HS.symm (Rp hv SV hr) h;refine⟨v,?_,h5⟩;rw[fo]at h4;simpa [Instr.loadAt,Instr.sureAddr]using h4
  cases h
 .rename_i td id n off hk;obtain⟨k,sz,z⟩:=td;obtain⟨uk,i,hi,hs,-⟩:=ck (fG t _ hk);obtain⟨HS,d0,hu⟩:=Nc uk;split at h
  .rename_i e s l zz hop;obtain⟨hS,HP⟩:=mJ hop;obtain⟨arr,h1,-,h2,-,h3,-⟩:=hR.ops id e s l zz hS;cases ha with
   |gD CV CA hA=>rw[hS]at CV;cases CV;rw[hA HP];obtain⟨v,h4,h5⟩:=Bn (x:=x) (b:=x.μ id) (o:=0) (l:=l) hi hu hs HS.symm (λj c hc=>by have hj:j<arr.size:=dM (az.1 hc).1 h2;refine⟨arr[j],?_,by simpa [bq,hj]using(h3 j c hc).2⟩;simp[World.cell?,h1,hj]) h;exact⟨v,by simpa [Instr.loadAt,Instr.sureAddr]using h4,h5⟩
  cases h
 cases h
theorem Ry(fG:kG P ty)(hR:Rel x){t:TypeId}{a d:DV}{va vd:Value}{S':ai}(ha:RV x a va)(hd:RV x d vd)(h:qc ty x.S t a d=some S'):
  ∃y,(Instr.storeAt t va vd).run P x.w=.ok () y.w/\y.S=S'/\Rel y/\bU x y:=by
 unfold qc at h;split at h
 .rename_i td id off hk;obtain⟨k,sz,z⟩:=td;obtain⟨uk,i,hi,hs,-⟩:=ck (fG t _ hk);split at h
  .rename_i l hl;split at h
   .rename_i hc;simp only[aA,cC]at hc;simp only[af]at h;obtain⟨l',h6,rfl⟩:=h;obtain⟨arr,e,h1,h2,h3⟩:=hR.cells id l hl;have sW:=uW hd;cases ha with
    |ptr _=>
     have hp:=Py ⟨h2,h3⟩ sW h6;obtain⟨h7,h8⟩:=sD h6;refine⟨x.upd id (arr.toList.take off++vd.cells.toList++arr.toList.drop (off+vd.cells.size)).toArray (λ_=>False) (.cells l'),?_,rfl,C3 hR hl (.inl ⟨l,l',rfl,rfl,by simp,hp.1,hp.2⟩),u5 hR hl (.inl ⟨l,l',rfl,rfl⟩)⟩;have hst:=run_storeCells_at P (x.μ id) off e vd.cells.toList 0 arr x.w h1 (by simp only[Nat.add_zero,zw];rw[sW.1,h2];exact h7) (cells_one hd hc.2);simp only[Nat.add_zero,zw]at hst;have hsz:¬(vd.cells.size≠i.size):=by rw[sW.1,hc.1,hs];simp
     simp only[Instr.storeAt,Instr.sureAddr,Sem.run_bind,Sem.run_pure,Result.andThen_ok,storeVar,run_sizeOf hi,if_neg hsz];exact hst
   cases h
  cases h
 .rename_i td id n off hk;obtain⟨k,sz,z⟩:=td;obtain⟨uk,i,hi,hs,-⟩:=ck (fG t _ hk);split at h
  .rename_i e s l hop;obtain⟨hS,HP⟩:=mJ hop;split at h
   .rename_i hc;simp only[aA,cC]at hc;simp only[af]at h;obtain⟨l',h6,rfl⟩:=h;obtain⟨arr,h1,h0,h2,hκ,h3,-,-⟩:=hR.ops id e s l false hS;have xC:=hd.strip;have sW:=uW xC;cases ha with
    |gD CV CA hA=>
     rw[hS]at CV;cases CV;rw[hA HP];obtain⟨h7,h8⟩:=sD h6;have hp:=I7 (off:=off) h2 (λj c hc=>(h3 j c hc).2) sW (by omega) (by omega);rw[<-h8]at hp;have YO:∀c∈l',c.bY=true:=λc hm=>by
      rw[h8]at hm;rcases dX.1 hm with hm|hm
      .rcases dX.1 hm with hm|hm;.obtain⟨j,hj⟩:=tg.1 (vY hm);exact(h3 j c hj).1
       exact aT.1 hc.2 c hm
      obtain⟨j,hj⟩:=tg.1 (List.mem_of_mem_drop hm);exact(h3 j c hj).1
     have hll:l'.length=l.length:=by rw[h8];simp;omega
     have afm:(arr.toList.take off++vd.cells.toList++arr.toList.drop (off+vd.cells.size)).toArray.size=arr.size:=by have:=sW.1;simp;omega
     refine⟨x.upd id (arr.toList.take off++vd.cells.toList++arr.toList.drop (off+vd.cells.size)).toArray (λ_=>False) (.op e s l' false),?_,rfl,C3 hR hS (.inr (.inr ⟨e,s,l,l',rfl,rfl,by omega,by simp,by rw[afm];exact h0,by rw[afm];omega,λj c hj=>⟨YO c (b9 hj),hp j c hj⟩⟩)),u5 hR hS (.inr (.inr ⟨e,s,l,l',rfl,rfl,by omega⟩))⟩;have hst:=run_storeCells_at P (x.μ id) off e vd.cells.toList 0 arr x.w h1 (by simp only[Nat.add_zero,zw];rw[sW.1];omega) (cells_one xC (aT.2 λc hm=>R1 (aT.1 hc.2 c hm)));simp only[Nat.add_zero,zw]at hst;have hsz:¬(vd.cells.size≠i.size):=by rw[sW.1,hc.1,hs];simp
     simp only[Instr.storeAt,Instr.sureAddr,Sem.run_bind,Sem.run_pure,Result.andThen_ok,storeVar,run_sizeOf hi,if_neg hsz];exact hst
   cases h
  cases h
 cases h
end Go.Di
namespace Go.Di
open Go
variable {P:Program} {ty:fP} {x:Cx} {w':World} {ρd:Operand->Option DV} {ρ:Operand->Value} {o:Oper} {aD:Nat}
theorem xy(off:Nat):∀(cs:List Value)(i:Nat)(arr:Array Value),off+i+cs.length<=arr.size->
  ((cs.zipIdx i).foldl (λa (p:Value×Nat)=>a.setIfInBounds (off+p.2) p.1) arr)=(arr.toList.take (off+i)++cs++arr.toList.drop (off+i+cs.length)).toArray
 |[],i,arr,_=>by simp
 |c::cs,i,arr,h=>by simp only[dw]at h;simp only[List.zipIdx_cons,gu];rw[xy off cs (i+1) _ (by simp;omega)];have e:=list_seg_step arr.toList (off+i) c cs (by simp;omega);congr 1;simpa [Array.toList_setIfInBounds,fo]using e
theorem fold_eq(off:Nat)(cs arr:Array Value)(h:off+cs.size<=arr.size):
  cs.zipIdx.foldl (λa (p:Value×Nat)=>a.setIfInBounds (off+p.2) p.1) arr=(arr.toList.take off++cs.toList++arr.toList.drop (off+cs.size)).toArray:=by
 have:=xy off cs.toList 0 arr (by simpa using h);rw[<-zo];simpa using this
def adx(x:Cx)(r:List (Nat×DV))(vs:List (Nat×Value)):Prop:=vs.length=r.length/\∀(j:Nat)(p:Nat×DV),r[j]? =some p->∃v,vs[j]? =some (p.1,v)/\RV x p.2 v
def uO(ρ:Operand->Value)(l:List (Nat×Operand)):List (Nat×Value):=l.map λp=>(p.1,ρ p.2)
theorem wC(hρ:yK x ρd ρ):∀{l:List (Nat×Operand)}{r:List (Nat×DV)},kI ρd l=some r->adx x r (uO ρ l)
 |[],r,h=>by simp only[kI,aB]at h;subst h;exact⟨rfl,by simp⟩
 |(i,a)::l,r,h=>by
  unfold kI at h;split at h
  .rename_i d r' h1 h2;cases h;obtain⟨h3,h4⟩:=wC hρ h2;refine⟨by simpa [uO]using h3,λj p hp=>?_⟩;cases j with
   |zero=>simp only[cg,aB]at hp;subst hp;exact⟨ρ a,rfl,hρ a d h1⟩
   |succ j=>simpa [uO]using h4 j p (by simpa using hp)
  cases h
theorem Da{pd pl:Nat->Option (Nat×Nat)}(BF:∀i p,pd i=some p->pl i=some p):∀{r:List (Nat×DV)}{vs:List (Nat×Value)}{l l':List DV}{arr:Array Value},adx x r vs->iw x l arr->lJ pd l r=some l'->∃Zu,Instr.fill pl arr vs=some Zu/\iw x l' Zu
 |[],vs,l,l',arr,hv,hl,h=>by have:vs=[]:=fA (by simpa using hv.1);subst this;simp only[lJ,aB]at h;subst h;exact⟨arr,rfl,hl⟩
 |(i,d)::r,vs,l,l',arr,hv,hl,h=>by
  obtain⟨v,YN,hd⟩:=hv.2 0 (i,d) rfl;have hd:RV x d v:=hd;cases vs with
  |nil=>simp at YN
  |cons v0 vs=>
   simp only[cg,aB]at YN;subst YN;unfold lJ at h;split at h;.cases h
   rename_i off size hp;split at h
   .rename_i hsz;split at h
    .rename_i l1 h1;have hc:=uW hd;obtain⟨h2,h3⟩:=sD h1;have YO:=Py hl hc h1;obtain⟨Zu,h4,h5⟩:=Da BF (r:=r) (vs:=vs) ⟨by simpa using hv.1,λj p hj=>by simpa using hv.2 (j+1) p (by simpa using hj)⟩ YO h;refine⟨Zu,?_,h5⟩;unfold Instr.fill;simp only[BF i _ hp];have c1:v.cells.size=size:=by rw[hc.1,<-hsz]
     have c2:¬(v.cells.size≠size\/off+v.cells.size>arr.size):=by rw[hl.1,hc.1];omega
     simp only[gt_iff_lt,gP,cC,c2,if_false];rw[fold_eq off v.cells arr (by rw[hl.1,hc.1];exact h2)];exact h4
    cases h
   cases h
theorem CP(fG:kG P ty)(hR:Rel x)(hρ:yK x ρd ρ){t:TypeId}{fs:List (Nat×Nat×Bool)}{sz:Nat}{z cs:List DV}{ps:Array (Nat×Operand)}{l:List (Nat×DV)}(h:ty t=some ⟨.struct fs,sz,some z⟩)(hl:kI ρd ps.toList=some l)
  (hf:lJ (λi=>(fs[i]?).map λf=>(f.1,f.2.1)) z l=some cs):Yields x ((do pure (.value (<-Instr.build t (ps.map λp=>(p.1,ρ p.2)))):Sem Next).run P x.w) (.agg cs) x.S:=by
 obtain⟨hk,i,hi,-,hz⟩:=ck (fG t _ h);obtain⟨fields,hu,hfs,hff⟩:=A4 hk;obtain⟨zv,h1,h2,-⟩:=jT hz;obtain⟨h3,h4⟩:=iQ (x:=x) h2;have CU:iw x z zv.cells:=⟨by simpa using h3,λj c hc=>by simpa [bq,aR]using h4 j c hc⟩;have BF:∀w:World,(fields.mapM (λf=>do pure (f.offset,<-sizeOf f.type):Field->Sem (Nat×Nat))).run P w=.ok ((fs.map λf=>(f.1,f.2.1)).toArray) w:=by
  intro w;have key:∀(l:List Field)(fs:List (Nat×Nat×Bool)),l.length=fs.length->(∀(j:Nat)(r:Nat×Nat×Bool),fs[j]? =some r->∃f,l[j]? =some f/\Js P f r)->(l.mapM (λf=>do pure (f.offset,<-sizeOf f.type):Field->Sem (Nat×Nat))).run P w=.ok (fs.map λf=>(f.1,f.2.1)) w:=by
   intro l;induction l with
   |nil=>intro fs h _;have:fs=[]:=fA (by simpa using h.symm);subst this;rfl
   |cons f l ih=>
    intro fs h hj;cases fs with
    |nil=>simp at h
    |cons r fs=>
     obtain⟨f',h1,h2,inf,h3,h4,-,-⟩:=hj 0 r rfl;simp only[cg,aB]at h1;subst h1;have:=ih fs (by simpa using h) λj r hr=>by simpa using hj (j+1) r (by simpa using hr)
     simp only[List.mapM_cons,Sem.run_bind,run_sizeOf h3,Result.andThen_ok,Sem.run_pure,this,aV];rw[h2,h4]
  rw[Array.mapM_eq_mapM_toList];simp only[Sem.run_map,key fields.toList fs (by simpa using hfs) (λj r hr=>by simpa using hff j r hr),Result.andThen_ok]
 have rL:=wC hρ hl;obtain⟨arr,h5,h6⟩:=Da (x:=x) (pl:=λi=>((fs.map λf=>(f.1,f.2.1)).toArray)[i]?) (λi p hp=>by simpa using hp) (vs:=uO ρ ps.toList) rL CU hf;unfold uO at h5;refine aZ hR (v:=.agg arr) ?_ (.agg h6.1 h6.2);simp only[Instr.build,Sem.run_bind,zeroValue,typeInfo,run_program,Result.andThen_ok,hi,Sem.run_pure,h1,run_underlying hu,BF,Array.toList_map,h5]
theorem Fo(fG:kG P ty)(hR:Rel x)(hρ:yK x ρd ρ){t:TypeId}{n s sz:Nat}{agg:Bool}{z cs:List DV}{ps:Array (Nat×Operand)}{l:List (Nat×DV)}(h:ty t=some ⟨.array n s agg,sz,some z⟩)(hl:kI ρd ps.toList=some l)
  (hf:lJ (λi=>some (i*s,s)) z l=some cs):Yields x ((do pure (.value (<-Instr.build t (ps.map λp=>(p.1,ρ p.2)))):Sem Next).run P x.w) (.agg cs) x.S:=by
 obtain⟨hk,i,hi,-,hz⟩:=ck (fG t _ h);obtain⟨e,hu,ie,um,sO,-,-⟩:=zC hk;obtain⟨zv,h1,h2,-⟩:=jT hz;obtain⟨h3,h4⟩:=iQ (x:=x) h2;have CU:iw x z zv.cells:=⟨by simpa using h3,λj c hc=>by simpa [bq,aR]using h4 j c hc⟩;have rL:=wC hρ hl;obtain⟨arr,h5,h6⟩:=Da (x:=x) (pl:=λi=>some (i*s,s)) (λi p hp=>hp) (vs:=uO ρ ps.toList) rL CU hf;unfold uO at h5;refine aZ hR (v:=.agg arr) ?_ (.agg h6.1 h6.2);subst sO;simp only[Instr.build,Sem.run_bind,zeroValue,typeInfo,run_program,Result.andThen_ok,hi,Sem.run_pure,h1,run_underlying hu,run_sizeOf um,Array.toList_map,h5]
theorem Cm{z:List DV}{s:Nat}(hs:z.length=s):∀(n j:Nat),j<n*s->((List.replicate n z).flatten)[j]? =z[j % s]?
 |0,j,h=>by simp at h
 |n+1,j,h=>by
  have FO:0<s:=by
   rcases o8 s with h0|h0;.subst h0;simp at h
   exact h0
  simp only[zx,List.flatten_cons];by_cases hj:j<s;.rw[er (by omega),Nat.mod_eq_of_lt hj]
  rw[iu (by omega),hs,Cm hs n (j-s) (by rw[nK]at h;omega),<-Nat.mod_eq_sub_mod (by omega)]
theorem jQ{s:Nat}{agg:Bool}{l:List DV}{n:Nat}(hl:l.length=n*s)(hs:0<s)(ha:agg=true\/s=1)(hp:∀c∈l,c.bY=true):∀i,i<n->(rowOf s agg l i).cells=(l.drop (i*s)).take s:=by
 intro i hi;have h1:i*s+s<=l.length:=by rw[hl,<-nK];exact fZ _ hi
 unfold rowOf;cases agg with
 |true=>rfl
 |false=>
  have JN:s=1:=by simpa using ha
  subst JN;have hlt:i*1<l.length:=by omega
  have e:l.getD (i*1) bE=l[i*1]:=by rw[aR,bQ hlt];rfl
  have YO:=hp l[i*1] (mB hlt);simp only[aG,if_false,e];have hc:(l[i*1]).cells=[l[i*1]]:=by
   revert YO
   generalize l[i*1]=c;cases c<;>simp[DV.bY,DV.cells]
  rw[hc,pg hlt,List.take_succ_cons,List.take_zero]
theorem Hu{s:Nat}{agg:Bool}{l:List DV}(hs:0<s)(ha:agg=true\/s=1)(hp:∀c∈l,c.bY=true):∀n,l.length=n*s->flat (rowsOf s agg l n)=l/\∀r∈rowsOf s agg l n,r.cells.length=s:=by
 intro n hl;have hc:=jQ hl hs ha hp;have hlen:∀r∈rowsOf s agg l n,r.cells.length=s:=by
  intro r hr;unfold rowsOf at hr;simp only[dL,o5]at hr;obtain⟨i,hi,rfl⟩:=hr;rw[hc i hi,List.length_take,List.length_drop];have h1:i*s+s<=l.length:=by rw[hl,<-nK];exact fZ _ hi
  omega
 refine⟨?_,hlen⟩;have uh:=jL hlen;have hrl:(rowsOf s agg l n).length=n:=by simp[rowsOf]
 refine mD λj=>?_;by_cases hj:j<n*s
 .have hdiv:j/s<n:=by rw[Nat.div_lt_iff_lt_mul hs];exact hj
  have afv:j % s<s:=Nat.mod_lt _ hs;have hje:j=(j/s)*s+j % s:=by rw[Nat.mul_comm];exact(Nat.div_add_mod j s).symm
  have hr:(rowsOf s agg l n)[j/s]? =some (rowOf s agg l (j/s)):=by simp[rowsOf,hdiv]
  rw[hje,EA hlen hr afv,hc _ hdiv,qS,if_pos afv,vW]
 rw[fu (by rw[uh,hrl];omega),fu (by omega)]
theorem Ea{rows:List DV}{arr:Array Value}{s b:Nat}{y:Cx}{e:TypeId}(h1:∀r∈rows,r.cells.length=s)(h2:∀c∈flat rows,c.bY=true)(h3:(flat rows).length<=arr.size)(hb:y.w.heap[b]? =some (.cells arr e (0,0)))(hF:∀j,j<(flat rows).length->y.Fz b j):
  View y rows (some ⟨b,0,none⟩) s (λj=>arr.getD j undef):=by
 refine⟨h1,λj c hc=>⟨h2 c (b9 hc),b,0,rfl,?_,?_⟩⟩;.rw[jr];exact hF j (az.1 hc).1
 have hj:j<arr.size:=dM (az.1 hc).1 h3;simp[World.cell?,hb,hj,bq]
theorem GA{z:List DV}{zv:Value}{s n:Nat}(hs:0<s)(Ia:z.length=s)(SS:zv.cells.size=s)(h4:∀j c,z[j]? =some c->RV x c (zv.cells.toList.getD j undef)):iw x ((List.replicate n z).flatten) ((Array.range (n*s)).map (zv.cells[·% zv.cells.size]!)):=by
 refine⟨by simp[Ia],λj c hc=>?_⟩;have hj:j<n*s:=by have:=(az.1 hc).1;simpa [Ia]using this
 rw[Cm Ia n j hj]at hc;have hm:j % s<s:=Nat.mod_lt _ hs;have:=h4 _ c hc;have HQ:j % zv.cells.size<zv.cells.size:=by rw[SS];exact hm
 have e1:((Array.range (n*s)).map (zv.cells[·% zv.cells.size]!)).getD j undef=zv.cells[j % zv.cells.size]! :=by simp[bq,hj]
 rw[e1,s7 zv.cells (j % zv.cells.size) HQ];have e2:zv.cells.toList.getD (j % s) undef=zv.cells[j % zv.cells.size]:=by simp[aR,<-SS,HQ]
 rw[<-e2];exact this
theorem HI(fG:kG P ty)(hR:Rel x)(hρ:yK x ρd ρ){t e:TypeId}{n s lU sz sz':Nat}{agg:Bool}{k:TK}{z0:Option (List DV)}{z cs:List DV}{ps:Array (Nat×Operand)}{l:List (Nat×DV)}(h:ty t=some ⟨.slice e s lU agg,sz,z0⟩)(hl:kI ρd ps.toList=some l)(he:ty e=some ⟨k,sz',some z⟩)
  (hs:0<s) (hn:n*s<=16777216) (hf:lJ (λi=>some (i*s,s)) ((List.replicate n z).flatten) (l.map λ(i,v)=>(i,v.strip))=some cs):
  ∃arr,iw x cs arr/\cs.length=n*s/\(Instr.buildSlice t n (ps.map λp=>(p.1,ρ p.2))).run P x.w=.ok (.slice (some ⟨x.w.heap.size,0,none⟩) n n) (x.w.alloc (.cells arr e)):=by
 obtain⟨hk,i,hi,-,-⟩:=ck (fG t _ h);obtain⟨hu,ie,um,sO,-,HS⟩:=mH hk;obtain⟨-,ie',Dw,-,hz⟩:=ck (fG e _ he);rw[um]at Dw;cases Dw;obtain⟨zv,h1,h2,hzl⟩:=jT hz;obtain⟨h3,h4⟩:=iQ (x:=x) h2;have SS:zv.cells.size=s:=by rw[<-sO,<-hzl];simpa using h3
 have Ia:z.length=s:=by rw[hzl,sO]
 have CU:=GA (n:=n) hs Ia SS h4;have rL:adx x (l.map λ(i,v)=>(i,v.strip)) (uO ρ ps.toList):=by have:=wC hρ hl;refine⟨by simpa using this.1,λj p hp=>?_⟩;simp only[cR,af]at hp;obtain⟨q,hq,rfl⟩:=hp;obtain⟨v,QS,Yi⟩:=this.2 j q hq;exact⟨v,by simpa using QS,Yi.strip⟩
 obtain⟨arr,h5,h6⟩:=Da (x:=x) (pl:=λi=>some (i*s,s)) (λi p hp=>hp) rL CU hf;have ov:cs.length=n*s:=by
  have key:∀(r:List (Nat×DV))(l l':List DV),lJ (λi=>some (i*s,s)) l r=some l'->l'.length=l.length:=by
   intro r;induction r with
   |nil=>intro l l' h;simp only[lJ,aB]at h;rw[h]
   |cons p r ih=>
    intro l l' h;obtain⟨i,d⟩:=p;unfold lJ at h;simp only at h;split at h
    .split at h;.rename_i l1 h1;rw[ih _ _ h];obtain⟨h2,rfl⟩:=sD h1;simp;omega
     cases h
    cases h
  rw[key _ _ _ hf];simp[Ia]
 refine⟨arr,h6,ov,?_⟩;subst sO;have c1:¬(n*ie.size>2^24):=by rw[show(2:Nat)^24=16777216 from by decide];omega
 have h5':Instr.fill (λi=>some (i*ie.size,ie.size)) ((Array.range (n*ie.size)).map (zv.cells[·% zv.cells.size]!)) (ps.toList.map λp=>(p.1,ρ p.2))=some arr:=h5;by_cases h0:n*ie.size=0
 .have e0:(Array.range (n*ie.size)).map ((#[]:Array Value)[·% (#[]:Array Value).size]!)=(Array.range (n*ie.size)).map (zv.cells[·% zv.cells.size]!):=by rw[h0];simp
  simp only[Instr.buildSlice,Sem.run_bind,run_underlying hu,Result.andThen_ok,run_sizeOf um,if_neg c1,if_pos h0,Sem.run_pure,e0,Array.toList_map,h5',newRow,run_newObj];rfl
 simp only[Instr.buildSlice,Sem.run_bind,run_underlying hu,Result.andThen_ok,run_sizeOf um,if_neg c1,if_neg h0,Sem.run_pure,zeroValue,typeInfo,run_program,um,h1,Array.toList_map,h5',newRow,run_newObj];rfl
theorem FZ(fG:kG P ty)(hR:Rel x)(hρ:yK x ρd ρ){t e:TypeId}{n s lU sz sz':Nat}{agg:Bool}{k:TK}{z0:Option (List DV)}{z cs:List DV}{ps:Array (Nat×Operand)}{l:List (Nat×DV)}(h:ty t=some ⟨.slice e s lU agg,sz,z0⟩)(hl:kI ρd ps.toList=some l)(he:ty e=some ⟨k,sz',some z⟩)
  (hs:0<s) (hn:n*s<=16777216) (hf:lJ (λi=>some (i*s,s)) ((List.replicate n z).flatten) (l.map λ(i,v)=>(i,v.strip))=some cs) (hp:cs.all DV.bY=true) (ha:agg=true\/s=1):
  Yields x ((do pure (.value (<-Instr.buildSlice t n (ps.map λp=>(p.1,ρ p.2)))):Sem Next).run P x.w) (.sl (rowsOf s agg cs n) none ⟨true,some false⟩) x.S:=by
 obtain⟨arr,h6,ov,hrun⟩:=HI fG hR hρ h hl he hs hn hf;have Tq:∀c∈cs,c.bY=true:=λc hc=>aT.1 hp c hc;obtain⟨uh,hrl⟩:=Hu hs ha Tq n ov;have YO:pP x.w (x.w.alloc (.cells arr e)) (.cells arr e (0,0)):=gZ _ _;have mS:=RM (F:=λo=>o<arr.size) hR YO λo ho=>⟨arr[o],by simp[ho]⟩;have hrn:(rowsOf s agg cs n).length=n:=by simp[rowsOf]
 have yG:(x.w.alloc (.cells arr e)).heap[x.w.heap.size]? =some (.cells arr e (0,0)):=YO.new;have BS:arr.size=cs.length:=h6.1;have M:=tu (F:=λo=>o<arr.size) hR YO;refine iD (y:=x.froze _ (λo=>o<arr.size)) (v:=.slice (some ⟨x.w.heap.size,0,none⟩) n n) hrun rfl mS M ?_
 suffices hk:RV (x.froze (x.w.alloc (.cells arr e)) (λo=>o<arr.size)) (.sl (rowsOf s agg cs n) none ⟨true,some false⟩) (.slice (some ⟨x.w.heap.size,0,none⟩) (rowsOf s agg cs n).length (rowsOf s agg cs n).length)by rw[hrn]at hk;exact hk
 have hv:View (x.froze (x.w.alloc (.cells arr e)) (λo=>o<arr.size)) (rowsOf s agg cs n) (some ⟨x.w.heap.size,0,none⟩) s (λj=>arr.getD j undef):=
  Ea hrl (by rw[uh];exact Tq) (by rw[uh];omega) yG λj hj=>.inr ⟨rfl,by rw[uh]at hj;omega⟩
 refine RV.sl (tok:=none) hv (λj c hc=>?_) (aj _) ⟨λ_=>rfl,λb h=>by cases h;rfl⟩ (by simp) (λad h _=>by cases h;rfl) (λt ht=>nomatch ht);rw[uh]at hc;exact(h6.2 j c hc).mono M
theorem tF(fG:kG P ty){t:TypeId}{fs:List (Nat×Nat×Bool)}{sz f off s:Nat}{agg:Bool}{z:Option (List DV)}(h:ty t=some ⟨.struct fs,sz,z⟩)(hf:fs[f]? =some (off,s,agg))(hs:0<s)(b o0:Nat)(w:World):
  (Instr.fieldAt t (.pointer (some ⟨b,o0,none⟩)) f).run P w=.ok (.pointer (some ⟨b,o0+off,none⟩)) w:=by
 obtain⟨hk,i,hi,-,-⟩:=ck (fG t _ h);obtain⟨fields,hu,hfs,hff⟩:=A4 hk;obtain⟨fd,h1,h2,inf,h3,h4,-,-⟩:=hff f _ hf;simp only at h2 h4;have hne:¬(inf.size=0):=by omega
 simp only[Instr.fieldAt,Sem.run_bind,run_underlying hu,Result.andThen_ok,h1,Instr.sureAddr,Sem.run_pure,fieldPlace,run_sizeOf h3,if_neg hne,jb,h2]
theorem Cc(fG:kG P ty){t:TypeId}{k s sz:Nat}{agg:Bool}{z:Option (List DV)}(h:ty t=some ⟨.array k s agg,sz,z⟩){kd:IntKind}{n:Int}(h0:0<=n)(hlt:n.toNat<k)(b o0:Nat)(w:World):
  (Instr.indexAt t (.pointer (some ⟨b,o0,none⟩)) (.int kd n)).run P w=.ok (.pointer (some ⟨b,o0+n.toNat*s,none⟩)) w:=by
 obtain⟨hk,i,hi,-,-⟩:=ck (fG t _ h);obtain⟨e,hu,ie,um,sO,-,-⟩:=zC hk;have hc:0<=n/\n<(k:Int):=⟨h0,by omega⟩;subst sO;simp only[Instr.indexAt,asIntOf,Sem.run_bind,Sem.run_pure,Result.andThen_ok,run_underlying hu,Instr.sureAddr,hc,and_self,if_true,run_sizeOf um,jb]
theorem E5(fG:kG P ty){t e:TypeId}{s lU sz:Nat}{agg:Bool}{z:Option (List DV)}(h:ty t=some ⟨.slice e s lU agg,sz,z⟩){kd:IntKind}{n:Int}{len cap:Nat}(h0:0<=n)(hlt:n.toNat<len)(b o0:Nat)(w:World):
  (Instr.indexAt t (.slice (some ⟨b,o0,none⟩) len cap) (.int kd n)).run P w=.ok (.pointer (some ⟨b,o0+n.toNat*s,none⟩)) w:=by
 obtain⟨hk,i,hi,-,-⟩:=ck (fG t _ h);obtain⟨hu,ie,um,sO,-,-⟩:=mH hk;have hc:0<=n/\n<(len:Int):=⟨h0,by omega⟩;subst sO;simp only[Instr.indexAt,asIntOf,Sem.run_bind,Sem.run_pure,Result.andThen_ok,run_underlying hu,hc,and_self,if_true,run_sizeOf um,jb]
end Go.Di
namespace Go.Di
open Go
variable {P:Program} {ty:fP} {x:Cx} {w':World} {ρd:Operand->Option DV} {ρ:Operand->Value} {o:Oper} {aD:Nat}
theorem uV{rows:List DV}{tok:Option Nat}{full:SF}{A:Option Addr}{n cap s:Nat}(h:RV x (.sl rows tok full) (.slice A n cap))(hs:∀r∈rows,r.cells.length=s):
  n=rows.length/\n<=cap/\((full.full=true->cap=n)/\U8 full A)/\(A=none->cap=0)/\acr x tok rows A cap/\(∀ad,A=some ad->0<cap->ad.spot=none)/\
  (∀c∈flat rows,c.bY=true)/\∃vs:List Value,vs.length=n*s/\(∀j c,(flat rows)[j]? =some c->RV x c (vs.getD j undef))/\
   (∀j c,(flat rows)[j]? =some c->∃b o,A=some ⟨b,o,none⟩/\x.Fz b (o+j)/\x.w.cell? ⟨b,o+j,none⟩=some (vs.getD j undef))/\∀u∈vs,u.oneCell'=true:=by
 cases h with
 |@sl _ _ _ _ _ s' vs hv hr h1 h2 h3 hsp h4=>
  have uh:=jL hs;refine⟨rfl,h1,h2,h3,h4,hsp,λc hc=>?_,(List.range (rows.length*s)).map vs,by simp,λj c hc=>?_,λj c hc=>?_,λu hu=>?_⟩;.obtain⟨j,hj,rfl⟩:=List.mem_iff_getElem.1 hc;exact(hv.2 j _ (bQ hj)).1
  .have hj:j<rows.length*s:=by rw[<-uh];exact(az.1 hc).1
   simpa [aR,hj]using hr j c hc
  .have hj:j<rows.length*s:=by rw[<-uh];exact(az.1 hc).1
   obtain⟨-,b,o,k1,k2,k3⟩:=hv.2 j c hc;exact⟨b,o,k1,k2,by simpa [aR,hj]using k3⟩
  simp only[dL,o5]at hu;obtain⟨j,hj,rfl⟩:=hu;have BG:j<(flat rows).length:=by omega
  have k:=bQ BG;have hp:=(hv.2 j _ k).1;have h1:((flat rows)[j]).one=true:=by
   revert hp
   generalize(flat rows)[j]=c;cases c<;>simp[DV.bY,DV.one]
  exact(one_cell (hr j _ k) h1).1
theorem aei{y:Cx}{R:List DV}{t s N cap:Nat}{e:TypeId}{arr:Array Value}(hR:∀r∈R,r.cells.length=s)(hp:∀c∈flat R,c.bY=true)(hS:y.S[t]? =some (.tail e s N))(hN:N=R.length*s)
  (hh:y.w.heap[y.μ t]? =some (.cells arr e (0,0))) (hF:∀o,o<N->y.Fz (y.μ t) o) (hsz:N<=arr.size) (hc:∀j c,(flat R)[j]? =some c->RV y c (arr.getD j undef)) (hk:cap=y.κ t) (J8:R.length<=cap):
  RV y (.sl R (some t) ⟨false,none⟩) (.slice (some ⟨y.μ t,0,none⟩) R.length cap):=by
 have uh:=jL hR;refine RV.sl (Ea hR hp (by omega) hh λj hj=>hF j (by omega)) hc J8 ⟨by simp,λ_ h=>nomatch h⟩ (by simp) (λad h _=>by cases h;rfl) λt' ht=>?_;cases ht;exact⟨e,s,N,hS,by omega,hR,λ_=>⟨rfl,hk⟩⟩
theorem Cp(a b:List DV):flat (a++b)=flat a++flat b:=by simp[flat]
theorem Ba{y:Cx}{rows news:List DV}{HN ot:List Value}{t s b cap:Nat}{e:TypeId}{arr:Array Value}(M:bU x y)(h1:∀r∈rows,r.cells.length=s)(h2:∀r∈news,r.cells.length=s)(hp1:∀c∈flat rows,c.bY=true)(hp2:∀c∈flat news,c.bY=true)
  (wM:∀(j:Nat)(c:DV),(flat rows)[j]? =some c->RV x c (HN.getD j undef)) (MD:∀(j:Nat)(c:DV),(flat news)[j]? =some c->RV x c (ot.getD j undef)) (hS:y.S[t]? =some (.tail e s ((rows.length+news.length)*s))) (hμ:y.μ t=b) (hκ:y.κ t=cap)
  (hh:y.w.heap[b]? =some (.cells arr e (0,0))) (hF:∀o,o<(rows.length+news.length)*s->y.Fz b o) (hsz:(rows.length+news.length)*s<=arr.size) (Yp:∀j,j<rows.length*s->arr.getD j undef=HN.getD j undef) (OP:∀j,j<news.length*s->arr.getD (rows.length*s+j) undef=ot.getD j undef)
  (J8:rows.length+news.length<=cap):RV y (.sl (rows++news) (some t) ⟨false,none⟩) (.slice (some ⟨b,0,none⟩) (rows.length+news.length) cap):=by
 have MG:=jL h1;have Tx:=jL h2;subst hμ hκ;have key:=aei (y:=y) (R:=rows++news) (t:=t) (s:=s) (arr:=arr) (cap:=y.κ t) (N:=(rows.length+news.length)*s) (λr hr=>(dX.1 hr).elim (h1 r) (h2 r)) (λc hc=>?_) hS (by rw[cD]) hh hF hsz (λj c hc=>?_) rfl (by rw[cD];exact J8);.rw[cD]at key;exact key
 .rw[Cp]at hc;exact(dX.1 hc).elim (hp1 c) (hp2 c)
 rw[Cp]at hc;by_cases hj:j<(flat rows).length;.rw[er hj]at hc;rw[Yp j (by omega)];exact(wM j c hc).mono M
 rw[iu (by omega)]at hc;have hj2:j-(flat rows).length<(flat news).length:=(az.1 hc).1;have e1:j=rows.length*s+(j-(flat rows).length):=by omega
 rw[e1,OP _ (by omega)];exact(MD _ c hc).mono M
theorem Bt{HN ot:List Value}{Z:Array Value}{n m:Nat}(h1:HN.length=n)(h2:ot.length=m):(∀j,j<n->(HN.toArray++ot.toArray++Z).getD j undef=HN.getD j undef)/\∀j,j<m->(HN.toArray++ot.toArray++Z).getD (n+j) undef=ot.getD j undef:=by
 constructor;.intro j hj;rw[bq,zA (by simp;omega),zA (by simp;omega)];simp[aR]
 intro j hj;rw[bq,zA (by simp;omega),zB (by simp;omega)];simp[aR,h1]
theorem Sd(fG:kG P ty)(hR:Rel x)(hn:Fy x.S aD){t u:TypeId}{a b d:DV}{va vb:Value}{S':ai}(ha:RV x a va)(hb:RV x b vb)(h:jZ ty x.S aD t a b=some (d,S')):
  Yields x ((do pure (.value (<-Builtin.append_ #[t,t] u #[va,vb])):Sem Next).run P x.w) d S':=by
 unfold jZ at h;split at h
 .rename_i e s lU agg sz z0 rows tok full news FI ace htt;obtain⟨hk,it,-,-,-⟩:=ck (fG t _ htt);obtain⟨hu,ie,um,sO,Fw,-⟩:=mH hk;have FF:=ha;have J1:=hb;cases ha with
  |@sl _ _ _ A cap s1 vs1 QS wM k1 k2 k3 k4 k5=>
   cases hb with
   |@sl _ _ _ A2 ud s2 vs2 Yi MD m1 m2 m3 m4 m5=>
    split at h
    .rename_i wS;cases h;have MV:news=[]:=by simpa using wS
     subst MV;refine aZ hR (v:=.slice A rows.length cap) ?_ FF;subst sO;cases A with
     |none=>cases A2<;>simp[Builtin.append_,run_underlying hu,run_sizeOf um,Builtin.lenOf,Builtin.firstCells,loadCells,loadCellsFrom,k1]
     |some ad=>cases A2<;>simp[Builtin.append_,run_underlying hu,run_sizeOf um,Builtin.lenOf,Builtin.firstCells,loadCells,loadCellsFrom,storeCells,k1]
    rename_i wS;split at h
    .rename_i hte;split at h
     rotate_left
     .cases h
     rename_i pX;simp only[aA,cC,aT]at pX;obtain⟨⟨⟨hs,ni⟩,hlen⟩,mX⟩:=pX;have hm:0<news.length:=List.length_pos_iff.2 (by simpa using wS);obtain⟨z,hiz,SS⟩:∃z,ie.zero=some z/\z.cells.size=s:=by obtain⟨-,ie',Dw,JX,CU⟩:=ck (fG e _ hte);rw[um]at Dw;cases Dw;obtain⟨z,q1,q2,q3⟩:=jT CU;have:=(iQ (x:=x) q2).1;exact⟨z,q1,by rw[<-sO,<-q3];simpa using this⟩
     obtain⟨-,-,-,-,-,ac0,YP,ot,vA,FN,Aw,Gu⟩:=uV J1 mX;obtain⟨ad2,rfl⟩:∃ad2,A2=some ad2:=by
      cases A2 with
      |none=>have:=m3 rfl;omega
      |some ad=>exact⟨ad,rfl⟩
     have CJ:=jL mX;obtain⟨b2,o2,sp2⟩:=ad2;have acZ:sp2=none:=ac0 _ rfl (by omega);subst acZ;have rG:∀j v,ot[j]? =some v->x.w.cell? ((⟨b2,o2,none⟩:Addr).add j)=some v:=by
      intro j v hv;have hj:j<(flat news).length:=by rw[CJ,<-vA];exact(az.1 hv).1
      obtain⟨b',o',q1,-,q2⟩:=Aw j _ (bQ hj);cases q1;rw[jb,q2];simp[aR,hv]
     have aiR:rows.length+news.length<=9223372036854775807:=by omega
     have grown:∀(w1:List Value),w1.length=rows.length*s->∀(k:Nat),k=grownCap x.w (rows.length+news.length) cap e->k<=maxLen/\rows.length+news.length<=k/\
       (w1.toArray++ot.toArray++Builtin.zeroCells z.cells (k-(rows.length+news.length))).size=k*s:=by
      intro w1 OG k hk;have JZ:=grownCap_ge x.w (rows.length+news.length) cap e;have hle:=grownCap_le_maxLen x.w (rows.length+news.length) cap e (by simp only[maxLen];omega);subst hk;refine⟨hle,JZ,?_⟩;simp only[Array.size_append,mF,size_zeroCells,SS,OG,vA,<-j3];congr 1;omega
     have XP:∀(hf:full.full=true)(pW:∀r∈rows,r.cells.length=s),d=.sl (rows++news) (some aD) ⟨false,none⟩->S'=eW x.S aD (.tail e s ((rows.length+news.length)*s))->
       Yields x ((do pure (.value (<-Builtin.append_ #[t,t] u #[.slice A rows.length cap,.slice (some ⟨b2,o2,none⟩) news.length ud])):Sem Next).run P x.w) d S':=by
      intro hf pW hd hS;subst hd hS;have J8:cap=rows.length:=k2.1 hf;obtain⟨-,-,-,-,-,ahF,hpR,HN,Fv,Zi,Dq,agv⟩:=uV FF pW;have Zm:=jL pW;obtain⟨g1,g2,g3⟩:=grown HN Fv _ rfl;have hrun:(Builtin.append_ #[t,t] u #[.slice A rows.length cap,.slice (some ⟨b2,o2,none⟩) news.length ud]).run P x.w=
        .ok (.slice (some ⟨x.w.heap.size,0,none⟩) (rows.length+news.length) (grownCap x.w (rows.length+news.length) cap e)) (x.w.drew.alloc (.cells (HN.toArray++ot.toArray++Builtin.zeroCells z.cells (grownCap x.w (rows.length+news.length) cap e-(rows.length+news.length))) e)):=by
       cases A with
       |none=>
        have h0:=k3 rfl;have ME:rows.length=0:=by omega
        have hw0:HN=[]:=fA (by rw[Fv,ME];simp);subst hw0;rw[ME,h0];have:=run_append_nil (P:=P) x.w t u e ie z hu um hiz ⟨b2,o2,none⟩ news.length ud ot (by rw[vA,sO]) rG hm (by omega) (by rw[Fw];unfold fU at ni;have:news.length*lU<=(rows.length+news.length)*lU:=fZ _ (by omega);omega);simpa using this
       |some ad=>
        obtain⟨b1,o1,sp1⟩:=ad;have JN:0<rows.length->sp1=none:=λh=>ahF _ rfl (by omega);refine run_append_grow (P:=P) x.w t u e ie z hu um hiz ⟨b1,o1,sp1⟩ rows.length cap HN (by rw[Fv,sO]) (λj v hv=>?_) ⟨b2,o2,none⟩ news.length ud ot (by rw[vA,sO]) rG (by omega) (by omega) (growslice_fits (by omega) (by rw[Fw];exact ni));have hj:j<(flat rows).length:=by rw[Zm,<-Fv];exact(az.1 hv).1
        obtain rfl:=JN (Nat.pos_of_ne_zero λe=>by rw[Zm,e]at hj;simp at hj);obtain⟨b',o',q1,-,q2⟩:=Dq j _ (bQ hj);cases q1;rw[jb,q2];simp[aR,hv]
      generalize hk0:grownCap x.w (rows.length+news.length) cap e=k at*;obtain⟨v1,v2⟩:=Bt (Z:=Builtin.zeroCells z.cells (k-(rows.length+news.length))) Fv vA;generalize CL:HN.toArray++ot.toArray++Builtin.zeroCells z.cells (k-(rows.length+news.length))=arr at*;have hp:pP x.w (x.w.drew.alloc (.cells arr e)) (.cells arr e (0,0)):=⟨rfl,rfl,rfl⟩;have hNs:(rows.length+news.length)*s<=arr.size:=by rw[g3];exact fZ _ g2
      have mS:=nk (k:=k) (F:=λo=>o<(rows.length+news.length)*s) (b:=.tail e s ((rows.length+news.length)*s)) hR hn hp (λo ho=>⟨arr[o]'(by omega),by simp only[World.cell?,hp.new];exact cr _⟩) (.inr (.inl ⟨e,s,_,arr,rfl,rfl,g3,hNs,g1,λo ho=>ho⟩));have M:=jS (k:=k) (F:=λo=>o<(rows.length+news.length)*s) (b:=.tail e s ((rows.length+news.length)*s)) hR hn hp;exact iD hrun (y:=x.fresh (x.w.drew.alloc (.cells arr e)) aD k (λo=>o<(rows.length+news.length)*s) (.tail e s ((rows.length+news.length)*s))) rfl mS M
       (Ba M pW mX hpR YP Zi FN (by show(eW _ _ _)[_]? =_;rw[bF hn.le,if_pos rfl]) (if_pos rfl) (if_pos rfl) hp.new (λo ho=>.inr ⟨rfl,ho⟩) hNs v1 v2 g2)
     cases tok with
     |none=>
      simp only at h;split at h;.rename_i hfc;simp only[aA,aT,cC]at hfc;cases h;exact XP hfc.1 hfc.2 rfl rfl
      cases h
     |some tk=>
      simp only at h;split at h
      .rename_i e' s' n' Mx;split at h
       .rename_i VK;simp only[aA,cC]at VK;obtain⟨⟨w1,w2⟩,w3⟩:=VK;rw[w1,w2,w3]at Mx;cases h;obtain⟨e2,s2',n2,q1,q2,q3,q4⟩:=k5 tk rfl;rw[Mx]at q1;cases q1;obtain⟨rfl,rfl⟩:=q4 rfl;obtain⟨-,-,-,-,-,-,hpR,HN,Fv,Zi,Dq,agv⟩:=uV FF q3;have Zm:=jL q3;obtain⟨cur,t1,t2,t3,t4⟩:=hR.dZ tk _ _ _ Mx;have afB:∀j,j<rows.length*s->cur[j]? =some (HN.getD j undef):=by
         intro j hj;have BG:j<(flat rows).length:=by omega
         obtain⟨b',o',r1,-,r2⟩:=Dq j _ (bQ BG);cases r1;simpa [World.cell?,t1]using r2
        by_cases hroom:rows.length+news.length<=x.κ tk
        .have Ie:rows.length*s+ot.length<=cur.size:=by rw[vA,t2,<-j3];exact fZ _ hroom
         have hrun:=run_append_room (P:=P) x.w t u e ie hu um (x.μ tk) rows.length (x.κ tk) cur t1 ⟨b2,o2,none⟩ news.length ud ot (by rw[vA,sO]) rG Gu hroom (by rw[sO];exact Ie);rw[sO]at hrun;generalize CL:(cur.toList.take (rows.length*s)++ot++cur.toList.drop (rows.length*s+ot.length)).toArray=arr at*;have afD:arr.size=cur.size:=by rw[<-CL];simp;omega
         have ab4:∀j,j<rows.length*s->arr[j]? =some (HN.getD j undef):=by intro j hj;have h1:=afB j hj;rw[<-CL,List.getElem?_toArray,iO,er (by simp;omega),qS,if_pos hj];simpa using h1
         have agz:∀j,j<news.length*s->arr[rows.length*s+j]? =some (ot.getD j undef):=by
          intro j hj;have e1:(cur.toList.take (rows.length*s)).length=rows.length*s:=by simp;omega
          rw[<-CL,List.getElem?_toArray,iO,iu (by omega),e1,qX,er (by omega)];simp[aR,bQ (show j<ot.length by omega)]
         have lI:∀o,o<rows.length*s->(x.w.setRow (x.μ tk) arr).cell? ⟨x.μ tk,o,none⟩=x.w.cell? ⟨x.μ tk,o,none⟩:=by intro o ho;rw[cell_setRow_same _ _ _ _ _ _ _ t1,ab4 o ho];simp[World.cell?,t1,afB o ho]
         have hNs:(rows.length+news.length)*s<=arr.size:=by rw[afD,t2];exact fZ _ hroom
         have hle:rows.length*s<=(rows.length+news.length)*s:=fZ _ (by omega);have mS:=C3 (F:=λo=>o<(rows.length+news.length)*s) (arr:=arr) (b:=.tail e s ((rows.length+news.length)*s)) hR Mx (.inr (.inl ⟨e,s,_,_,rfl,rfl,hle,lI,by rw[afD];exact t2,hNs,λo ho=>ho⟩));have M:=u5 (F:=λo=>o<(rows.length+news.length)*s) (arr:=arr) (b:=.tail e s ((rows.length+news.length)*s)) hR Mx (.inr (.inl ⟨e,s,_,_,rfl,rfl,hle,lI⟩));exact iD hrun (y:=x.upd tk arr (λo=>o<(rows.length+news.length)*s) (.tail e s ((rows.length+news.length)*s))) rfl mS M
          (Ba M q3 mX hpR YP Zi FN (by show(x.S.set _ _)[_]? =_;rw[ij Mx,if_pos rfl]) rfl rfl (setRow_heap _ _ _ _ _ _ t1) (λo ho=>.inr ⟨rfl,ho⟩) hNs (λj hj=>by rw[bq,ab4 j hj];rfl) (λj hj=>by rw[bq,agz j hj];rfl) hroom)
        obtain⟨g1,g2,g3⟩:=grown HN Fv _ rfl;have hrun:=run_append_grow (P:=P) x.w t u e ie z hu um hiz ⟨x.μ tk,0,none⟩ rows.length (x.κ tk) HN (by rw[Fv,sO]) (λj v hv=>by
          have hj:j<(flat rows).length:=by rw[Zm,<-Fv];exact(az.1 hv).1
          obtain⟨b',o',r1,-,r2⟩:=Dq j _ (bQ hj);cases r1;rw[jb,r2];simp[aR,hv]) ⟨b2,o2,none⟩ news.length ud ot (by rw[vA,sO]) rG (by omega) (by omega) (growslice_fits (by omega) (by rw[Fw];exact ni))
        generalize hk0:grownCap x.w (rows.length+news.length) (x.κ tk) e=k at*;obtain⟨v1,v2⟩:=Bt (Z:=Builtin.zeroCells z.cells (k-(rows.length+news.length))) Fv vA;generalize CL:HN.toArray++ot.toArray++Builtin.zeroCells z.cells (k-(rows.length+news.length))=arr at*;have hp:pP x.w (x.w.drew.alloc (.cells arr e)) (.cells arr e (0,0)):=⟨rfl,rfl,rfl⟩;have hNs:(rows.length+news.length)*s<=arr.size:=by rw[g3];exact fZ _ g2
        have hlt:rows.length*s<(rows.length+news.length)*s:=Nat.mul_lt_mul_of_pos_right (by omega) hs;have mS:=RL (k:=k) (F:=λo=>o<(rows.length+news.length)*s) hR Mx hp hlt g3 hNs g1 λo ho=>ho;have M:=E8 (k:=k) (F:=λo=>o<(rows.length+news.length)*s) (n':=(rows.length+news.length)*s) hR Mx hp hlt;exact iD hrun (y:=x.kN (x.w.drew.alloc (.cells arr e)) tk k (λo=>o<(rows.length+news.length)*s) (.tail e s ((rows.length+news.length)*s))) rfl mS M
         (Ba M q3 mX hpR YP Zi FN (by show(x.S.set _ _)[_]? =_;rw[ij Mx,if_pos rfl]) (if_pos rfl) (if_pos rfl) hp.new (λo ho=>.inr ⟨rfl,ho⟩) hNs v1 v2 g2)
       cases h
      cases h
    cases h
 cases h
theorem find_congr(kt:TypeId)(k:Value):∀(l m:List MapEntry)(i:Nat),l.map (λe=>(e.key,e.val))=m.map (λe=>(e.key,e.val))->Instr.findAsking kt k l i=Instr.findAsking kt k m i
 |[],[],_,_=>rfl
 |[],_::_,_,h=>by simp at h
 |_::_,[],_,h=>by simp at h
 |e::l,f::m,i,h=>by simp only[aV,List.cons.injEq,ay]at h;unfold Instr.findAsking;rw[h.1.1,h.1.2,find_congr kt k l m (i+1) h.2]
theorem G0(kd:TypeDesc)(k:Value):∀(l m:List MapEntry)(i:Nat),l.map (λe=>(e.key,e.val))=m.map (λe=>(e.key,e.val))->Instr.findNow kd k l i=Instr.findNow kd k m i
 |[],[],_,_=>rfl
 |[],_::_,_,h=>by simp at h
 |_::_,[],_,h=>by simp at h
 |e::l,f::m,i,h=>by simp only[aV,List.cons.injEq,ay]at h;unfold Instr.findNow;rw[h.1.1,h.1.2,G0 kd k l m (i+1) h.2]
theorem Hj(kt:TypeId)(k:Value){l m:List MapEntry}(h:l.map (λe=>(e.key,e.val))=m.map (λe=>(e.key,e.val))):Instr.findKey kt k l=Instr.findKey kt k m:=by unfold Instr.findKey;have h1:∀kd,Instr.findNow kd k l 0=Instr.findNow kd k m 0:=λkd=>G0 kd k l m 0 h;have h2:=find_congr kt k l m 0 h;simp only[h1,h2]
theorem P9(es:List (Value×Value)):(es.map OD).map (λe=>(e.key,e.val))=es:=by
 rw[kW]
 conv=>rhs;rw[<-List.map_id es]
 congr 1
theorem WN{v:Value}{d:DV}(h:Ki v=some d):RV x d v:=by
 unfold Ki at h;split at h
 .rename_i vs;split at h
  .rename_i v b hvs;simp only[af]at h;obtain⟨d',h1,rfl⟩:=h;have e:vs=#[v,.bool b]:=by rw[<-zy (xs:=vs),hvs]
   subst e;refine .tup rfl λj c hc=>?_
   match j with
   |0=>simp only[cg,aB]at hc;subst hc;exact zD h1
   |1=>simp only[List.getElem?_cons_succ,cg,aB]at hc;subst hc;exact .val rfl
   |j+2=>simp at hc
  cases h
 exact zD h
theorem N7(hR:Rel x)(hn:Fy x.S aD){t:TypeId}:Yields x ((do pure (.value (<-Instr.makeMap t none)):Sem Next).run P x.w) (.map aD) (eW x.S aD (.map [])):=by
 have hp:pP x.w (x.w.alloc (.map #[] 0)) (.map #[] 0):=gZ _ _;have mS:=nk (k:=0) (F:=λ_=>False) (b:=.map []) hR hn hp (by simp) (.inr (.inr (.inl ⟨rfl,by simp,rfl⟩)));refine iD (y:=x.fresh _ aD 0 (λ_=>False) (.map [])) (v:=.map (some x.w.heap.size)) ?_ rfl mS (jS hR hn hp) ?_;.simp[Instr.makeMap,Cx.fresh]
 have:(x.fresh (x.w.alloc (.map #[] 0)) aD 0 (λ_=>False) (.map [])).μ aD=x.w.heap.size:=if_pos rfl;rw[<-this];exact .map (es:=[]) (by show(eW _ _ _)[_]? =_;rw[bF hn.le,if_pos rfl])
theorem Qd(hR:Rel x){id:Nat}{es:List (Value×Value)}(h:x.S[id]? =some (.map es)):∃Dy clk,x.w.heap[x.μ id]? =some (.map Dy clk)/\Dy.toList.map (λe=>(e.key,e.val))=es:=by obtain⟨o,h1,h2⟩:=hR.eF id _ h rfl;cases o<;>simp only[uL]at h2;exact⟨_,_,h1,h2⟩
theorem ya{α β:Type}{s:Sem α}{f:α->Sem β}{b:β}(h:cu P (s>>=f)=some b):∃a,cu P s=some a/\cu P (f a)=some b:=by
 change cu P (s.bind f)=some b at h;induction s with
 |pure a=>exact⟨a,rfl,h⟩
 |program k ih=>exact ih P h
 |_=>simp[Sem.bind,cu]at h
theorem Sb(hR:Rel x){t:TypeId}{id:Nat}{es:List (Value×Value)}{k v:Value}{ok:Bool}{d:DV}(h:x.S[id]? =some (.map es))(hp:cu P (Km t (es.map OD) k ok)=some v)(hd:Ki v=some d):
  Yields x ((do pure (.value (<-Instr.lookup t (.map (some (x.μ id))) k ok)):Sem Next).run P x.w) d x.S:=by
 obtain⟨Dy,clk,h1,h2⟩:=Qd hR h;refine aZ hR (v:=v) ?_ (WN hd);have hk:∀kt,Instr.findKey kt k (es.map OD)=Instr.findKey kt k Dy.toList:=λkt=>Hj kt k (by rw[P9,h2]);have he:(es.map OD).isEmpty=Dy.isEmpty:=by rw[<-h2,Bool.eq_iff_iff];simp
 have hg:=jO (P:=P) h1 (by simp);unfold Km at hp;obtain⟨td,p1,p2⟩:=ya hp;have r1:=pG p1 x.w;cases td with
 |map key elem=>simp only at p2;have r2:=pG p2 x.w;unfold Instr.lookup;simp only[Sem.run_bind,r1,Result.andThen_ok,hg,Sem.run_pure,hk,he]at r2⊢;exact r2
 |_=>simp[stuck,cu]at p2
theorem JE(hR:Rel x){t:TypeId}{id:Nat}{es es':List (Value×Value)}{k v:Value}{r:Option (Nat×Value)}(h:x.S[id]? =some (.map es))(hp:cu P (Ku t (es.map OD) k)=some r)(hs:ML es k v r=some es'):
  Yields x ((do Instr.mapUpdate t (.map (some (x.μ id))) k v;pure .skip:Sem Next).run P x.w) bE (x.S.set id (.map es')):=by
 obtain⟨Dy,clk,h1,h2⟩:=Qd hR h;have hk:∀kt,Instr.findKey kt k (es.map OD)=Instr.findKey kt k Dy.toList:=λkt=>Hj kt k (by rw[P9,h2]);have hg:=jO (P:=P) h1 (by simp)
 suffices hm:∃O7 ads,(Instr.mapUpdate t (.map (some (x.μ id))) k v).run P x.w=.ok () (cK x.w (x.μ id) (.map O7 ads))/\O7.toList.map (λe=>(e.key,e.val))=es' by obtain⟨O7,ads,q1,q2⟩:=hm;exact KH (y:=x.xI id (.map O7 ads) (.map es')) q1 rfl (K6 hR h trivial (by simp) q2) (Bj hR h trivial (by simp))
 unfold Ku at hp;obtain⟨td,p1,p2⟩:=ya hp;have r1:=pG p1 x.w;cases td with
 |map key elem=>
  simp only at p2;obtain⟨u,p3,p4⟩:=ya p2;have r2:=pG p3 x.w;have r3:=pG p4 x.w;rw[hk]at r3;unfold Instr.mapUpdate;simp only[Sem.run_bind,r1,Result.andThen_ok,hg,r2,r3];cases r with
  |none=>simp only[ML,aB]at hs;subst hs;exact⟨_,_,lF h1 (by simp),by simp[h2]⟩
  |some q=>
   obtain⟨i,v0⟩:=q;simp only[ML]at hs;split at hs
   .rename_i k' v' hi;split at hs
    .rename_i hsb;cases hs;have hlt:i<Dy.size:=by have:=(az.1 hi).1;rw[<-h2]at this;simpa using this
     have hek:((Dy[i]?).map (·.key)).getD k=k':=by rw[<-h2]at hi;simp only[cR,kY,af,ay]at hi;obtain⟨e,q1,q2,-⟩:=hi;rw[q1];exact q2
     simp only[hek,Instr.keyThatStays,hsb,if_true];refine⟨_,_,lF h1 (by simp),?_⟩;rw[Array.toList_modify];refine mD λj=>?_;rw[<-h2];simp only[cR,List.getElem?_modify,aF,List.length_map];by_cases hj:i=j;.subst hj;simp[hlt]
     simp[hj]
    cases hs
   cases hs
 |_=>simp[stuck,cu]at p2
end Go.Di
