import Derived.Test.YtadeehilamokkaaGreatDoorPk32
import Derived.Test.YtadeehilamokkaaGreatDoorChecked
import Derived.KernelRfl
import Derived.Test.YtadeehilamokkaaGreatDoorPk25
import Derived.Test.YtadeehilamokkaaGreatDoorPk28
import Derived.WalkKit
import Derived.Deep.LoopGhost
import Derived.Ground.SlgnProg
import Derived.Shelf.Lay
import Derived.Shelf.SlicesG.Clone
import Derived.Shelf.SlicesG.Reverse
import Derived.Lib.OwnBridge
import Derived.Shelf.Strings.OnBuilder
import Derived.Shelf.Strings.BuilderK
import Derived.Shelf.Strings.Cut
import Derived.Shelf.Strings.Split
set_option maxHeartbeats 1000000
set_option maxRecDepth 100000
namespace Go.Co
open Go Go.Proofs
open Go.Extern.RuntimeError
variable {P:Program}
theorem t_described(v:Value):T1 P (described v):=by
 unfold described
 (repeat' first|exact TC.out|(with_reducible refine aA ?_ (λ_=>?_))|(with_reducible refine ja ?_ ?_)|split|dsimp only)
theorem t_text(s:String):T1 P (text s):=aX trivial
theorem t_pkgpathOf(i:TypeInfo):T1 P (pkgpathOf i):=by
 unfold pkgpathOf
 (repeat' first|exact TC.out|(with_reducible refine aA ?_ (λ_=>?_))|(with_reducible refine ja ?_ ?_)|split|dsimp only)
theorem t_boundsError(args:Array Value):T1 P (boundsError args):=by
 unfold boundsError;rcases args with ⟨_|⟨x,_|⟨y,l⟩⟩⟩;exact ak _
 rotate_left
 exact ak _;cases x<;>try exact ak _
 rename_i cs;rcases cs with ⟨_|⟨a,_|⟨b,_|⟨c,_|⟨d,_|⟨e,l⟩⟩⟩⟩⟩⟩<;>try exact ak _
 cases a<;>try exact ak _
 cases b<;>try exact ak _
 cases c<;>try exact ak _
 cases d<;>try exact ak _
 rename_i k x k1 y signed k2 code;show T1 P (match(if(signed&&decide (x<0))=true then boundsNegErrorFmts else boundsErrorFmts)[code.toNat]? with
  |some fmt=>text ("runtime error: "++(fmt.replace "%x" (toString (if signed=true then x else IntKind.u64.wrap x))).replace "%y" (toString y))
  |none=>stuck "boundsError: no such code")
 split;exact t_text _;exact ak _
theorem t_nothing(args:Array Value):T1 P (nothing args):=aX trivial
theorem t_unhashable(args:Array Value):T1 P (unhashableTypeError args):=by
 unfold unhashableTypeError;rcases args with ⟨_|⟨x,_|⟨y,l⟩⟩⟩;exact ak _
 rotate_left
 exact ak _;cases x<;>try exact ak _
 rename_i cs;rcases cs with ⟨_|⟨a,_|⟨b,l⟩⟩⟩<;>try exact ak _
 refine(?_:T1 P (described a>>=_));refine aA (t_described a) λo=>?_;cases o with
 |none=>exact TC.out
 |some t=>exact t_text _
theorem t_typeAssertion(args:Array Value):T1 P (typeAssertionError args):=by
 unfold typeAssertionError
 (repeat' first|exact TC.out|exact t_text _|exact t_described _|exact t_pkgpathOf _|(with_reducible refine aA ?_ (λ_=>?_))|(with_reducible refine ja ?_ ?_)|split|dsimp only)
theorem fd0:Extern.find Tryz.f0=none:=by kernel_rfl
theorem fd1:Extern.find Tryz.f1=none:=by kernel_rfl
theorem ajR:Extern.find Tryz.f89=some (λargs=>Extern.ReflectliteValue.unpack (args.getD 0 (.tuple #[]))):=by kernel_rfl
theorem ajQ:Extern.find Tryz.f90=some (Extern.ReflectliteValue.methodAny (Extern.ReflectliteValue.valueError "reflectlite.Value.Type" 0) (λt _ _ _=>Extern.ReflectliteType.toType t)):=by kernel_rfl
theorem ajP:Extern.find Tryz.f91=some (Extern.ReflectliteValue.method (Extern.ReflectliteValue.valueError "reflectlite.Value.IsNil" 0) Extern.ReflectliteValue.isNil):=by kernel_rfl
theorem aip:Extern.find Tryz.f114=some (Extern.AbiNoEscape.same):=by kernel_rfl
theorem aio:Extern.find Tryz.f121=some (Extern.ReflectliteType.typeOf):=by kernel_rfl
theorem ain:Extern.find Tryz.f122=some (Extern.ReflectliteValue.method (Extern.ReflectliteValue.valueError "reflectlite.Value.Elem" 0) Extern.ReflectliteValue.elem):=by kernel_rfl
theorem aim:Extern.find Tryz.f123=some (Extern.ReflectliteValue.set):=by kernel_rfl
theorem ail:Extern.find Tryz.f140=some (Extern.BytealgMakeNoZero.makeNoZero #[3] #[33]):=by kernel_rfl
theorem aik:Extern.find Tryz.f158=some (Extern.BytealgIndex.index):=by kernel_rfl
theorem aij:Extern.find Tryz.f168=some (Extern.BytealgIndexByte.indexByte):=by kernel_rfl
theorem aii:Extern.find Tryz.f172=some (Extern.BytealgCount.count):=by kernel_rfl
theorem aih:Extern.find Tryz.f175=some (boundsError):=by kernel_rfl
theorem aif:Extern.find Tryz.f176=some (nothing):=by kernel_rfl
theorem aie:Extern.find Tryz.f177=some ((λargs=>do pure (.string ("runtime error: ".toUTF8++(<-asString (args.getD 0 (.tuple #[]))))))):=by kernel_rfl
theorem aid:Extern.find Tryz.f178=some (nothing):=by kernel_rfl
theorem aic:Extern.find Tryz.f179=some ((λargs=>do pure (.string (<-asString (args.getD 0 (.tuple #[])))))):=by kernel_rfl
theorem aib:Extern.find Tryz.f180=some (nothing):=by kernel_rfl
theorem aia:Extern.find Tryz.f181=some ((λargs=>do pure (.string ("runtime error: ".toUTF8++(<-asString ((<-asAgg (args.getD 0 (.tuple #[]))).getD 0 (.tuple #[]))))))):=by kernel_rfl
theorem ah9:Extern.find Tryz.f182=some (nothing):=by kernel_rfl
theorem ah8:Extern.find Tryz.f183=some (typeAssertionError):=by kernel_rfl
theorem ah7:Extern.find Tryz.f184=some (nothing):=by kernel_rfl
theorem ah6:Extern.find Tryz.f185=some ((λ_=>text "runtime error: panic called with nil argument")):=by kernel_rfl
theorem ah5:Extern.find Tryz.f186=some (nothing):=by kernel_rfl
theorem ah4:Extern.find Tryz.f187=none:=by kernel_rfl
theorem ah3:Extern.find Tryz.f188=none:=by kernel_rfl
theorem ah2:Extern.find Tryz.f189=some (Extern.ReflectliteType.abiMethod (λt=>do pure (.int .u8 (<-Extern.Rtype.kind t)))):=by kernel_rfl
theorem ah1:Extern.find Tryz.f190=some (unhashableTypeError):=by kernel_rfl
theorem ah0:Extern.find Tryz.f191=some (nothing):=by kernel_rfl
theorem ahZ:Extern.find Tryz.f192=none:=by kernel_rfl
theorem ahY:Extern.find Tryz.f193=none:=by kernel_rfl
theorem ahX:Extern.find Tryz.f194=none:=by kernel_rfl
theorem ahW:Extern.find Tryz.f195=none:=by kernel_rfl
theorem ahV:Extern.find Tryz.f196=some (Extern.ReflectliteValue.method (pure (.int .u8 0)) (λ_ _ _ k=>pure (.int .u8 (Int.ofNat k)))):=by kernel_rfl
theorem ahU:Extern.find Tryz.f197=some ((λargs=>do pure (strVal (Extern.Rtype.kindName (<-asInt (args.getD 0 (.tuple #[]))).toNat)))):=by kernel_rfl
theorem ahT:Extern.find Tryz.f198=some (Extern.ReflectliteType.abiMethod (λt=>do Extern.Rtype.noPackHeld "Size" t;pure (.int .u64 (<-typeInfo t).bytes))):=by kernel_rfl
theorem ahS:Extern.find Tryz.f199=some (Extern.ReflectliteType.relation "AssignableTo" Extern.ReflectliteType.assignableTo):=by kernel_rfl
theorem ahR:Extern.find Tryz.f200=some (Extern.ReflectliteType.method (λt=>do Extern.Rtype.noPackHeld "Comparable" t;pure (.bool (<-typeInfo t).comparable))):=by kernel_rfl
theorem ahQ:Extern.find Tryz.f201=some (Extern.ReflectliteType.method Extern.ReflectliteType.elem):=by kernel_rfl
theorem ahP:Extern.find Tryz.f202=some (Extern.ReflectliteType.relation "Implements" Extern.ReflectliteType.implements_):=by kernel_rfl
theorem ahO:Extern.find Tryz.f203=some (Extern.ReflectliteType.method (λt=>do Extern.Rtype.noPackNamed "Name" t;Extern.ReflectliteType.name t)):=by kernel_rfl
theorem ahN:Extern.find Tryz.f204=some (Extern.ReflectliteType.method (λt=>do Extern.Rtype.noPackNamed "PkgPath" t;Extern.ReflectliteType.pkgPath t)):=by kernel_rfl
theorem ahM:Extern.find Tryz.f205=some (Extern.ReflectliteType.method (λt=>do Extern.Rtype.noPackNamed "String" t;pure (strVal (<-Extern.Rtype.spelt t)))):=by kernel_rfl
theorem ahL:Extern.find Tryz.f206=some (Extern.ReflectliteType.method Extern.Rtype.handle):=by kernel_rfl
theorem ahK:Extern.find Tryz.f207=none:=by kernel_rfl
theorem ahJ:Extern.find Tryz.f208=some (Extern.ReflectliteValue.errorText):=by kernel_rfl
theorem ahI:Extern.find Tryz.f209=none:=by kernel_rfl
theorem ahH:Extern.find Tryz.f210=none:=by kernel_rfl
theorem ahG:Extern.find Tryz.f211=none:=by kernel_rfl
theorem ahF:Extern.find Tryz.f212=none:=by kernel_rfl
theorem ahE:Extern.find Tryz.f213=none:=by kernel_rfl
theorem ahD:Extern.find Tryz.f214=none:=by kernel_rfl
theorem afL:(Tryz.prog.funcs.toList.zipIdx.all λ(f,i)=>!f.body.isNone||[0,1,89,90,91,114,121,122,123,140,158,168,172,175,176,177,178,179,180,181,182,183,184,185,186,187,188,189,190,191,192,193,194,195,196,197,198,199,200,201,202,203,204,205,206,207,208,209,210,211,212,213,214].contains i)=true:=by kernel_rfl
theorem ahd:(Tryz.prog.funcs.toList.all λf=>!f.body.isNone||(Extern.findNext f).isNone)=true:=by kernel_rfl
theorem names:(Tryz.prog.funcs.toList.all λf=>!(f.name=="runtime.NumGoroutine"))=true:=by kernel_rfl
theorem ahf:(Tryz.prog.funcs.toList.all λf=>!f.norace)=true:=by kernel_rfl
theorem Ba{f:FuncId}{fn:Func}(h:Tryz.prog.funcs[f]? =some fn):fn∈Tryz.prog.funcs.toList:=by grind
theorem jP:Plain Tryz.prog where
 count f fn h:=by have:=aU.1 names fn (Ba h);simpa using this
 quiet f:=by
  cases h:Tryz.prog.funcs[f]? with
  |none=>rfl
  |some fn=>have:=aU.1 ahf fn (Ba h);simpa using this
 next f fn h hb:=by have:=aU.1 ahd fn (Ba h);simpa [hb]using this
 find f fn e h hb he args:=by
  have hz:(fn,f)∈Tryz.prog.funcs.toList.zipIdx:=by grind
  have h1:=aU.1 afL _ hz;have h2:f∈[0,1,89,90,91,114,121,122,123,140,158,168,172,175,176,177,178,179,180,181,182,183,184,185,186,187,188,189,190,191,192,193,194,195,196,197,198,199,200,201,202,203,204,205,206,207,208,209,210,211,212,213,214]:=by simp only[hb,Option.isNone_none,fR,Bool.false_or]at h1;exact List.contains_iff_mem.1 h1
  have pick:∀{i:Nat}{g:Func},f=i->Tryz.prog.funcs[i]? =some g->fn=g:=λhi hg=>by subst hi;rw[hg]at h;exact(bG h).symm
  simp only[aV,ek,or_false]at h2;rcases h2 with hi|hi|hi|hi|hi|hi|hi|hi|hi|hi|hi|hi|hi|hi|hi|hi|hi|hi|hi|hi|hi|hi|hi|hi|hi|hi|hi|hi|hi|hi|hi|hi|hi|hi|hi|hi|hi|hi|hi|hi|hi|hi|hi|hi|hi|hi|hi|hi|hi|hi|hi|hi|hi;rw[pick hi Tryz.func0,fd0]at he;cases he;rw[pick hi Tryz.func1,fd1]at he;cases he;rw[pick hi Tryz.func89,ajR]at he;cases he;exact TC.out
  rw[pick hi Tryz.func90,ajQ]at he;cases he;exact t_vany TC.out (λ_ _ _ _=>TC.out) _
  rw[pick hi Tryz.func91,ajP]at he;cases he;exact t_vmeth TC.out (λ_ _ _ _=>TC.out) _
  rw[pick hi Tryz.func114,aip]at he;cases he;exact TC.out
  rw[pick hi Tryz.func121,aio]at he;cases he;exact TC.out
  rw[pick hi Tryz.func122,ain]at he;cases he;exact t_vmeth TC.out (λ_ _ _ _=>TC.out) _
  rw[pick hi Tryz.func123,aim]at he;cases he;exact TC.out
  rw[pick hi Tryz.func140,ail]at he;cases he;exact TC.out
  rw[pick hi Tryz.func158,aik]at he;cases he;exact TC.out
  rw[pick hi Tryz.func168,aij]at he;cases he;exact TC.out
  rw[pick hi Tryz.func172,aii]at he;cases he;exact TC.out
  rw[pick hi Tryz.func175,aih]at he;cases he;exact t_boundsError _
  rw[pick hi Tryz.func176,aif]at he;cases he;exact t_nothing _
  .rw[pick hi Tryz.func177,aie]at he;cases he;(repeat' first|exact TC.out|(with_reducible refine aA ?_ (λ_=>?_))|(with_reducible refine ja ?_ ?_)|split|dsimp only)
  rw[pick hi Tryz.func178,aid]at he;cases he;exact t_nothing _
  .rw[pick hi Tryz.func179,aic]at he;cases he;(repeat' first|exact TC.out|(with_reducible refine aA ?_ (λ_=>?_))|(with_reducible refine ja ?_ ?_)|split|dsimp only)
  rw[pick hi Tryz.func180,aib]at he;cases he;exact t_nothing _
  .rw[pick hi Tryz.func181,aia]at he;cases he;(repeat' first|exact TC.out|(with_reducible refine aA ?_ (λ_=>?_))|(with_reducible refine ja ?_ ?_)|split|dsimp only)
  rw[pick hi Tryz.func182,ah9]at he;cases he;exact t_nothing _
  rw[pick hi Tryz.func183,ah8]at he;cases he;exact t_typeAssertion _
  rw[pick hi Tryz.func184,ah7]at he;cases he;exact t_nothing _
  rw[pick hi Tryz.func185,ah6]at he;cases he;exact t_text _
  rw[pick hi Tryz.func186,ah5]at he;cases he;exact t_nothing _
  rw[pick hi Tryz.func187,ah4]at he;cases he;rw[pick hi Tryz.func188,ah3]at he;cases he;rw[pick hi Tryz.func189,ah2]at he;cases he;exact t_rabi (λ_=>aA TC.out λ_=>TC.out) _
  rw[pick hi Tryz.func190,ah1]at he;cases he;exact t_unhashable _
  rw[pick hi Tryz.func191,ah0]at he;cases he;exact t_nothing _
  rw[pick hi Tryz.func192,ahZ]at he;cases he;rw[pick hi Tryz.func193,ahY]at he;cases he;rw[pick hi Tryz.func194,ahX]at he;cases he;rw[pick hi Tryz.func195,ahW]at he;cases he;rw[pick hi Tryz.func196,ahV]at he;cases he;exact t_vmeth TC.out (λ_ _ _ _=>TC.out) _
  .rw[pick hi Tryz.func197,ahU]at he;cases he;(repeat' first|exact TC.out|(with_reducible refine aA ?_ (λ_=>?_))|(with_reducible refine ja ?_ ?_)|split|dsimp only)
  rw[pick hi Tryz.func198,ahT]at he;cases he;exact t_rabi (λ_=>aA TC.out λ_=>aA TC.out λ_=>TC.out) _
  rw[pick hi Tryz.func199,ahS]at he;cases he;exact t_rrel (λ_ _=>TC.out) _
  rw[pick hi Tryz.func200,ahR]at he;cases he;exact t_rmeth (λ_=>aA TC.out λ_=>aA TC.out λ_=>TC.out) _
  rw[pick hi Tryz.func201,ahQ]at he;cases he;exact t_rmeth (λ_=>TC.out) _
  rw[pick hi Tryz.func202,ahP]at he;cases he;exact t_rrel (λ_ _=>TC.out) _
  rw[pick hi Tryz.func203,ahO]at he;cases he;exact t_rmeth (λ_=>aA TC.out λ_=>TC.out) _
  rw[pick hi Tryz.func204,ahN]at he;cases he;exact t_rmeth (λ_=>aA TC.out λ_=>TC.out) _
  rw[pick hi Tryz.func205,ahM]at he;cases he;exact t_rmeth (λ_=>aA TC.out λ_=>aA TC.out λ_=>TC.out) _
  rw[pick hi Tryz.func206,ahL]at he;cases he;exact t_rmeth (λ_=>TC.out) _
  rw[pick hi Tryz.func207,ahK]at he;cases he;rw[pick hi Tryz.func208,ahJ]at he;cases he;exact TC.out
  rw[pick hi Tryz.func209,ahI]at he;cases he;rw[pick hi Tryz.func210,ahH]at he;cases he;rw[pick hi Tryz.func211,ahG]at he;cases he;rw[pick hi Tryz.func212,ahF]at he;cases he;rw[pick hi Tryz.func213,ahE]at he;cases he;rw[pick hi Tryz.func214,ahD]at he;cases he
end Go.Co
namespace Go.Proofs
open Go.Shelf Go.RowKit Go.Lib Go.Sort
theorem Tryz.OX (v:Value)(w:World):Calls Tryz.prog 149 #[.slice none 0 0,.int .i64 0,.int .i64 0,v] w λe w'=>e=.returned (.tuple #[])/\w'=w:=by
 go_enter Tryz.func149,Tryz.ntmps149
 go_wp2
 go_loop [8] (λi=>i=.int .i64 1) (λ_=>0)
 case atStart=>rfl
 case round=>
  subst hrel
  go_wp2
  go_end0
  exact⟨rfl,rfl⟩
theorem Tryz.OD (l:Int)(v:Value)(w:World):Calls Tryz.prog 136 #[.slice none 0 0,.int .i64 0,.int .i64 0,.int .i64 l,v] w λe w'=>e=.returned (.tuple #[])/\w'=w:=by
 have hi:=Tryz.OX v
 go_enter Tryz.func136,Tryz.ntmps136
 go_wp2
 go_loop [1,2] (λa b=>a=.int .i64 0/\b=.int .i64 0) (λ_ _=>0)
 case atStart=>exact⟨rfl,rfl⟩
 case round=>
  obtain⟨rfl,rfl⟩:=hrel
  go_wp2_with (go_at_call 149;refine(hi _).mono ?_;rintro e w' ⟨rfl,rfl⟩)
  exact⟨rfl,.tuple #[],results_none (by rfl) _ _ _,rfl,rfl⟩
theorem Tryz.YL (w:World):Calls Tryz.prog 99 #[.int .u64 0] w λe w'=>e=.returned (.int .i64 (Lib.bitLen 0:Nat))/\w'=w:=by have h:=Any.bits_Len (SlLaysF0.n15.bits (P:=Tryz.prog) {Tryz.K2 with}) (0:Int) w ab ab;exact h
theorem Tryz.Og (v:Value)(w:World):Calls Tryz.prog 102 #[.slice none 0 0,v] w λe w'=>e=.returned (.tuple #[])/\w'=w:=by
 have hl:=Tryz.YL;have hp:=λl=>Tryz.OD l v
 go_enter Tryz.func102,Tryz.ntmps102
 go_wp2_with (first|(go_at_call 99;refine(hl _).mono ?_;rintro e w' ⟨rfl,rfl⟩)|(go_at_call 136;refine(hp _ _).mono ?_;rintro e w' ⟨rfl,rfl⟩))
 go_end0
 exact⟨rfl,rfl⟩
end Go.Proofs
section
namespace Go.Proofs
open Go.Shelf Go.RowKit Go.Lib Go.Sort Go.Co
theorem Tryz.aeU (g cap:Nat)(d:Array Sm)(w:World)(hH:HoldsK rR 3 w g 0 d)(hg:g<w.heap.size)(hsz:d.size<4611686018427387904):
  Calls Tryz.prog 102 #[.slice (some ⟨g,0,none⟩) d.size cap,.func (.func 103) #[] #[]] w λe w'=>e=.returned (.tuple #[])/\∃d' n os,PermIn 0 d.size d d'/\SortedIn (ltOf yz) 0 d.size d'/\w'=sortWorldK rR 3 w g 0 n d' os:=by
 have eg:∀args w,(callFunc 103 args).run Tryz.prog w=.ok (.enter 103 args) w:=enters_of Tryz.func103 (by kernel_rfl) rfl;exact AnyQ.slices_SortFunc Tryz.K2 3 Tryz.isAgg79 Tryz.sizeOf79 rR (λ_=>rfl) (λx v hv=>by simp[rR]at hv;rcases hv with rfl|rfl|rfl<;>rfl) yz agQ 103 #[] g 0 cap d w eg (λ_ _ _ _ x y=>Tryz.Ub x y _) hH hg hsz
end Go.Proofs
namespace Go.Co
open Go Go.Conc Go.Proofs Go.Sort Go.Shelf
variable {P:Program} {aa:Machine->Trace->Prop} {γ:So} {w:World}
theorem Et{Γ:Type}{main:Bool}{K:Γ->Goroutine->World->Prop}{Rl:Γ->World->World->Prop}{St:Γ->World->Γ->World->Array Event->Prop}{fn:FuncId}{Q:Γ->Exit->Act->World->Prop}{a:Act}{ops:Array Oper}{i:Nat}{rest:cy}{o:Oper}(C:KC P main K Rl St){γ:Γ}{v:Value}(ho:ops[i]? =some o)(hw:Region.wanted o (yielded ops a.tmps)=true)(hrun:∀w,(execOp a.eval o).run P w=.ok (.value v) w)(wu:∀w,(execOp a.eval o).events P w #[]=#[])
  (h:KO K fn γ ops rest Q (a.put o.dst v) w):KO K fn γ ops (i::rest) Q a w:=
 yO C ho hw λw₁ r=>by rw[hrun w₁];exact⟨γ,by rw[listed_nil (wu w₁)];exact C.idle _ _,Ji C r h⟩
def Bp(A:Nat->Prop)(B0:Nat)(w0:World)(R:List Sm)(out:Value)(w:World):Prop:=Old A B0 w0 w/\w.ownsRow B0 79 3 out R.length (R.flatMap rR)
theorem XH{A:Nat->Prop}{B0:Nat}{w0:World}{R got:List Sm}{out:Value}(hR:R.Pairwise Ui)(hlen:R.length<=4294967296)(hA:∀b,A b->b<B0)(hO:Old A B0 w0 w)(hp:got.Perm R)(tw:w.ownsRow B0 79 3 out got.length (got.flatMap rR)):
  Calls Tryz.prog 102 #[out,.func (.func 103) #[] #[]] w λe w'=>∃v,e=.returned v/\Bp A B0 w0 R out w':=by
 have hl:=hp.length_eq;rcases tw.2 with ⟨rfl,h0⟩|⟨g,cap,cur,rfl,hb,hg,hn,hc,nR,ht⟩;have ajp:got=[]:=eE h0;have hRn:R=[]:=eE ab;subst ajp;subst hRn;exact(Tryz.Og _ w).mono λe w' ⟨he,hw⟩=>⟨_,he,by subst hw;exact⟨hO,tw⟩⟩;have hlt:g<w.heap.size:=(aG.1 hg).1;have hH:HoldsK rR 3 w g 0 got.toArray:=OY hg (by simpa using ht);have h:=Tryz.aeU g cap got.toArray w hH hlt (by simp;omega);simp only[iT]at h;refine h.mono ?_;rintro e w' ⟨he,d',n,os,hpm,hs,rfl⟩;obtain⟨hsz,-,hpm⟩:=hpm;have hsz':d'.size=got.length:=by simpa using hsz
 have hd:d'.toList=R:=by
  refine SA ?_ (by rw[hsz'];exact hs) hR;have h1:(d'.extract 0 got.length)=d':=by rw[<-hsz'];simp
  have h2:(got.toArray.extract 0 got.length)=got.toArray:=ae
  rw[h1,h2]at hpm;exact hpm.trans hp
 have hgr:=JK (w:=w) (g:=g) (n:=n) (os:=os) d';refine⟨_,he,⟨λb rQ=>?_,bt hO.2.1 hgr.size,hgr.os.trans hO.2.2.1,hgr.output.trans hO.2.2.2⟩,?_⟩;have:=hA b rQ;exact(hgr.block b (cK this hO.2.1) (λe=>by cases e;omega)).trans (hO.1 b rQ);have:=JD (n:=n) (os:=os) (d:=d') hb hg ab hc nR;rw[hsz',hd]at this;rw[<-hl];exact this
theorem aa7{da db:Wk}(xd:da.ok)(Bu:db.ok)(haa:ZA da.bz)(pV:ZA db.bz):Xe aa (eG da db):=by
 intro A B0 w0 γ' a' w' hE;obtain⟨-,-,hS,got,out,hp,tw,u,rfl⟩:=hE;have C:=yQ (aa:=aa) jP;unfold V9;show KJ _ _ _ (.seq (.region _ _ false) (.seq (.region _ _ false) .ret)) _ _ _;refine aY C (Bf C ?_);simp only[iT,cT,gr,Nat.reduceAdd,eO,List.range,List.range.loop];refine Et C (v:=?v1) rfl (by rfl) (λw=>run_eq_of λK hK=>?r1) (λw=>?e1) ?h1
 case r1=>go_simp;exact hK
 case e1=>simp[go_sem]
 try walk_nrm
 refine abI jP (R:=λ_ w=>Bp A B0 w0 (eG da db) out w) rfl (by rfl) rfl Tryz.func102 rfl (λτ=>?_) (λv w2 hR τ d=>?_);simp only[List.map_toArray,aZ,dR];have hO:Old A B0 w0 (w'.re τ 0):=⟨hS.blk,hS.size,hS.env.1,hS.env.2⟩;exact XH (SD haa pV) (EP xd Bu) hS.lt hO hp tw;have j3:Bp A B0 w0 (eG da db) out (w2.re τ d):=hR;generalize w2.re τ d=w3 at*;try walk_nrm
 refine aS C ?_;co_then;refine aY C (Bf C ?_);simp only[iT,cT,gr,Nat.reduceAdd,eO,List.range,List.range.loop];refine Et C (v:=?v2) rfl (by rfl) (λw=>run_eq_of λK hK=>?r2) (λw=>?e2) ?h2
 case r2=>go_simp;exact hK
 case e2=>simp[go_sem]
 try walk_nrm
 refine Et C (v:=?v3) rfl (by rfl) (λw=>run_eq_of λK hK=>?r3) (λw=>?e3) ?h3
 case r3=>go_simp;exact hK
 case e3=>simp[go_sem]
 try walk_nrm
 refine aS C ?_;co_then;refine DR C ?_;exact⟨rfl,rfl,j3.1,j3.2⟩
theorem abf{ca cb:Array Value}{da db:Wk}(xd:da.ok)(Bu:db.ok)(haa:ZA da.bz)(pV:ZA db.bz)(hva:wP γ w ca da)(hvb:wP γ w cb db):
  yE (RZ Tryz.prog aa) Tryz.prog (.bad,γ) 64 #[.agg ca,.agg cb] w λγ' v w'=>γ'.1=.bad/\Kept γ w γ'.2 w'/\lG γ'.2 w' w.heap.size 79 3 v (eG da db).length ((eG da db).flatMap rR):=
 Mi jP xd Bu hva hvb (aa7 xd Bu haa pV)
end Go.Co
end
namespace Go.Di
open Go Go.Conc Go.Co Go.Proofs
variable {P:Program} {aa:Machine->Trace->Prop} {x:Cx}
theorem MG{g:FuncId}{vals:Array Value}{Post':Value->World->Prop}(hP:Plain P)(h:yE (iI P aa) P () g vals x.w (λ_=>Post')){Post:Cx->Value->Prop}(hq:∀v w',Post' v w'->∃y:Cx,y.w=w'/\Post y v):eP P aa x g vals Post:=by
 obtain⟨tF,c,hf,-,PK,hwp⟩:=h;refine⟨⟨tF,c,hf,PK⟩,λfr cs hc=>?_⟩;have C:=yQ (aa:=aa) hP;rw[enter_at vals hf PK];have kU:∀(a':Act)(w':World)(todo:List Item),(a'.defers=[]/\∃v,ResultsC P tF a'.tmps v/\Post' v w')->
   iI P aa () (G {(base g).at a' todo with mode:=.returning} (fr::cs)) w':=by
  rintro a' w' todo ⟨hd,v,hr,hp⟩;obtain⟨y,rfl,hy⟩:=hq v w' hp;refine C.go (λw₁=>?_) (hc y v hy);rw[stepG_leave (b:=base g) rfl hd hf (hr w₁).1 (hr w₁).2]
 refine hwp (base g) [] _ rfl (by simp[base]) λγ' e a' w' q=>?_;cases e with
 |normal=>exact C.go (λ_=>stepG_end) (kU a' w' [] q)
 |ret=>exactλtodo=>kU a' w' todo q
 |exit id=>exact q.elim
 |goto l=>exact q.elim
 |panic ch=>exact q.elim
 |outgrown=>exact q.elim
def Ak(v:Value)(n:Nat)(b o:Nat):Prop:=v.ownBlock=some b/\o<n
def Cx.Bx (x:Cx)(w':World)(v:Value)(n:Nat):Cx:={x with w:=w',Fz:=λb o=>x.Fz b o\/Ak v n b o}
section
variable {w':World} {v:Value} {e:TypeId} {s n:Nat} {xs:List Value}
theorem sM(hR:Rel x)(hs:x.w.heap.size<=w'.heap.size)(he:w'.os=x.w.os/\w'.output=x.w.output)(ho:∀b,b<x.w.heap.size->w'.heap[b]? =x.w.heap[b]?)(hr:w'.ownsRow x.w.heap.size e s v n xs):bE x (x.Bx w' v (n*s)) where
 size:=hs
 env:=he
 fz:=λb o h=>⟨.inl h,by obtain⟨u,hu⟩:=hR.xg b o h;exact cell_of_block (ho b (World.block_lt_of_cell? _ ⟨b,o,none⟩ hu)) o⟩
 HS:=λb o h=>h.imp id λh=>.inl (hr.lt b h.1).1
 old:=λb hb _=>ho b hb
 len:=ai _
 cells:=λid l h=>⟨rfl,l,h⟩
 dA:=λid b h hb=>⟨rfl,⟨b,h,dL hb⟩,λhd=>by obtain⟨o,h1,-⟩:=hR.dA id b h hb;exact ho _ (aG.1 h1).1⟩
 cU:=λt e s n h=>⟨n,h,ai _,λ_=>⟨rfl,rfl⟩⟩
 live:=λi h=>.inl ⟨h,rfl⟩
 ops:=λ_ _ _ l z h=>⟨l,z,h,ai _,λe=>⟨rfl,e⟩,λ_=>⟨rfl,rfl⟩⟩
theorem AZ(hR:Rel x)(hs:x.w.heap.size<=w'.heap.size)(he:w'.os=x.w.os/\w'.output=x.w.output)(ho:∀b,b<x.w.heap.size->w'.heap[b]? =x.w.heap[b]?)(hr:w'.ownsRow x.w.heap.size e s v n xs):Rel (x.Bx w' v (n*s)):=by
 have M:=sM hR hs he ho hr;have hlt:∀{b:Nat}{o:Obj},x.w.heap[b]? =some o->b<x.w.heap.size:=λh=>(aG.1 h).1;have ye:∀b o,Ak v (n*s) b o->x.w.heap.size<=b:=λb o h=>(hr.lt b h.1).1;refine⟨λid l hl=>?_,λid e' s' n' hl=>?_,λid b hl hb=>?_,hR.inj,λb o h=>?_,λid hl o h=>?_,λid e' s' n' hl o h=>?_,λid e' s' l z hl=>?_,hR.glob.keep M.fz⟩;obtain⟨arr,e',h1,h2,h3⟩:=hR.cells id l hl;exact⟨arr,e',(ho _ (hlt h1)).trans h1,h2,λj c hc=>(h3 j c hc).mono M⟩;obtain⟨arr,h1,h2⟩:=hR.cU id e' s' n' hl;exact⟨arr,(ho _ (hlt h1)).trans h1,h2⟩;obtain⟨o,h1,h2⟩:=hR.dA id b hl hb;exact⟨o,(ho _ (hlt h1)).trans h1,h2.mono M⟩;rcases h with h|h;obtain⟨u,hu⟩:=hR.xg b o h;exact⟨u,((M.fz b o h).2).trans hu⟩;obtain⟨hv,hon⟩:=h;rcases hr.2 with ⟨rfl,-⟩|⟨g,cap,cur,rfl,hb,hg,hn,hc,nR,ht⟩;simp[Value.ownBlock]at hv;simp only[Value.ownBlock,aF]at hv;subst hv;have:o<cur.size:=by rw[nR];exact cK hon (gv _ hn)
 exact⟨cur[o],by simp only[World.cell?,Cx.Bx,hg];exact b7 this⟩;rcases h with h|h;exact hR.sep id hl o h;obtain⟨l,hl⟩:=hl;obtain⟨arr,e',h1,-⟩:=hR.cells id l hl;have:=ye _ _ h;have:=hlt h1;show False;change x.w.heap.size<=x.μ id at*;omega;rcases h with h|h;exact hR.nB id e' s' n' hl o h;obtain⟨arr,h1,-⟩:=hR.cU id e' s' n' hl;have h3:=ye _ _ h;have h4:=hlt h1;change x.w.heap.size<=x.μ id at h3;omega;obtain⟨arr,h1,h2,h3,h4,h5,h6,h7⟩:=hR.ops id e' s' l z hl;refine⟨arr,(ho _ (hlt h1)).trans h1,h2,h3,h4,λj c hc=>⟨(h5 j c hc).1,(h5 j c hc).2.mono M⟩,λhz j hj=>.inl (h6 hz j hj),λhz o h=>?_⟩;rcases h with h|h;exact h7 hz o h;have h3:=ye _ _ h;have h4:=hlt h1;change x.w.heap.size<=x.μ id at h3;omega
theorem K7{rows:cn}(hn:rows.length=n)(mw:∀r∈rows,r.cells.length=s)(x7:flat rows=xs.map .val)(Ck:∀u∈xs,Ax u=true/\(DV.val u).bU=true)(hr:w'.ownsRow x.w.heap.size e s v n xs):RV (x.Bx w' v (n*s)) (.sl rows none ⟨false,none⟩) v:=by
 have hlen:=hr.1;have dB:∀(j:Nat)(c:DV),(flat rows)[j]? =some c->∃u,xs[j]? =some u/\c=DV.val u/\Ax u=true/\c.bU=true:=by grind
 subst hn;rcases hr.2 with ⟨rfl,h0⟩|⟨g,cap,cur,rfl,hb,hg,hn,hc,nR,ht⟩;have hrn:rows=[]:=eE h0;subst hrn;exact RV.sl (rows:=[]) (A:=none) (cap:=0) (s:=0) (vs:=λ_=>undef) ⟨ae,by simp[flat]⟩ (by simp[flat]) (ai _) ⟨λ_=>rfl,λb h=>nomatch h⟩ (λ_=>rfl) (λ_ h _=>ar) (λt ht=>by cases ht);have aR:∀j u,xs[j]? =some u->cur[j]? =some u/\j<rows.length*s:=by
  intro j u hu;rw[<-ht,qB]at hu;split at hu
  grind
  cases hu
 refine RV.sl (s:=s) (vs:=λj=>xs.getD j undef) ⟨mw,λj c hcj=>?_⟩ (λj c hcj=>?_) hn ⟨ae,λb h=>nomatch h⟩ ae (λad h _=>by cases h;rfl) (λt ht=>nomatch ht);obtain⟨u,h1,rfl,h2,h3⟩:=dB j c hcj;obtain⟨h4,h5⟩:=aR j u h1;refine⟨h3,g,0,rfl,.inr ⟨rfl,ab⟩,?_⟩;simp[World.cell?,Cx.Bx,hg,h4,aK,h1];obtain⟨u,h1,rfl,h2,h3⟩:=dB j c hcj;simp only[aK,h1,sE];exact .val h2
end
def tV:cn->Option cj
 |[]=>some []
 |.val (.int .i64 n)::l=>(tV l).map (n::·)
 |_=>none
def Vd:DV->Option cj
 |.sl rows _ _=>tV rows
 |_=>none
def Kl:cn->Option (List cj)
 |[]=>some []
 |d::l=>match Vd d,Kl l with
  |some r,some rs=>some (r::rs)
  |_,_=>none
def wkD:DV->Option Wk
 |.agg [_,_,.val (.int .i64 cS),l,u0,l0,u1,l1,u2,l2,u3,l3]=>match Vd l,Kl [u0,u1,u2,u3],Kl [l0,l1,l2,l3]with
  |some l,some us,some ls=>some ⟨l,cS,λi=>us.getD i [],λi=>ls.getD i []⟩
  |_,_,_=>none
 |_=>none
def aak(l:cj):Bool:=decide (l.length<=1000)&&l.all λx=>decide (0<=x)&&decide (x<=9)
def aaE:cj->Bool
 |[]=>true
 |a::l=>l.all (λb=>decide (a<b))&&aaE l
def wkB(d:Wk):Bool:=decide (d.bz.length<=1000)&&d.bz.all (λx=>decide (0<=x)&&decide (x<=3))&&decide (0<=d.cS)&&decide (d.cS<=1000)&&
 (List.range 4).all (λi=>aak (d.up i)&&aak (d.lo i))&&aaE d.bz
def smD(m:Sm):DV:=.agg [.val (.int .i64 m.1),.val (.int .i64 m.2.1),.val (.int .i64 m.2.2)]
def NF(a b:DV):Option DV:=match wkD a,wkD b with
 |some da,some db=>if wkB da&&wkB db then some (.sl ((eG da db).map smD) none ⟨false,none⟩)else none
 |_,_=>none
theorem QY{l:cj}(h:aak l=true):Zz l:=by simp only[aak,aC,bR,aU]at h;exact⟨h.1,λi x hx=>h.2 x (bY hx)⟩
theorem Ri:∀{l:cj},aaE l=true->ZA l
 |[],_=>List.Pairwise.nil
 |a::l,h=>by simp only[aaE,aC,aU,bR]at h;exact List.Pairwise.cons h.1 (Ri h.2)
theorem rG:∀{l:cn}{r:List cj},Kl l=some r->r.length=l.length/\∀i:Nat,∀d,l[i]? =some d->Vd d=some (r.getD i [])
 |[],r,h=>by cases h;simp
 |d::l,r,h=>by
  simp only[Kl]at h;split at h;rename_i r1 rs h1 h2;cases h;obtain⟨h3,h4⟩:=rG h2;refine⟨by simp[h3],λi d' hd=>?_⟩;cases i with
  |zero=>simp at hd;subst hd;simpa using h1
  |succ i=>simp at hd;simpa using h4 i d' hd
  cases h
theorem vQ:∀{l:cn}{r:cj},tV l=some r->r.length=l.length/\(∀(i:Nat)(n:Int),r[i]? =some n->l[i]? =some (.val (.int .i64 n)))/\flat l=l
 |[],r,h=>by cases h;simp[flat]
 |.val (.int .i64 n)::l,r,h=>by
  simp only[tV,af]at h;obtain⟨r',h1,rfl⟩:=h;obtain⟨h2,h3,h4⟩:=vQ h1;refine⟨by simp[h2],λi m hm=>?_,?_⟩
  grind
  simp only[flat,dm,DV.cells]at h4⊢;rw[h4];rfl
def adK(w:World):So:=(λb=>b<w.heap.size,λ_=>False)
theorem rZ{d:DV}{r:cj}{v:Value}(hd:Vd d=some r)(h:RV x d v):Ag (adK x.w) x.w v r:=by
 unfold Vd at hd;split at hd;rename_i rows tok f;obtain⟨h1,h2,h3⟩:=vQ hd;cases h with
 |@sl _ _ _ A cap s vs hv hr k1 k2 k3 k4 k5=>
  refine⟨A,cap,by rw[h1],λi n hn=>?_⟩;have hc:(flat rows)[i]? =some (.val (.int .i64 n)):=by rw[h3];exact h2 i n hn
  obtain⟨-,b,o,q1,q2,q3⟩:=hv.2 i _ hc;have:=hr i _ hc;generalize vs i=u at*;cases this with
  |val _=>refine⟨_,q1,?_⟩;rw[iA];exact⟨.inl (World.block_lt_of_cell? _ ⟨b,o+i,none⟩ q3),q3⟩
 cases hd
theorem Wn{d:DV}{k:Wk}{v:Value}(hd:wkD d=some k)(h:RV x d v):∃ca,v=.agg ca/\wP (adK x.w) x.w ca k:=by
 unfold wkD at hd;split at hd;rename_i c0 c1 cS l u0 l0 u1 l1 u2 l2 u3 l3;split at hd;rename_i lr us ls h1 h2 h3;cases hd;cases h with
 |@agg _ ca hsz hc=>
  refine⟨ca,rfl,?_⟩;have aR:∀(j:Nat) d,([c0,c1,.val (.int .i64 cS),l,u0,l0,u1,l1,u2,l2,u3,l3]:cn)[j]? =some d->∃u,ca[j]? =some u/\RV x d u:=by
   intro j d hj;have hlt:j<ca.size:=by rw[hsz];exact(aI.1 hj).1
   have:=hc j d hj;simp only[aW,b7 hlt,sE]at this;exact⟨ca[j],b7 hlt,this⟩
  obtain⟨-,hu⟩:=rG h2;obtain⟨-,hl⟩:=rG h3;refine⟨?_,?_,λi hi=>?_,λi hi=>?_⟩;obtain⟨u,q1,q2⟩:=aR 2 _ rfl;cases q2;exact q1;obtain⟨u,q1,q2⟩:=aR 3 _ rfl;exact⟨u,q1,rZ h1 q2⟩;have:i=0\/i=1\/i=2\/i=3:=ab
  rcases this with rfl|rfl|rfl|rfl;obtain⟨u,q1,q2⟩:=aR 4 _ rfl;exact⟨u,q1,rZ (hu 0 _ rfl) q2⟩
  obtain⟨u,q1,q2⟩:=aR 6 _ rfl;exact⟨u,q1,rZ (hu 1 _ rfl) q2⟩
  obtain⟨u,q1,q2⟩:=aR 8 _ rfl;exact⟨u,q1,rZ (hu 2 _ rfl) q2⟩
  obtain⟨u,q1,q2⟩:=aR 10 _ rfl;exact⟨u,q1,rZ (hu 3 _ rfl) q2⟩
  have:i=0\/i=1\/i=2\/i=3:=ab
  rcases this with rfl|rfl|rfl|rfl;obtain⟨u,q1,q2⟩:=aR 5 _ rfl;exact⟨u,q1,rZ (hl 0 _ rfl) q2⟩
  obtain⟨u,q1,q2⟩:=aR 7 _ rfl;exact⟨u,q1,rZ (hl 1 _ rfl) q2⟩
  obtain⟨u,q1,q2⟩:=aR 9 _ rfl;exact⟨u,q1,rZ (hl 2 _ rfl) q2⟩
  obtain⟨u,q1,q2⟩:=aR 11 _ rfl;exact⟨u,q1,rZ (hl 3 _ rfl) q2⟩
 cases hd;cases hd
theorem aaW{d:DV}{k:Wk}(hd:wkD d=some k):∀i,4<=i->k.up i=[]/\k.lo i=[]:=by unfold wkD at hd;split at hd;split at hd;rename_i lr us ls h1 h2 h3;cases hd;have h4:=(rG h2).1;have h5:=(rG h3).1;simp only[cT,gr]at h4 h5;intro i hi;simp only[aK];rw[qD ab,qD ab];exact⟨rfl,rfl⟩;cases hd;cases hd
theorem Wo{d:DV}{k:Wk}(hd:wkD d=some k)(h:wkB k=true):k.ok/\ZA k.bz:=by
 simp only[wkB,aC,bR,aU]at h;obtain⟨⟨⟨⟨⟨h1,h2⟩,h3⟩,h4⟩,h5⟩,h6⟩:=h;have far:=aaW hd;refine⟨⟨h1,λi x hx=>h2 x (bY hx),⟨h3,h4⟩,λi=>?_,λi=>?_⟩,Ri h6⟩;rcases qw i 4 with hi|hi;exact QY (h5 i (by simpa using hi)).1;rw[(far i hi).1];exact⟨ae,ae⟩
 rcases qw i 4 with hi|hi;exact QY (h5 i (by simpa using hi)).2;rw[(far i hi).2];exact⟨ae,ae⟩
theorem YX(l:List Sm):flat (l.map smD)=(l.flatMap rR).map .val:=by
 induction l with
 |nil=>rfl
 |cons m l ih=>simp only[flat,aZ,dm,eY]at ih⊢;rw[ih];rfl
theorem Mh{a b d:DV}(h:NF a b=some d){vals:Array Value}(hR:Rel x)(ha:gb x [a,b] vals):eP Tryz.prog aa x 64 vals λy u=>y.S=x.S/\Rel y/\bE x y/\RV y d u:=by
 unfold NF at h;split at h;rename_i da db h1 h2;split at h;rename_i hb;cases h;simp only[aC]at hb;obtain⟨xd,haa⟩:=Wo h1 hb.1;obtain⟨Bu,pV⟩:=Wo h2 hb.2;obtain⟨hsz,aR⟩:=ha;have e:vals=#[vals.getD 0 undef,vals.getD 1 undef]:=by
  obtain⟨l⟩:=vals
  match l,hsz with
  |[u,v],_=>rfl
 obtain⟨ca,hca,hva⟩:=Wn h1 (aR 0 _ rfl);obtain⟨cb,hcb,hvb⟩:=Wn h2 (aR 1 _ rfl);rw[hca,hcb]at e;subst e;have key:=abf (aa:=aa) xd Bu haa pV hva hvb;refine MG jP (OW (Post':=λv w'=>x.w.heap.size<=w'.heap.size/\(w'.os=x.w.os/\w'.output=x.w.output)/\(∀b,b<x.w.heap.size->w'.heap[b]? =x.w.heap[b]?)/\w'.ownsRow x.w.heap.size 79 3 v (eG da db).length ((eG da db).flatMap rR)) (λγ' v w w1 hp _ r=>?_) key) λv w' hp=>?_;obtain⟨hk,ho⟩:=hp;refine⟨bt hk.size r.1,⟨r.2.2.2.1.trans hk.env.1,r.2.2.2.2.trans hk.env.2⟩,λb hb=>?_,(ho.rely r).1⟩;have dX:(adK x.w).all b:=.inl hb;exact(r.2.1 b (hk.all dX)).trans (hk.blk b dX hb);obtain⟨p1,p2,p3,p4⟩:=hp;refine⟨x.Bx w' v ((eG da db).length*3),rfl,rfl,AZ hR p1 p2 p3 p4,sM hR p1 p2 p3 p4,K7 ae (λr hr=>?_) (YX _) (λu hu=>?_) p4⟩;simp only[fQ]at hr;obtain⟨m,-,rfl⟩:=hr;rfl;simp only[Jq,rR,aV,ek,or_false]at hu;obtain⟨m,-,rfl|rfl|rfl⟩:=hu<;>exact⟨rfl,rfl⟩;cases h;cases h
end Go.Di
section
namespace Go.Proofs
open Go.Shelf Go.RowKit Go.Lib Go.Sort
def Tryz.JH:Go.Shelf.Ren:=⟨λ|41=>59|n=>n,λ|22=>23|23=>3|4=>4|n=>n,λ|n=>n⟩
theorem Tryz.Es:Go.Proofs.SlLaysN.n41 Tryz.prog Tryz.JH:={
 mixed:=by kernel_rfl
 f41:=⟨Tryz.f59.name,ao,Tryz.func59.trans (congrArg some (by kernel_rfl))⟩
 t4:=Tryz.underlying4
 a4:=Tryz.isAgg4
 z4:=Tryz.sizeOf4
 v4:=Tryz.zeroValue4
 t22:=Tryz.underlying23
 a22:=Tryz.isAgg23
 z22:=Tryz.sizeOf23
 v22:=Tryz.zeroValue23
 t23:=Tryz.underlying3
 a23:=Tryz.isAgg3
 z23:=Tryz.sizeOf3
 v23:=Tryz.zeroValue3
 i23:=by kernel_rfl}
def Tryz.Ft:Go.Shelf.Ren:=⟨λ|35=>143|n=>n,λ|22=>23|23=>3|3=>3|4=>4|0=>0|n=>n,λ|n=>n⟩
theorem Tryz.xR:Go.Proofs.SlLaysN.n35 Tryz.prog Tryz.Ft:={
 mixed:=by kernel_rfl
 f35:=⟨Tryz.f143.name,ao,Tryz.func143.trans (congrArg some (by kernel_rfl))⟩
 t0:=Tryz.underlying0
 a0:=Tryz.isAgg0
 z0:=Tryz.sizeOf0
 v0:=Tryz.zeroValue0
 t3:=Tryz.underlying3
 a3:=Tryz.isAgg3
 z3:=Tryz.sizeOf3
 v3:=Tryz.zeroValue3
 t4:=Tryz.underlying4
 a4:=Tryz.isAgg4
 z4:=Tryz.sizeOf4
 v4:=Tryz.zeroValue4
 t22:=Tryz.underlying23
 a22:=Tryz.isAgg23
 z22:=Tryz.sizeOf23
 v22:=Tryz.zeroValue23
 t23:=Tryz.underlying3
 a23:=Tryz.isAgg3
 z23:=Tryz.sizeOf3
 v23:=Tryz.zeroValue3}
theorem Tryz.abk (b off n c:Nat)(zs:cj)(w:World)(hz:n<=zs.length)(aau:n*8<=140737488355328)(hc:∀j,j<zs.length->w.cell? ⟨b,off+j,none⟩=some (.int .i64 (zs.getD j 0))):
  Calls Tryz.prog 124 #[.slice (some ⟨b,off,none⟩) n c] w λe w'=>∃v',e=.returned v'/\w'.ownsRow w.heap.size 3 1 v' n ((zs.take n).reverse.map (Value.int .i64))/\Below w.heap.size w w':=by
 have NZ:=AnyG.slices_Clone_int Tryz.Es b off n c zs w hz aau hc;clear hc
 go_enter Tryz.func124,Tryz.ntmps124
 go_wp2_with (first
  |(go_at_call 59;refine NZ.mono ?_;rintro e w1 ⟨v1,rfl,dW,UN,fB⟩;obtain⟨g,cap,rfl,hbg,_,_,hcm,hlen,hH⟩:=Lib.holds_of_ownsRow dW UN;have agf:=AnyG.slices_Reverse_int Tryz.xR g 0 cap (zs.take n) w1 hH (by unfold maxLen at hcm;omega);rw[hlen]at agf;have X:Aside (w1.ownsRow w.heap.size 3 1 (.slice (some ⟨g,0,none⟩) n cap) n ((zs.take n).map (Value.int .i64))/\Below w.heap.size w w1/\w.heap.size<=g):=⟨dW,fB,hbg⟩;clear dW fB hH UN)
  |(go_at_call 143;refine agf.mono ?_;rintro e w2 ⟨rfl,q,rfl⟩))
 go_ret
 have hy:(zs.take n).reverse.length=n:=by simpa using hlen
 have h1:=Lib.ownsRow_putRow (q:=q) (ys:=(zs.take n).reverse) X.out.1 hy (ai n);rw[List.take_of_length_le (Nat.le_of_eq hy)]at h1;exact⟨_,rfl,by simpa [List.map_reverse,List.map_take]using h1,Lib.below_putRow X.out.2.1 X.out.2.2⟩
theorem Tryz.rev_zero (a:Addr)(c:Nat)(w:World):
  Calls Tryz.prog 124 #[.slice (some a) 0 c] w λe w'=>∃v',e=.returned v'/\w'.ownsRow w.heap.size 3 1 v' 0 []/\Below w.heap.size w w':=by
 have NZ:=AnyG.slices_Clone_int_zero Tryz.Es a c w
 go_enter Tryz.func124,Tryz.ntmps124
 go_wp2_with (first
  |(go_at_call 59;refine NZ.mono ?_;rintro e w1 ⟨v1,rfl,dW,UN,fB⟩;obtain⟨g,cap,rfl,_,_,_,_,_,_⟩:=Lib.holds_of_ownsRow (enc:=Value.int .i64) (zs:=[]) dW UN;have X:Aside (w1.ownsRow w.heap.size 3 1 (.slice (some ⟨g,0,none⟩) 0 cap) 0 []/\Below w.heap.size w w1):=⟨dW,fB⟩;clear dW fB UN)
  |(go_at_call 143;refine(AnyG.slices_Reverse_int_empty Tryz.xR _ _ _).mono ?_;rintro e w2 ⟨rfl,rfl⟩))
 go_ret
 exact⟨_,rfl,X.out.1,X.out.2⟩
theorem Tryz.abj (n c:Nat)(w:World):
  Calls Tryz.prog 124 #[.slice none n c] w λe w'=>e=.returned (.slice none 0 0)/\w'=w:=by
 go_enter Tryz.func124,Tryz.ntmps124
 go_wp2_with (first
  |(go_at_call 59;refine(AnyG.slices_Clone_int_nil Tryz.Es n c _).mono ?_;rintro e w' ⟨rfl,rfl⟩)
  |(go_at_call 143;refine(AnyG.slices_Reverse_int_empty Tryz.xR none 0 _).mono ?_;rintro e w' ⟨rfl,rfl⟩))
 go_ret
 exact⟨rfl,rfl⟩
end Go.Proofs
namespace Go.Di
open Go Go.Conc Go.Co Go.Proofs
variable {P:Program} {aa:Machine->Trace->Prop} {x:Cx}
theorem uQ{g:FuncId}{vals:Array Value}{fn:Func}{c:Code}{R:Value->World->Prop}(hP:Plain P)(hf:P.funcs[g]? =some fn)(hb:fn.body=some c)(nI:∀τ,Calls P g vals (x.w.re τ 0) λe w'=>∃v,e=.returned v/\R v w')
  {Post:Cx->Value->Prop} (hq:∀v w',R v w'->∀τ d,∃y:Cx,y.w=w'.re τ d/\Post y v):eP P aa x g vals Post:=by
 refine⟨⟨fn,c,hf,hb⟩,λfr cs hc=>QV hP λ_ τ=>?_⟩;obtain⟨e,w',fr',⟨v,rfl,hR⟩,NY,UT,kU⟩:=nI τ (fr::cs);obtain⟨n,hn⟩:=Steps.trans NY (Steps.one (step_leave_returned kU));refine⟨n,_,w',hn,rfl,rfl,λτ d=>?_⟩;obtain⟨y,hy,hp⟩:=hq v w' hR τ d;have:=hc y v hp;rw[hy]at this;exact this
def adH:DV->Option DV
 |.sl rows _ _=>match tV rows with
  |some l=>if l.length<=1000000 then some (.sl (l.reverse.map λn=>.val (.int .i64 n)) none ⟨false,none⟩)else none
  |none=>none
 |_=>none
theorem T6(l:List Value):flat (l.map DV.val)=l.map DV.val:=by
 induction l with
 |nil=>rfl
 |cons m l ih=>simp only[flat,aZ,dm]at ih⊢;rw[ih];rfl
theorem SK{a d:DV}(h:adH a=some d){vals:Array Value}(hR:Rel x)(ha:gb x [a] vals):eP Tryz.prog aa x 124 vals λy u=>y.S=x.S/\Rel y/\bE x y/\RV y d u:=by
 unfold adH at h;split at h;rename_i rows tok f;split at h;rename_i l hl;split at h;rename_i hlen;cases h;obtain⟨h1,h2,h3⟩:=vQ hl;obtain⟨hsz,aR⟩:=ha;have e:vals=#[vals.getD 0 undef]:=by
  obtain⟨l⟩:=vals
  match l,hsz with
  |[u],_=>rfl
 have hv:=aR 0 _ rfl;generalize vals.getD 0 undef=u at e hv;subst e;cases hv with
 |@sl _ _ _ A cap s vs hv hr k1 k2 k3 k4 k5=>
  have nI:∀τ,Calls Tryz.prog 124 #[.slice A rows.length cap] (x.w.re τ 0) λe w'=>∃v,e=.returned v/\(x.w.heap.size<=w'.heap.size/\(w'.os=x.w.os/\w'.output=x.w.output)/\(∀b,b<x.w.heap.size->w'.heap[b]? =x.w.heap[b]?)/\w'.ownsRow x.w.heap.size 3 1 v l.length (l.reverse.map (Value.int .i64))):=by
   intro τ;cases A with
   |none=>
    have h0:rows.length=0:=by have:=k3 rfl;omega
    have ZV:l=[]:=eE ab;subst ZV;refine(Tryz.abj rows.length cap (x.w.re τ 0)).mono ?_;rintro e w' ⟨rfl,rfl⟩;exact⟨_,rfl,ai _,⟨rfl,rfl⟩,λ_ _=>rfl,World.ownsRow_nil _ _ _ _⟩
   |some ad=>
    have hz:rows.length=l.length:=h1.symm;by_cases h0:l.length=0;have ZV:l=[]:=eE h0;subst ZV;rw[hz];refine(Tryz.rev_zero ad cap (x.w.re τ 0)).mono ?_;rintro e w' ⟨v,rfl,ho,hb⟩;exact⟨_,rfl,hb.size,⟨hb.os,hb.output⟩,hb.block,ho⟩;have hs:=k4 ad rfl ab;obtain⟨b,o,sp⟩:=ad;simp only at hs;subst hs;rw[hz];refine(Tryz.abk b o l.length cap l (x.w.re τ 0) (ai _) ab λj hj=>?_).mono ?_;have hc:(flat rows)[j]? =some (.val (.int .i64 (l.getD j 0))):=by rw[h3];refine h2 j _ ?_;simp[aK,hj]
    obtain⟨-,b',o',q1,q2,q3⟩:=hv.2 j _ hc;cases q1;have:=hr j _ hc;generalize vs j=u at*;cases this with
    |val _=>exact q3
    rintro e w' ⟨v,rfl,ho,hb⟩;rw[gN]at ho;exact⟨_,rfl,hb.size,⟨hb.os,hb.output⟩,hb.block,ho⟩
  refine uQ jP Tryz.func124 rfl nI λv w' hp τ d=>?_;obtain⟨p1,p2,p3,p4⟩:x.w.heap.size<=(w'.re τ d).heap.size/\((w'.re τ d).os=x.w.os/\(w'.re τ d).output=x.w.output)/\(∀b,b<x.w.heap.size->(w'.re τ d).heap[b]? =x.w.heap[b]?)/\(w'.re τ d).ownsRow x.w.heap.size 3 1 v l.length (l.reverse.map (Value.int .i64)):=hp;refine⟨x.Bx (w'.re τ d) v (l.length*1),rfl,rfl,AZ hR p1 p2 p3 p4,sM hR p1 p2 p3 p4,K7 ae (λr hr=>?_) ?_ (λu hu=>?_) p4⟩;simp only[fQ]at hr;obtain⟨m,-,rfl⟩:=hr;rfl;have:=T6 (l.reverse.map (Value.int .i64));simpa only[vA,Function.comp_def]using this;simp only[fQ]at hu;obtain⟨m,-,rfl⟩:=hu;exact⟨rfl,rfl⟩
 cases h;cases h;cases h
end Go.Di
end
namespace Go.Proofs
open Go.Shelf Go.RowKit
def Tryz.uM:Go.Shelf.Ren:=⟨λ|167=>48|156=>46|165=>85|166=>45|169=>49|240=>84|241=>115|276=>114|277=>140|n=>n,λ|31=>35|9=>9|3=>3|4=>4|0=>0|20=>20|72=>89|76=>92|70=>87|37=>33|75=>91|127=>149|164=>152|5=>5|80=>97|n=>n,λ|n=>n⟩
theorem Tryz.C7:Go.Proofs.Lays.n156 Tryz.prog Tryz.uM:={
 mixed:=by kernel_rfl
 f156:=Tryz.func46.trans (congrArg some (by kernel_rfl))
 f165:=Tryz.func85.trans (congrArg some (by kernel_rfl))
 f166:=Tryz.func45.trans (congrArg some (by kernel_rfl))
 f169:=Tryz.func49.trans (congrArg some (by kernel_rfl))
 f240:=Tryz.func84.trans (congrArg some (by kernel_rfl))
 f241:=Tryz.func115.trans (congrArg some (by kernel_rfl))
 f276:=Tryz.func114.trans (congrArg some (by kernel_rfl))
 f277:=Tryz.func140.trans (congrArg some (by kernel_rfl))
 t0:=Tryz.underlying0
 a0:=Tryz.isAgg0
 z0:=Tryz.sizeOf0
 v0:=Tryz.zeroValue0
 t3:=Tryz.underlying3
 a3:=Tryz.isAgg3
 z3:=Tryz.sizeOf3
 v3:=Tryz.zeroValue3
 t4:=Tryz.underlying4
 a4:=Tryz.isAgg4
 z4:=Tryz.sizeOf4
 v4:=Tryz.zeroValue4
 t9:=Tryz.underlying9
 a9:=Tryz.isAgg9
 z9:=Tryz.sizeOf9
 v9:=Tryz.zeroValue9
 t20:=Tryz.underlying20
 a20:=Tryz.isAgg20
 z20:=Tryz.sizeOf20
 v20:=Tryz.zeroValue20
 t31:=Tryz.underlying35
 a31:=Tryz.isAgg35
 z31:=Tryz.sizeOf35
 v31:=Tryz.zeroValue35
 t37:=Tryz.underlying33
 a37:=Tryz.isAgg33
 z37:=Tryz.sizeOf33
 v37:=Tryz.zeroValue33
 t70:=Tryz.underlying87
 a70:=Tryz.isAgg87
 z70:=Tryz.sizeOf87
 v70:=Tryz.zeroValue87
 t72:=Tryz.underlying89
 a72:=Tryz.isAgg89
 z72:=Tryz.sizeOf89
 v72:=Tryz.zeroValue89
 t75:=Tryz.underlying91
 a75:=Tryz.isAgg91
 z75:=Tryz.sizeOf91
 v75:=Tryz.zeroValue91
 t76:=Tryz.underlying92
 a76:=Tryz.isAgg92
 z76:=Tryz.sizeOf92
 v76:=Tryz.zeroValue92
 t127:=Tryz.underlying149
 a127:=Tryz.isAgg149
 z127:=Tryz.sizeOf149
 v127:=Tryz.zeroValue149
 t164:=Tryz.underlying152
 a164:=Tryz.isAgg152
 z164:=Tryz.sizeOf152
 v164:=Tryz.zeroValue152}
theorem Tryz.gD:Builder.Extra Tryz.prog Tryz.uM:={
 sizeBuilder:=by kernel_rfl
 liesBuilder:=by kernel_rfl
 t5:=Tryz.underlying5
 a5:=Tryz.isAgg5
 z5:=Tryz.sizeOf5
 v5:=Tryz.zeroValue5
 infoByte:=by kernel_rfl
 cellsByte:=by kernel_rfl
 sizeByte:=by kernel_rfl
 neB5:=by decide}
open Go.RowKit in
theorem Tryz.strings_Join (bk o c:Nat)(xs:List ByteArray)(sep:ByteArray)(w:World)(kz:∀(j:Nat) x,xs[j]? =some x->w.cell? ⟨bk,o+j,none⟩=some (.string x))(Z1:bk<w.heap.size)(hN:xs.length<=140737488355328)(Cz:xs.length<=c)(hlen:(Lib.join (xs.map (·.data.toList)) sep.data.toList).length<=140737488355328):
 Calls Tryz.prog 46 #[.slice (some ⟨bk,o,none⟩) xs.length c,.string sep] w λe w'=>e=.returned (.string ⟨(Lib.join (xs.map (·.data.toList)) sep.data.toList).toArray⟩)/\Below w.heap.size w w':=Any.strings_Join Tryz.C7 Tryz.gD bk o c xs sep w kz Z1 hN Cz hlen
theorem Tryz.abO:Go.Proofs.Lays.n167 Tryz.prog Tryz.uM:={Tryz.C7,Tryz.gD with f167:=Tryz.func48.trans (congrArg some (by kernel_rfl))}
theorem Tryz.Builder_WriteByte (B b:Nat)(bs:List Value)(c:Int)(w:World)(h:Lib.IsBuilderF 89 5 B b bs w)(hlen:bs.length+1<=140737488355328)(hBw:B<=w.heap.size):
 Calls Tryz.prog 48 #[.pointer (some ⟨b,0,none⟩),.int .u8 c] w λe w'=>e=.returned .nilIface/\(Lib.BuilderAtF 89 5 B b (.pointer (some ⟨b,0,none⟩)) (bs++[.int .u8 c]) w'/\Below B w w'/\Lib.OthersKept 5 (some b) w w'):=Any.Builder_WriteByte_k Tryz.abO Tryz.gD B b bs c w h hlen hBw
theorem Tryz.Builder_WriteString (B b:Nat)(bs:List Value)(s:ByteArray)(w:World)(h:Lib.IsBuilderF 89 5 B b bs w)(hlen:bs.length+s.size<=140737488355328)(hBw:B<=w.heap.size):
 Calls Tryz.prog 45 #[.pointer (some ⟨b,0,none⟩),.string s] w λe w'=>e=.returned (.tuple #[.int .i64 s.size,.nilIface])/\(Lib.BuilderAtF 89 5 B b (.pointer (some ⟨b,0,none⟩)) (bs++Lib.strCells s) w'/\Below B w w'/\Lib.OthersKept 5 (some b) w w'):=Any.Builder_WriteString_k {Tryz.C7 with} Tryz.gD B b bs s w h hlen hBw
theorem Tryz.Builder_String_any (B b:Nat)(l:List UInt8)(w:World)(h:Lib.IsBuilderF 89 5 B b (Lib.byteCells l) w)(hBw:B<=w.heap.size):
 Calls Tryz.prog 49 #[.pointer (some ⟨b,0,none⟩)] w λe w'=>e=.returned (.string ⟨l.toArray⟩)/\(Lib.IsBuilderF 89 5 B b (Lib.byteCells l) w'/\Below B w w'/\Lib.OthersKept 5 (some b) w w'):=Any.Builder_String_any_k {Tryz.C7 with} Tryz.gD B b l w h hBw
def Tryz.ME:Go.Shelf.Ren:=⟨λ|145=>87|220=>118|219=>141|217=>157|225=>158|224=>159|267=>160|266=>168|314=>169|n=>n,λ|9=>9|4=>4|59=>150|3=>3|5=>5|46=>144|146=>243|51=>218|n=>n,λ|1=>1|n=>n⟩
theorem Tryz.abQ:Go.Proofs.Lays.n145 Tryz.prog Tryz.ME:={
 mixed:=by kernel_rfl
 f145:=Tryz.func87.trans (congrArg some (by kernel_rfl))
 f217:=Tryz.func157.trans (congrArg some (by kernel_rfl))
 f219:=Tryz.func141.trans (congrArg some (by kernel_rfl))
 f220:=Tryz.func118.trans (congrArg some (by kernel_rfl))
 f224:=Tryz.func159.trans (congrArg some (by kernel_rfl))
 f225:=Tryz.func158.trans (congrArg some (by kernel_rfl))
 f266:=Tryz.func168.trans (congrArg some (by kernel_rfl))
 f267:=Tryz.func160.trans (congrArg some (by kernel_rfl))
 f314:=Tryz.func169.trans (congrArg some (by kernel_rfl))
 t3:=Tryz.underlying3
 a3:=Tryz.isAgg3
 z3:=Tryz.sizeOf3
 v3:=Tryz.zeroValue3
 t4:=Tryz.underlying4
 a4:=Tryz.isAgg4
 z4:=Tryz.sizeOf4
 v4:=Tryz.zeroValue4
 t5:=Tryz.underlying5
 a5:=Tryz.isAgg5
 z5:=Tryz.sizeOf5
 v5:=Tryz.zeroValue5
 t9:=Tryz.underlying9
 a9:=Tryz.isAgg9
 z9:=Tryz.sizeOf9
 v9:=Tryz.zeroValue9
 t46:=Tryz.underlying144
 a46:=Tryz.isAgg144
 z46:=Tryz.sizeOf144
 v46:=Tryz.zeroValue144
 t51:=Tryz.underlying218
 a51:=Tryz.isAgg218
 z51:=Tryz.sizeOf218
 v51:=Tryz.zeroValue218
 t59:=Tryz.underlying150
 a59:=Tryz.isAgg150
 z59:=Tryz.sizeOf150
 v59:=Tryz.zeroValue150
 t146:=Tryz.underlying243
 a146:=Tryz.isAgg243
 z146:=Tryz.sizeOf243
 v146:=Tryz.zeroValue243
 g1:=by kernel_rfl}
open Go.RowKit Go.Lib in
theorem Tryz.strings_Cut (s sep:ByteArray)(m:Int)(w:World)(hs:s.size<4294967281)(hm:w.cell? ⟨1,0,none⟩=some (.int .i64 m)):
 Calls Tryz.prog 87 #[.string s,.string sep] w λe w'=>e=.returned (.tuple #[.string ⟨(Lib.cut s.data.toList sep.data.toList).1.toArray⟩,.string ⟨(Lib.cut s.data.toList sep.data.toList).2.1.toArray⟩,.bool (Lib.cut s.data.toList sep.data.toList).2.2])/\∃n,w'=w.drewN n:=Any.strings_Cut Tryz.abQ s sep m w hs hm
def Tryz.MD:Go.Shelf.Ren:=⟨λ|146=>119|221=>142|268=>161|138=>162|143=>163|195=>170|197=>171|218=>172|219=>141|260=>174|217=>157|225=>158|224=>159|267=>160|266=>168|314=>169|n=>n,λ|9=>9|31=>35|3=>3|4=>4|0=>0|105=>246|21=>21|5=>5|46=>144|119=>249|139=>252|138=>251|146=>243|51=>218|n=>n,λ|1=>1|3=>2|4=>3|n=>n⟩
theorem Tryz.abP:Go.Proofs.Lays.n146 Tryz.prog Tryz.MD:={
 mixed:=by kernel_rfl
 f138:=Tryz.func162.trans (congrArg some (by kernel_rfl))
 f143:=Tryz.func163.trans (congrArg some (by kernel_rfl))
 f146:=Tryz.func119.trans (congrArg some (by kernel_rfl))
 f195:=Tryz.func170.trans (congrArg some (by kernel_rfl))
 f197:=Tryz.func171.trans (congrArg some (by kernel_rfl))
 f217:=Tryz.func157.trans (congrArg some (by kernel_rfl))
 f218:=Tryz.func172.trans (congrArg some (by kernel_rfl))
 f219:=Tryz.func141.trans (congrArg some (by kernel_rfl))
 f221:=Tryz.func142.trans (congrArg some (by kernel_rfl))
 f224:=Tryz.func159.trans (congrArg some (by kernel_rfl))
 f225:=Tryz.func158.trans (congrArg some (by kernel_rfl))
 f260:=Tryz.func174.trans (congrArg some (by kernel_rfl))
 f266:=Tryz.func168.trans (congrArg some (by kernel_rfl))
 f267:=Tryz.func160.trans (congrArg some (by kernel_rfl))
 f268:=Tryz.func161.trans (congrArg some (by kernel_rfl))
 f314:=Tryz.func169.trans (congrArg some (by kernel_rfl))
 t0:=Tryz.underlying0
 a0:=Tryz.isAgg0
 z0:=Tryz.sizeOf0
 v0:=Tryz.zeroValue0
 t3:=Tryz.underlying3
 a3:=Tryz.isAgg3
 z3:=Tryz.sizeOf3
 v3:=Tryz.zeroValue3
 t4:=Tryz.underlying4
 a4:=Tryz.isAgg4
 z4:=Tryz.sizeOf4
 v4:=Tryz.zeroValue4
 t5:=Tryz.underlying5
 a5:=Tryz.isAgg5
 z5:=Tryz.sizeOf5
 v5:=Tryz.zeroValue5
 t9:=Tryz.underlying9
 a9:=Tryz.isAgg9
 z9:=Tryz.sizeOf9
 v9:=Tryz.zeroValue9
 t21:=Tryz.underlying21
 a21:=Tryz.isAgg21
 z21:=Tryz.sizeOf21
 v21:=Tryz.zeroValue21
 t31:=Tryz.underlying35
 a31:=Tryz.isAgg35
 z31:=Tryz.sizeOf35
 v31:=Tryz.zeroValue35
 t46:=Tryz.underlying144
 a46:=Tryz.isAgg144
 z46:=Tryz.sizeOf144
 v46:=Tryz.zeroValue144
 t51:=Tryz.underlying218
 a51:=Tryz.isAgg218
 z51:=Tryz.sizeOf218
 v51:=Tryz.zeroValue218
 t105:=Tryz.underlying246
 a105:=Tryz.isAgg246
 z105:=Tryz.sizeOf246
 v105:=Tryz.zeroValue246
 t119:=Tryz.underlying249
 a119:=Tryz.isAgg249
 z119:=Tryz.sizeOf249
 t138:=Tryz.underlying251
 a138:=Tryz.isAgg251
 z138:=Tryz.sizeOf251
 v138:=Tryz.zeroValue251
 t139:=Tryz.underlying252
 a139:=Tryz.isAgg252
 z139:=Tryz.sizeOf252
 v139:=Tryz.zeroValue252
 t146:=Tryz.underlying243
 a146:=Tryz.isAgg243
 z146:=Tryz.sizeOf243
 v146:=Tryz.zeroValue243
 g1:=by kernel_rfl
 g3:=by kernel_rfl
 g4:=by kernel_rfl}
open Go.RowKit Go.Lib in
theorem Tryz.strings_Split (s sep:ByteArray)(m:Int)(w:World)(hs:s.size<4294967281)(hm:w.cell? ⟨1,0,none⟩=some (.int .i64 m))(h1:1<=sep.size):
 Calls Tryz.prog 119 #[.string s,.string sep] w λe w'=>
  e=.returned (.slice (some ⟨w.heap.size,0,none⟩) (Lib.countB s sep+1) (Lib.countB s sep+1))/\w'=w.alloc (.cells ((Lib.splitB sep 0 (Lib.countB s sep) s).map Value.string).toArray 9):=Any.strings_Split Tryz.abP (by kernel_rfl) s sep m w hs hm h1
end Go.Proofs
