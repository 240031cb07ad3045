/- The law CutKnown: part 27: Ks1 Ks2 Ks3 Kw2 Kw3. By an AI agent. -/
import Derived.Test.YtadeehilamokkaaGreatDoorPk26
import Derived.Shelf.Strings.OnBuilder
import Derived.Shelf.Strings.BuilderK
import Derived.Shelf.Strings.Cut
import Derived.Shelf.Strings.Split
import Derived.Test.YtadeehilamokkaaGreatDoorChecked
import Derived.WalkKit
import Derived.OwnWalk
import Derived.Lib.Hide
import Derived.Deep.RegionHeld3
section
namespace Go.Proofs
open Go.Shelf Go.RowKit
def Tryz.lays156_ren : Go.Shelf.Ren := ⟨fun | 167 => 48 | 156 => 46 | 165 => 85 | 166 => 45 | 169 => 49 | 240 => 84 | 241 => 115 | 276 => 114 | 277 => 140 | n => n, fun | 31 => 35 | 9 => 9 | 3 => 3 | 4 => 4 | 0 => 0 | 20 => 20 | 72 => 89 | 76 => 92 | 70 => 87 | 37 => 33 | 75 => 91 | 127 => 149 | 164 => 152 | 5 => 5 | 80 => 97 | n => n, fun | n => n⟩
theorem Tryz.lays156 : Go.Proofs.Lays.n156 Tryz.prog Tryz.lays156_ren := {
  mixed := by kernel_rfl
  f156 := Tryz.func46.trans (congrArg some (by kernel_rfl))
  f165 := Tryz.func85.trans (congrArg some (by kernel_rfl))
  f166 := Tryz.func45.trans (congrArg some (by kernel_rfl))
  f169 := Tryz.func49.trans (congrArg some (by kernel_rfl))
  f240 := Tryz.func84.trans (congrArg some (by kernel_rfl))
  f241 := Tryz.func115.trans (congrArg some (by kernel_rfl))
  f276 := Tryz.func114.trans (congrArg some (by kernel_rfl))
  f277 := Tryz.func140.trans (congrArg some (by kernel_rfl))
  t0 := Tryz.underlying0
  a0 := Tryz.isAgg0
  z0 := Tryz.sizeOf0
  v0 := Tryz.zeroValue0
  t3 := Tryz.underlying3
  a3 := Tryz.isAgg3
  z3 := Tryz.sizeOf3
  v3 := Tryz.zeroValue3
  t4 := Tryz.underlying4
  a4 := Tryz.isAgg4
  z4 := Tryz.sizeOf4
  v4 := Tryz.zeroValue4
  t9 := Tryz.underlying9
  a9 := Tryz.isAgg9
  z9 := Tryz.sizeOf9
  v9 := Tryz.zeroValue9
  t20 := Tryz.underlying20
  a20 := Tryz.isAgg20
  z20 := Tryz.sizeOf20
  v20 := Tryz.zeroValue20
  t31 := Tryz.underlying35
  a31 := Tryz.isAgg35
  z31 := Tryz.sizeOf35
  v31 := Tryz.zeroValue35
  t37 := Tryz.underlying33
  a37 := Tryz.isAgg33
  z37 := Tryz.sizeOf33
  v37 := Tryz.zeroValue33
  t70 := Tryz.underlying87
  a70 := Tryz.isAgg87
  z70 := Tryz.sizeOf87
  v70 := Tryz.zeroValue87
  t72 := Tryz.underlying89
  a72 := Tryz.isAgg89
  z72 := Tryz.sizeOf89
  v72 := Tryz.zeroValue89
  t75 := Tryz.underlying91
  a75 := Tryz.isAgg91
  z75 := Tryz.sizeOf91
  v75 := Tryz.zeroValue91
  t76 := Tryz.underlying92
  a76 := Tryz.isAgg92
  z76 := Tryz.sizeOf92
  v76 := Tryz.zeroValue92
  t127 := Tryz.underlying149
  a127 := Tryz.isAgg149
  z127 := Tryz.sizeOf149
  v127 := Tryz.zeroValue149
  t164 := Tryz.underlying152
  a164 := Tryz.isAgg152
  z164 := Tryz.sizeOf152
  v164 := Tryz.zeroValue152 }
theorem Tryz.Builder_Extra_156 : Builder.Extra Tryz.prog Tryz.lays156_ren := {
  sizeBuilder := by kernel_rfl
  liesBuilder := by kernel_rfl
  t5 := Tryz.underlying5
  a5 := Tryz.isAgg5
  z5 := Tryz.sizeOf5
  v5 := Tryz.zeroValue5
  infoByte := by kernel_rfl
  cellsByte := by kernel_rfl
  sizeByte := by kernel_rfl
  neB5 := by decide }
open Go.RowKit in
theorem Tryz.strings_Join (bk o c : Nat) (xs : List ByteArray) (sep : ByteArray) (w : World) (hcells : ∀ (j : Nat) x, xs[j]? = some x → w.cell? ⟨bk, o + j, none⟩ = some (.string x)) (hbk : bk < w.heap.size) (hN : xs.length ≤ 140737488355328) (hcap : xs.length ≤ c) (hlen : (Lib.join (xs.map (·.data.toList)) sep.data.toList).length ≤ 140737488355328) :
    Calls Tryz.prog 46 #[.slice (some ⟨bk, o, none⟩) xs.length c, .string sep] w fun e w' => e = .returned (.string ⟨(Lib.join (xs.map (·.data.toList)) sep.data.toList).toArray⟩) ∧ Below w.heap.size w w' := Any.strings_Join Tryz.lays156 Tryz.Builder_Extra_156 bk o c xs sep w hcells hbk hN hcap hlen
theorem Tryz.lays167 : Go.Proofs.Lays.n167 Tryz.prog Tryz.lays156_ren := { Tryz.lays156, Tryz.Builder_Extra_156 with f167 := Tryz.func48.trans (congrArg some (by kernel_rfl)) }
theorem Tryz.Builder_WriteByte (B b : Nat) (bs : List Value) (c : Int) (w : World) (h : Lib.IsBuilderF 89 5 B b bs w) (hlen : bs.length + 1 ≤ 140737488355328) (hBw : B ≤ w.heap.size) :
    Calls Tryz.prog 48 #[.pointer (some ⟨b, 0, none⟩), .int .u8 c] w fun e w' => e = .returned .nilIface ∧ (Lib.BuilderAtF 89 5 B b (.pointer (some ⟨b, 0, none⟩)) (bs ++ [.int .u8 c]) w' ∧ Below B w w' ∧ Lib.OthersKept 5 (some b) w w') := Any.Builder_WriteByte_k Tryz.lays167 Tryz.Builder_Extra_156 B b bs c w h hlen hBw
theorem Tryz.Builder_WriteString (B b : Nat) (bs : List Value) (s : ByteArray) (w : World) (h : Lib.IsBuilderF 89 5 B b bs w) (hlen : bs.length + s.size ≤ 140737488355328) (hBw : B ≤ w.heap.size) :
    Calls Tryz.prog 45 #[.pointer (some ⟨b, 0, none⟩), .string s] w fun e w' => e = .returned (.tuple #[.int .i64 s.size, .nilIface]) ∧ (Lib.BuilderAtF 89 5 B b (.pointer (some ⟨b, 0, none⟩)) (bs ++ Lib.strCells s) w' ∧ Below B w w' ∧ Lib.OthersKept 5 (some b) w w') := Any.Builder_WriteString_k { Tryz.lays156 with } Tryz.Builder_Extra_156 B b bs s w h hlen hBw
theorem Tryz.Builder_String_any (B b : Nat) (l : List UInt8) (w : World) (h : Lib.IsBuilderF 89 5 B b (Lib.byteCells l) w) (hBw : B ≤ w.heap.size) :
    Calls Tryz.prog 49 #[.pointer (some ⟨b, 0, none⟩)] w fun e w' => e = .returned (.string ⟨l.toArray⟩) ∧ (Lib.IsBuilderF 89 5 B b (Lib.byteCells l) w' ∧ Below B w w' ∧ Lib.OthersKept 5 (some b) w w') := Any.Builder_String_any_k { Tryz.lays156 with } Tryz.Builder_Extra_156 B b l w h hBw
def Tryz.lays145_ren : Go.Shelf.Ren := ⟨fun | 145 => 87 | 220 => 118 | 219 => 141 | 217 => 157 | 225 => 158 | 224 => 159 | 267 => 160 | 266 => 168 | 314 => 169 | n => n, fun | 9 => 9 | 4 => 4 | 59 => 150 | 3 => 3 | 5 => 5 | 46 => 144 | 146 => 243 | 51 => 218 | n => n, fun | 1 => 1 | n => n⟩
theorem Tryz.lays145 : Go.Proofs.Lays.n145 Tryz.prog Tryz.lays145_ren := {
  mixed := by kernel_rfl
  f145 := Tryz.func87.trans (congrArg some (by kernel_rfl))
  f217 := Tryz.func157.trans (congrArg some (by kernel_rfl))
  f219 := Tryz.func141.trans (congrArg some (by kernel_rfl))
  f220 := Tryz.func118.trans (congrArg some (by kernel_rfl))
  f224 := Tryz.func159.trans (congrArg some (by kernel_rfl))
  f225 := Tryz.func158.trans (congrArg some (by kernel_rfl))
  f266 := Tryz.func168.trans (congrArg some (by kernel_rfl))
  f267 := Tryz.func160.trans (congrArg some (by kernel_rfl))
  f314 := Tryz.func169.trans (congrArg some (by kernel_rfl))
  t3 := Tryz.underlying3
  a3 := Tryz.isAgg3
  z3 := Tryz.sizeOf3
  v3 := Tryz.zeroValue3
  t4 := Tryz.underlying4
  a4 := Tryz.isAgg4
  z4 := Tryz.sizeOf4
  v4 := Tryz.zeroValue4
  t5 := Tryz.underlying5
  a5 := Tryz.isAgg5
  z5 := Tryz.sizeOf5
  v5 := Tryz.zeroValue5
  t9 := Tryz.underlying9
  a9 := Tryz.isAgg9
  z9 := Tryz.sizeOf9
  v9 := Tryz.zeroValue9
  t46 := Tryz.underlying144
  a46 := Tryz.isAgg144
  z46 := Tryz.sizeOf144
  v46 := Tryz.zeroValue144
  t51 := Tryz.underlying218
  a51 := Tryz.isAgg218
  z51 := Tryz.sizeOf218
  v51 := Tryz.zeroValue218
  t59 := Tryz.underlying150
  a59 := Tryz.isAgg150
  z59 := Tryz.sizeOf150
  v59 := Tryz.zeroValue150
  t146 := Tryz.underlying243
  a146 := Tryz.isAgg243
  z146 := Tryz.sizeOf243
  v146 := Tryz.zeroValue243
  g1 := by kernel_rfl }
open Go.RowKit Go.Lib in
theorem Tryz.strings_Cut (s sep : ByteArray) (m : Int) (w : World) (hs : s.size < 4294967281) (hm : w.cell? ⟨1, 0, none⟩ = some (.int .i64 m)) :
    Calls Tryz.prog 87 #[.string s, .string sep] w fun e w' => e = .returned (.tuple #[.string ⟨(Lib.cut s.data.toList sep.data.toList).1.toArray⟩, .string ⟨(Lib.cut s.data.toList sep.data.toList).2.1.toArray⟩, .bool (Lib.cut s.data.toList sep.data.toList).2.2]) ∧ ∃ n, w' = w.drewN n := Any.strings_Cut Tryz.lays145 s sep m w hs hm
def Tryz.lays146_ren : Go.Shelf.Ren := ⟨fun | 146 => 119 | 221 => 142 | 268 => 161 | 138 => 162 | 143 => 163 | 195 => 170 | 197 => 171 | 218 => 172 | 219 => 141 | 260 => 174 | 217 => 157 | 225 => 158 | 224 => 159 | 267 => 160 | 266 => 168 | 314 => 169 | n => n, fun | 9 => 9 | 31 => 35 | 3 => 3 | 4 => 4 | 0 => 0 | 105 => 246 | 21 => 21 | 5 => 5 | 46 => 144 | 119 => 249 | 139 => 252 | 138 => 251 | 146 => 243 | 51 => 218 | n => n, fun | 1 => 1 | 3 => 2 | 4 => 3 | n => n⟩
theorem Tryz.lays146 : Go.Proofs.Lays.n146 Tryz.prog Tryz.lays146_ren := {
  mixed := by kernel_rfl
  f138 := Tryz.func162.trans (congrArg some (by kernel_rfl))
  f143 := Tryz.func163.trans (congrArg some (by kernel_rfl))
  f146 := Tryz.func119.trans (congrArg some (by kernel_rfl))
  f195 := Tryz.func170.trans (congrArg some (by kernel_rfl))
  f197 := Tryz.func171.trans (congrArg some (by kernel_rfl))
  f217 := Tryz.func157.trans (congrArg some (by kernel_rfl))
  f218 := Tryz.func172.trans (congrArg some (by kernel_rfl))
  f219 := Tryz.func141.trans (congrArg some (by kernel_rfl))
  f221 := Tryz.func142.trans (congrArg some (by kernel_rfl))
  f224 := Tryz.func159.trans (congrArg some (by kernel_rfl))
  f225 := Tryz.func158.trans (congrArg some (by kernel_rfl))
  f260 := Tryz.func174.trans (congrArg some (by kernel_rfl))
  f266 := Tryz.func168.trans (congrArg some (by kernel_rfl))
  f267 := Tryz.func160.trans (congrArg some (by kernel_rfl))
  f268 := Tryz.func161.trans (congrArg some (by kernel_rfl))
  f314 := Tryz.func169.trans (congrArg some (by kernel_rfl))
  t0 := Tryz.underlying0
  a0 := Tryz.isAgg0
  z0 := Tryz.sizeOf0
  v0 := Tryz.zeroValue0
  t3 := Tryz.underlying3
  a3 := Tryz.isAgg3
  z3 := Tryz.sizeOf3
  v3 := Tryz.zeroValue3
  t4 := Tryz.underlying4
  a4 := Tryz.isAgg4
  z4 := Tryz.sizeOf4
  v4 := Tryz.zeroValue4
  t5 := Tryz.underlying5
  a5 := Tryz.isAgg5
  z5 := Tryz.sizeOf5
  v5 := Tryz.zeroValue5
  t9 := Tryz.underlying9
  a9 := Tryz.isAgg9
  z9 := Tryz.sizeOf9
  v9 := Tryz.zeroValue9
  t21 := Tryz.underlying21
  a21 := Tryz.isAgg21
  z21 := Tryz.sizeOf21
  v21 := Tryz.zeroValue21
  t31 := Tryz.underlying35
  a31 := Tryz.isAgg35
  z31 := Tryz.sizeOf35
  v31 := Tryz.zeroValue35
  t46 := Tryz.underlying144
  a46 := Tryz.isAgg144
  z46 := Tryz.sizeOf144
  v46 := Tryz.zeroValue144
  t51 := Tryz.underlying218
  a51 := Tryz.isAgg218
  z51 := Tryz.sizeOf218
  v51 := Tryz.zeroValue218
  t105 := Tryz.underlying246
  a105 := Tryz.isAgg246
  z105 := Tryz.sizeOf246
  v105 := Tryz.zeroValue246
  t119 := Tryz.underlying249
  a119 := Tryz.isAgg249
  z119 := Tryz.sizeOf249
  t138 := Tryz.underlying251
  a138 := Tryz.isAgg251
  z138 := Tryz.sizeOf251
  v138 := Tryz.zeroValue251
  t139 := Tryz.underlying252
  a139 := Tryz.isAgg252
  z139 := Tryz.sizeOf252
  v139 := Tryz.zeroValue252
  t146 := Tryz.underlying243
  a146 := Tryz.isAgg243
  z146 := Tryz.sizeOf243
  v146 := Tryz.zeroValue243
  g1 := by kernel_rfl
  g3 := by kernel_rfl
  g4 := by kernel_rfl }
open Go.RowKit Go.Lib in
theorem Tryz.strings_Split (s sep : ByteArray) (m : Int) (w : World) (hs : s.size < 4294967281) (hm : w.cell? ⟨1, 0, none⟩ = some (.int .i64 m)) (h1 : 1 ≤ sep.size) :
    Calls Tryz.prog 119 #[.string s, .string sep] w fun e w' =>
      e = .returned (.slice (some ⟨w.heap.size, 0, none⟩) (Lib.countB s sep + 1) (Lib.countB s sep + 1)) ∧ w' = w.alloc (.cells ((Lib.splitB sep 0 (Lib.countB s sep) s).map Value.string).toArray 9) := Any.strings_Split Tryz.lays146 (by kernel_rfl) s sep m w hs hm h1
end Go.Proofs
end
section
namespace Go.Proofs
open Go.RowKit
def digB (l : List Int) : List UInt8 := l.map fun n => UInt8.ofNat (48 + n.toNat)
theorem digB_take {l : List Int} {k : Nat} (h : k < l.length) : digB (l.take (k + 1)) = digB (l.take k) ++ [UInt8.ofNat (48 + (l.getD k 0).toNat)] := by
  rw [digB, List.take_add_one, List.map_append, List.getD_eq_getElem?_getD, List.getElem?_eq_getElem h]; rfl
theorem Tryz.cell_lt {w : World} {a : Addr} {v : Value} (h : w.cell? a = some v) : a.block < w.heap.size := by
  by_cases hb : a.block < w.heap.size
  · exact hb
  · simp [World.cell?, Array.getElem?_eq_none (Nat.le_of_not_lt hb)] at h
theorem byte_of {n : Int} (h0 : 0 ≤ n) (h9 : n ≤ 9) : (Value.int .u8 (48 + n)) = .int .u8 ((UInt8.ofNat (48 + n.toNat)).toNat : Int) := by
  have : (UInt8.ofNat (48 + n.toNat)).toNat = 48 + n.toNat := by rw [UInt8.toNat_ofNat']; omega
  rw [this]; congr 1; omega
theorem Lib.byteCells_singleton (b : UInt8) : Lib.byteCells [b] = [Value.int .u8 b.toNat] := rfl
def HasInts (w : World) (A : Option Addr) (l : List Int) : Prop := l ≠ [] → ∃ b off, A = some ⟨b, off, none⟩ ∧ ∀ j, j < l.length → w.cell? ⟨b, off + j, none⟩ = some (.int .i64 (l.getD j 0))
set_option maxRecDepth 100000 in
set_option maxHeartbeats 1000000 in
theorem Tryz.digits_any (A : Option Addr) (cap : Nat) (l : List Int) (w : World) (hl : l.length ≤ 1000) (hd : ∀ n ∈ l, 0 ≤ n ∧ n ≤ 9) (hR : HasInts w A l) :
    Calls Tryz.prog 47 #[.slice A l.length cap] w fun e w' => e = .returned (.string ⟨(digB l).toArray⟩) ∧ Below w.heap.size w w' := by
  have hR' := Lib.hid hR
  have hD := Lib.hid hd
  clear hR hd
  go_enter Tryz.func47, Tryz.ntmps47
  go_wp2
  go_loopw [8] (fun i wr => ∃ k : Nat, k ≤ l.length ∧ i = .int .i64 (k : Int) ∧ Lib.IsBuilderF 89 5 w.heap.size w.heap.size (Lib.byteCells (digB (l.take k))) wr ∧ Below w.heap.size w wr) (fun i _ => l.length - (intOf i).toNat)
  · refine ⟨0, Nat.zero_le _, rfl, ?_, ?_⟩
    · exact Lib.IsBuilderF.of (Lib.fresh_isBuilder 89 5 w)
    · exact (Below.refl _ _).alloc (Nat.le_refl _) _
  · obtain ⟨k, hk, rfl, hrow, hbel⟩ := hrel
    by_cases hkn : k < l.length
    · obtain ⟨b, off, rfl, hc⟩ := hR'.out (fun e => by subst e; simp at hkn)
      have hcell : wr.cell? ⟨b, off + k, none⟩ = some (.int .i64 (l.getD k 0)) := (hbel.cell (p := ⟨b, off + k, none⟩) (Tryz.cell_lt (hc k hkn))).trans (hc k hkn)
      have hmem : l.getD k 0 ∈ l := by rw [List.getD_eq_getElem?_getD, List.getElem?_eq_getElem hkn]; exact List.getElem_mem hkn
      obtain ⟨h0, h9⟩ := hD.out _ hmem
      have hlen : (Lib.byteCells (digB (l.take k))).length = k := by simp [Lib.byteCells, digB]; omega
      have hs := hbel.size
      generalize hn : l.getD k 0 = n at hcell h0 h9 hmem
      clear hmem hc hR' hD
      go_wp2_with (go_at_call 48; refine (Tryz.Builder_WriteByte w.heap.size w.heap.size _ (48 + n) _ hrow (by rw [hlen]; omega) hs).mono ?_)
      rintro e w1 ⟨rfl, hb, hw, -⟩
      rw [byte_of h0 h9, ← Lib.byteCells_singleton, ← Lib.byteCells_append, ← hn, ← digB_take hkn] at hb
      clear hrow hcell
      have hb' := Lib.hid hb
      have hw' := Lib.hid (hbel.trans hw)
      clear hb hw hbel
      go_wp2
      exact ⟨⟨k + 1, by omega, by go_num, .inr hb'.out, hw'.out⟩, by simp [intOf]; omega⟩
    · have hke : k = l.length := by omega
      subst hke
      rw [List.take_length] at hrow
      have hs := hbel.size
      go_wp2_with (go_at_call 49; refine (Tryz.Builder_String_any w.heap.size w.heap.size _ _ hrow hs).mono ?_)
      rintro e w' ⟨rfl, -, hb, -⟩
      go_wp2
      go_ret
      exact ⟨rfl, hbel.trans hb⟩
end Go.Proofs
end
section
namespace Go.Proofs
open Go.RowKit
structure PM where
  u : List Int
  l : List Int
  w : Int
  q : List Int
def PM.Ok (p : PM) : Prop := (p.u.length ≤ 1000 ∧ p.l.length ≤ 1000 ∧ p.q.length ≤ 1000) ∧ (∀ n ∈ p.u, 0 ≤ n ∧ n ≤ 9) ∧ (∀ n ∈ p.l, 0 ≤ n ∧ n ≤ 9) ∧ (0 ≤ p.w ∧ p.w ≤ 9) ∧ (∀ n ∈ p.q, 0 ≤ n ∧ n ≤ 9)
def HasPiece (w : World) (b o : Nat) (p : PM) : Prop := ∃ A0 c0 A1 c1 A3 c3, (w.cell? ⟨b, o, none⟩ = some (.slice A0 p.u.length c0) ∧ w.cell? ⟨b, o + 1, none⟩ = some (.slice A1 p.l.length c1) ∧ w.cell? ⟨b, o + 2, none⟩ = some (.int .i64 p.w) ∧ w.cell? ⟨b, o + 3, none⟩ = some (.slice A3 p.q.length c3)) ∧ HasInts w A0 p.u ∧ HasInts w A1 p.l ∧ HasInts w A3 p.q
def HasPieces (w : World) (A : Option Addr) (ps : List PM) : Prop := ps ≠ [] → ∃ b off, A = some ⟨b, off, none⟩ ∧ ∀ j p, ps[j]? = some p → HasPiece w b (off + j * 4) p
def lineB (p : PM) : List UInt8 := digB p.u ++ (47 :: digB p.l) ++ (47 :: digB [p.w]) ++ (47 :: digB p.q)
def linesB (ps : List PM) : List UInt8 := ps.flatMap fun p => lineB p ++ [10]
theorem builderAt_keep {B b : Nat} {q : Value} {bs : List Value} {w w' : World} (h : Lib.BuilderAtF 89 5 B b q bs w) (hb : Below w.heap.size w w') : Lib.BuilderAtF 89 5 B b q bs w' := by
  have hlt := h.lt
  obtain ⟨h1, v, h2, h3, h4⟩ := h
  exact ⟨h1, v, (hb.block b hlt).trans h2, h3.kept (row := none) ⟨hb.os, hb.tape, hb.output, hb.size, fun k hk _ => hb.block k hk⟩ (by cases v.ownBlock <;> simp), h4⟩
theorem builder_keep {B b : Nat} {bs : List Value} {w w' : World} (h : Lib.IsBuilderF 89 5 B b bs w) (hb : Below w.heap.size w w') : Lib.IsBuilderF 89 5 B b bs w' :=
  h.imp (fun h => builderAt_keep h hb) (fun h => builderAt_keep h hb)
theorem builder_drew {B b : Nat} {bs : List Value} {w : World} (h : Lib.IsBuilderF 89 5 B b bs w) : Lib.IsBuilderF 89 5 B b bs w.drew := builder_keep h (Below.refl _ _).drew
theorem builder_alloc {B b : Nat} {bs : List Value} {w : World} {o : Obj} (h : Lib.IsBuilderF 89 5 B b bs w) : Lib.IsBuilderF 89 5 B b bs (w.alloc o) := builder_keep h ((Below.refl _ _).alloc (Nat.le_refl _) o)
structure KsKeep (B N : Nat) (w0 : World) (vs : Array Value) (w : World) : Prop where
  at_ : w.heap[N]? = some (.cells vs 42 (0, 0))
  below : Below B w0 w
  le : B ≤ w.heap.size
abbrev KsSW (B N : Nat) (w0 : World) (v0 v1 v2 v3 : Value) (w : World) : Prop :=
  (w.cell? ⟨N, 0, none⟩ = some v0 ∧ w.cell? ⟨N, 1, none⟩ = some v1 ∧ w.cell? ⟨N, 2, none⟩ = some v2 ∧ w.cell? ⟨N, 3, none⟩ = some v3) ∧ KsKeep B N w0 #[v0, v1, v2, v3] w
theorem sw_of {B N : Nat} {w0 w : World} {v0 v1 v2 v3 : Value} (k : KsKeep B N w0 #[v0, v1, v2, v3] w) : KsSW B N w0 v0 v1 v2 v3 w := by
  refine ⟨⟨?_, ?_, ?_, ?_⟩, k⟩ <;> (rw [Lib.cell_of_heap k.at_]; rfl)
theorem sw_call {B N : Nat} {w0 w w' : World} {v0 v1 v2 v3 : Value} (h : KsSW B N w0 v0 v1 v2 v3 w) (hb : Below w.heap.size w w') : KsSW B N w0 v0 v1 v2 v3 w' := by
  obtain ⟨-, k⟩ := h
  exact sw_of ⟨(hb.block N (Array.getElem?_eq_some_iff.1 k.at_).1).trans k.at_, k.below.trans (hb.mono k.le), Nat.le_trans k.le hb.size⟩
theorem sw_write {B N : Nat} {w0 w w' : World} {v0 v1 v2 v3 : Value} (h : KsSW B N w0 v0 v1 v2 v3 w) (hb : Below B w w') (ho : Lib.OthersKept 5 (some B) w w') (hn : N ≠ B) : KsSW B N w0 v0 v1 v2 v3 w' := by
  obtain ⟨-, k⟩ := h
  exact sw_of ⟨ho N _ k.at_ (by simpa using hn) (by simp), k.below.trans hb, Nat.le_trans k.le hb.size⟩
theorem sw_alloc {B N : Nat} {w0 w : World} {v0 v1 v2 v3 : Value} {o : Obj} (h : KsSW B N w0 v0 v1 v2 v3 w) : KsSW B N w0 v0 v1 v2 v3 (w.alloc o) := sw_call h ((Below.refl _ _).alloc (Nat.le_refl _) o)
theorem sw_drew {B N : Nat} {w0 w : World} {v0 v1 v2 v3 : Value} (h : KsSW B N w0 v0 v1 v2 v3 w) : KsSW B N w0 v0 v1 v2 v3 w.drew := sw_call h ((Below.refl _ _).drew)
theorem sw_below {B N : Nat} {w0 w : World} {v0 v1 v2 v3 : Value} (h : KsSW B N w0 v0 v1 v2 v3 w) : Below B w0 w := h.2.below
theorem sw_le {B N : Nat} {w0 w : World} {v0 v1 v2 v3 : Value} (h : KsSW B N w0 v0 v1 v2 v3 w) : B ≤ w.heap.size := h.2.le
theorem cell_call {w w' : World} {a : Addr} {v : Value} (h : w.cell? a = some v) (hb : Below w.heap.size w w') : w'.cell? a = some v := (hb.cell (p := a) (Tryz.cell_lt h)).trans h
theorem cell_new {w : World} {v : Value} {t : TypeId} : (w.alloc (.cells #[v] t)).cell? ⟨w.heap.size, 0, none⟩ = some v := by rw [Lib.cell_of_heap (heap_alloc_new w _)]; rfl
theorem cell_new' {w : World} {v : Value} {t : TypeId} {n : Nat} (h : n = w.heap.size) : (w.alloc (.cells #[v] t)).cell? ⟨n, 0, none⟩ = some v := by subst h; exact cell_new
theorem cell_dr {w : World} {a : Addr} {v : Value} (h : w.cell? a = some v) : w.drew.cell? a = some v := h
theorem Tryz.digits_n (A : Option Addr) (n cap : Nat) (l : List Int) (hn : n = l.length) (w : World) (hl : l.length ≤ 1000) (hd : ∀ n ∈ l, 0 ≤ n ∧ n ≤ 9) (hR : HasInts w A l) :
    Calls Tryz.prog 47 #[.slice A n cap] w fun e w' => e = .returned (.string ⟨(digB l).toArray⟩) ∧ Below w.heap.size w w' := by
  subst hn; exact Tryz.digits_any A cap l w hl hd hR
theorem ints_keep {w0 w : World} {A : Option Addr} {l : List Int} (h : HasInts w0 A l) (hb : Below w0.heap.size w0 w) : HasInts w A l := fun hne => by
  obtain ⟨b, off, h1, h2⟩ := h hne
  exact ⟨b, off, h1, fun j hj => (hb.cell (p := ⟨b, off + j, none⟩) (Tryz.cell_lt (h2 j hj))).trans (h2 j hj)⟩
theorem ints_one {w : World} {N : Nat} {n : Int} (h : w.cell? ⟨N, 0, none⟩ = some (.int .i64 n)) : HasInts w (some ⟨N, 0, none⟩) [n] := fun _ => ⟨N, 0, rfl, fun j hj => by
  have : j = 0 := by simpa using hj
  subst this
  exact h⟩
theorem strs_new {w : World} {a b c d : ByteArray} {t : TypeId} (j : Nat) (x : ByteArray) (h : [a, b, c, d][j]? = some x) : (w.alloc (.cells #[.string a, .string b, .string c, .string d] t)).cell? ⟨w.heap.size, 0 + j, none⟩ = some (.string x) := by
  match j, h with
  | 0, h => cases h; rw [Lib.cell_of_heap (heap_alloc_new w _)]; rfl
  | 1, h => cases h; rw [Lib.cell_of_heap (heap_alloc_new w _)]; rfl
  | 2, h => cases h; rw [Lib.cell_of_heap (heap_alloc_new w _)]; rfl
  | 3, h => cases h; rw [Lib.cell_of_heap (heap_alloc_new w _)]; rfl
abbrev lineX (p : PM) : List ByteArray := [⟨(digB p.u).toArray⟩, ⟨(digB p.l).toArray⟩, ⟨(digB [p.w]).toArray⟩, ⟨(digB p.q).toArray⟩]
theorem join_line (p : PM) : Lib.join ((lineX p).map (·.data.toList)) [47] = lineB p := by simp [Lib.join, lineB]
theorem Tryz.join_n (bk n c : Nat) (xs : List ByteArray) (hn : n = xs.length) (w : World) (hcells : ∀ (j : Nat) x, xs[j]? = some x → w.cell? ⟨bk, 0 + j, none⟩ = some (.string x)) (hbk : bk < w.heap.size) (hN : xs.length ≤ 140737488355328) (hcap : xs.length ≤ c) (hlen : (Lib.join (xs.map (·.data.toList)) [47]).length ≤ 140737488355328) :
    Calls Tryz.prog 46 #[.slice (some ⟨bk, 0, none⟩) n c, .string ⟨#[47]⟩] w fun e w' => e = .returned (.string ⟨(Lib.join (xs.map (·.data.toList)) [47]).toArray⟩) ∧ Below w.heap.size w w' := by
  subst hn; exact Tryz.strings_Join bk 0 c xs ⟨#[47]⟩ w hcells hbk hN hcap hlen
theorem join4 {p : PM} {w : World} {bk : Nat} (hcells : ∀ (j : Nat) x, (lineX p)[j]? = some x → w.cell? ⟨bk, 0 + j, none⟩ = some (.string x)) (hlen : (lineB p).length ≤ 140737488355328) :
    Calls Tryz.prog 46 #[.slice (some ⟨bk, 0, none⟩) 4 4, .string ⟨#[47]⟩] w fun e w' => e = .returned (.string ⟨(lineB p).toArray⟩) ∧ Below w.heap.size w w' := by
  have h := Tryz.join_n bk 4 4 (lineX p) rfl w hcells (Tryz.cell_lt (hcells 0 _ rfl)) (by simp) (by simp) (by rw [join_line]; exact hlen)
  rw [join_line] at h
  exact h
theorem strCells_mk (l : List UInt8) : Lib.strCells ⟨l.toArray⟩ = Lib.byteCells l := by simp [Lib.strCells, Lib.byteCells]
theorem write45 {B : Nat} {l r : List UInt8} {w : World} (h : Lib.IsBuilderF 89 5 B B (Lib.byteCells l) w) (hl : l.length ≤ 5000000) (hr : r.length ≤ 5000000) (hB : B ≤ w.heap.size) :
    Calls Tryz.prog 45 #[.pointer (some ⟨B, 0, none⟩), .string ⟨r.toArray⟩] w fun e w' => e = .returned (.tuple #[.int .i64 (⟨r.toArray⟩ : ByteArray).size, .nilIface]) ∧ Lib.IsBuilderF 89 5 B B (Lib.byteCells (l ++ r)) w' ∧ Below B w w' ∧ Lib.OthersKept 5 (some B) w w' := by
  refine (Tryz.Builder_WriteString B B _ _ w h (by
    have e : (⟨r.toArray⟩ : ByteArray).size = r.length := List.size_toArray
    rw [Lib.byteCells_length, e]
    omega) hB).mono ?_
  rintro e w' ⟨rfl, h1, h2⟩
  rw [strCells_mk, ← Lib.byteCells_append] at h1
  exact ⟨rfl, .inr h1, h2⟩
theorem line_len {p : PM} (h : p.Ok) : (lineB p).length ≤ 4000 := by
  obtain ⟨⟨o1, o2, o3⟩, -⟩ := h
  simp [lineB, digB]; omega
theorem lines_len : ∀ {ps : List PM}, (∀ p ∈ ps, p.Ok) → (linesB ps).length ≤ 4001 * ps.length
  | [], _ => by simp [linesB]
  | p :: ps, h => by
    have h1 := line_len (h p (by simp))
    have h2 := lines_len fun q hq => h q (List.mem_cons_of_mem _ hq)
    simp only [linesB, List.flatMap_cons, List.length_append, List.length_cons, List.length_nil] at h2 ⊢
    omega
theorem lines_take {ps : List PM} {k : Nat} (h : k < ps.length) : linesB (ps.take (k + 1)) = linesB (ps.take k) ++ lineB ps[k] ++ [10] := by
  rw [linesB, List.take_add_one, List.flatMap_append, List.getElem?_eq_getElem h]
  simp [linesB]
noncomputable def rest10 : Code := match Tryz.f10.body with
  | some (.seq _ (.seq _ r)) => r
  | _ => .skip
set_option maxRecDepth 100000 in
set_option maxHeartbeats 4000000 in
theorem Tryz.write_rest (A : Option Addr) (cap : Nat) (ps : List PM) (w : World) (t1 t2 t3 t4 t5 t6 t7 t8 t9 t10 t11 t12 t13 t14 t15 t16 t17 t18 t19 t20 t21 t22 t23 t24 t25 t26 t27 t28 t29 t30 t31 t32 t33 t34 t35 t36 t37 : Value) (hl : ps.length ≤ 1000) (hd : ∀ p ∈ ps, p.Ok) (hR : HasPieces w A ps) :
    Code.wp Tryz.prog rest10 (fun e a w' => e = .ret ∧ a.tmps.getD 2 undef = .string ⟨(linesB ps).toArray⟩ ∧ a.tmps.getD 3 undef = .int .i64 0 ∧ a.defers = [] ∧ Below w.heap.size w w')
      ⟨#[.slice A ps.length cap, t1, t2, t3, t4, t5, t6, t7, t8, t9, t10, t11, t12, t13, t14, t15, t16, t17, t18, t19, t20, t21, t22, t23, t24, t25, t26, t27, t28, t29, t30, t31, t32, t33, t34, t35, t36, t37], []⟩ w := by
  have hR' := Lib.hid hR
  have hD := Lib.hid hd
  clear hR hd
  simp only [rest10, Tryz.f10]
  go_wp2
  go_loopw [15] (fun i wr => ∃ k : Nat, k ≤ ps.length ∧ i = .int .i64 (k : Int) ∧ Lib.IsBuilderF 89 5 w.heap.size w.heap.size (Lib.byteCells (linesB (ps.take k))) wr ∧ Below w.heap.size w wr) (fun i _ => ps.length - (intOf i).toNat)
  · refine ⟨0, Nat.zero_le _, rfl, ?_, ?_⟩
    · exact Lib.IsBuilderF.of (Lib.fresh_isBuilder 89 5 w)
    · exact (Below.refl _ _).alloc (Nat.le_refl _) _
  · obtain ⟨k, hk, rfl, hrow, hbel⟩ := hrel
    by_cases hkn : k < ps.length
    · obtain ⟨b, off, rfl, hc⟩ := hR'.out (fun e => by subst e; simp at hkn)
      obtain ⟨A0, c0, A1, c1, A3, c3, ⟨k0, k1, k2, k3⟩, i0, i1, i3⟩ := hc k _ (List.getElem?_eq_getElem hkn)
      have hok := hD.out _ (List.getElem_mem hkn)
      generalize hp : ps[k] = p at k0 k1 k2 k3 i0 i1 i3 hok
      have lt0 := Tryz.cell_lt k0
      have g0 : wr.cell? ⟨b, off + k * 4, none⟩ = some (.slice A0 p.u.length c0) := (hbel.cell (p := ⟨b, off + k * 4, none⟩) lt0).trans k0
      have g1 : wr.cell? ⟨b, off + k * 4 + 1, none⟩ = some (.slice A1 p.l.length c1) := (hbel.cell (p := ⟨b, off + k * 4 + 1, none⟩) lt0).trans k1
      have g2 : wr.cell? ⟨b, off + k * 4 + 2, none⟩ = some (.int .i64 p.w) := (hbel.cell (p := ⟨b, off + k * 4 + 2, none⟩) lt0).trans k2
      have g3 : wr.cell? ⟨b, off + k * 4 + 3, none⟩ = some (.slice A3 p.q.length c3) := (hbel.cell (p := ⟨b, off + k * 4 + 3, none⟩) lt0).trans k3
      clear k0 k1 k2 k3
      go_wp2
      have hll := line_len hok
      have hLn : (linesB (ps.take k)).length ≤ 5000000 := by
        have := lines_len (ps := ps.take k) fun q hq => hD.out q (List.mem_of_mem_take hq)
        rw [List.length_take] at this
        omega
      clear hc hR' hD
      obtain ⟨⟨o1, o2, o3⟩, q1, q2, q4, q3⟩ := hok
      have hs := hbel.size
      generalize hn0 : p.u.length = n0 at *
      generalize hn1 : p.l.length = n1 at *
      generalize hn3 : p.q.length = n3 at *
      have hS : KsSW w.heap.size wr.heap.size w (.slice A0 n0 c0) (.slice A1 n1 c1) (.int .i64 p.w) (.slice A3 n3 c3) (wr.alloc (.cells #[.slice A0 n0 c0, .slice A1 n1 c1, .int .i64 p.w, .slice A3 n3 c3] 42)) := sw_of ⟨heap_alloc_new wr _, hbel.alloc hs _, by simp; omega⟩
      have hN : wr.heap.size ≠ w.heap.size := by
        have := hrow.elim (·.lt) (·.lt)
        omega
      have hB1 : Lib.IsBuilderF 89 5 w.heap.size w.heap.size (Lib.byteCells (linesB (ps.take k))) (wr.alloc (.cells #[.slice A0 n0 c0, .slice A1 n1 c1, .int .i64 p.w, .slice A3 n3 c3] 42)) := builder_alloc hrow
      clear hrow g0 g1 g2 g3
      go_region_held3 (fun w' => KsSW w.heap.size wr.heap.size w (.slice A0 n0 c0) (.slice A1 n1 c1) (.int .i64 p.w) (.slice A3 n3 c3) w') (first | exact hS | exact sw_drew (by assumption) | exact sw_alloc (by assumption) | exact sw_call (by assumption) (by assumption) | exact sw_call (sw_drew (by assumption)) (by assumption) | exact sw_write (by assumption) (by assumption) (by assumption) hN | exact sw_write (sw_drew (by assumption)) (by assumption) (by assumption) hN) (first
        | (go_at_call 47; with_reducible refine (Tryz.digits_n A0 n0 c0 p.u hn0.symm _ (hn0 ▸ o1) q1 (ints_keep i0 ?_)).mono ?_; (first | exact sw_below (by assumption) | exact (sw_below (by assumption)).drew); rintro e w' ⟨rfl, hb⟩)
        | (go_at_call 47; with_reducible refine (Tryz.digits_n A1 n1 c1 p.l hn1.symm _ (hn1 ▸ o2) q2 (ints_keep i1 ?_)).mono ?_; (first | exact sw_below (by assumption) | exact (sw_below (by assumption)).drew); rintro e w' ⟨rfl, hb⟩)
        | (go_at_call 47; with_reducible refine (Tryz.digits_n A3 n3 c3 p.q hn3.symm _ (hn3 ▸ o3) q3 (ints_keep i3 ?_)).mono ?_; (first | exact sw_below (by assumption) | exact (sw_below (by assumption)).drew); rintro e w' ⟨rfl, hb⟩)
        | (go_at_call 47; with_reducible refine (Tryz.digits_n _ 1 1 [p.w] rfl _ (by simp) (by simpa using q4) (ints_one ?_)).mono ?_; (first | exact cell_new | exact cell_call cell_new (by assumption) | exact cell_call (cell_call cell_new (by assumption)) (by assumption) | (refine cell_call ?_ (by assumption); refine cell_call ?_ (by assumption); exact cell_dr (cell_new' (by simp)))); rintro e w' ⟨rfl, hb⟩)
        | (go_at_call 45; with_reducible refine (write45 ?_ hLn (Nat.le_trans hll (by omega)) ?_).mono ?_; (repeat' first | exact hB1 | (with_reducible refine builder_drew ?_) | (with_reducible refine builder_alloc ?_) | (refine builder_keep ?_ (by assumption))); (first | exact sw_le (by assumption) | exact sw_le (sw_drew (by assumption))); rintro e w' ⟨rfl, hbw, hb, hoth⟩)
        | (go_at_call 46; with_reducible refine (join4 (p := p) ?_ ?_).mono ?_; exact strs_new; omega; rintro e w' ⟨rfl, hb⟩))
      all_goals (
        clear hB1 hS
        have hle := sw_le (by assumption : KsSW w.heap.size wr.heap.size w (.slice A0 n0 c0) (.slice A1 n1 c1) (.int .i64 p.w) (.slice A3 n3 c3) _)
        go_wp2_with (go_at_call 48; refine (Tryz.Builder_WriteByte w.heap.size w.heap.size _ 10 _ hbw (by rw [Lib.byteCells_length, List.length_append]; omega) hle).mono ?_)
        rintro e w2 ⟨rfl, hbw2, hb2, -⟩
        have hbe := Lib.hid ((sw_below (by assumption)).trans hb2)
        rw [show (Value.int .u8 10) = .int .u8 ((10 : UInt8).toNat : Int) from rfl, ← Lib.byteCells_singleton, ← Lib.byteCells_append] at hbw2
        have e3 : linesB (ps.take k) ++ lineB p ++ [10] = linesB (ps.take (k + 1)) := by rw [lines_take hkn, hp]
        rw [e3] at hbw2
        have hbw3 := Lib.hid hbw2
        clear hbw hbw2 hb2 hle
        go_wp2
        exact ⟨⟨k + 1, by omega, by go_num, .inr hbw3.out, hbe.out⟩, by simp [intOf]; omega⟩)
    · have hke : k = ps.length := by omega
      subst hke
      rw [List.take_length] at hrow
      have hs := hbel.size
      go_wp2_with (go_at_call 49; refine (Tryz.Builder_String_any w.heap.size w.heap.size _ _ hrow hs).mono ?_)
      rintro e w' ⟨rfl, -, hb, -⟩
      go_wp2
      exact hbel.trans hb
end Go.Proofs
end
section
namespace Go.Di
open Go Go.Conc Go.Co Go.Proofs Go.RowKit
variable {Final : Machine → Trace → Prop} {x : Cx} {w' : World}
def Cx.grow (x : Cx) (w' : World) : Cx := x.rowed w' (.slice none 0 0) (0 * 1)
theorem rel_grow (hR : Rel x) (hs : x.w.heap.size ≤ w'.heap.size) (he : w'.os = x.w.os ∧ w'.output = x.w.output) (ho : ∀ b, b < x.w.heap.size → w'.heap[b]? = x.w.heap[b]?) : Rel (x.grow w') := rel_rowed (e := 0) hR hs he ho (World.ownsRow_nil _ _ _ _)
theorem mono_grow (hR : Rel x) (hs : x.w.heap.size ≤ w'.heap.size) (he : w'.os = x.w.os ∧ w'.output = x.w.output) (ho : ∀ b, b < x.w.heap.size → w'.heap[b]? = x.w.heap[b]?) : Mono x (x.grow w') := mono_rowed (e := 0) hR hs he ho (World.ownsRow_nil _ _ _ _)
theorem two_vals {a b : DV} {vals : Array Value} (ha : RVs x [a, b] vals) : ∃ u v, vals = #[u, v] ∧ RV x a u ∧ RV x b v := by
  obtain ⟨hsz, hget⟩ := ha
  obtain ⟨l⟩ := vals
  match l, hsz with
  | [u, v], _ => exact ⟨u, v, rfl, hget 0 _ rfl, hget 1 _ rfl⟩
def sv (l : List UInt8) : DV := .val (.string ⟨l.toArray⟩)
def cutSD : DV → DV → Option DV
  | .val (.string s), .val (.string sep) => if s.size < 4294967281 then
      some (.tup [sv (Lib.cut s.data.toList sep.data.toList).1, sv (Lib.cut s.data.toList sep.data.toList).2.1, .val (.bool (Lib.cut s.data.toList sep.data.toList).2.2)]) else none
  | _, _ => none
theorem cut_known {a b d : DV} (h : cutSD a b = some d) {vals : Array Value} (hR : Rel x) (ha : RVs x [a, b] vals) : EnterOK Tryz.prog Final x 87 vals fun y u => y.S = x.S ∧ Rel y ∧ Mono x y ∧ RV y d u := by
  unfold cutSD at h
  split at h
  · rename_i s sep
    split at h
    · rename_i hs
      cases h
      obtain ⟨u, v, rfl, h1, h2⟩ := two_vals ha
      cases rv_val h1
      cases rv_val h2
      obtain ⟨m, hm⟩ := hR.glob.2.2
      refine enter_calls (R := fun v w' => v = .tuple #[.string ⟨(Lib.cut s.data.toList sep.data.toList).1.toArray⟩, .string ⟨(Lib.cut s.data.toList sep.data.toList).2.1.toArray⟩, .bool (Lib.cut s.data.toList sep.data.toList).2.2] ∧ ∃ (n : Nat) (τ : Nat → Question → Nat), w' = (x.w.re τ 0).drewN n) plain_try Tryz.func87 rfl (fun τ => (Tryz.strings_Cut s sep m (x.w.re τ 0) hs hm).mono ?_) fun v w' hp τ d => ?_
      · rintro e w' ⟨rfl, n, rfl⟩
        exact ⟨_, rfl, rfl, n, τ, rfl⟩
      · obtain ⟨rfl, n, τ', rfl⟩ := hp
        refine ⟨x.grow _, rfl, rfl, rel_grow hR (Nat.le_refl _) ⟨rfl, rfl⟩ fun _ _ => rfl, mono_grow hR (Nat.le_refl _) ⟨rfl, rfl⟩ fun _ _ => rfl, .tup rfl fun j c hc => ?_⟩
        match j, hc with
        | 0, hc => cases hc; exact .val rfl
        | 1, hc => cases hc; exact .val rfl
        | 2, hc => cases hc; exact .val rfl
    · cases h
  · cases h
def splitSD : DV → DV → Option DV
  | .val (.string s), .val (.string sep) => if s.size < 4294967281 ∧ 1 ≤ sep.size then
      some (.sl ((Lib.splitB sep 0 (Lib.countB s sep) s).map fun b => .val (.string b)) none ⟨false, none⟩) else none
  | _, _ => none
theorem split_known {a b d : DV} (h : splitSD a b = some d) {vals : Array Value} (hR : Rel x) (ha : RVs x [a, b] vals) : EnterOK Tryz.prog Final x 119 vals fun y u => y.S = x.S ∧ Rel y ∧ Mono x y ∧ RV y d u := by
  unfold splitSD at h
  split at h
  · rename_i s sep
    split at h
    · rename_i hs
      cases h
      obtain ⟨u, v, rfl, h1, h2⟩ := two_vals ha
      cases rv_val h1
      cases rv_val h2
      obtain ⟨m, hm⟩ := hR.glob.2.2
      have hle := Lib.countB_le sep hs.2 s.size s (Nat.le_refl _)
      have hlen := Lib.splitB_all sep hs.2 0 _ s rfl
      generalize hps : Lib.splitB sep 0 (Lib.countB s sep) s = ps at hlen
      refine enter_calls (R := fun v w' => v = .slice (some ⟨x.w.heap.size, 0, none⟩) ps.length ps.length ∧ ∃ τ, w' = (x.w.re τ 0).alloc (.cells (ps.map Value.string).toArray 9)) plain_try Tryz.func119 rfl (fun τ => (Tryz.strings_Split s sep m (x.w.re τ 0) hs.1 hm hs.2).mono ?_) fun v w' hp τ d => ?_
      · rintro e w' ⟨rfl, rfl⟩
        rw [hps]
        exact ⟨_, rfl, by rw [hlen]; rfl, τ, rfl⟩
      · obtain ⟨rfl, τ', rfl⟩ := hp
        have p4 : (((x.w.re τ' 0).alloc (.cells (ps.map Value.string).toArray 9)).re τ d).ownsRow x.w.heap.size 9 1 (.slice (some ⟨x.w.heap.size, 0, none⟩) ps.length ps.length) ps.length (ps.map Value.string) := by
          refine ⟨by simp, .inr ⟨x.w.heap.size, ps.length, (ps.map Value.string).toArray, rfl, Nat.le_refl _, ?_, Nat.le_refl _, ?_, by simp, by rw [Nat.mul_one]; exact List.take_of_length_le (by simp)⟩⟩
          · exact heap_alloc_new (x.w.re τ' 0) _
          · have := hle; rw [hlen]; unfold maxLen; omega
        have p1 : x.w.heap.size ≤ (((x.w.re τ' 0).alloc (.cells (ps.map Value.string).toArray 9)).re τ d).heap.size := by
          show _ ≤ ((x.w.re τ' 0).alloc _).heap.size
          simp [World.re]
        have p3 : ∀ b, b < x.w.heap.size → (((x.w.re τ' 0).alloc (.cells (ps.map Value.string).toArray 9)).re τ d).heap[b]? = x.w.heap[b]? := fun b hb => Below.heap_alloc (x.w.re τ' 0) _ b hb
        refine ⟨x.rowed _ _ (ps.length * 1), rfl, rfl, rel_rowed hR p1 ⟨rfl, rfl⟩ p3 p4, mono_rowed hR p1 ⟨rfl, rfl⟩ p3 p4, rv_rowed (by simp) (fun r hr => ?_) ?_ (fun u hu => ?_) p4⟩
        · obtain ⟨m, -, rfl⟩ := List.mem_map.1 hr; rfl
        · have := flat_vals (ps.map Value.string)
          simpa only [List.map_map, Function.comp_def] using this
        · obtain ⟨m, -, rfl⟩ := List.mem_map.1 hu
          exact ⟨rfl, rfl⟩
    · cases h
  · cases h
end Go.Di
end
section
namespace Go.Di
open Go Go.Conc Go.Co Go.Proofs Go.RowKit
variable {P : Program} {Final : Machine → Trace → Prop} {ty : Tys} {iso : IsoF} {call : CallF} {yf : YldF} {x : Cx}
def lft : Code → Code
  | .seq a _ => a
  | _ => .skip
def rgt : Code → Code
  | .seq _ b => b
  | _ => .skip
def seqs : List Code → Code → Code
  | [], r => r
  | c :: l, r => .seq c (seqs l r)
theorem chain_ok (hP : Plain P) (hc : CallOK P Final call) (hreg : ∀ id ops draw, RegOK P Final ty iso call yf id ops draw) {L : Nat} {fn : FuncId} {n0 : Nat} {b : Frame} {cs : List Frame} (hk : b.kind ≠ .early) (hfn : b.fn = fn) (hrd : b.roundOf = none) :
    ∀ (pre : List Code) (rest : Code) {k : List Item} {env env' : List DV} {S' : Store} {a : Act} {x : Cx} {ds : List Nat}, codeD P ty iso call yf L fn false (seqs pre .skip) env x.S = some (.normal, env', S') → Rel x → RVs x env a.tmps → DefOK n0 x ds a.defers → n0 ≤ x.S.length →
      (∀ y a' ds', y.S = S' → Rel y → Mono x y → RVs y env' a'.tmps → DefOK n0 y ds' a'.defers → KMu P Final () (G (b.atR a' (.code rest :: k)) cs) y.w) → KMu P Final () (G (b.atR a (.code (seqs pre rest) :: k)) cs) x.w
  | [], rest, k, env, env', S', a, x, ds, h, hR, he, hd, hn0, hn => by
    simp only [seqs, codeD, Option.some.injEq, Prod.mk.injEq, true_and] at h
    obtain ⟨rfl, rfl⟩ := h
    exact hn x a ds rfl hR (Mono.refl x) he hd
  | c :: pre, rest, k, env, env', S', a, x, ds, h, hR, he, hd, hn0, hn => by
    simp only [seqs, codeD] at h
    split at h
    · rename_i e1 s1 h1
      refine mu_ctl hP (fun w => ⟨_, rG_seq⟩) ?_
      refine codeD_ok (rnd := false) hP hc hk hfn (fun _ => hrd) c (regs_all hreg c) h1 hR he hd hn0 fun y a' ds' q1 q2 q3 q4 q5 => ?_
      subst q1
      exact chain_ok hP hc hreg hk hfn hrd pre rest h q2 q4 q5 (Nat.le_trans hn0 q3.len) fun z a'' ds'' r1 r2 r3 r4 r5 => hn z a'' ds'' r1 r2 (q3.trans r3) r4 r5
    · rename_i r hne
      exact absurd h (hne _ _)
def pmD1 : DV → Option PM
  | .agg [.sl u _ _, .sl l _ _, .val (.int .i64 w), .sl q _ _] => match intsD u, intsD l, intsD q with
    | some u, some l, some q => some ⟨u, l, w, q⟩
    | _, _, _ => none
  | _ => none
def pmsD : List DV → Option (List PM)
  | [] => some []
  | d :: l => match pmD1 d, pmsD l with
    | some p, some r => some (p :: r)
    | _, _ => none
theorem pmsD_get : ∀ {l : List DV} {ps : List PM}, pmsD l = some ps → ps.length = l.length ∧ ∀ (j : Nat) (p : PM), ps[j]? = some p → ∃ d, l[j]? = some d ∧ pmD1 d = some p
  | [], ps, h => by cases h; simp
  | d :: l, ps, h => by
    unfold pmsD at h
    split at h
    · rename_i p r h1 h2
      cases h
      obtain ⟨h3, h4⟩ := pmsD_get h2
      refine ⟨by simp [h3], fun j q hq => ?_⟩
      cases j with
      | zero => simp only [List.getElem?_cons_zero, Option.some.injEq] at hq; subst hq; exact ⟨d, rfl, h1⟩
      | succ j => simpa using h4 j q (by simpa using hq)
    · cases h
theorem ints_rv {r : List DV} {t : Option Nat} {f : SF} {v : Value} {l : List Int} (h : RV x (.sl r t f) v) (hl : intsD r = some l) : ∃ A c, v = .slice A l.length c ∧ HasInts x.w A l := by
  obtain ⟨h1, h2, h3⟩ := intsD_get hl
  cases h with
  | @sl _ _ _ A cap s vs hv hr k1 k2 k3 k4 k5 =>
    refine ⟨A, cap, by rw [h1], fun hne => ?_⟩
    have hpos : 0 < l.length := List.length_pos_iff.2 hne
    have hc : ∀ j, j < l.length → (flat r)[j]? = some (.val (.int .i64 (l.getD j 0))) := fun j hj => by
      rw [h3]
      refine h2 j _ ?_
      simp [List.getD_eq_getElem?_getD, hj]
    obtain ⟨-, b, o, q1, -, -⟩ := hv.2 0 _ (hc 0 hpos)
    refine ⟨b, o, q1, fun j hj => ?_⟩
    obtain ⟨-, b', o', q2, q3, q4⟩ := hv.2 j _ (hc j hj)
    rw [q1] at q2
    cases q2
    have := hr j _ (hc j hj)
    generalize vs j = u at *
    cases this with
    | val _ => exact q4
theorem pieces_rv {r : List DV} {t : Option Nat} {f : SF} {v : Value} {ps : List PM} (h : RV x (.sl r t f) v) (hl : pmsD r = some ps) : ∃ A c, v = .slice A ps.length c ∧ HasPieces x.w A ps := by
  obtain ⟨h1, h2⟩ := pmsD_get hl
  cases h with
  | @sl _ _ _ A cap s vs hv hr k1 k2 k3 k4 k5 =>
    refine ⟨A, cap, by rw [h1], fun hne => ?_⟩
    have key : ∀ j p, ps[j]? = some p → ∃ b o, A = some ⟨b, o, none⟩ ∧ HasPiece x.w b (o + j * 4) p := fun j p hp => by
      obtain ⟨d, hd, hpd⟩ := h2 j p hp
      unfold pmD1 at hpd
      split at hpd
      · rename_i u tu fu l tl fl w q tq fq
        split at hpd
        · rename_i u' l' q' hu hl' hq
          cases hpd
          have hs : s = 4 := by
            have := hv.1 _ (List.mem_of_getElem? hd)
            simpa [DV.cells] using this.symm
          subst hs
          have hg : ∀ i, i < 4 → (flat r)[j * 4 + i]? = [.sl u tu fu, .sl l tl fl, .val (.int .i64 w), .sl q tq fq][i]? := fun i hi => flat_get hv.1 hd hi
          obtain ⟨-, b, o, a0, -, m0⟩ := hv.2 _ _ (hg 0 (by omega))
          obtain ⟨-, b1, o1, a1, -, m1⟩ := hv.2 _ _ (hg 1 (by omega))
          obtain ⟨-, b2, o2, a2, -, m2⟩ := hv.2 _ _ (hg 2 (by omega))
          obtain ⟨-, b3, o3, a3, -, m3⟩ := hv.2 _ _ (hg 3 (by omega))
          rw [a0] at a1 a2 a3
          cases a1; cases a2; cases a3
          obtain ⟨A0, c0, e0, i0⟩ := ints_rv (hr _ _ (hg 0 (by omega))) hu
          obtain ⟨A1, c1, e1, i1⟩ := ints_rv (hr _ _ (hg 1 (by omega))) hl'
          obtain ⟨A3, c3, e3, i3⟩ := ints_rv (hr _ _ (hg 3 (by omega))) hq
          have e2 := rv_val (hr _ _ (hg 2 (by omega)))
          rw [e0] at m0; rw [e1] at m1; rw [e2] at m2; rw [e3] at m3
          exact ⟨b, o, a0, A0, c0, A1, c1, A3, c3, ⟨m0, by rw [Nat.add_assoc]; exact m1, by rw [Nat.add_assoc]; exact m2, by rw [Nat.add_assoc]; exact m3⟩, i0, i1, i3⟩
        · cases hpd
      · cases hpd
    obtain ⟨b, o, a0, -⟩ := key 0 _ (List.getElem?_eq_getElem (List.length_pos_iff.2 hne))
    refine ⟨b, o, a0, fun j p hp => ?_⟩
    obtain ⟨b', o', a1, h3⟩ := key j p hp
    rw [a0] at a1
    cases a1
    exact h3
theorem mu_leave0 (hP : Plain P) {b : Frame} {a : Act} {todo : List Item} {c : Frame} {cs : List Frame} {w : World} {fn : Func} {v : Value} (hb : b.kind = .normal) (hd : a.defers = []) (hf : P.funcs[b.fn]? = some fn) (hr : ∀ w, (results fn a.tmps).run P w = .ok v w) (hn : ∀ d, KMu P Final () (G (c.finish v) cs) (w.at d)) : KMu P Final () (G { b.at a todo with mode := .returning } (c :: cs)) w :=
  mu_step hP fun n => by
    obtain ⟨es, hst⟩ := rG_leave (P := P) (b := b) (a := a) (todo := todo) (c := c) (cs := cs) (w := w.at n) hb hd hf (hr _)
    exact ⟨_, _, _, es, hst, hn n⟩
theorem rvs_enter {args : List DV} {vals : Array Value} (ha : RVs x args vals) (n : Nat) : RVs x (args ++ List.replicate (n - args.length) dundef) (vals ++ Array.replicate (n - vals.size) undef) := by
  refine rvs_append ha ⟨by simp [ha.1], fun j c hc => ?_⟩
  rw [List.getElem?_replicate] at hc
  split at hc
  · rename_i hj
    cases hc
    have : j < n - vals.size := by rw [ha.1]; exact hj
    have e : (Array.replicate (n - vals.size) undef).getD j undef = undef := by simp [Array.getD_eq_getD_getElem?, this]
    rw [e]
    exact .val rfl
  · cases hc
theorem defs_nil {ds : List Nat} {l : List Deferred} {n0 : Nat} (h : DefOK n0 x ds l) (hS : x.S = []) : l = [] := by
  obtain ⟨rfl, -, h3⟩ := h
  cases ds with
  | nil => rfl
  | cons i ds =>
    obtain ⟨-, h4, -⟩ := h3 i (by simp)
    rw [hS] at h4
    cases h4
theorem list38 {tm : List Value} (h : tm.length = 38) : ∃ t0 t1 t2 t3 t4 t5 t6 t7 t8 t9 t10 t11 t12 t13 t14 t15 t16 t17 t18 t19 t20 t21 t22 t23 t24 t25 t26 t27 t28 t29 t30 t31 t32 t33 t34 t35 t36 t37, tm = t0 :: t1 :: t2 :: t3 :: t4 :: t5 :: t6 :: t7 :: t8 :: t9 :: t10 :: t11 :: t12 :: t13 :: t14 :: t15 :: t16 :: t17 :: t18 :: t19 :: t20 :: t21 :: t22 :: t23 :: t24 :: t25 :: t26 :: t27 :: t28 :: t29 :: t30 :: t31 :: t32 :: t33 :: t34 :: t35 :: t36 :: t37 :: [] := by
  match tm, h with
  | t0 :: t1 :: t2 :: t3 :: t4 :: t5 :: t6 :: t7 :: t8 :: t9 :: t10 :: t11 :: t12 :: t13 :: t14 :: t15 :: t16 :: t17 :: t18 :: t19 :: t20 :: t21 :: t22 :: t23 :: t24 :: t25 :: t26 :: t27 :: t28 :: t29 :: t30 :: t31 :: t32 :: t33 :: t34 :: t35 :: t36 :: t37 :: [], _ => exact ⟨t0, t1, t2, t3, t4, t5, t6, t7, t8, t9, t10, t11, t12, t13, t14, t15, t16, t17, t18, t19, t20, t21, t22, t23, t24, t25, t26, t27, t28, t29, t30, t31, t32, t33, t34, t35, t36, t37, rfl⟩
noncomputable def y10 : Code := match Tryz.f10.body with
  | some c => c
  | none => .skip
theorem body10 : Tryz.f10.body = some y10 := rfl
theorem y10_eq : y10 = seqs [lft y10, lft (rgt y10)] rest10 := by kernel_rfl
theorem tmps10 : Tryz.f10.ntmps = 38 := by kernel_rfl
theorem res10 : Tryz.f10.results = #[.tmp 2, .tmp 3] := by kernel_rfl
def Behind (y : Cx) (w : World) : Prop := y.w.heap.size ≤ w.heap.size ∧ (w.os = y.w.os ∧ w.output = y.w.output) ∧ ∀ b, b < y.w.heap.size → w.heap[b]? = y.w.heap[b]?
theorem write_bare (hc : CallOK Tryz.prog Final call) (hreg : ∀ id ops draw, RegOK Tryz.prog Final ty iso call yf id ops draw) {L : Nat} {rows : List DV} {tok : Option Nat} {f g : SF} {ps : List PM} (hps : pmsD rows = some ps) (hok : ∀ p ∈ ps, p.Ok) (hlen : ps.length ≤ 1000) {env : List DV}
    (hpre : codeD Tryz.prog ty iso call yf L 10 false (seqs [lft y10, lft (rgt y10)] .skip) ([.sl rows tok f] ++ List.replicate 37 dundef) [] = some (.normal, env, [])) (h0 : env[0]? = some (.sl rows none g)) (hl : env.length = 38)
    (hR : Rel x) (hS : x.S = []) {vals : Array Value} (ha : RVs x [.sl rows tok f] vals) : EnterOK Tryz.prog Final x 10 vals fun y v => Rel y ∧ Mono x y ∧ RV y (.tup [sv (linesB ps), .val (.int .i64 0)]) v := by
  refine ⟨⟨Tryz.f10, y10, Tryz.func10, body10⟩, fun fr cs hn => ?_⟩
  rw [enter_at vals Tryz.func10 body10, ← Frame.atR_of_none (b := base 10) rfl]
  have he := rvs_enter ha Tryz.f10.ntmps
  generalize hA0 : ({ tmps := vals ++ Array.replicate (Tryz.f10.ntmps - vals.size) undef, defers := [] } : Act) = a0
  have he' : RVs x ([.sl rows tok f] ++ List.replicate 37 dundef) a0.tmps := by rw [← hA0]; exact he
  have hd0 : a0.defers = [] := by rw [← hA0]
  rw [y10_eq]
  refine chain_ok (n0 := 0) (ds := []) (b := base 10) (cs := fr :: cs) plain_try hc hreg (by simp [base]) rfl rfl [lft y10, lft (rgt y10)] rest10 (by rw [hS]; exact hpre) hR he' (by rw [hd0]; exact defOK_nil _ _) (Nat.zero_le _) fun y a ds q1 q2 q3 q4 q5 => ?_
  rw [Frame.atR_of_none rfl]
  have hdn := defs_nil q5 q1
  have hsz : a.tmps.size = 38 := q4.1.trans hl
  obtain ⟨A, c, e0, hp⟩ := pieces_rv (q4.2 0 _ h0) hps
  obtain ⟨⟨tm⟩, df⟩ := a
  simp only at hdn hsz e0
  subst hdn
  obtain ⟨t0, t1, t2, t3, t4, t5, t6, t7, t8, t9, t10, t11, t12, t13, t14, t15, t16, t17, t18, t19, t20, t21, t22, t23, t24, t25, t26, t27, t28, t29, t30, t31, t32, t33, t34, t35, t36, t37, rfl⟩ := list38 hsz
  have e0 : t0 = .slice A ps.length c := e0
  subst e0
  have hw := kj_of_wp (Final := Final) (fn := 10) (c := rest10) (w := y.w) (Q0 := fun e a w' => e = .ret ∧ a.tmps.getD 2 undef = .string ⟨(linesB ps).toArray⟩ ∧ a.tmps.getD 3 undef = .int .i64 0 ∧ a.defers = [] ∧ Behind y w') plain_try (Q := fun _ e a w' => e = .ret ∧ a.tmps.getD 2 undef = .string ⟨(linesB ps).toArray⟩ ∧ a.tmps.getD 3 undef = .int .i64 0 ∧ a.defers = [] ∧ Behind y w')
    (fun τ => Code.wp_mono (fun e a w' ⟨h1, h2, h3, h4, h5⟩ => ⟨h1, h2, h3, h4, h5.size, ⟨h5.os, h5.output⟩, h5.block⟩) (Tryz.write_rest A c ps (y.w.re τ 0) t1 t2 t3 t4 t5 t6 t7 t8 t9 t10 t11 t12 t13 t14 t15 t16 t17 t18 t19 t20 t21 t22 t23 t24 t25 t26 t27 t28 t29 t30 t31 t32 t33 t34 t35 t36 t37 hlen hok hp)) (fun e a w' q τ d => q)
  refine hw (base 10) [] (fr :: cs) rfl (by simp [base]) fun γ' e a' w' q => ?_
  obtain ⟨rfl, r2, r3, r4, r5, r6, r7⟩ := q
  intro todo
  refine mu_leave0 (v := .tuple #[.string ⟨(linesB ps).toArray⟩, .int .i64 0]) plain_try rfl r4 Tryz.func10 (fun w => by rw [results_tmp2 res10, r2, r3]) fun d => ?_
  exact hn (y.grow (w'.at d)) _ ⟨rel_grow q2 r5 r6 r7, q3.trans (mono_grow q2 r5 r6 r7), .tup rfl fun j c hc => by
    match j, hc with
    | 0, hc => cases hc; exact .val rfl
    | 1, hc => cases hc; exact .val rfl⟩
end Go.Di
end
