/- The law CutKnown: part 22: Co6r Co6d Co6e. By an AI agent. -/
import Derived.Test.YtadeehilamokkaaGreatDoorPk15
import Derived.Test.YtadeehilamokkaaGreatDoorPk21
import Derived.Conc.AppendEvents3
import Derived.OwnWalk
section
namespace Go.Co
open Go Go.Conc
variable {P : Program} {main : Bool} {K : Gm → Goroutine → World → Prop} {fn : FuncId} {p : Pc} {γ : So} {Q : Gm → Exit → Act → World → Prop} {a : Act} {w : World} {ops : Array Oper} {i : Nat} {rest : List Nat} {o : Oper}
def OwnV (γ : So) (w : World) (B : Nat) (e : TypeId) (size : Nat) (v : Value) (n : Nat) (xs : List Value) : Prop := w.ownsRow B e size v n xs ∧ ∀ b, v.ownBlock = some b → γ.2 b
theorem OwnV.nil (B : Nat) (e : TypeId) (size : Nat) : OwnV γ w B e size (.slice none 0 0) 0 [] := ⟨World.ownsRow_nil _ _ _ _, fun b h => by simp [Value.ownBlock] at h⟩
theorem ownsRow_eq {w w1 : World} {B : Nat} {e : TypeId} {size : Nat} {v : Value} {n : Nat} {xs : List Value} (h : w.ownsRow B e size v n xs) (hb : ∀ b, v.ownBlock = some b → w1.heap[b]? = w.heap[b]?) : w1.ownsRow B e size v n xs := by
  refine ⟨h.1, h.2.imp id fun ⟨g, cap, cur, hv, h0, hg, hr⟩ => ⟨g, cap, cur, hv, h0, ?_, hr⟩⟩
  rw [hb g (by rw [hv]; rfl)]
  exact hg
theorem OwnV.rely {B : Nat} {e : TypeId} {size : Nat} {v : Value} {n : Nat} {xs : List Value} {w1 : World} (h : OwnV γ w B e size v n xs) (r : RlS γ w w1) : OwnV γ w1 B e size v n xs :=
  ⟨ownsRow_eq h.1 fun b hb => r.2.1 b (.inr (h.2 b hb)), h.2⟩
theorem OwnV.kept {B : Nat} {e : TypeId} {size : Nat} {v : Value} {n : Nat} {xs : List Value} {γ' : So} {w' : World} (h : OwnV γ w B e size v n xs) (k : Kept γ w γ' w') : OwnV γ' w' B e size v n xs :=
  ⟨ownsRow_eq h.1 fun b hb => k.blk b (.inr (h.2 b hb)) (h.1.lt b hb).2, fun b hb => k.own b (h.2 b hb)⟩
theorem OwnV.sees {B : Nat} {e : TypeId} {size : Nat} {g n cap : Nat} {xs : List Value} (h : OwnV γ w B e size (.slice (some ⟨g, 0, none⟩) n cap) n xs) {j : Nat} {u : Value} (hu : xs[j]? = some u) : Sees γ w ((⟨g, 0, none⟩ : Addr).add j) u :=
  ⟨.inr (by rw [addBlock]; exact h.2 g rfl), h.1.cells (g := g) rfl j u hu⟩
theorem OwnV.more {B B' : Nat} {e : TypeId} {size : Nat} {v : Value} {n : Nat} {xs : List Value} (h : OwnV γ w B e size v n xs) (hB : B' ≤ B) : OwnV γ w B' e size v n xs :=
  ⟨⟨h.1.1, h.1.2.imp id fun ⟨g, cap, cur, hv, h0, hg⟩ => ⟨g, cap, cur, hv, Nat.le_trans hB h0, hg⟩⟩, h.2⟩
theorem OwnV.ils {B : Nat} {v : Value} {l : List Int} (h : OwnV γ w B 3 1 v l.length (l.map fun x => .int .i64 x)) : Ils γ w v l := by
  rcases h.1.2 with ⟨rfl, h0⟩ | ⟨g, cap, cur, rfl, -, -, -⟩
  · have : l = [] := List.eq_nil_of_length_eq_zero h0
    subst this
    exact ⟨none, 0, rfl, fun i x hx => by simp at hx⟩
  · exact ⟨some ⟨g, 0, none⟩, cap, rfl, fun i x hx => ⟨_, rfl, h.sees (by simp [hx])⟩⟩
theorem Kept.append {γ0 γ' : So} {w0 w' : World} {v : Value} (k : Kept γ0 w0 γ w) (h1 : γ'.1 = γ.1) (h2 : ∀ b, γ.2 b → γ'.2 b) (h3 : w.heap.size ≤ w'.heap.size)
    (h4 : ∀ b, γ.all b → b < w.heap.size → some b ≠ v.ownBlock → w'.heap[b]? = w.heap[b]?) (h5 : w'.os = w.os ∧ w'.output = w.output) (hb : ∀ b, v.ownBlock = some b → w0.heap.size ≤ b) : Kept γ0 w0 γ' w' :=
  ⟨h1.trans k.shr, fun b hb => h2 b (k.own b hb), fun b hall hlt => (h4 b (k.all hall) (Nat.lt_of_lt_of_le hlt k.size) fun e => by have := hb b e.symm; omega).trans (k.blk b hall hlt), Nat.le_trans k.size h3, h5.1.trans k.env.1, h5.2.trans k.env.2⟩
theorem ko_append (C : KC P main K RlG StG) (hp : p ≠ .ret) {s x : Operand} {t e : TypeId} {info : TypeInfo} {z : Value} {size bytes : Nat} {v : Value} {n : Nat} {xs : List Value} {ad : Addr} {m c : Nat} {news : List Value}
    (ho : ops[i]? = some o) (hw : Region.wanted o (yielded ops a.tmps) = true) (hop : o.op = .call { callee := .builtin .append, args := #[s, x], argTypes := #[t, t] })
    (ht : P.underlying t = some (.slice e)) (hi : P.info? e = some info) (hz : info.zero = some z) (hsize : info.size = size) (hby : info.bytes = bytes) (hzs : z.cells.size = size) (hsz : 0 < size)
    (hs : a.eval s = v) (hx : a.eval x = .slice (some ad) m c) {B : Nat} (hB : B ≤ w.heap.size) (hown : OwnV γ w B e size v n xs) (hl : news.length = m * size) (hnews : ∀ (j : Nat) (u : Value), news[j]? = some u → Sees γ w (ad.add j) u) (had : γ.all ad.block) (h1 : ∀ u ∈ news, u.oneCell' = true)
    (h63 : n + m ≤ maxLen) (hbytes : (n + m) * bytes ≤ 140737488355328)
    (h : ∀ v' w' s', s'.1 = γ.1 → (∀ b, γ.2 b → s'.2 b) → w.heap.size ≤ w'.heap.size → (∀ b, γ.all b → b < w.heap.size → some b ≠ v.ownBlock → w'.heap[b]? = w.heap[b]?) → (w'.os = w.os ∧ w'.output = w.output) → OwnV s' w' B e size v' (n + m) (xs ++ news) → KO K fn (p, s') ops rest Q (a.put o.dst v') w') : KO K fn (p, γ) ops (i :: rest) Q a w := by
  refine ko_gen C hp ho hw fun w₁ r => ?_
  have hown1 := hown.rely r
  have hnews1 : ∀ (j : Nat) (u : Value), news[j]? = some u → w₁.cell? (ad.add j) = some u := fun j u hu => ((hnews j u hu).rely r).2
  obtain ⟨v', w', hrun, hown', hg, -⟩ := run_append_own (P := P) (w := w₁) B t o.type e info z size bytes ht hi hz hsize hby hzs hsz v n xs hown1.1 ad m c news hl hnews1 h1 h63 hbytes (Nat.le_trans hB r.1)
  have hev := events_append_where (P := P) w₁ B t o.type e info z size bytes ht hi hz hsize hby v n xs hown1.1 ad m c news hl hnews1 h1 h63 hbytes
  have hO : ∀ b, some b = v.ownBlock → γ.2 b := fun b hb => hown.2 b hb.symm
  have hblk : ∀ b, γ.all b → b < w.heap.size → some b ≠ v.ownBlock → w'.heap[b]? = w.heap[b]? := fun b hb hlt hne => (hg.block b (Nat.lt_of_lt_of_le hlt r.1) hne).trans (r.2.1 b hb)
  have hback : ∀ b, v'.ownBlock = some b → γ.2 b ∨ (w₁.heap.size ≤ b ∧ b < w'.heap.size) := by
    intro b hb
    by_cases hlt : b < w₁.heap.size
    · by_cases hv : some b = v.ownBlock
      · grind
      ·
        left
        subst hsize
        subst hby
        have hsmall : n + m ≤ 9223372036854775807 := by simp only [maxLen] at h63; omega
        rcases hown1.1.2 with ⟨rfl, rfl⟩ | ⟨g, cap, cur, rfl, hbg, hgg, hnc, hcm, hcs, htake⟩
        · by_cases hm : m = 0
          · subst hm
            have hx0 : xs = [] := List.eq_nil_of_length_eq_zero (by simpa using hown1.1.1)
            have hn0 : news = [] := List.eq_nil_of_length_eq_zero (by simpa using hl)
            subst hx0
            subst hn0
            rcases hown'.2 with ⟨rfl, _⟩ | ⟨g, cap, cur, rfl, -, -, -⟩
            · grind
            · have : (Builtin.append_ #[t, t] o.type #[.slice none 0 0, .slice (some ad) 0 c]).run P w₁ = .ok (.slice none 0 0) w₁ := by
                simp [Builtin.append_, run_underlying ht, sizeOf, typeInfo, hi, Builtin.lenOf, Builtin.firstCells, loadCells, loadCellsFrom]
              rw [this] at hrun
              cases hrun
          · have hr := run_append_nil (P := P) w₁ t o.type e info z ht hi hz ad m c news hl hnews1 (by omega) (by omega) (by have hb := hbytes; simp only [Nat.zero_add] at hb; omega)
            rw [hr] at hrun
            cases hrun
            simp [Value.ownBlock] at hb
            omega
        · by_cases hroom : n + m ≤ cap
          · have hfit : n * info.size + news.length ≤ cur.size := by rw [hl, hcs, ← Nat.add_mul]; exact Nat.mul_le_mul_right _ hroom
            have hr := run_append_room (P := P) w₁ t o.type e info ht hi g n cap cur hgg ad m c news hl hnews1 h1 hroom hfit
            rw [hr] at hrun
            cases hrun
            exact absurd hb.symm hv
          · have holds : ∀ (j : Nat) (u : Value), xs[j]? = some u → w₁.cell? ((⟨g, 0, none⟩ : Addr).add j) = some u := hown1.1.cells (g := g) rfl
            have hr := run_append_grow (P := P) w₁ t o.type e info z ht hi hz ⟨g, 0, none⟩ n cap xs hown1.1.1 holds ad m c news hl hnews1 (by omega) (by omega) (growslice_fits (by omega) hbytes)
            rw [hr] at hrun
            cases hrun
            simp [Value.ownBlock] at hb
            omega
    · exact .inr ⟨by omega, (hown'.lt b hb).2⟩
  refine ⟨v', w', (γ.1, fun b => γ.2 b ∨ (w₁.heap.size ≤ b ∧ b < w'.heap.size)), ?_, ⟨rfl, fun b => Iff.rfl, hg.size, fun b hb hn => hg.block b hb fun e => hn (hO b e), hg.tape, hg.os, hg.output, fun e he => ?_⟩, h v' w' _ rfl (fun b hb => .inl hb) (Nat.le_trans r.1 hg.size) hblk ⟨hg.os.trans r.2.2.2.1, hg.output.trans r.2.2.2.2⟩ ⟨hown', hback⟩⟩
  · unfold execOp
    simp only [hop, resolve, invoke, builtin, Sem.run_bind, Sem.run_pure, Result.andThen_ok, List.map_toArray, List.map_cons, List.map_nil, hs, hx, hrun]
  · have he' := mem_listed he
    rw [events_append_op s x t hop hs hx] at he'
    rcases hev e he' with ⟨b, hb, hr⟩ | hm
    · obtain ⟨l, wr, sy⟩ := e
      simp only at hb hr
      subst hb
      refine .inl ⟨b, wr, sy, rfl, fun hwr => ?_, ?_⟩
      · grind
      · rcases hr with ⟨-, h2⟩ | h2
        · rw [h2]; exact had.imp id .inl
        · grind
    · exact .inr hm
open Go.ConcN (sumTo sumTo_upd sumTo_congr le_sumTo upd upd_same upd_ne)
theorem sto_draw (γ : So) (w : World) (d : Nat) : StS γ w γ (w.at d) #[] := ⟨rfl, fun b => ⟨.inl, fun h => h.elim id fun h => absurd h.2 (by have : (w.at d).heap.size = w.heap.size := rfl; omega)⟩, Nat.le_refl _, fun _ _ _ => rfl, rfl, rfl, rfl, by simp⟩
def ordB (ops : Array Oper) : Bool := (List.range ops.size).all fun i => match ops[i]? with | some o => o.after.all fun e => decide (e.on < i) | none => true
theorem ord_of (h : ordB ops = true) (i : Nat) (o : Oper) (ho : ops[i]? = some o) : ∀ e ∈ o.after, e.on < i := by
  intro e he
  have h1 := List.all_eq_true.1 h i (by rw [List.mem_range]; exact (Array.getElem?_eq_some_iff.1 ho).1)
  rw [ho] at h1
  simp only at h1
  obtain ⟨j, hj, rfl⟩ := Array.mem_iff_getElem.1 he
  simpa using Array.all_eq_true.1 h1 j hj
theorem kj_draw (C : KC P main K RlG StG) (hp : p ≠ .ret) (hm : P.follows .mixedOrders = true) {id : Nat} (J : (Nat → Bool) → So → Act → World → Prop)
    (hordB : ordB ops = true)
    (h0 : ∀ w₁, RlS γ w w₁ → J (fun _ => false) γ a (w₁.at (w₁.drawn + 1)))
    (hop : ∀ L γ a w i o, J L γ a w → ops[i]? = some o → L i = false → (∀ e ∈ o.after, Region.binds .any e = true → L e.on = true) →
      ∀ rest, (∀ γ' a' w', J (upd L i true) γ' a' w' → KO K fn (p, γ') ops rest Q a' w') → KO K fn (p, γ) ops (i :: rest) Q a w)
    (hend : ∀ L γ a w, J L γ a w → (∀ i, i < ops.size → L i = true) → Q (p, γ) .normal a w) : KJ K fn (p, γ) (.region id ops true) Q a w := by
  have hord := ord_of hordB
  have key : ∀ (fuel t : Nat) (listed : Array Bool) (γ : So) (a : Act) (w : World), listed.size = ops.size → sumTo ops.size (fun j => if listed.getD j true then 0 else 1) = fuel → J (fun j => listed.getD j false) γ a w →
      KO K fn (p, γ) ops (Region.linearise.go .any ops fuel t listed []) Q a w := by
    intro fuel
    induction fuel with
    | zero =>
      intro t listed γ a w hsz hsum hJ
      refine ko_nil C (hend _ γ a w hJ fun i hi => ?_)
      have h1 := le_sumTo (f := fun j => if listed.getD j true then 0 else 1) hi
      rw [hsum] at h1
      have h2 : listed.getD i true = true := by grind
      simpa [Array.getElem?_eq_getElem (show i < listed.size by omega)] using h2
    | succ fuel ih =>
      intro t listed γ a w hsz hsum hJ
      simp only [Region.linearise.go]
      change KO K fn (p, γ) ops (match (Region.ready .any ops listed)[t % (Region.ready .any ops listed).length]? with
        | some i => Region.linearise.go .any ops fuel (t / (Region.ready .any ops listed).length) (listed.setIfInBounds i true) [i]
        | none => [].reverse) Q a w
      cases hi : (Region.ready .any ops listed)[t % (Region.ready .any ops listed).length]? with
      | none =>
        have hnil : Region.ready .any ops listed = [] := by
          cases hr : Region.ready .any ops listed with
          | nil => rfl
          | cons x xs =>
            rw [hr] at hi
            have hlt : t % (x :: xs).length < (x :: xs).length := Nat.mod_lt _ (by simp)
            simp at hi
            simp at hlt
            omega
        refine ko_nil C (hend _ γ a w hJ fun i hi => ?_)
        induction i using Nat.strongRecOn with
        | ind i ihi =>
          have hil : i < listed.size := by omega
          cases hb : listed.getD i false with
          | true => rfl
          | false =>
            have hmem : i ∈ Region.ready .any ops listed := by
              refine mem_ready.2 ⟨by simpa [Array.getElem?_eq_getElem hil] using hb, ops[i], Array.getElem?_eq_getElem hi, fun e he _ => ?_⟩
              have hlt := hord i _ (Array.getElem?_eq_getElem hi) e he
              exact ihi e.on hlt (by omega)
            rw [hnil] at hmem
            cases hmem
      | some i =>
        simp only []
        rw [linearise_go_acc, List.reverse_singleton, List.singleton_append]
        have hmem := List.mem_of_getElem? hi
        obtain ⟨hun, o, ho, hall⟩ := mem_ready.1 hmem
        have hio : i < ops.size := (Array.getElem?_eq_some_iff.1 ho).1
        have hil : i < listed.size := by omega
        refine hop _ γ a w i o hJ ho (by simpa [Array.getElem?_eq_getElem hil] using hun) (fun e he hb => hall e he hb) _ fun γ' a' w' hJ' => ih _ _ γ' a' w' (by simpa using hsz) ?_ ?_
        · have h1 := sumTo_upd (fun j => listed.getD j true) true (fun b => if b then 0 else 1) hio
          rw [hun] at h1
          simp only [if_true, Bool.false_eq_true, if_false] at h1
          have h2 : sumTo ops.size (fun j => if (listed.setIfInBounds i true).getD j true then 0 else 1) = sumTo ops.size fun j => if upd (fun j => listed.getD j true) i true j then 0 else 1 := by
            refine sumTo_congr fun j _ => ?_
            by_cases hji : j = i
            · subst hji
              rw [upd_same]
              simp [Array.getElem?_setIfInBounds_self_of_lt hil]
            · rw [upd_ne _ _ hji, getD_set_ne true (Ne.symm hji)]
          rw [h2]
          omega
        · have h2 : (fun j => (listed.setIfInBounds i true).getD j false) = upd (fun j => listed.getD j false) i true := by
            funext j
            by_cases hji : j = i
            · subst hji
              rw [upd_same]
              simp [Array.getElem?_setIfInBounds_self_of_lt hil]
            · rw [upd_ne _ _ hji, getD_set_ne false (Ne.symm hji)]
          rw [h2]
          exact hJ'
  intro b k cs hb hk hc
  refine C.step _ _ _ _ fun w1 r => ?_
  have hgo := stepG_region_draw (P := P) (main := main) (b := b) (a := a) (k := k) (cs := cs) (w := w1) (id := id) (ops := ops)
  simp only [Region.schedule, hm, Bool.true_or, if_true] at hgo
  refine ⟨_, _, _, _, (p, γ), hgo, stg hp (sto_draw γ w1 _), ?_⟩
  refine key ops.size _ _ γ a _ (by simp) ?_ ?_ b k cs hb hk hc
  · clear key h0 hop hend hord hordB
    have : ∀ n, n ≤ ops.size → sumTo n (fun j => if (Array.replicate ops.size false).getD j true then 0 else 1) = n := by
      intro n
      induction n with
      | zero => intro _; rfl
      | succ n ih =>
        intro hn
        simp only [sumTo]
        rw [ih (by omega)]
        have hlt : n < ops.size := by omega
        simp [hlt]
    exact this _ (Nat.le_refl _)
  · have h3 : (fun j => (Array.replicate ops.size false).getD j false) = fun _ => false := by
      funext j
      by_cases hj : j < ops.size
      · simp [hj]
      · simp [hj]
    rw [h3]
    exact h0 w1 (rlg hp r)
end Go.Co
end
section
namespace Go.Co
open Go Go.Conc Go.Proofs
variable {Final : Machine → Trace → Prop} {main : Bool} {K : Gm → Goroutine → World → Prop} {p : Pc} {γ : So} {w : World}
def fitB (low up : List Int) (wear : Int) (s : Int) : Bool := decide (3 ≤ (sumsM low up s).2.2) && decide ((sumsM low up s).2.1 - (sumsM low up s).1 ≤ wear)
def shN (low up : List Int) (wear : Int) (k : Nat) : List Int := ((List.range k).map fun (j : Nat) => (j : Int) - up.length).filter (fitB low up wear)
def shiftsM (low up : List Int) (wear : Int) : List Int := shN low up wear (up.length + low.length + 1)
theorem shN_succ (low up : List Int) (wear : Int) (k : Nat) : shN low up wear (k + 1) = shN low up wear k ++ if fitB low up wear ((k : Int) - up.length) then [(k : Int) - up.length] else [] := by
  unfold shN
  rw [List.range_succ, List.map_append, List.filter_append]
  congr 1
  simp only [List.map_cons, List.map_nil, List.filter_cons, List.filter_nil]
theorem shN_len (low up : List Int) (wear : Int) (k : Nat) : (shN low up wear k).length ≤ k := by
  unfold shN
  exact Nat.le_trans (List.length_filter_le _ _) (by simp)
theorem smN_bd {low up : List Int} (hlo : Hts low) (hup : Hts up) (s : Int) (k : Nat) : 0 ≤ (smN low up s k).1 ∧ (smN low up s k).1 ≤ 18 ∧ 0 ≤ (smN low up s k).2.1 ∧ (smN low up s k).2.1 ≤ 18 := by
  have hg : ∀ (l : List Int), Hts l → ∀ i, 0 ≤ l.getD i 0 ∧ l.getD i 0 ≤ 9 := by
    intro l h i
    cases hi : l[i]? with
    | none => simp [List.getD, hi]
    | some x =>
      have := h.2 i x hi
      simpa [List.getD, hi] using this
  induction k with
  | zero => simp [smN]
  | succ k ih =>
    rw [smN_succ]
    have h1 := hg up hup k
    have h2 := hg low hlo ((k : Int) + s).toNat
    unfold smS
    split
    · exact ih
    · grind
def fr65 (ua lb : Value) (A B : Option Addr) (ca cb : Nat) (low up : List Int) (wear : Int) (bA bB : Nat) (out : Value) (s : Int) (u : Nat → Value) : Act :=
  ⟨#[.agg #[ua, .slice A low.length ca], .agg #[.slice B up.length cb, lb], .int .i64 wear, .pointer (some ⟨bA, 0, none⟩), .pointer (some ⟨bB, 0, none⟩), u 5, u 6, out, .int .i64 s, u 9, u 10, u 11, u 12, u 13, u 14, u 15, u 16, u 17, u 18, u 19, u 20, u 21, u 22, u 23, u 24, u 25, u 26, u 27, u 28, u 29, u 30, u 31, u 32, u 33, u 34, u 35, u 36, u 37, u 38, u 39, u 40, u 41, u 42, u 43, u 44], []⟩
theorem info3 : (Tryz.prog.info? 3).map (fun i => (i.zero, i.size, i.bytes)) = some (some (.int .i64 0), 1, 8) := by kernel_rfl
theorem mixed : Tryz.prog.follows .mixedOrders = true := by kernel_rfl
abbrev ivs (l : List Int) : List Value := l.map fun x => .int .i64 x
set_option maxRecDepth 100000 in
set_option maxHeartbeats 2000000 in
theorem shifts_k (C : KC Tryz.prog main K RlG StG) (hp : p ≠ .ret) {ua ub la lb : Value} {low up : List Int} (wear : Int) (hl : Ils γ w la low) (hu : Ils γ w ub up) (hlo : Hts low) (hup : Hts up) :
    KCall K Tryz.prog (p, γ) 62 #[.agg #[ua, la], .agg #[ub, lb], .int .i64 wear] w fun γ' v w' => γ'.1 = p ∧ OwnV γ'.2 w' w.heap.size 3 1 v (shiftsM low up wear).length (ivs (shiftsM low up wear)) ∧ Kept γ w γ'.2 w' := by
  obtain ⟨i0, hi, hz0, hz1, hz2⟩ := info_parts info3
  have hlen1 := hlo.1
  have hlen2 := hup.1
  refine kcall_of Tryz.func62 (by rfl) rfl ?_
  simp only [Tryz.ntmps62, List.size_toArray, List.length_cons, List.length_nil, Nat.reduceAdd, Nat.reduceSub, Array.replicate_succ, Array.replicate_zero, List.push_toArray, List.append_toArray, List.nil_append, List.cons_append]
  refine kj_seq C (kj_ra C ?_)
  refine ko_box C hp (ob := ?ob1) rfl (by rfl) (fun w => run_eq_of fun K hK => ?r1) (fun w => ?e1) ?h1
  case r1 => go_simp; exact hK
  case e1 => simp [go_sem]
  intro w1 rw1
  try walk_nrm
  have hk1 := (Kept.rely rw1).trans (Kept.alloc γ w1 w1.heap.size (.cells #[ua, la] 111))
  have ha1 : Sees _ _ ⟨w1.heap.size, 0, none⟩ ua := Sees.fresh (γ := γ) (w := w1) (cs := #[ua, la]) (t := 111) rfl rfl
  have hb1 : Sees _ _ ⟨w1.heap.size, 1, none⟩ la := Sees.fresh (γ := γ) (w := w1) (cs := #[ua, la]) (t := 111) rfl rfl
  refine ko_box C hp (ob := ?ob2) rfl (by rfl) (fun w => run_eq_of fun K hK => ?r2) (fun w => ?e2) ?h2
  case r2 => go_simp; exact hK
  case e2 => simp [go_sem]
  intro w2 rw2
  try walk_nrm
  have hk2' := (Kept.rely rw2).trans (Kept.alloc _ w2 w2.heap.size (.cells #[ub, lb] 111))
  have hk2 := hk1.trans hk2'
  have ha2 := hk2'.sees ha1
  have hb2 := hk2'.sees hb1
  have hc2 : Sees _ _ ⟨w2.heap.size, 0, none⟩ ub := Sees.fresh (γ := γ.more w1.heap.size) (w := w2) (cs := #[ub, lb]) (t := 111) rfl rfl
  have hd2 : Sees _ _ ⟨w2.heap.size, 1, none⟩ lb := Sees.fresh (γ := γ.more w1.heap.size) (w := w2) (cs := #[ub, lb]) (t := 111) rfl rfl
  have hl2 := hk2.ils hl
  have hu2 := hk2.ils hu
  refine ko_pa C ?_
  try walk_nrm
  refine ko_nil C ?_
  co_then
  clear hl hu hk1 hk2' ha1 hb1 rw2 rw1
  generalize (γ.more w1.heap.size).more w2.heap.size = γ2 at *
  generalize w2.alloc (.cells #[ub, lb] 111) = W at *
  generalize w2.heap.size = bB at *
  generalize w1.heap.size = bA at *
  refine kj_seq C (kj_ra C ?_)
  refine ko_pa C ?_
  try walk_nrm
  refine ko_nil C ?_
  co_then
  obtain ⟨A, ca, rfl, hA⟩ := hl2
  obtain ⟨B, cb, rfl, hB⟩ := hu2
  have hwa : IntKind.i64.wrap (0 - (up.length : Int)) = -(up.length : Int) := by rw [wr64] <;> omega
  have hwb : IntKind.i64.wrap (-(up.length : Int)) = -(up.length : Int) := by rw [wr64] <;> omega
  refine kj_seq C (kj_seq C (kj_ra C ?_))
  refine ko_pa C ?_
  try walk_nrm
  refine ko_sa C hp hc2 ?_
  try walk_nrm
  refine ko_pa C ?_
  try walk_nrm
  refine ko_pure C (v := ?v8) rfl (by rfl) (fun w => run_eq_of fun K hK => ?r8) (fun w => ?e8) ?h8
  case r8 => go_simp; exact hK
  case e8 => simp [go_sem, Op.unary]
  try walk_nrm
  refine ko_pa C ?_
  try walk_nrm
  refine ko_nil C ?_
  co_then
  refine kj_block C ?_
  clear hwa hwb
  refine kj_loopN C (fun n γ' a w' => ∃ γ3, γ' = (p, γ3) ∧ Kept γ2 W γ3 w' ∧ ∃ k out, k ≤ up.length + low.length + 1 ∧ n = up.length + low.length + 1 - k ∧ OwnV γ3 w' W.heap.size 3 1 out (shN low up wear k).length (ivs (shN low up wear k)) ∧ ∃ u, a = fr65 ua lb A B ca cb low up wear bA bB out ((k : Int) - up.length) u) (n := up.length + low.length + 1) ⟨γ2, rfl, Kept.refl _ _, 0, .slice none 0 0, by omega, by omega, OwnV.nil _ _ _, ex_u (by
    have : ((0 : Nat) : Int) - (up.length : Int) = -(up.length : Int) := by omega
    rw [this]
    rfl)⟩ ?_
  rintro n γ' a w' ⟨γ3, hγ, hk3, k, out, hk, hn, hown, u, ha⟩
  subst hγ
  unfold fr65 at ha
  subst ha
  have hbase : W.heap.size ≤ w'.heap.size := hk3.size
  have hb3 := hk3.sees hb2
  have ha3 := hk3.sees ha2
  have hc3 := hk3.sees hc2
  have hd3 := hk3.sees hd2
  refine kj_seq C (kj_seq C (kj_ra C ?_))
  by_cases hlt : k < up.length + low.length + 1
  · have hd3' : decide ((k : Int) - (up.length : Int) ≤ (low.length : Int)) = true := by simp; omega
    refine ko_pa C ?_
    try walk_nrm
    refine ko_pa C ?_
    try walk_nrm
    refine ko_sa C hp hb3 ?_
    try walk_nrm
    refine ko_pa C ?_
    try walk_nrm
    refine ko_pa C ?_
    try walk_nrm
    refine ko_nil C ?_
    co_then
    refine kj_cond C (t := true) rfl ?_
    simp only [if_true]
    refine kj_skip C ?_
    co_then
    refine kj_seq C (kj_block C (kj_seq C (kj_ra C ?_)))
    refine ko_see C hp (v := ?v15) rfl (by rfl) (fun w₁ h₁ => ⟨run_eq_of fun K hK => ?r15, ?e15⟩) ?h15
    case r15 => have hc := (Sees.rely ha3 h₁).2; have hd := (Sees.rely hb3 h₁).2; go_simp; exact hK
    case e15 =>
      have hc := (Sees.rely ha3 h₁).2
      have hd := (Sees.rely hb3 h₁).2
      intro e he
      simp [go_sem, hc, hd] at he
      rcases he with rfl | rfl
      · exact (Sees.rely ha3 h₁).evo
      · exact (Sees.rely hb3 h₁).evo
    try walk_nrm
    refine ko_see C hp (v := ?v16) rfl (by rfl) (fun w₁ h₁ => ⟨run_eq_of fun K hK => ?r16, ?e16⟩) ?h16
    case r16 => have hc := (Sees.rely hc3 h₁).2; have hd := (Sees.rely hd3 h₁).2; go_simp; exact hK
    case e16 =>
      have hc := (Sees.rely hc3 h₁).2
      have hd := (Sees.rely hd3 h₁).2
      intro e he
      simp [go_sem, hc, hd] at he
      rcases he with rfl | rfl
      · exact (Sees.rely hc3 h₁).evo
      · exact (Sees.rely hd3 h₁).evo
    try walk_nrm
    refine ko_pa C ?_
    try walk_nrm
    refine ko_call C rfl (by rfl) rfl (Post := fun γ' v w'' => γ'.1 = p ∧ v = Tri (sumsM low up ((k : Int) - up.length)) ∧ Kept γ3 w' γ'.2 w'') ?_ ?_
    · simp only [List.map_toArray, List.map_cons, List.map_nil]
      exact sums_k C hp ((k : Int) - up.length) ⟨A, ca, rfl, fun i x hx => by obtain ⟨ad, h1, h2⟩ := hA i x hx; exact ⟨ad, h1, hk3.sees h2⟩⟩ ⟨B, cb, rfl, fun i x hx => by obtain ⟨ad, h1, h2⟩ := hB i x hx; exact ⟨ad, h1, hk3.sees h2⟩⟩ hlo hup
    rintro ⟨p', γ4⟩ v4 w4 ⟨hp4, hv4, hk4⟩
    simp only at hp4 hk4
    subst p'
    have hnum := smN_num low up ((k : Int) - up.length) up.length
    have hbd := smN_bd hlo hup ((k : Int) - up.length) up.length
    have hfit := shN_succ low up wear k
    have hlen := shN_len low up wear k
    have hfb : fitB low up wear ((k : Int) - up.length) = (decide (3 ≤ (smN low up ((k : Int) - up.length) up.length).2.2) && decide ((smN low up ((k : Int) - up.length) up.length).2.1 - (smN low up ((k : Int) - up.length) up.length).1 ≤ wear)) := rfl
    unfold sumsM Tri at hv4
    generalize smN low up ((k : Int) - up.length) up.length = st at *
    obtain ⟨r1, r2, r3⟩ := st
    simp only at hv4 hnum hbd hfb
    subst hv4
    have hw4 : IntKind.i64.wrap (r2 - r1) = r2 - r1 := by rw [wr64] <;> omega
    have hw5 : IntKind.i64.wrap ((k : Int) - (up.length : Int) + 1) = (k : Int) - (up.length : Int) + 1 := by rw [wr64] <;> omega
    have hcast : ((k + 1 : Nat) : Int) - (up.length : Int) = (k : Int) - (up.length : Int) + 1 := by omega
    have hk5 := hk3.trans hk4
    have hown4 := hown.kept hk4
    have hbase4 : W.heap.size ≤ w4.heap.size := Nat.le_trans hbase hk4.size
    try walk_nrm
    clear hb3 ha3 hc3 hd3 hd3' hk4 hown hk3 hbase
    refine ko_pa C ?_
    try walk_nrm
    refine ko_pa C ?_
    try walk_nrm
    refine ko_pa C ?_
    try walk_nrm
    refine ko_pa C ?_
    try walk_nrm
    refine ko_pa C ?_
    try walk_nrm
    refine ko_pa C ?_
    try walk_nrm
    refine ko_pa C ?_
    try walk_nrm
    refine ko_nil C ?_
    co_then
    refine kj_seq C (kj_ra C ?_)
    by_cases c1 : 3 ≤ r3
    · have hd4 : decide (3 ≤ r3) = true := by simpa using c1
      by_cases c2 : r2 - r1 ≤ wear
      · have hd5 : decide (r2 - r1 ≤ wear) = true := by simpa using c2
        refine ko_pa C ?_
        try walk_nrm
        refine ko_pa C ?_
        try walk_nrm
        refine ko_pa C ?_
        try walk_nrm
        refine ko_pa C ?_
        try walk_nrm
        refine ko_pa C ?_
        try walk_nrm
        refine ko_pa C ?_
        try walk_nrm
        refine ko_pa C ?_
        try walk_nrm
        refine ko_pa C ?_
        try walk_nrm
        refine ko_pa C ?_
        try walk_nrm
        refine ko_nil C ?_
        co_then
        refine kj_cond C (t := true) rfl ?_
        simp only [if_true]
        refine kj_ra C ?_
        refine ko_pa C ?_
        try walk_nrm
        refine ko_pa C ?_
        try walk_nrm
        refine ko_lit C hp (ob := ?ob36) (n := 1) rfl (by rfl) (fun w => run_eq_of fun K hK => ?r36) (fun w => ?e36) ?h36
        case r36 => go_simp; exact hK
        case e36 => simp [go_sem]
        intro w5 rw5
        try walk_nrm
        have hk6 := (Kept.rely rw5).trans (Kept.alloc γ4 w5 w5.heap.size (.cells #[.int .i64 ((k : Int) - up.length)] 3))
        have hs6 : Sees _ _ ⟨w5.heap.size, 0, none⟩ (.int .i64 ((k : Int) - up.length)) := Sees.fresh (γ := γ4) (w := w5) (cs := #[.int .i64 ((k : Int) - up.length)]) (t := 3) rfl rfl
        have hown6 := hown4.kept hk6
        have hk7 := hk5.trans hk6
        have hB6 : W.heap.size ≤ (w5.alloc (.cells #[.int .i64 ((k : Int) - up.length)] 3)).heap.size := Nat.le_trans hbase4 hk6.size
        generalize w5.alloc (.cells #[.int .i64 ((k : Int) - up.length)] 3) = w6 at *
        generalize γ4.more w5.heap.size = γ6 at *
        generalize w5.heap.size = b6 at *
        refine ko_append C hp (B := W.heap.size) (news := [.int .i64 ((k : Int) - up.length)]) (m := 1) (c := 1) (ad := ⟨b6, 0, none⟩) (n := (shN low up wear k).length) (xs := ivs (shN low up wear k)) (v := out) rfl (by rfl) rfl Tryz.underlying23 hi hz0 hz1 hz2 rfl (by decide) rfl rfl hB6 hown6 rfl (fun j u hu => ?_) hs6.1 (by simp [Value.oneCell']) (by simp only [maxLen]; omega) (by omega) ?_
        · cases j with
          | zero => simp at hu; subst hu; exact hs6
          | succ j => simp at hu
        intro v7 w7 γ7 hg1 hg2 hg3 hg4 hg5 hown7
        have hk8 := hk7.append hg1 hg2 hg3 hg4 hg5 (v := out) (fun b hb => (hown6.1.lt b hb).1)
        try walk_nrm
        refine ko_pa C ?_
        try walk_nrm
        refine ko_nil C ?_
        co_then
        refine kj_ra C ?_
        refine ko_pa C ?_
        try walk_nrm
        refine ko_pa C ?_
        try walk_nrm
        refine ko_pa C ?_
        try walk_nrm
        refine ko_nil C (then_normal ?_)
        refine ⟨up.length + low.length + 1 - (k + 1), by omega, γ7, rfl, hk8, k + 1, v7, by omega, rfl, (by rw [hfit, hfb, hd4, hd5]; simpa using hown7), ex_u ?_⟩
        rw [hcast]
        rfl
      · have hd5 : decide (r2 - r1 ≤ wear) = false := by simpa using c2
        refine ko_pa C ?_
        try walk_nrm
        refine ko_pa C ?_
        try walk_nrm
        refine ko_pa C ?_
        try walk_nrm
        refine ko_pa C ?_
        try walk_nrm
        refine ko_pa C ?_
        try walk_nrm
        refine ko_pa C ?_
        try walk_nrm
        refine ko_pa C ?_
        try walk_nrm
        refine ko_pa C ?_
        try walk_nrm
        refine ko_pa C ?_
        try walk_nrm
        refine ko_nil C ?_
        co_then
        refine kj_cond C (t := false) rfl ?_
        simp only [Bool.false_eq_true, if_false]
        refine kj_skip C ?_
        co_then
        refine kj_ra C ?_
        refine ko_pa C ?_
        try walk_nrm
        refine ko_pa C ?_
        try walk_nrm
        refine ko_pa C ?_
        try walk_nrm
        refine ko_nil C (then_normal ?_)
        refine ⟨up.length + low.length + 1 - (k + 1), by omega, γ4, rfl, hk5, k + 1, out, by omega, rfl, (by rw [hfit, hfb, hd4, hd5]; simpa using hown4), ex_u ?_⟩
        rw [hcast]
        rfl
    · have hd4 : decide (3 ≤ r3) = false := by simpa using c1
      refine ko_pa C ?_
      try walk_nrm
      refine ko_pa C ?_
      try walk_nrm
      refine ko_pa C ?_
      try walk_nrm
      refine ko_unwanted C rfl (by rfl) ?_
      try walk_nrm
      refine ko_unwanted C rfl (by rfl) ?_
      try walk_nrm
      refine ko_unwanted C rfl (by rfl) ?_
      try walk_nrm
      refine ko_unwanted C rfl (by rfl) ?_
      try walk_nrm
      refine ko_unwanted C rfl (by rfl) ?_
      try walk_nrm
      refine ko_pa C ?_
      try walk_nrm
      refine ko_nil C ?_
      co_then
      refine kj_cond C (t := false) rfl ?_
      simp only [Bool.false_eq_true, if_false]
      refine kj_skip C ?_
      co_then
      refine kj_ra C ?_
      refine ko_pa C ?_
      try walk_nrm
      refine ko_pa C ?_
      try walk_nrm
      refine ko_pa C ?_
      try walk_nrm
      refine ko_nil C (then_normal ?_)
      refine ⟨up.length + low.length + 1 - (k + 1), by omega, γ4, rfl, hk5, k + 1, out, by omega, rfl, (by rw [hfit, hfb, hd4]; simpa using hown4), ex_u ?_⟩
      rw [hcast]
      rfl
  · have hke : k = up.length + low.length + 1 := by omega
    subst hke
    have hd3' : decide (((up.length + low.length + 1 : Nat) : Int) - (up.length : Int) ≤ (low.length : Int)) = false := by simp; omega
    generalize hsv : ((up.length + low.length + 1 : Nat) : Int) - (up.length : Int) = sv at *
    refine ko_pa C ?_
    try walk_nrm
    refine ko_pa C ?_
    try walk_nrm
    refine ko_sa C hp hb3 ?_
    try walk_nrm
    refine ko_pa C ?_
    try walk_nrm
    refine ko_pa C ?_
    try walk_nrm
    refine ko_nil C ?_
    co_then
    refine kj_cond C (t := false) rfl ?_
    simp only [Bool.false_eq_true, if_false]
    refine kj_exit C ?_
    co_then
    refine kj_seq C (kj_ra C ?_)
    refine ko_pa C ?_
    try walk_nrm
    refine ko_pa C ?_
    try walk_nrm
    refine ko_nil C ?_
    co_then
    refine kj_ret C ?_
    have hfin : OwnV γ3 w' w.heap.size 3 1 out (shiftsM low up wear).length (ivs (shiftsM low up wear)) := hown.more hk2.size
    exact ⟨rfl, out, resultsC_tmp Tryz.results62 _, rfl, hfin, hk2.trans hk3⟩
end Go.Co
end
section
namespace Go.Co
open Go Go.Conc Go.Proofs
open Go.ConcN (upd upd_same upd_ne)
variable {Final : Machine → Trace → Prop} {main : Bool} {K : Gm → Goroutine → World → Prop} {p : Pc} {γ : So} {w : World}
structure Wk where
  lies : List Int
  wear : Int
  up : Nat → List Int
  lo : Nat → List Int
structure Wk.ok (d : Wk) : Prop where
  few : d.lies.length ≤ 1000
  lies : ∀ (i : Nat) (x : Int), d.lies[i]? = some x → 0 ≤ x ∧ x ≤ 3
  wear : 0 ≤ d.wear ∧ d.wear ≤ 1000
  up : ∀ i, Hts (d.up i)
  lo : ∀ i, Hts (d.lo i)
structure WorkAt (γ : So) (w : World) (b : Nat) (d : Wk) : Prop where
  wear : Sees γ w ⟨b, 2, none⟩ (.int .i64 d.wear)
  lies : ∃ v, Sees γ w ⟨b, 3, none⟩ v ∧ Ils γ w v d.lies
  up : ∀ i, i < 4 → ∃ v, Sees γ w ⟨b, 4 + i * 2, none⟩ v ∧ Ils γ w v (d.up i)
  lo : ∀ i, i < 4 → ∃ v, Sees γ w ⟨b, 4 + i * 2 + 1, none⟩ v ∧ Ils γ w v (d.lo i)
theorem WorkAt.kept {b : Nat} {d : Wk} {γ' : So} {w' : World} (h : WorkAt γ w b d) (k : Kept γ w γ' w') : WorkAt γ' w' b d :=
  ⟨k.sees h.wear, h.lies.imp fun _ ⟨h1, h2⟩ => ⟨k.sees h1, k.ils h2⟩, fun i hi => (h.up i hi).imp fun _ ⟨h1, h2⟩ => ⟨k.sees h1, k.ils h2⟩, fun i hi => (h.lo i hi).imp fun _ ⟨h1, h2⟩ => ⟨k.sees h1, k.ils h2⟩⟩
def seamV (x y s : Int) : Value := .agg #[.int .i64 x, .int .i64 y, .int .i64 s]
def seamsXY (a b : Wk) (x y : Int) : List Int := shiftsM (a.lo x.toNat) (b.up y.toNat) (a.wear + b.wear)
def msgs (a b : Wk) (x : Int) (ys : List Int) : List Value := ys.flatMap fun y => (seamsXY a b x y).map fun s => seamV x y s
theorem wk_ne {cf cl : Nat} {tv : Value} (vs : List Value) : wk cf cl tv vs ≠ .ret ∧ wk cf cl tv vs ≠ .stop := by cases vs <;> simp [wk]
theorem array46 (T : Array Value) (h : T.size = 46) : ∃ v0 v1 v2 v3 v4 v5 v6 v7 v8 v9 v10 v11 v12 v13 v14 v15 v16 v17 v18 v19 v20 v21 v22 v23 v24 v25 v26 v27 v28 v29 v30 v31 v32 v33 v34 v35 v36 v37 v38 v39 v40 v41 v42 v43 v44 v45 : Value, T = #[v0, v1, v2, v3, v4, v5, v6, v7, v8, v9, v10, v11, v12, v13, v14, v15, v16, v17, v18, v19, v20, v21, v22, v23, v24, v25, v26, v27, v28, v29, v30, v31, v32, v33, v34, v35, v36, v37, v38, v39, v40, v41, v42, v43, v44, v45] := by
  obtain ⟨l⟩ := T
  simp only [List.size_toArray] at h
  rcases l with _ | ⟨v0, l⟩
  · simp at h
  rcases l with _ | ⟨v1, l⟩
  · simp at h
  rcases l with _ | ⟨v2, l⟩
  · simp at h
  rcases l with _ | ⟨v3, l⟩
  · simp at h
  rcases l with _ | ⟨v4, l⟩
  · simp at h
  rcases l with _ | ⟨v5, l⟩
  · simp at h
  rcases l with _ | ⟨v6, l⟩
  · simp at h
  rcases l with _ | ⟨v7, l⟩
  · simp at h
  rcases l with _ | ⟨v8, l⟩
  · simp at h
  rcases l with _ | ⟨v9, l⟩
  · simp at h
  rcases l with _ | ⟨v10, l⟩
  · simp at h
  rcases l with _ | ⟨v11, l⟩
  · simp at h
  rcases l with _ | ⟨v12, l⟩
  · simp at h
  rcases l with _ | ⟨v13, l⟩
  · simp at h
  rcases l with _ | ⟨v14, l⟩
  · simp at h
  rcases l with _ | ⟨v15, l⟩
  · simp at h
  rcases l with _ | ⟨v16, l⟩
  · simp at h
  rcases l with _ | ⟨v17, l⟩
  · simp at h
  rcases l with _ | ⟨v18, l⟩
  · simp at h
  rcases l with _ | ⟨v19, l⟩
  · simp at h
  rcases l with _ | ⟨v20, l⟩
  · simp at h
  rcases l with _ | ⟨v21, l⟩
  · simp at h
  rcases l with _ | ⟨v22, l⟩
  · simp at h
  rcases l with _ | ⟨v23, l⟩
  · simp at h
  rcases l with _ | ⟨v24, l⟩
  · simp at h
  rcases l with _ | ⟨v25, l⟩
  · simp at h
  rcases l with _ | ⟨v26, l⟩
  · simp at h
  rcases l with _ | ⟨v27, l⟩
  · simp at h
  rcases l with _ | ⟨v28, l⟩
  · simp at h
  rcases l with _ | ⟨v29, l⟩
  · simp at h
  rcases l with _ | ⟨v30, l⟩
  · simp at h
  rcases l with _ | ⟨v31, l⟩
  · simp at h
  rcases l with _ | ⟨v32, l⟩
  · simp at h
  rcases l with _ | ⟨v33, l⟩
  · simp at h
  rcases l with _ | ⟨v34, l⟩
  · simp at h
  rcases l with _ | ⟨v35, l⟩
  · simp at h
  rcases l with _ | ⟨v36, l⟩
  · simp at h
  rcases l with _ | ⟨v37, l⟩
  · simp at h
  rcases l with _ | ⟨v38, l⟩
  · simp at h
  rcases l with _ | ⟨v39, l⟩
  · simp at h
  rcases l with _ | ⟨v40, l⟩
  · simp at h
  rcases l with _ | ⟨v41, l⟩
  · simp at h
  rcases l with _ | ⟨v42, l⟩
  · simp at h
  rcases l with _ | ⟨v43, l⟩
  · simp at h
  rcases l with _ | ⟨v44, l⟩
  · simp at h
  rcases l with _ | ⟨v45, l⟩
  · simp at h
  rcases l with _ | ⟨x, l⟩
  · grind
  · simp at h
def val3 (ba bb : Nat) (x y : Int) (ua la ub lb : Value) (wa wb : Int) (m : Nat) (v : Value) : Nat → Value
  | 0 => .int .i64 x
  | 1 => .pointer (some ⟨ba, 4, none⟩)
  | 2 => .pointer (some ⟨ba, 4 + x.toNat * 2, none⟩)
  | 3 => .agg #[ua, la]
  | 4 => .int .i64 y
  | 5 => .pointer (some ⟨bb, 4, none⟩)
  | 6 => .pointer (some ⟨bb, 4 + y.toNat * 2, none⟩)
  | 7 => .agg #[ub, lb]
  | 8 => .pointer (some ⟨ba, 0, none⟩)
  | 9 => .pointer (some ⟨ba, 2, none⟩)
  | 10 => .int .i64 wa
  | 11 => .pointer (some ⟨bb, 0, none⟩)
  | 12 => .pointer (some ⟨bb, 2, none⟩)
  | 13 => .int .i64 wb
  | 14 => .int .i64 (wa + wb)
  | 15 => v
  | 16 => .int .i64 m
  | 17 => .int .i64 0
  | _ => undef
structure St3 (F : Value → Nat → Value) (a0 : Act) (v : Value) (L : Nat → Bool) (a : Act) : Prop where
  defers : a.defers = []
  size : a.tmps.size = 46
  vals : ∀ i, i < 18 → L i = true → a.tmps[17 + i]? = some (F v i)
  old : ∀ s, s < 17 → a.tmps[s]? = a0.tmps[s]?
  len : L 16 = true → L 15 = true
theorem St3.put {F : Value → Nat → Value} {a0 a : Act} {v : Value} {L : Nat → Bool} (h : St3 F a0 v L a) {i : Nat} (hi : i < 18) (h16 : i = 16 → L 15 = true) {u : Value} (hu : u = F v i) : St3 F a0 v (upd L i true) (a.put (some (17 + i)) u) := by
  subst hu
  refine ⟨h.defers, by simp [Act.put, h.size], fun j hj hL => ?_, fun s hs => ?_, fun hL => ?_⟩
  · by_cases hji : j = i
    · subst hji
      simp only [Act.put]
      rw [Array.getElem?_setIfInBounds_self_of_lt (by rw [h.size]; omega)]
    · rw [upd_ne _ _ hji] at hL
      simp only [Act.put]
      rw [Array.getElem?_setIfInBounds_ne (by omega)]
      exact h.vals j hj hL
  · simp only [Act.put]
    rw [Array.getElem?_setIfInBounds_ne (by omega)]
    exact h.old s hs
  · by_cases h1 : i = 16
    · rw [upd_ne _ _ (by omega)]; exact h16 h1
    · rw [upd_ne _ _ (by omega)] at hL
      by_cases h2 : 15 = i
      · rw [h2, upd_same]
      · rw [upd_ne _ _ h2]; exact h.len hL
theorem St3.val {F : Value → Nat → Value} {a0 a : Act} {v v' : Value} {L : Nat → Bool} (h : St3 F a0 v L a) (h15 : L 15 = false) (hF : ∀ i, i ≠ 15 → F v i = F v' i) : St3 F a0 v' L a :=
  ⟨h.defers, h.size, fun i hi hL => by
    have h1 : i ≠ 15 := fun e => by rw [e, h15] at hL; cases hL
    rw [← hF i h1]; exact h.vals i hi hL, h.old, h.len⟩
theorem St3.slot {F : Value → Nat → Value} {a0 a : Act} {v : Value} {L : Nat → Bool} (h : St3 F a0 v L a) {i : Nat} (hi : i < 18) (hL : L i = true) : a.eval (.tmp (17 + i)) = F v i := by
  simp [Act.eval, h.vals i hi hL]
theorem St3.elder {F : Value → Nat → Value} {a0 a : Act} {v : Value} {L : Nat → Bool} (h : St3 F a0 v L a) {s : Nat} (hs : s < 17) {u : Value} (hu : a0.tmps[s]? = some u) : a.eval (.tmp s) = u := by
  simp [Act.eval, h.old s hs, hu]
def fr84o (bb ba bx bf bl : Nat) (vl : Value) (nl k : Nat) (u : Nat → Value) : Act :=
  ⟨#[.pointer (some ⟨bb, 0, none⟩), .pointer (some ⟨ba, 0, none⟩), .pointer (some ⟨bx, 0, none⟩), .pointer (some ⟨bf, 0, none⟩), .pointer (some ⟨bl, 0, none⟩), u 5, u 6, u 7, u 8, u 9, u 10, vl, .int .i64 nl, .int .i64 k, u 14, u 15, u 16, u 17, u 18, u 19, u 20, u 21, u 22, u 23, u 24, u 25, u 26, u 27, u 28, u 29, u 30, u 31, u 32, u 33, u 34, u 35, u 36, u 37, u 38, u 39, u 40, u 41, u 42, u 43, u 44, u 45], []⟩
def fr84i (bb ba bx bf bl : Nat) (vl : Value) (nl k : Nat) (y : Int) (v : Value) (m j : Nat) (u : Nat → Value) : Act :=
  ⟨#[.pointer (some ⟨bb, 0, none⟩), .pointer (some ⟨ba, 0, none⟩), .pointer (some ⟨bx, 0, none⟩), .pointer (some ⟨bf, 0, none⟩), .pointer (some ⟨bl, 0, none⟩), u 5, .int .i64 y, u 7, u 8, u 9, u 10, vl, .int .i64 nl, .int .i64 k, u 14, u 15, u 16, u 17, u 18, u 19, u 20, u 21, u 22, u 23, u 24, u 25, u 26, u 27, u 28, u 29, u 30, u 31, v, .int .i64 m, .int .i64 j, u 35, u 36, u 37, u 38, u 39, u 40, u 41, u 42, u 43, u 44, u 45], []⟩
end Go.Co
end
