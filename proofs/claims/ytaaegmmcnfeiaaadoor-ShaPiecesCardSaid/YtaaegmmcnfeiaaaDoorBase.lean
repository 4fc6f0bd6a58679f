import Derived.Test.YtaaegmmcnfeiaaaDoorVc
import Derived.Below
import Derived.Laws.BytesArg
import Derived.Deep.AppendSrc
set_option linter.unusedVariables false
set_option linter.unusedSimpArgs false
namespace Go.VC
open Go Go.RowKit

/-! ### Worlds: what may have turned -/
/-- behind it only blocks of S, of those that were, may be otherwise -/
structure Ch (S : Nat → Prop) (w w' : World) : Prop where
  os : w'.os = w.os
  tape : w'.tape = w.tape
  output : w'.output = w.output
  size : w.heap.size ≤ w'.heap.size
  block : ∀ k, k < w.heap.size → ¬ S k → w'.heap[k]? = w.heap[k]?
/-- only new blocks -/
abbrev Ext (w w' : World) : Prop := Ch (fun _ => False) w w'
section
variable {S T : Nat → Prop} {a b c w w' : World}
theorem Ch.refl (S : Nat → Prop) (w : World) : Ch S w w := ⟨rfl, rfl, rfl, Nat.le_refl _, fun _ _ _ => rfl⟩
theorem Ch.trans (h : Ch S a b) (k : Ch S b c) : Ch S a c :=
  ⟨k.os.trans h.os, k.tape.trans h.tape, k.output.trans h.output, Nat.le_trans h.size k.size, fun i hi hs => (k.block i (Nat.lt_of_lt_of_le hi h.size) hs).trans (h.block i hi hs)⟩
/-- behind a step that turns blocks of T, all of which S has, or that are new since a -/
theorem Ch.step (h : Ch S a b) (k : Ch T b c) (hT : ∀ i, i < a.heap.size → T i → S i) : Ch S a c :=
  ⟨k.os.trans h.os, k.tape.trans h.tape, k.output.trans h.output, Nat.le_trans h.size k.size, fun i hi hs => (k.block i (Nat.lt_of_lt_of_le hi h.size) fun ht => hs (hT i hi ht)).trans (h.block i hi hs)⟩
theorem Ch.ext (h : Ch S a b) (k : Ext b c) : Ch S a c := h.step k fun _ _ h => h.elim
theorem Ch.weak (h : Ch S a b) (hs : ∀ i, i < a.heap.size → S i → T i) : Ch T a b := ⟨h.os, h.tape, h.output, h.size, fun i hi ht => h.block i hi fun hs' => ht (hs i hi hs')⟩
theorem Ext.ch (h : Ext a b) : Ch S a b := h.weak fun _ _ h => h.elim
theorem Ch.drew (h : Ch S a b) : Ch S a b.drew := ⟨h.os, h.tape, h.output, h.size, h.block⟩
theorem Ch.drew' (S : Nat → Prop) (w : World) : Ch S w w.drew := (Ch.refl S w).drew
theorem Ch.alloc (h : Ch S a b) (o : Obj) : Ch S a (b.alloc o) := h.ext ⟨rfl, rfl, rfl, by simp, fun k hk _ => Below.heap_alloc _ _ _ hk⟩
theorem Ch.setCell (h : Ch S a b) {p : Addr} (u : Value) (hp : p.block < a.heap.size → S p.block) : Ch S a (b.setCell p u) :=
  h.step (T := fun i => i = p.block) ⟨rfl, rfl, rfl, by simp, fun k hk hs => Below.heap_setCell _ _ _ _ hs⟩ fun i hi e => by subst e; exact hp hi
theorem Ch.below (h : Ext w w') : Below w.heap.size w w' := ⟨h.os, h.tape, h.output, h.size, fun k hk => h.block k hk fun h => h⟩
theorem Ch.grown {row : Option Nat} (h : Ch S a b) (hg : b.grownBy c row) (hr : ∀ k, row = some k → k < a.heap.size → S k) : Ch S a c :=
  h.step (T := fun i => row = some i) ⟨hg.os, hg.tape, hg.output, hg.size, fun k hk hs => hg.block k hk fun e => hs e.symm⟩ fun i hi e => hr i e hi
theorem Ch.cell (h : Ch S w w') {p : Addr} {v : Value} (hc : w.cell? p = some v) (hs : ¬ S p.block) : w'.cell? p = some v := by
  rw [World.cell?_of_block (h.block p.block (World.block_lt_of_cell? w p hc) hs)]; exact hc
end

/-! ### Blocks -/
/-- block b is a row of these cells, which may be written -/
def Blk (w : World) (b : Nat) (ty : TypeId) (cs : Array Value) : Prop := w.heap[b]? = some (.cells cs ty (0, 0))
section
variable {w w' : World} {b : Nat} {ty : TypeId} {cs : Array Value} {S : Nat → Prop}
theorem Blk.lt (h : Blk w b ty cs) : b < w.heap.size := by
  rcases Nat.lt_or_ge b w.heap.size with h' | h'
  · exact h'
  · unfold Blk at h; simp [Array.getElem?_eq_none h'] at h
theorem Blk.mono (h : Blk w b ty cs) (hc : Ch S w w') (hs : ¬ S b) : Blk w' b ty cs := by unfold Blk; rw [hc.block b h.lt hs]; exact h
theorem Blk.ext (h : Blk w b ty cs) (hc : Ext w w') : Blk w' b ty cs := h.mono hc fun h => h
theorem Blk.drew (h : Blk w b ty cs) : Blk w.drew b ty cs := h
theorem Blk.cell (h : Blk w b ty cs) (i : Nat) : w.cell? ⟨b, i, none⟩ = cs[i]? := cell_of_row w b i cs ty (0, 0) h
theorem Blk.free (h : Blk w b ty cs) (i : Nat) : w.frozen? ⟨b, i, none⟩ = false := frozen_of_row w b i cs ty h
theorem Blk.set (h : Blk w b ty cs) (i : Nat) (v : Value) : Blk (w.setCell ⟨b, i, none⟩ v) b ty (cs.setIfInBounds i v) := heap_setCell_same w b i cs ty v h
theorem Blk.set_other {b' i : Nat} (h : Blk w b ty cs) (v : Value) (hb : b ≠ b') : Blk (w.setCell ⟨b', i, none⟩ v) b ty cs := by
  unfold Blk; rw [heap_setCell_other w ⟨b', i, none⟩ b v hb]; exact h
end
@[simp] theorem add_mk (b o n : Nat) : (⟨b, o, none⟩ : Addr).add n = ⟨b, o + n, none⟩ := by unfold Addr.add; split <;> simp_all
@[simp] theorem add_zero' (a : Addr) : a.add 0 = a := by simp [Addr.add]
theorem allocK_intro {w : World} {cs : Array Value} {ty : TypeId} {K : Addr → World → Prop} (h : ∀ (b : Nat) (w1 : World), b = w.heap.size → Blk w1 b ty cs → Ext w w1 → w1.heap.size = b + 1 → K ⟨b, 0, none⟩ w1) :
    allocK w cs ty K :=
  h _ _ rfl (heap_alloc_new w _) ((Ch.refl _ w).alloc _) (by simp)
theorem ldT_cell {t : Tag1} {w : World} {a : Addr} {K : t.T → Prop} (x : t.T) (h : w.cell? a = some (t.emb x)) (k : K x) : ldT t w a K := ⟨x, h, k⟩
theorem ldT_blk {t : Tag1} {w : World} {b o : Nat} {ty : TypeId} {cs : Array Value} {K : t.T → Prop} (hb : Blk w b ty cs) (x : t.T) (h : cs[o]? = some (t.emb x)) (k : K x) : ldT t w ⟨b, o, none⟩ K :=
  ⟨x, by rw [hb.cell]; exact h, k⟩
theorem stC_blk {w : World} {b o : Nat} {ty : TypeId} {cs : Array Value} {v : Value} {K : World → Prop} (hb : Blk w b ty cs) (ho : o < cs.size) (hv : oneC v = true)
    (k : ∀ w', Blk w' b ty (cs.setIfInBounds o v) → Ch (· = b) w w' → w'.heap.size = w.heap.size → K w') : stC w ⟨b, o, none⟩ v K :=
  ⟨hv, by rw [hb.cell]; simp [ho], hb.free o, k _ (hb.set o v) ((Ch.refl _ w).setCell v fun _ => rfl) (by simp)⟩

/-! ### Slices that are read -/
/-- the slice reads as these cells ('size' to an element) -/
structure Sees (w : World) (s : Sl) (size : Nat) (xs : List Value) : Prop where
  len : xs.length = s.len * size
  cap : s.len ≤ s.cap
  max : s.cap ≤ maxLen
  cells : s.len = 0 ∨ ∃ b o, s.a = some ⟨b, o, none⟩ ∧ ∀ j u, xs[j]? = some u → w.cell? ⟨b, o + j, none⟩ = some u
section
variable {w w' : World} {s : Sl} {size : Nat} {xs : List Value} {S : Nat → Prop}
/-- its block, if it has cells -/
def Sl.blk (s : Sl) : Option Nat := s.a.map (·.block)
theorem Sees.mono (h : Sees w s size xs) (hc : Ch S w w') (hs : ∀ k, s.blk = some k → ¬ S k) : Sees w' s size xs :=
  ⟨h.len, h.cap, h.max, h.cells.imp id fun ⟨b, o, ha, hx⟩ => ⟨b, o, ha, fun j u hj => hc.cell (hx j u hj) (hs b (by simp [Sl.blk, ha]))⟩⟩
theorem Sees.ext (h : Sees w s size xs) (hc : Ext w w') : Sees w' s size xs := h.mono hc fun _ _ h => h
theorem Sees.drew (h : Sees w s size xs) : Sees w.drew s size xs := h.ext (Ch.drew' _ w)
theorem Sees.nil (w : World) (size : Nat) : Sees w ⟨none, 0, 0⟩ size [] := ⟨by simp, Nat.le_refl _, by simp, .inl rfl⟩
/-- an element's place -/
theorem Sees.idx (h : Sees w s size xs) {i : Int} (h0 : 0 ≤ i) (h1 : i < s.len) {K : Addr → Prop}
    (k : ∀ a : Addr, (∀ j u, j < size → xs[i.toNat * size + j]? = some u → w.cell? (a.add j) = some u) → s.blk = some a.block → K a) : Go.VC.idx s.a s.len i size K := by
  refine ⟨h0, h1, ?_⟩
  rcases h.cells with h0 | ⟨b, o, ha, hx⟩
  · omega
  · refine ⟨_, ha, k _ (fun j u hj hu => ?_) (by simp [Sl.blk, ha])⟩
    simp only [add_mk]
    rw [Nat.add_assoc]
    exact hx _ u hu
theorem Sees.idx1 (h : Sees w s 1 xs) {i : Int} (h0 : 0 ≤ i) (h1 : i < s.len) {K : Addr → Prop} {v : Value} (hv : xs[i.toNat]? = some v)
    (k : ∀ a : Addr, w.cell? a = some v → s.blk = some a.block → K a) : Go.VC.idx s.a s.len i 1 K :=
  h.idx h0 h1 fun a ha hb => k a (by have := ha 0 v (by omega) (by simpa using hv); simpa using this) hb
/-- a piece of it -/
theorem Sees.slc (h : Sees w s size xs) {lo hi : Int} (h1 : 0 ≤ lo) (h2 : lo ≤ hi) (h3 : hi ≤ s.len) {K : Sl → Prop}
    (k : ∀ t : Sl, Sees w t size ((xs.drop (lo.toNat * size)).take ((hi.toNat - lo.toNat) * size)) → t.len = hi.toNat - lo.toNat → (t.blk = s.blk) → t.cap = s.cap - lo.toNat → K t) : slcT s lo hi size K := by
  have hc := h.cap
  refine ⟨by omega, by omega, h1, h2, k _ ⟨?_, ?_, ?_, ?_⟩ rfl ?_ rfl⟩
  · have e : hi.toNat * size ≤ s.len * size := Nat.mul_le_mul_right _ (by omega)
    simp only [List.length_take, List.length_drop, h.len]
    rw [Nat.sub_mul]
    omega
  · show hi.toNat - lo.toNat ≤ s.cap - lo.toNat
    omega
  · show s.cap - lo.toNat ≤ maxLen
    have := h.max; omega
  · by_cases h0 : hi.toNat - lo.toNat = 0
    · exact .inl h0
    · right
      rcases h.cells with h0 | ⟨b, o, ha, hx⟩
      · omega
      · have hne : ¬ s.cap = lo.toNat := by omega
        refine ⟨b, o + lo.toNat * size, by simp [hne, ha], fun j u hj => ?_⟩
        rw [List.getElem?_take] at hj
        split at hj
        · rw [List.getElem?_drop] at hj
          rw [Nat.add_assoc]; exact hx _ u hj
        · cases hj
  · simp only [Sl.blk]
    split
    · rfl
    · cases s.a <;> simp [Addr.add]; split <;> rfl
end
/-- what the call owns reads -/
theorem sees_of_own {w : World} {base : Nat} {e : TypeId} {size : Nat} {s : Sl} {n : Nat} {xs : List Value} (h : w.ownsRow base e size s.v n xs) : Sees w s size xs ∧ s.len = n ∧ (∀ k, s.blk = some k → base ≤ k ∧ k < w.heap.size) := by
  obtain ⟨a, len, cap⟩ := s
  have hlt := h.lt
  obtain ⟨h1, h2⟩ := h
  rcases h2 with ⟨e, rfl⟩ | ⟨g, cp, cur, e, hg, hh, h3, h4, h5, h6⟩
  · simp only [Sl.v, Value.slice.injEq] at e
    obtain ⟨rfl, rfl, rfl⟩ := e
    have : xs = [] := List.eq_nil_of_length_eq_zero (by simpa using h1)
    subst this
    exact ⟨Sees.nil _ _, rfl, by simp [Sl.blk]⟩
  · simp only [Sl.v, Value.slice.injEq] at e
    obtain ⟨rfl, rfl, rfl⟩ := e
    refine ⟨⟨h1, h3, h4, .inr ⟨g, 0, rfl, fun j u hj => ?_⟩⟩, rfl, fun k hk => ?_⟩
    · rw [cell_of_row w g _ cur e (0, 0) hh]
      rw [← h6, List.getElem?_take] at hj
      split at hj
      · simpa using hj
      · cases hj
    · simp [Sl.blk] at hk; subst hk
      exact hlt g (by simp [Sl.v, Value.ownBlock])
/-- a slice type, its element's cells and bytes -/
structure SlT (P : Program) (t e size bytes : Nat) : Prop where
  ht : P.underlying t = some (.slice e)
  info : (P.info? e).map (fun i => (i.zero.map (·.cells.size), i.size, i.bytes)) = some (some size, size, bytes)
  pos : 0 < size
theorem SlT.ex {P : Program} {t e size bytes : Nat} (h : SlT P t e size bytes) : ∃ i z, P.info? e = some i ∧ i.zero = some z ∧ i.size = size ∧ i.bytes = bytes ∧ z.cells.size = size := by
  have := h.info
  cases hi : P.info? e with
  | none => simp [hi] at this
  | some i =>
    simp only [hi, Option.map_some, Option.some.injEq, Prod.mk.injEq] at this
    obtain ⟨h1, h2, h3⟩ := this
    cases hz : i.zero with
    | none => simp [hz] at h1
    | some z => simp [hz] at h1; exact ⟨i, z, rfl, hz, h2, h3, h1⟩
/-- append to a slice that is nil or the call's own -/
theorem app_own {P : Program} {t e size bytes ty : Nat} (hT : SlT P t e size bytes) {w : World} {base : Nat} {s x : Sl} {n : Nat} {xs news : List Value} (hown : w.ownsRow base e size s.v n xs) (hx : Sees w x size news)
    (h1 : ∀ u ∈ news, oneC u = true) (hb : (n + x.len) * bytes ≤ 140737488355328) (hm : n + x.len ≤ maxLen) (hbase : base ≤ w.heap.size) {K : Sl → World → Prop}
    (k : ∀ (s' : Sl) (w' : World), w'.ownsRow base e size s'.v (n + x.len) (xs ++ news) → w.grownBy w' s.v.ownBlock → K s' w') :
    runG .sl P w (Builtin.append_ #[t, t] ty #[s.v, x.v]) K := by
  obtain ⟨i, z, hi, hz, hsz, hby, hzs⟩ := hT.ex
  have h1' : ∀ u ∈ news, u.oneCell' = true := fun u hu => by have := h1 u hu; cases u <;> first | rfl | cases this
  have fin : ∀ (v' : Value) (w' : World), (Builtin.append_ #[t, t] ty #[s.v, x.v]).run P w = .ok v' w' → w'.ownsRow base e size v' (n + x.len) (xs ++ news) → w.grownBy w' s.v.ownBlock → runG .sl P w (Builtin.append_ #[t, t] ty #[s.v, x.v]) K := fun v' w' hr ho hg => by
    have hv : ∃ s' : Sl, v' = s'.v := by
      rcases ho.2 with ⟨e, _⟩ | ⟨g, cap, cur, e, _⟩
      · exact ⟨⟨none, 0, 0⟩, e⟩
      · exact ⟨⟨_, _, _⟩, e⟩
    obtain ⟨s', rfl⟩ := hv
    exact ⟨_, w', hr, s', rfl, k s' w' ho hg⟩
  rcases hx.cells with h0 | ⟨b, o, ha, hc⟩
  · -- nothing is appended
    have hn : news = [] := List.eq_nil_of_length_eq_zero (by rw [hx.len, h0]; simp)
    subst hn
    have hlen : ∀ {v : Value}, v = s.v → ∃ a c, v = .slice a n c ∧ n ≤ c := fun {v} e => by
      subst e
      rcases hown.2 with ⟨e, rfl⟩ | ⟨g, cap, cur, e, _, _, hle, _⟩
      · exact ⟨none, 0, e, Nat.le_refl _⟩
      · exact ⟨_, cap, e, hle⟩
    obtain ⟨a, c, hv, hnc⟩ := hlen rfl
    refine fin s.v w ?_ (by rw [h0]; simpa using hown) ⟨rfl, rfl, rfl, Nat.le_refl _, fun _ _ _ => rfl⟩
    have e0 : x.v = .slice x.a 0 x.cap := by simp [Sl.v, h0]
    rw [hv, e0]
    have hfc : (Builtin.firstCells i.size 0 (.slice x.a 0 x.cap)).run P w = .ok #[] w := by
      cases x.a <;> simp [Builtin.firstCells, loadCells, loadCellsFrom]
    cases a with
    | none => simp [Builtin.append_, run_underlying hT.ht, sizeOf, typeInfo, hi, Builtin.lenOf, hfc, hnc]
    | some a => simp [Builtin.append_, run_underlying hT.ht, sizeOf, typeInfo, hi, Builtin.lenOf, hfc, hnc, storeCells]
  · have ex : x.v = .slice (some ⟨b, o, none⟩) x.len x.cap := by simp [Sl.v, ha]
    obtain ⟨v', w', hr, ho, hg, _⟩ := run_append_own (P := P) w base t ty e i z size bytes hT.ht hi hz hsz hby hzs hT.pos s.v n xs hown ⟨b, o, none⟩ x.len x.cap news hx.len
      (fun j u hj => by simpa using hc j u hj) h1' hm hb hbase
    exact fin v' w' (by rw [ex]; exact hr) ho hg
/-- an empty row that the call has made -/
theorem own_empty {w : World} {b e size : Nat} (h : Blk w b e #[]) {base : Nat} (hb : base ≤ b) : w.ownsRow base e size (.slice (some ⟨b, 0, none⟩) 0 0) 0 [] :=
  ⟨by simp, .inr ⟨b, 0, #[], rfl, hb, h, Nat.le_refl _, by simp, by simp, by simp⟩⟩
end Go.VC
