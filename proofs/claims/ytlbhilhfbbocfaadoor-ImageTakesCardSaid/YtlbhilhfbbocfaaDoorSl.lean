import Derived.Test.YtlbhilhfbbocfaaDoorVc
import Derived.Below
import Derived.Laws.BytesArg
import Derived.Deep.AppendSrc
import Derived.Maps.AppendAt
import Derived.Laws.CopyRow
import Derived.Laws.IdiomStrings
import Derived.Lib.ConvBytes
import Derived.Laws.MakeOwn
set_option linter.unusedVariables false
set_option linter.unusedSimpArgs false
namespace Go.VC
open Go Go.RowKit

/-! ### Worlds: what may have turned -/
/-- behind it only blocks of S, of those that were, may be otherwise -/
structure Ch (S : Nat → Prop) (w w' : World) : Prop where
  os : w'.os = w.os
  tape : w'.tape = w.tape
  output : w'.output = w.output
  size : w.heap.size ≤ w'.heap.size
  block : ∀ k, k < w.heap.size → ¬ S k → w'.heap[k]? = w.heap[k]?
/-- only new blocks -/
abbrev Ext (w w' : World) : Prop := Ch (fun _ => False) w w'
section
variable {S T : Nat → Prop} {a b c w w' : World}
theorem Ch.refl (S : Nat → Prop) (w : World) : Ch S w w := ⟨rfl, rfl, rfl, Nat.le_refl _, fun _ _ _ => rfl⟩
theorem Ch.trans (h : Ch S a b) (k : Ch S b c) : Ch S a c :=
  ⟨k.os.trans h.os, k.tape.trans h.tape, k.output.trans h.output, Nat.le_trans h.size k.size, fun i hi hs => (k.block i (Nat.lt_of_lt_of_le hi h.size) hs).trans (h.block i hi hs)⟩
/-- behind a step that turns blocks of T, all of which S has, or that are new since a -/
theorem Ch.step (h : Ch S a b) (k : Ch T b c) (hT : ∀ i, i < a.heap.size → T i → S i) : Ch S a c :=
  ⟨k.os.trans h.os, k.tape.trans h.tape, k.output.trans h.output, Nat.le_trans h.size k.size, fun i hi hs => (k.block i (Nat.lt_of_lt_of_le hi h.size) fun ht => hs (hT i hi ht)).trans (h.block i hi hs)⟩
theorem Ch.ext (h : Ch S a b) (k : Ext b c) : Ch S a c := h.step k fun _ _ h => h.elim
theorem Ch.weak (h : Ch S a b) (hs : ∀ i, i < a.heap.size → S i → T i) : Ch T a b := ⟨h.os, h.tape, h.output, h.size, fun i hi ht => h.block i hi fun hs' => ht (hs i hi hs')⟩
theorem Ext.ch (h : Ext a b) : Ch S a b := h.weak fun _ _ h => h.elim
theorem Ch.drew (h : Ch S a b) : Ch S a b.drew := ⟨h.os, h.tape, h.output, h.size, h.block⟩
theorem Ch.drew' (S : Nat → Prop) (w : World) : Ch S w w.drew := (Ch.refl S w).drew
theorem Ch.alloc (h : Ch S a b) (o : Obj) : Ch S a (b.alloc o) := h.ext ⟨rfl, rfl, rfl, by simp, fun k hk _ => Below.heap_alloc _ _ _ hk⟩
theorem Ch.setCell (h : Ch S a b) {p : Addr} (u : Value) (hp : p.block < a.heap.size → S p.block) : Ch S a (b.setCell p u) :=
  h.step (T := fun i => i = p.block) ⟨rfl, rfl, rfl, by simp, fun k hk hs => Below.heap_setCell _ _ _ _ hs⟩ fun i hi e => by subst e; exact hp hi
theorem Ch.below (h : Ext w w') : Below w.heap.size w w' := ⟨h.os, h.tape, h.output, h.size, fun k hk => h.block k hk fun h => h⟩
theorem Ch.grown {row : Option Nat} (h : Ch S a b) (hg : b.grownBy c row) (hr : ∀ k, row = some k → k < a.heap.size → S k) : Ch S a c :=
  h.step (T := fun i => row = some i) ⟨hg.os, hg.tape, hg.output, hg.size, fun k hk hs => hg.block k hk fun e => hs e.symm⟩ fun i hi e => hr i e hi
theorem Ch.cell (h : Ch S w w') {p : Addr} {v : Value} (hc : w.cell? p = some v) (hs : ¬ S p.block) : w'.cell? p = some v := by
  rw [World.cell?_of_block (h.block p.block (World.block_lt_of_cell? w p hc) hs)]; exact hc
end

/-! ### Blocks -/
/-- block b is a row of these cells, which may be written -/
def Blk (w : World) (b : Nat) (ty : TypeId) (cs : Array Value) : Prop := w.heap[b]? = some (.cells cs ty (0, 0))
section
variable {w w' : World} {b : Nat} {ty : TypeId} {cs : Array Value} {S : Nat → Prop}
theorem Blk.lt (h : Blk w b ty cs) : b < w.heap.size := by
  rcases Nat.lt_or_ge b w.heap.size with h' | h'
  · exact h'
  · unfold Blk at h; simp [Array.getElem?_eq_none h'] at h
theorem Blk.mono (h : Blk w b ty cs) (hc : Ch S w w') (hs : ¬ S b) : Blk w' b ty cs := by unfold Blk; rw [hc.block b h.lt hs]; exact h
theorem Blk.ext (h : Blk w b ty cs) (hc : Ext w w') : Blk w' b ty cs := h.mono hc fun h => h
theorem Blk.drew (h : Blk w b ty cs) : Blk w.drew b ty cs := h
theorem Blk.cell (h : Blk w b ty cs) (i : Nat) : w.cell? ⟨b, i, none⟩ = cs[i]? := cell_of_row w b i cs ty (0, 0) h
theorem Blk.free (h : Blk w b ty cs) (i : Nat) : w.frozen? ⟨b, i, none⟩ = false := frozen_of_row w b i cs ty h
theorem Blk.set (h : Blk w b ty cs) (i : Nat) (v : Value) : Blk (w.setCell ⟨b, i, none⟩ v) b ty (cs.setIfInBounds i v) := heap_setCell_same w b i cs ty v h
theorem Blk.set_other {b' i : Nat} (h : Blk w b ty cs) (v : Value) (hb : b ≠ b') : Blk (w.setCell ⟨b', i, none⟩ v) b ty cs := by
  unfold Blk; rw [heap_setCell_other w ⟨b', i, none⟩ b v hb]; exact h
end
@[simp] theorem add_mk (b o n : Nat) : (⟨b, o, none⟩ : Addr).add n = ⟨b, o + n, none⟩ := by unfold Addr.add; split <;> simp_all
@[simp] theorem add_zero' (a : Addr) : a.add 0 = a := by simp [Addr.add]
theorem allocK_intro {w : World} {cs : Array Value} {ty : TypeId} {K : Addr → World → Prop} (h : ∀ (b : Nat) (w1 : World), b = w.heap.size → Blk w1 b ty cs → Ext w w1 → w1.heap.size = b + 1 → K ⟨b, 0, none⟩ w1) :
    allocK w cs ty K :=
  h _ _ rfl (heap_alloc_new w _) ((Ch.refl _ w).alloc _) (by simp)
theorem ldT_cell {t : Tag1} {w : World} {a : Addr} {K : t.T → Prop} (x : t.T) (h : w.cell? a = some (t.emb x)) (k : K x) : ldT t w a K := ⟨x, h, k⟩
theorem ldT_blk {t : Tag1} {w : World} {b o : Nat} {ty : TypeId} {cs : Array Value} {K : t.T → Prop} (hb : Blk w b ty cs) (x : t.T) (h : cs[o]? = some (t.emb x)) (k : K x) : ldT t w ⟨b, o, none⟩ K :=
  ⟨x, by rw [hb.cell]; exact h, k⟩
theorem stC_blk {w : World} {b o : Nat} {ty : TypeId} {cs : Array Value} {v : Value} {K : World → Prop} (hb : Blk w b ty cs) (ho : o < cs.size) (hv : oneC v = true)
    (k : ∀ w', Blk w' b ty (cs.setIfInBounds o v) → Ch (· = b) w w' → w'.heap.size = w.heap.size → K w') : stC w ⟨b, o, none⟩ v K :=
  ⟨hv, by rw [hb.cell]; simp [ho], hb.free o, k _ (hb.set o v) ((Ch.refl _ w).setCell v fun _ => rfl) (by simp)⟩

/-! ### Slices that are read -/
/-- the slice reads as these cells ('size' to an element) -/
structure Sees (w : World) (s : Sl) (size : Nat) (xs : List Value) : Prop where
  len : xs.length = s.len * size
  cap : s.len ≤ s.cap
  max : s.cap ≤ maxLen
  cells : s.len = 0 ∨ ∃ b o, s.a = some ⟨b, o, none⟩ ∧ ∀ j u, xs[j]? = some u → w.cell? ⟨b, o + j, none⟩ = some u
section
variable {w w' : World} {s : Sl} {size : Nat} {xs : List Value} {S : Nat → Prop}
/-- its block, if it has cells -/
def Sl.blk (s : Sl) : Option Nat := s.a.map (·.block)
theorem Sees.mono (h : Sees w s size xs) (hc : Ch S w w') (hs : ∀ k, s.blk = some k → ¬ S k) : Sees w' s size xs :=
  ⟨h.len, h.cap, h.max, h.cells.imp id fun ⟨b, o, ha, hx⟩ => ⟨b, o, ha, fun j u hj => hc.cell (hx j u hj) (hs b (by simp [Sl.blk, ha]))⟩⟩
theorem Sees.ext (h : Sees w s size xs) (hc : Ext w w') : Sees w' s size xs := h.mono hc fun _ _ h => h
theorem Sees.drew (h : Sees w s size xs) : Sees w.drew s size xs := h.ext (Ch.drew' _ w)
theorem Sees.nil (w : World) (size : Nat) : Sees w ⟨none, 0, 0⟩ size [] := ⟨by simp, Nat.le_refl _, by simp, .inl rfl⟩
/-- an element's place -/
theorem Sees.idx (h : Sees w s size xs) {i : Int} (h0 : 0 ≤ i) (h1 : i < s.len) {K : Addr → Prop}
    (k : ∀ a : Addr, (∀ j u, j < size → xs[i.toNat * size + j]? = some u → w.cell? (a.add j) = some u) → s.blk = some a.block → K a) : Go.VC.idx s.a s.len i size K := by
  refine ⟨h0, h1, ?_⟩
  rcases h.cells with h0 | ⟨b, o, ha, hx⟩
  · omega
  · refine ⟨_, ha, k _ (fun j u hj hu => ?_) (by simp [Sl.blk, ha])⟩
    simp only [add_mk]
    rw [Nat.add_assoc]
    exact hx _ u hu
theorem Sees.idx1 (h : Sees w s 1 xs) {i : Int} (h0 : 0 ≤ i) (h1 : i < s.len) {K : Addr → Prop} {v : Value} (hv : xs[i.toNat]? = some v)
    (k : ∀ a : Addr, w.cell? a = some v → s.blk = some a.block → K a) : Go.VC.idx s.a s.len i 1 K :=
  h.idx h0 h1 fun a ha hb => k a (by have := ha 0 v (by omega) (by simpa using hv); simpa using this) hb
/-- a piece of it -/
theorem Sees.slc (h : Sees w s size xs) {lo hi : Int} (h1 : 0 ≤ lo) (h2 : lo ≤ hi) (h3 : hi ≤ s.len) {K : Sl → Prop}
    (k : ∀ t : Sl, Sees w t size ((xs.drop (lo.toNat * size)).take ((hi.toNat - lo.toNat) * size)) → t.len = hi.toNat - lo.toNat → (t.blk = s.blk) → t.cap = s.cap - lo.toNat → K t) : slcT s lo hi size K := by
  have hc := h.cap
  refine ⟨by omega, by omega, h1, h2, k _ ⟨?_, ?_, ?_, ?_⟩ rfl ?_ rfl⟩
  · have e : hi.toNat * size ≤ s.len * size := Nat.mul_le_mul_right _ (by omega)
    simp only [List.length_take, List.length_drop, h.len]
    rw [Nat.sub_mul]
    omega
  · show hi.toNat - lo.toNat ≤ s.cap - lo.toNat
    omega
  · show s.cap - lo.toNat ≤ maxLen
    have := h.max; omega
  · by_cases h0 : hi.toNat - lo.toNat = 0
    · exact .inl h0
    · right
      rcases h.cells with h0 | ⟨b, o, ha, hx⟩
      · omega
      · have hne : ¬ s.cap = lo.toNat := by omega
        refine ⟨b, o + lo.toNat * size, by simp [hne, ha], fun j u hj => ?_⟩
        rw [List.getElem?_take] at hj
        split at hj
        · rw [List.getElem?_drop] at hj
          rw [Nat.add_assoc]; exact hx _ u hj
        · cases hj
  · simp only [Sl.blk]
    split
    · rfl
    · cases s.a <;> simp [Addr.add]; split <;> rfl
end
/-- what the call owns reads -/
theorem sees_of_own {w : World} {base : Nat} {e : TypeId} {size : Nat} {s : Sl} {n : Nat} {xs : List Value} (h : w.ownsRow base e size s.v n xs) : Sees w s size xs ∧ s.len = n ∧ (∀ k, s.blk = some k → base ≤ k ∧ k < w.heap.size) := by
  obtain ⟨a, len, cap⟩ := s
  have hlt := h.lt
  obtain ⟨h1, h2⟩ := h
  rcases h2 with ⟨e, rfl⟩ | ⟨g, cp, cur, e, hg, hh, h3, h4, h5, h6⟩
  · simp only [Sl.v, Value.slice.injEq] at e
    obtain ⟨rfl, rfl, rfl⟩ := e
    have : xs = [] := List.eq_nil_of_length_eq_zero (by simpa using h1)
    subst this
    exact ⟨Sees.nil _ _, rfl, by simp [Sl.blk]⟩
  · simp only [Sl.v, Value.slice.injEq] at e
    obtain ⟨rfl, rfl, rfl⟩ := e
    refine ⟨⟨h1, h3, h4, .inr ⟨g, 0, rfl, fun j u hj => ?_⟩⟩, rfl, fun k hk => ?_⟩
    · rw [cell_of_row w g _ cur e (0, 0) hh]
      rw [← h6, List.getElem?_take] at hj
      split at hj
      · simpa using hj
      · cases hj
    · simp [Sl.blk] at hk; subst hk
      exact hlt g (by simp [Sl.v, Value.ownBlock])
/-- a slice type, its element's cells and bytes -/
structure SlT (P : Program) (t e size bytes : Nat) : Prop where
  ht : P.underlying t = some (.slice e)
  info : (P.info? e).map (fun i => (i.zero.map (·.cells.size), i.size, i.bytes)) = some (some size, size, bytes)
  pos : 0 < size
theorem SlT.ex {P : Program} {t e size bytes : Nat} (h : SlT P t e size bytes) : ∃ i z, P.info? e = some i ∧ i.zero = some z ∧ i.size = size ∧ i.bytes = bytes ∧ z.cells.size = size := by
  have := h.info
  cases hi : P.info? e with
  | none => simp [hi] at this
  | some i =>
    simp only [hi, Option.map_some, Option.some.injEq, Prod.mk.injEq] at this
    obtain ⟨h1, h2, h3⟩ := this
    cases hz : i.zero with
    | none => simp [hz] at h1
    | some z => simp [hz] at h1; exact ⟨i, z, rfl, hz, h2, h3, h1⟩
/-- append to a slice that is nil or the call's own -/
theorem app_own {P : Program} {t e size bytes ty : Nat} (hT : SlT P t e size bytes) {w : World} {base : Nat} {s x : Sl} {n : Nat} {xs news : List Value} (hown : w.ownsRow base e size s.v n xs) (hx : Sees w x size news)
    (h1 : ∀ u ∈ news, oneC u = true) (hb : (n + x.len) * bytes ≤ 140737488355328) (hm : n + x.len ≤ maxLen) (hbase : base ≤ w.heap.size) {K : Sl → World → Prop}
    (k : ∀ (s' : Sl) (w' : World), w'.ownsRow base e size s'.v (n + x.len) (xs ++ news) → w.grownBy w' s.v.ownBlock → K s' w') :
    runG .sl P w (Builtin.append_ #[t, t] ty #[s.v, x.v]) K := by
  obtain ⟨i, z, hi, hz, hsz, hby, hzs⟩ := hT.ex
  have h1' : ∀ u ∈ news, u.oneCell' = true := fun u hu => by have := h1 u hu; cases u <;> first | rfl | cases this
  have fin : ∀ (v' : Value) (w' : World), (Builtin.append_ #[t, t] ty #[s.v, x.v]).run P w = .ok v' w' → w'.ownsRow base e size v' (n + x.len) (xs ++ news) → w.grownBy w' s.v.ownBlock → runG .sl P w (Builtin.append_ #[t, t] ty #[s.v, x.v]) K := fun v' w' hr ho hg => by
    have hv : ∃ s' : Sl, v' = s'.v := by
      rcases ho.2 with ⟨e, _⟩ | ⟨g, cap, cur, e, _⟩
      · exact ⟨⟨none, 0, 0⟩, e⟩
      · exact ⟨⟨_, _, _⟩, e⟩
    obtain ⟨s', rfl⟩ := hv
    exact ⟨_, w', hr, s', rfl, k s' w' ho hg⟩
  rcases hx.cells with h0 | ⟨b, o, ha, hc⟩
  · -- nothing is appended
    have hn : news = [] := List.eq_nil_of_length_eq_zero (by rw [hx.len, h0]; simp)
    subst hn
    have hlen : ∀ {v : Value}, v = s.v → ∃ a c, v = .slice a n c ∧ n ≤ c := fun {v} e => by
      subst e
      rcases hown.2 with ⟨e, rfl⟩ | ⟨g, cap, cur, e, _, _, hle, _⟩
      · exact ⟨none, 0, e, Nat.le_refl _⟩
      · exact ⟨_, cap, e, hle⟩
    obtain ⟨a, c, hv, hnc⟩ := hlen rfl
    refine fin s.v w ?_ (by rw [h0]; simpa using hown) ⟨rfl, rfl, rfl, Nat.le_refl _, fun _ _ _ => rfl⟩
    have e0 : x.v = .slice x.a 0 x.cap := by simp [Sl.v, h0]
    rw [hv, e0]
    have hfc : (Builtin.firstCells i.size 0 (.slice x.a 0 x.cap)).run P w = .ok #[] w := by
      cases x.a <;> simp [Builtin.firstCells, loadCells, loadCellsFrom]
    cases a with
    | none => simp [Builtin.append_, run_underlying hT.ht, sizeOf, typeInfo, hi, Builtin.lenOf, hfc, hnc]
    | some a => simp [Builtin.append_, run_underlying hT.ht, sizeOf, typeInfo, hi, Builtin.lenOf, hfc, hnc, storeCells]
  · have ex : x.v = .slice (some ⟨b, o, none⟩) x.len x.cap := by simp [Sl.v, ha]
    obtain ⟨v', w', hr, ho, hg, _⟩ := run_append_own (P := P) w base t ty e i z size bytes hT.ht hi hz hsz hby hzs hT.pos s.v n xs hown ⟨b, o, none⟩ x.len x.cap news hx.len
      (fun j u hj => by simpa using hc j u hj) h1' hm hb hbase
    exact fin v' w' (by rw [ex]; exact hr) ho hg
/-- an empty row that the call has made -/
theorem own_empty {w : World} {b e size : Nat} (h : Blk w b e #[]) {base : Nat} (hb : base ≤ b) : w.ownsRow base e size (.slice (some ⟨b, 0, none⟩) 0 0) 0 [] :=
  ⟨by simp, .inr ⟨b, 0, #[], rfl, hb, h, Nat.le_refl _, by simp, by simp, by simp⟩⟩
end Go.VC

set_option linter.unusedVariables false
set_option linter.unusedSimpArgs false
namespace Go.VC
open Go Go.RowKit
/-! ### Words of 32 bits, bytes: the model's numbers as Lean's own -/
@[reducible] def i32 (a : UInt32) : Int := (a.toNat : Int)
@[reducible] def i8 (a : UInt8) : Int := (a.toNat : Int)
theorem ofInt32 (a : UInt32) : BitVec.ofInt 32 (a.toNat : Int) = a.toBitVec := by
  rw [BitVec.ofInt_natCast]; exact BitVec.eq_of_toNat_eq (by simp)
theorem ofInt8 (a : UInt8) : BitVec.ofInt 8 (a.toNat : Int) = a.toBitVec := by
  rw [BitVec.ofInt_natCast]; exact BitVec.eq_of_toNat_eq (by simp)
theorem wrap32_nat (n : Nat) (h : n < 4294967296) : IntKind.wrap .u32 (n : Int) = n := by rw [IntKind.wrap_u32]; omega
theorem wrap8_nat (n : Nat) (h : n < 256) : IntKind.wrap .u8 (n : Int) = n := by rw [IntKind.wrap_u8]; omega
theorem u32_lt (a : UInt32) : a.toNat < 4294967296 := a.toNat_lt
theorem u8_lt (a : UInt8) : a.toNat < 256 := a.toNat_lt
theorem xor32 (a b : UInt32) : bits .xor .u32 (a.toNat : Int) (b.toNat : Int) = ((a ^^^ b).toNat : Int) := by
  show IntKind.wrap .u32 (((BitVec.ofInt 32 (a.toNat : Int) ^^^ BitVec.ofInt 32 (b.toNat : Int)).toNat : Nat) : Int) = _
  rw [ofInt32, ofInt32, ← UInt32.toBitVec_xor]; exact wrap32_nat _ (u32_lt _)
theorem and32 (a b : UInt32) : bits .and .u32 (a.toNat : Int) (b.toNat : Int) = ((a &&& b).toNat : Int) := by
  show IntKind.wrap .u32 (((BitVec.ofInt 32 (a.toNat : Int) &&& BitVec.ofInt 32 (b.toNat : Int)).toNat : Nat) : Int) = _
  rw [ofInt32, ofInt32, ← UInt32.toBitVec_and]; exact wrap32_nat _ (u32_lt _)
theorem or32 (a b : UInt32) : bits .or .u32 (a.toNat : Int) (b.toNat : Int) = ((a ||| b).toNat : Int) := by
  show IntKind.wrap .u32 (((BitVec.ofInt 32 (a.toNat : Int) ||| BitVec.ofInt 32 (b.toNat : Int)).toNat : Nat) : Int) = _
  rw [ofInt32, ofInt32, ← UInt32.toBitVec_or]; exact wrap32_nat _ (u32_lt _)
theorem or8 (a b : UInt8) : bits .or .u8 (a.toNat : Int) (b.toNat : Int) = ((a ||| b).toNat : Int) := by
  show IntKind.wrap .u8 (((BitVec.ofInt 8 (a.toNat : Int) ||| BitVec.ofInt 8 (b.toNat : Int)).toNat : Nat) : Int) = _
  rw [ofInt8, ofInt8, ← UInt8.toBitVec_or]; exact wrap8_nat _ (u8_lt _)
theorem and8 (a b : UInt8) : bits .and .u8 (a.toNat : Int) (b.toNat : Int) = ((a &&& b).toNat : Int) := by
  show IntKind.wrap .u8 (((BitVec.ofInt 8 (a.toNat : Int) &&& BitVec.ofInt 8 (b.toNat : Int)).toNat : Nat) : Int) = _
  rw [ofInt8, ofInt8, ← UInt8.toBitVec_and]; exact wrap8_nat _ (u8_lt _)
theorem not32 (a : UInt32) : notK .u32 (a.toNat : Int) = ((~~~ a).toNat : Int) := by
  have e : (if IntKind.u32.signed = true then (-1 : Int) else IntKind.u32.max) = ((4294967295 : UInt32).toNat : Int) := by decide
  unfold notK
  rw [e, xor32]
  have e2 : (4294967295 : UInt32) ^^^ a = ~~~ a := by
    apply UInt32.toBitVec_inj.1
    rw [UInt32.toBitVec_xor, UInt32.toBitVec_not]
    apply BitVec.eq_of_getLsbD_eq
    intro i hi
    have h1 : (UInt32.toBitVec 4294967295) = BitVec.allOnes 32 := by decide
    rw [BitVec.getLsbD_xor, h1, BitVec.getLsbD_not, BitVec.getLsbD_allOnes]
    simp [hi]
  rw [e2]
theorem add32 (a b : UInt32) : IntKind.wrap .u32 ((a.toNat : Int) + b.toNat) = ((a + b).toNat : Int) := by
  rw [IntKind.wrap_u32, UInt32.toNat_add]; omega
theorem sub32 (a b : UInt32) : IntKind.wrap .u32 ((a.toNat : Int) - b.toNat) = ((a - b).toNat : Int) := by
  have ha := u32_lt a; have hb := u32_lt b
  rw [IntKind.wrap_u32, UInt32.toNat_sub]; omega
theorem wrap32_8 (b : UInt8) : IntKind.wrap .u32 (b.toNat : Int) = (b.toUInt32.toNat : Int) := by
  have := u8_lt b
  rw [wrap32_nat _ (by omega)]; simp
theorem shr32 (a : UInt32) (n : Nat) (h : n < 32) : Int.fdiv (a.toNat : Int) (2 ^ (min (Int.toNat (n : Int)) (IntKind.bits .u32))) = ((a >>> (UInt32.ofNat n)).toNat : Int) := by
  have hm : min (Int.toNat (n : Int)) (IntKind.bits .u32) = n := by simp [IntKind.bits]; omega
  have hn : (UInt32.ofNat n).toNat = n := by simp; omega
  rw [hm, UInt32.toNat_shiftRight, hn, Nat.mod_eq_of_lt h, Nat.shiftRight_eq_div_pow]
  rw [Int.fdiv_eq_ediv_of_nonneg _ (Int.le_of_lt (Int.pow_pos (by decide)))]
  simp
theorem shl32 (a : UInt32) (n : Nat) (h : n < 32) : IntKind.wrap .u32 ((a.toNat : Int) * 2 ^ (min (Int.toNat (n : Int)) (IntKind.bits .u32))) = ((a <<< (UInt32.ofNat n)).toNat : Int) := by
  have hm : min (Int.toNat (n : Int)) (IntKind.bits .u32) = n := by simp [IntKind.bits]; omega
  have hn : (UInt32.ofNat n).toNat = n := by simp; omega
  rw [hm, UInt32.toNat_shiftLeft, hn, Nat.mod_eq_of_lt h, Nat.shiftLeft_eq, IntKind.wrap_u32, show ((a.toNat : Int) * 2 ^ n) = ((a.toNat * 2 ^ n : Nat) : Int) from by rw [Int.natCast_mul, Int.natCast_pow]; rfl]
  generalize a.toNat * 2 ^ n = k
  show ((k : Int) % 4294967296) = ((k % 4294967296 : Nat) : Int)
  omega
theorem mul32 (a b : UInt32) : IntKind.wrap .u32 ((a.toNat : Int) * b.toNat) = ((a * b).toNat : Int) := by
  rw [IntKind.wrap_u32, UInt32.toNat_mul, ← Int.natCast_mul]
  generalize a.toNat * b.toNat = k
  show ((k : Int) % 4294967296) = ((k % 4294967296 : Nat) : Int)
  omega
theorem wrap8_32 (a : UInt32) : IntKind.wrap .u8 (a.toNat : Int) = (a.toUInt8.toNat : Int) := by
  rw [IntKind.wrap_u8, UInt32.toNat_toUInt8]
  show ((a.toNat : Int) % 256) = ((a.toNat % 256 : Nat) : Int)
  omega
theorem shl32i (a : UInt32) (n : Int) (h0 : 0 ≤ n) (h : n < 32) : IntKind.wrap .u32 ((a.toNat : Int) * 2 ^ (min (Int.toNat n) (IntKind.bits .u32))) = ((a <<< (UInt32.ofNat n.toNat)).toNat : Int) := by
  obtain ⟨k, rfl⟩ := Int.eq_ofNat_of_zero_le h0
  exact shl32 a k (by omega)
theorem shr32i (a : UInt32) (n : Int) (h0 : 0 ≤ n) (h : n < 32) : Int.fdiv (a.toNat : Int) (2 ^ (min (Int.toNat n) (IntKind.bits .u32))) = ((a >>> (UInt32.ofNat n.toNat)).toNat : Int) := by
  obtain ⟨k, rfl⟩ := Int.eq_ofNat_of_zero_le h0
  exact shr32 a k (by omega)
end Go.VC

set_option linter.unusedVariables false
set_option linter.unusedSimpArgs false
namespace Go.VC
open Go Go.RowKit

/-! ### Partial heaps, assertions -/
abbrev PH := Nat → Option Obj
def PH.le (a b : PH) : Prop := ∀ k o, a k = some o → b k = some o
def PH.disj (a b : PH) : Prop := ∀ k, a k = none ∨ b k = none
def PH.of (w : World) : PH := fun k => w.heap[k]?
def PH.emp : PH := fun _ => none
def PH.one (b : Nat) (o : Obj) : PH := fun k => if k = b then some o else none
def PH.join (a b : PH) : PH := fun k => (a k).or (b k)
theorem PH.le.refl (a : PH) : PH.le a a := fun _ _ h => h
theorem PH.le.trans {a b c : PH} (h : PH.le a b) (k : PH.le b c) : PH.le a c := fun i o e => k i o (h i o e)
theorem PH.emp_le (a : PH) : PH.le PH.emp a := fun _ _ h => by cases h
theorem PH.le_join_left (a b : PH) : PH.le a (PH.join a b) := fun k o h => by simp [PH.join, h]
theorem PH.le_join_right {a b : PH} (h : PH.disj a b) : PH.le b (PH.join a b) := fun k o e => by
  rcases h k with h | h
  · simp [PH.join, h, e]
  · rw [h] at e; cases e
theorem PH.join_le {a b c : PH} (h : PH.le a c) (k : PH.le b c) : PH.le (PH.join a b) c := fun i o e => by
  simp only [PH.join] at e
  cases ha : a i with
  | none => rw [ha] at e; exact k i o (by simpa using e)
  | some x => rw [ha] at e; simp at e; subst e; exact h i x ha
theorem PH.disj.symm {a b : PH} (h : PH.disj a b) : PH.disj b a := fun k => (h k).symm
theorem PH.disj.sub {a b a' b' : PH} (h : PH.disj a b) (ha : PH.le a' a) (hb : PH.le b' b) : PH.disj a' b' := fun k => by
  rcases h k with h | h
  · left; cases e : a' k with
    | none => rfl
    | some o => have := ha k o e; rw [h] at this; cases this
  · right; cases e : b' k with
    | none => rfl
    | some o => have := hb k o e; rw [h] at this; cases this
theorem PH.disj_emp (a : PH) : PH.disj a PH.emp := fun _ => .inr rfl
theorem PH.disj_join {a b c : PH} (h : PH.disj a c) (k : PH.disj b c) : PH.disj (PH.join a b) c := fun i => by
  rcases h i with h | h
  · rcases k i with k | k
    · left; simp [PH.join, h, k]
    · right; exact k
  · right; exact h
theorem PH.of_lt {w : World} {k : Nat} {o : Obj} (h : PH.of w k = some o) : k < w.heap.size := by
  rcases Nat.lt_or_ge k w.heap.size with h' | h'
  · exact h'
  · simp [PH.of, Array.getElem?_eq_none h'] at h

structure SP where
  p : PH → PH → Prop
  mono : ∀ {ro ro' h h' : PH}, PH.le ro ro' → PH.le h h' → p ro h → p ro' h'
def sep : List SP → PH → PH → Prop
  | [], _, _ => True
  | c :: l, ro, h => ∃ h1 h2, PH.disj h1 h2 ∧ PH.le h1 h ∧ PH.le h2 h ∧ c.p ro h1 ∧ sep l ro h2
theorem sep.mono : ∀ {l : List SP} {ro ro' h h' : PH}, PH.le ro ro' → PH.le h h' → sep l ro h → sep l ro' h'
  | [], _, _, _, _, _, _, _ => trivial
  | _ :: _, _, _, _, _, hr, hh, ⟨h1, h2, d, l1, l2, hc, hs⟩ => ⟨h1, h2, d, l1.trans hh, l2.trans hh, SP.mono _ hr (PH.le.refl _) hc, sep.mono hr (PH.le.refl _) hs⟩
inductive Take : List SP → SP → List SP → Prop
  | h {c : SP} {l : List SP} : Take (c :: l) c l
  | t {c d : SP} {l l' : List SP} : Take l c l' → Take (d :: l) c (d :: l')
inductive Has : List SP → SP → Prop
  | h {c : SP} {l : List SP} : Has (c :: l) c
  | t {c d : SP} {l : List SP} : Has l c → Has (d :: l) c
inductive Takes : List SP → List SP → List SP → Prop
  | n {l : List SP} : Takes l [] l
  | c {l l' r cs : List SP} {c : SP} : Take l c l' → Takes l' cs r → Takes l (c :: cs) r
theorem sep.take {l l' : List SP} {c : SP} (hT : Take l c l') : ∀ {ro h : PH}, sep l ro h → sep (c :: l') ro h := by
  induction hT with
  | h => exact fun h => h
  | t _ ih =>
    rintro ro h ⟨h1, h2, d, l1, l2, hc, hs⟩
    obtain ⟨h3, h4, d', l3, l4, hc', hs'⟩ := ih hs
    have dd : PH.disj h3 (PH.join h1 h4) := fun k => by
      rcases d' k with e | e
      · exact .inl e
      · rcases d k with e1 | e1
        · right; simp [PH.join, e, e1]
        · left
          cases e3 : h3 k with
          | none => rfl
          | some o => have := l3 k o e3; rw [e1] at this; cases this
    exact ⟨h3, PH.join h1 h4, dd, l3.trans l2, PH.join_le l1 (l4.trans l2), hc', h1, h4, d.sub (PH.le.refl _) l4, PH.le_join_left _ _, PH.le_join_right (d.sub (PH.le.refl _) l4), hc, hs'⟩
theorem sep.takes {l cs r : List SP} (hT : Takes l cs r) : ∀ {ro h : PH}, sep l ro h → sep (cs ++ r) ro h := by
  induction hT with
  | n => exact fun h => h
  | c h1 _ ih =>
    intro ro h hh
    obtain ⟨a, b, d, l1, l2, hc, hs⟩ := sep.take h1 hh
    exact ⟨a, b, d, l1, l2, hc, ih hs⟩
theorem sep.has {l : List SP} {c : SP} (hT : Has l c) : ∀ {ro h : PH}, sep l ro h → ∃ h1, PH.le h1 h ∧ c.p ro h1 := by
  induction hT with
  | h => exact fun ⟨h1, _, _, l1, _, hc, _⟩ => ⟨h1, l1, hc⟩
  | t _ ih => exact fun ⟨_, h2, _, _, l2, _, hs⟩ => by obtain ⟨h1, l1, hc⟩ := ih hs; exact ⟨h1, l1.trans l2, hc⟩
theorem sep.app {a b : List SP} {ro h : PH} : (∃ h1 h2, PH.disj h1 h2 ∧ PH.le h1 h ∧ PH.le h2 h ∧ sep a ro h1 ∧ sep b ro h2) → sep (a ++ b) ro h := by
  induction a generalizing h with
  | nil => exact fun ⟨_, _, _, _, l2, _, hb⟩ => hb.mono (PH.le.refl _) l2
  | cons c l ih =>
    rintro ⟨h1, h2, d, l1, l2, ⟨h3, h4, d', l3, l4, hc, hs⟩, hb⟩
    refine ⟨h3, PH.join h4 h2, ?_, l3.trans l1, PH.join_le (l4.trans l1) l2, hc, ih ⟨h4, h2, d.sub l4 (PH.le.refl _), PH.le_join_left _ _, PH.le_join_right (d.sub l4 (PH.le.refl _)), hs, hb⟩⟩
    exact (PH.disj_join d'.symm (d.sub l3 (PH.le.refl _)).symm).symm
/-- what stays of a world, whatever is done -/
structure Bs where
  h : PH
  os : Os
  tape : Nat → Question → Nat
  output : Array (Nat × ByteArray)
def Heap (F : Bs) (w : World) (l : List SP) : Prop :=
  ∃ ro h, PH.le F.h ro ∧ PH.disj ro h ∧ PH.le ro (PH.of w) ∧ PH.le h (PH.of w) ∧ sep l ro h ∧ w.os = F.os ∧ w.tape = F.tape ∧ w.output = F.output
section
variable {F : Bs} {w w' : World} {l l' r cs : List SP} {c c' : SP}
theorem Heap.drew (H : Heap F w l) : Heap F w.drew l := H
theorem Heap.imp (H : Heap F w l) (hi : ∀ ro h, sep l ro h → sep l' ro h) : Heap F w l' := by
  obtain ⟨ro, h, h1, h2, h3, h4, h5, h6⟩ := H
  exact ⟨ro, h, h1, h2, h3, h4, hi _ _ h5, h6⟩
theorem Heap.take (H : Heap F w l) (hT : Take l c l') : Heap F w (c :: l') := H.imp fun _ _ => sep.take hT
theorem Heap.takes (H : Heap F w l) (hT : Takes l cs r) : Heap F w (cs ++ r) := H.imp fun _ _ => sep.takes hT
theorem Heap.tl (H : Heap F w (c :: l)) : Heap F w l := H.imp fun _ _ ⟨_, _, _, _, l2, _, hs⟩ => hs.mono (PH.le.refl _) l2
/-- a chunk as others -/
theorem Heap.ent (H : Heap F w (c :: l)) (hi : ∀ ro h, c.p ro h → sep l' ro h) : Heap F w (l' ++ l) :=
  H.imp fun ro h ⟨h1, h2, d, l1, l2, hc, hs⟩ => sep.app ⟨h1, h2, d, l1, l2, hi _ _ hc, hs⟩
theorem Heap.ent1 (H : Heap F w (c :: l)) (hi : ∀ ro h, c.p ro h → c'.p ro h) : Heap F w (c' :: l) :=
  H.imp fun ro h ⟨h1, h2, d, l1, l2, hc, hs⟩ => ⟨h1, h2, d, l1, l2, hi _ _ hc, hs⟩
theorem Heap.ex {α : Type} {c' : α → List SP} (H : Heap F w (c :: l)) (hi : ∀ ro h, c.p ro h → ∃ x, sep (c' x) ro h) : ∃ x, Heap F w (c' x ++ l) := by
  obtain ⟨ro, h, h1, h2, h3, h4, ⟨g1, g2, d, l1, l2, hc, hs⟩, h6⟩ := H
  obtain ⟨x, hx⟩ := hi _ _ hc
  exact ⟨x, ro, h, h1, h2, h3, h4, sep.app ⟨g1, g2, d, l1, l2, hx, hs⟩, h6⟩
theorem Heap.pure (H : Heap F w l) (hT : Has l c) {φ : Prop} (hi : ∀ ro h, c.p ro h → φ) : φ := by
  obtain ⟨ro, h, h1, h2, h3, h4, h5, h6⟩ := H
  obtain ⟨g, _, hc⟩ := sep.has hT h5
  exact hi _ _ hc
theorem Heap.get (H : Heap F w l) (hT : Has l c) : ∃ ro g, PH.le ro (PH.of w) ∧ PH.le g (PH.of w) ∧ c.p ro g := by
  obtain ⟨ro, h, h1, h2, h3, h4, h5, h6⟩ := H
  obtain ⟨g, hg, hc⟩ := sep.has hT h5
  exact ⟨ro, g, h3, hg.trans h4, hc⟩
/-- a chunk that owns nothing, out of one that is there -/
theorem Heap.add (H : Heap F w l) (hT : Has l c) (hi : ∀ ro h, c.p ro h → c'.p ro PH.emp) : Heap F w (c' :: l) :=
  H.imp fun ro h hs => by
    obtain ⟨g, _, hc⟩ := sep.has hT hs
    exact ⟨PH.emp, h, fun _ => .inl rfl, PH.emp_le _, PH.le.refl _, hi _ _ hc, hs⟩
theorem Heap.add0 (H : Heap F w l) (hi : ∀ ro, c'.p ro PH.emp) : Heap F w (c' :: l) :=
  H.imp fun ro h hs => ⟨PH.emp, h, fun _ => .inl rfl, PH.emp_le _, PH.le.refl _, hi _, hs⟩
theorem Heap.upd1 {ro g1 g2 g : PH} (h1 : PH.le F.h ro) (dro : PH.disj ro g1) (dro2 : PH.disj ro g2) (d : PH.disj g1 g2) (lro : PH.le ro (PH.of w)) (lg2 : PH.le g2 (PH.of w)) (hs : sep l ro g2)
    (h6 : w.os = F.os ∧ w.tape = F.tape ∧ w.output = F.output) (ho : w'.os = w.os) (ht : w'.tape = w.tape) (hu : w'.output = w.output)
    (k1 : c'.p ro g) (k2 : PH.le g (PH.of w')) (k3 : ∀ k, g k ≠ none → g1 k ≠ none ∨ w.heap.size ≤ k) (k4 : ∀ k, k < w.heap.size → g1 k = none → w'.heap[k]? = w.heap[k]?) : Heap F w' (c' :: l) := by
  have keep : ∀ (x : PH), PH.le x (PH.of w) → PH.disj x g1 → PH.le x (PH.of w') := fun x hx hd i o e => by
    have hi := hx i o e
    have hlt := PH.of_lt hi
    rcases hd i with e' | e'
    · rw [e] at e'; cases e'
    · show w'.heap[i]? = _
      rw [k4 i hlt e']; exact hi
  have dis : ∀ (x : PH), PH.le x (PH.of w) → PH.disj x g1 → PH.disj x g := fun x hx hd i => by
    cases e : x i with
    | none => exact .inl rfl
    | some o =>
      right
      have hlt := PH.of_lt (hx i o e)
      rcases hd i with e' | e'
      · rw [e] at e'; cases e'
      · cases e2 : g i with
        | none => rfl
        | some o2 =>
          rcases k3 i (by rw [e2]; simp) with h | h
          · exact absurd e' h
          · omega
  refine ⟨ro, PH.join g g2, h1, (PH.disj_join (dis ro lro dro).symm dro2.symm).symm, keep ro lro dro, PH.join_le k2 (keep g2 lg2 d.symm), ⟨g, g2, (dis g2 lg2 d.symm).symm, PH.le_join_left _ _, PH.le_join_right (dis g2 lg2 d.symm).symm, k1, hs⟩, ho.trans h6.1, ht.trans h6.2.1, hu.trans h6.2.2⟩
/-- the world turns in what a chunk owns, and in new blocks -/
theorem Heap.upd (H : Heap F w (c :: l)) (ho : w'.os = w.os) (ht : w'.tape = w.tape) (hu : w'.output = w.output)
    (hw : ∀ ro h1, PH.le ro (PH.of w) → PH.le h1 (PH.of w) → PH.disj ro h1 → c.p ro h1 → ∃ h1', c'.p ro h1' ∧ PH.le h1' (PH.of w') ∧ (∀ k, h1' k ≠ none → h1 k ≠ none ∨ w.heap.size ≤ k) ∧ (∀ k, k < w.heap.size → h1 k = none → w'.heap[k]? = w.heap[k]?)) :
    Heap F w' (c' :: l) := by
  obtain ⟨ro, h, h1, h2, h3, h4, ⟨g1, g2, d, l1, l2, hc, hs⟩, h6⟩ := H
  have dro : PH.disj ro g1 := h2.sub (PH.le.refl _) l1
  obtain ⟨g, k1, k2, k3, k4⟩ := hw ro g1 h3 (l1.trans h4) dro hc
  exact Heap.upd1 h1 dro (h2.sub (PH.le.refl _) l2) d h3 (l2.trans h4) hs h6 ho ht hu k1 k2 k3 k4
/-- what is owned is not written any more -/
theorem Heap.freeze (H : Heap F w (c :: l)) (hi : ∀ ro h, PH.disj ro h → c.p ro h → c'.p (PH.join ro h) PH.emp) : Heap F w (c' :: l) := by
  obtain ⟨ro, h, h1, h2, h3, h4, ⟨g1, g2, d, l1, l2, hc, hs⟩, h6⟩ := H
  have dro : PH.disj ro g1 := h2.sub (PH.le.refl _) l1
  exact ⟨PH.join ro g1, g2, h1.trans (PH.le_join_left _ _), PH.disj_join (h2.sub (PH.le.refl _) l2) d, PH.join_le h3 (l1.trans h4), l2.trans h4,
    ⟨PH.emp, g2, fun _ => .inl rfl, PH.emp_le _, PH.le.refl _, hi _ _ dro hc, hs.mono (PH.le_join_left _ _) (PH.le.refl _)⟩, h6⟩
theorem Heap.ext (H : Heap F w l) (X : Ext w w') : Heap F w' l := by
  obtain ⟨ro, h, h1, h2, h3, h4, h5, h6, h7, h8⟩ := H
  have keep : ∀ (x : PH), PH.le x (PH.of w) → PH.le x (PH.of w') := fun x hx i o e => by
    have hi := hx i o e
    show w'.heap[i]? = _
    rw [X.block i (PH.of_lt hi) fun h => h]; exact hi
  exact ⟨ro, h, h1, h2, keep _ h3, keep _ h4, h5, X.os.trans h6, X.tape.trans h7, X.output.trans h8⟩
end
/-- all that was stays -/
def Bs.of (w : World) : Bs := ⟨PH.of w, w.os, w.tape, w.output⟩
theorem Heap.start (w : World) : Heap (Bs.of w) w [] := ⟨PH.of w, PH.emp, PH.le.refl _, PH.disj_emp _, PH.le.refl _, PH.emp_le _, trivial, rfl, rfl, rfl⟩
theorem Heap.below {w w' : World} {l : List SP} (H : Heap (Bs.of w) w' l) : Below w.heap.size w w' := by
  obtain ⟨ro, h, h1, h2, h3, h4, h5, h6, h7, h8⟩ := H
  have hb : ∀ k, k < w.heap.size → w'.heap[k]? = w.heap[k]? := fun k hk => by
    have e : (Bs.of w).h k = some (w.heap[k]) := by show w.heap[k]? = _; simp [hk]
    have := h3 k _ (h1 k _ e)
    show w'.heap[k]? = _
    rw [show w'.heap[k]? = some w.heap[k] from this]; simp [hk]
  refine ⟨h6, h7, h8, ?_, hb⟩
  rcases Nat.eq_zero_or_pos w.heap.size with h0 | h0
  · omega
  · have := hb (w.heap.size - 1) (by omega)
    rw [show w.heap[w.heap.size - 1]? = some (w.heap[w.heap.size - 1]'(by omega)) by simp [h0]] at this
    have := (Array.getElem?_eq_some_iff.1 this).1
    omega

/-! ### Blocks -/
/-- a block of the call's own, whole -/
def blk (b : Nat) (ty : TypeId) (cs : List Value) : SP := ⟨fun _ h => h b = some (.cells cs.toArray ty (0, 0)), fun _ hh e => hh _ _ e⟩
section
variable {F : Bs} {w w' : World} {l l' r : List SP} {b o : Nat} {ty : TypeId} {cs cs' : List Value}
theorem Heap.Blk (H : Heap F w l) (hT : Has l (blk b ty cs)) : Go.VC.Blk w b ty cs.toArray := by
  obtain ⟨ro, g, _, hg, hc⟩ := H.get hT
  exact hg _ _ hc
theorem Take.has {l l' : List SP} {c : SP} (h : Take l c l') : Has l c := by
  induction h with
  | h => exact .h
  | t _ ih => exact .t ih
/-- a block is made -/
theorem al (H : Heap F w l) {z : Array Value} {K : Addr → World → Prop} (k : ∀ (b : Nat) (w' : World), Heap F w' (blk b ty cs :: l) → K ⟨b, 0, none⟩ w') (hz : z = cs.toArray := by rfl) : allocK w z ty K := by
  subst hz
  refine k _ _ ?_
  obtain ⟨ro, h, h1, h2, h3, h4, h5, h6, h7, h8⟩ := H
  have X : Ext w (w.alloc (.cells cs.toArray ty)) := (Ch.refl _ w).alloc _
  have keep : ∀ (x : PH), PH.le x (PH.of w) → PH.le x (PH.of (w.alloc (.cells cs.toArray ty))) := fun x hx i o e => by
    have hi := hx i o e
    show (w.alloc _).heap[i]? = _
    rw [X.block i (PH.of_lt hi) fun h => h]; exact hi
  have dn : ∀ (x : PH), PH.le x (PH.of w) → x w.heap.size = none := fun x hx => by
    cases e : x w.heap.size with
    | none => rfl
    | some o => have := PH.of_lt (hx _ _ e); omega
  have d1 : ∀ (x : PH), PH.le x (PH.of w) → PH.disj x (PH.one w.heap.size (.cells cs.toArray ty (0, 0))) := fun x hx i => by
    by_cases e : i = w.heap.size
    · left; rw [e]; exact dn x hx
    · right; simp [PH.one, e]
  refine ⟨ro, PH.join (PH.one w.heap.size (.cells cs.toArray ty (0, 0))) h, h1, (PH.disj_join (d1 ro h3).symm h2.symm).symm, keep _ h3, PH.join_le (fun i o e => ?_) (keep _ h4), ⟨PH.one w.heap.size (.cells cs.toArray ty (0, 0)), h, (d1 h h4).symm, PH.le_join_left _ _, PH.le_join_right (d1 h h4).symm, ?_, h5⟩, h6, h7, h8⟩
  · simp only [PH.one] at e
    split at e
    · rename_i hi; subst hi; cases e; exact heap_alloc_new w _
    · cases e
  · simp [blk, PH.one]
theorem Heap.setCell (H : Heap F w (blk b ty cs :: l)) (o : Nat) (v : Value) : Heap F (w.setCell ⟨b, o, none⟩ v) (blk b ty (cs.set o v) :: l) := by
  refine H.upd rfl rfl rfl fun ro h1 _ hle _ hc => ⟨PH.one b (.cells (cs.set o v).toArray ty (0, 0)), by simp [blk, PH.one], fun i x e => ?_, fun k hk => ?_, fun k hk hn => ?_⟩
  · simp only [PH.one] at e
    split at e
    · rename_i hi; subst hi; cases e
      have := heap_setCell_same w i o cs.toArray ty v (hle _ _ hc)
      show (w.setCell _ v).heap[i]? = _
      rw [this]; simp
    · cases e
  · left
    simp only [PH.one] at hk
    split at hk
    · rename_i hi; subst hi
      have : h1 k = some (.cells cs.toArray ty (0, 0)) := hc
      rw [this]; simp
    · exact absurd rfl hk
  · refine heap_setCell_other w ⟨b, o, none⟩ k v ?_
    intro e
    have hc' : h1 b = some (.cells cs.toArray ty (0, 0)) := hc
    rw [show k = b from e, hc'] at hn; cases hn
/-- the cell o of the row is v -/
inductive CellIs : List Value → Nat → Value → Prop
  | h {v : Value} {l : List Value} : CellIs (v :: l) 0 v
  | t {v u : Value} {l : List Value} {o : Nat} : CellIs l o v → CellIs (u :: l) (o + 1) v
inductive SetIs : List Value → Nat → Value → List Value → Prop
  | h {v u : Value} {l : List Value} : SetIs (u :: l) 0 v (v :: l)
  | t {v u : Value} {l l' : List Value} {o : Nat} : SetIs l o v l' → SetIs (u :: l) (o + 1) v (u :: l')
theorem CellIs.get {v : Value} (h : CellIs cs o v) : cs[o]? = some v := by
  induction h with
  | h => rfl
  | t _ ih => simpa using ih
theorem SetIs.set {v : Value} (h : SetIs cs o v cs') : cs' = cs.set o v ∧ o < cs.length := by
  induction h with
  | h => exact ⟨rfl, by simp⟩
  | t _ ih => obtain ⟨e, h⟩ := ih; subst e; exact ⟨rfl, by simpa using h⟩
theorem Heap.cell (H : Heap F w l) {v : Value} (hT : Has l (blk b ty cs)) (hc : cs[o]? = some v) : w.cell? ⟨b, o, none⟩ = some v := by
  rw [(H.Blk hT).cell]; simpa using hc
theorem ld (H : Heap F w l) {t : Tag1} {x : t.T} {K : t.T → Prop} (k : K x) (hT : Has l (blk b ty cs) := by repeat (first | assumption | constructor)) (hc : CellIs cs o (t.emb x) := by repeat (first | assumption | constructor)) : ldT t w ⟨b, o, none⟩ K :=
  ⟨x, H.cell hT hc.get, k⟩
theorem ldn (H : Heap F w l) {t : Tag1} {x : t.T} {K : t.T → Prop} (hc : cs[o]? = some (t.emb x)) (k : K x) (hT : Has l (blk b ty cs) := by repeat (first | assumption | constructor)) : ldT t w ⟨b, o, none⟩ K :=
  ⟨x, H.cell hT hc, k⟩
theorem stn (H : Heap F w l) {v : Value} {K : World → Prop} (ho : o < cs.length) (k : ∀ w', Heap F w' (blk b ty (cs.set o v) :: l') → K w') (hT : Take l (blk b ty cs) l' := by repeat (first | assumption | constructor)) (hv : oneC v = true := by rfl) : stC w ⟨b, o, none⟩ v K := by
  have hb := H.Blk hT.has
  exact ⟨hv, by rw [hb.cell]; simp [ho], hb.free o, k _ ((H.take hT).setCell o v)⟩
theorem st (H : Heap F w l) {v : Value} {K : World → Prop} (k : ∀ w', Heap F w' (blk b ty cs' :: l') → K w') (hT : Take l (blk b ty cs) l' := by repeat (first | assumption | constructor)) (hs : SetIs cs o v cs' := by repeat (first | assumption | constructor)) (hv : oneC v = true := by rfl) : stC w ⟨b, o, none⟩ v K := by
  obtain ⟨rfl, ho⟩ := hs.set
  exact stn H ho k hT hv
end
end Go.VC

set_option linter.unusedVariables false
set_option linter.unusedSimpArgs false
namespace Go.VC
open Go Go.RowKit

/-! ### What cells stand for -/
class Rep (α : Type) where
  n : Nat
  r : PH → List Value → α → Prop
  mono : ∀ {ro ro' : PH} {cs : List Value} {x : α}, PH.le ro ro' → r ro cs x → r ro' cs x
  len : ∀ {ro : PH} {cs : List Value} {x : α}, r ro cs x → cs.length = n
  one : ∀ {ro : PH} {cs : List Value} {x : α}, r ro cs x → ∀ u ∈ cs, oneC u = true
/-- one cell -/
class Sc (α : Type) where
  enc : α → Value
  one : ∀ x : α, oneC (enc x) = true
instance {α : Type} [Sc α] : Rep α where
  n := 1
  r := fun _ cs x => cs = [Sc.enc x]
  mono := fun _ h => h
  len := fun h => by rw [h]; rfl
  one := fun h u hu => by rw [h] at hu; simp at hu; rw [hu]; exact Sc.one _
instance : Sc Int := ⟨fun x => .int .i64 x, fun _ => rfl⟩
instance : Sc UInt8 := ⟨fun x => .int .u8 (x.toNat : Int), fun _ => rfl⟩
instance : Sc UInt32 := ⟨fun x => .int .u32 (x.toNat : Int), fun _ => rfl⟩
instance : Sc UInt64 := ⟨fun x => .int .u64 (x.toNat : Int), fun _ => rfl⟩
instance : Sc Bool := ⟨fun x => .bool x, fun _ => rfl⟩
instance : Sc ByteArray := ⟨fun x => .string x, fun _ => rfl⟩
instance : Sc (Option Addr) := ⟨fun x => .pointer x, fun _ => rfl⟩
def roCell (ro : PH) (b o : Nat) : Option Value := match ro b with
  | some (.cells c _ _) => c[o]?
  | _ => none
theorem roCell.mono {ro ro' : PH} {b o : Nat} {v : Value} (h : PH.le ro ro') (hc : roCell ro b o = some v) : roCell ro' b o = some v := by
  simp only [roCell] at hc ⊢
  cases e : ro b with
  | none => rw [e] at hc; cases hc
  | some x => rw [h b x e]; rw [e] at hc; exact hc
theorem roCell.cell {w : World} {ro : PH} {b o : Nat} {v : Value} (h : PH.le ro (PH.of w)) (hc : roCell ro b o = some v) : w.cell? ⟨b, o, none⟩ = some v := by
  have := roCell.mono h hc
  simp only [roCell, PH.of] at this
  simp only [World.cell?]
  cases e : w.heap[b]? with
  | none => rw [e] at this; cases this
  | some x => rw [e] at this; cases x <;> simp_all
section
variable {α : Type} [Rep α]
def immL (ro : PH) (s : Sl) (xs : List α) : Prop :=
  xs.length = s.len ∧ s.len ≤ s.cap ∧ s.cap ≤ maxLen ∧ (s.len = 0 ∨ ∃ b o, s.a = some ⟨b, o, none⟩ ∧ ∀ i x, xs[i]? = some x → ∃ cs, Rep.r ro cs x ∧ ∀ j u, cs[j]? = some u → roCell ro b (o + i * Rep.n α + j) = some u)
theorem immL.mono {ro ro' : PH} {s : Sl} {xs : List α} (h : PH.le ro ro') (hi : immL ro s xs) : immL ro' s xs := by
  obtain ⟨h1, h2, h3, h4⟩ := hi
  refine ⟨h1, h2, h3, h4.imp id fun ⟨b, o, ha, hx⟩ => ⟨b, o, ha, fun i x hi => ?_⟩⟩
  obtain ⟨cs, hr, hc⟩ := hx i x hi
  exact ⟨cs, Rep.mono h hr, fun j u hj => roCell.mono h (hc j u hj)⟩
instance : Rep (List α) where
  n := 1
  r := fun ro cs xs => ∃ s : Sl, cs = [s.v] ∧ immL ro s xs
  mono := fun h ⟨s, e, hi⟩ => ⟨s, e, hi.mono h⟩
  len := fun ⟨s, e, _⟩ => by rw [e]; rfl
  one := fun ⟨s, e, _⟩ u hu => by rw [e] at hu; simp at hu; rw [hu]; rfl
/-- a slice that is read alone -/
def imm (s : Sl) (xs : List α) : SP := ⟨fun ro _ => immL ro s xs, fun hr _ h => h.mono hr⟩
/-- cells stand for it -/
def rep (cs : List Value) (x : α) : SP := ⟨fun ro _ => Rep.r ro cs x, fun hr _ h => Rep.mono hr h⟩
/-- a slice of the call's own: nobody else sees its row -/
def own (e : TypeId) (s : Sl) (xs : List α) : SP :=
  ⟨fun ro h => xs.length = s.len ∧ (s = ⟨none, 0, 0⟩ ∨ ∃ (g : Nat) (cur : Array Value), s.a = some ⟨g, 0, none⟩ ∧ h g = some (.cells cur e (0, 0)) ∧ s.len ≤ s.cap ∧ s.cap ≤ maxLen ∧ cur.size = s.cap * Rep.n α ∧
      ∀ i x, xs[i]? = some x → ∃ cs, Rep.r ro cs x ∧ ∀ j u, cs[j]? = some u → cur[i * Rep.n α + j]? = some u),
   fun hr hh ⟨h1, h2⟩ => ⟨h1, h2.imp id fun ⟨g, cur, a, b, c, d, e, f⟩ => ⟨g, cur, a, hh _ _ b, c, d, e, fun i x hi => by obtain ⟨cs, k1, k2⟩ := f i x hi; exact ⟨cs, Rep.mono hr k1, k2⟩⟩⟩⟩
/-- a place whose cells stand for it, in a world -/
def At (w : World) (a : Addr) (cs : List Value) : Prop := ∀ j u, cs[j]? = some u → w.cell? (a.add j) = some u
variable {F : Bs} {w w' : World} {l l' r : List SP} {s : Sl} {xs : List α} {e : TypeId}
theorem Heap.len (H : Heap F w l) (hT : Has l (imm s xs) := by repeat (first | assumption | constructor)) : xs.length = s.len := H.pure hT fun _ _ h => h.1
theorem Heap.cap (H : Heap F w l) (hT : Has l (imm s xs) := by repeat (first | assumption | constructor)) : s.len ≤ s.cap := H.pure hT fun _ _ h => h.2.1
theorem Heap.lenO (H : Heap F w l) (hT : Has l (own e s xs) := by repeat (first | assumption | constructor)) : xs.length = s.len := H.pure hT fun _ _ h => h.1
theorem Heap.imm_nil (H : Heap F w l) : Heap F w (imm ⟨none, 0, 0⟩ ([] : List α) :: l) := H.add0 fun _ => ⟨rfl, Nat.le_refl _, by simp, .inl rfl⟩
theorem Heap.own_nil (H : Heap F w l) (e : TypeId) : Heap F w (own e ⟨none, 0, 0⟩ ([] : List α) :: l) := H.add0 fun _ => ⟨rfl, .inl rfl⟩
/-- an element's place -/
theorem idxI (H : Heap F w l) {i : Int} (h0 : 0 ≤ i) (h1 : i < xs.length) {K : Addr → Prop}
    (k : ∀ (a : Addr) (cs : List Value), Heap F w (rep cs (xs[i.toNat]'(by omega)) :: l) → At w a cs → K a) (hT : Has l (imm s xs) := by repeat (first | assumption | constructor)) : idx s.a s.len i (Rep.n α) K := by
  have hl := H.len hT
  obtain ⟨ro, g, hro, _, ⟨g1, g2, g3, g4⟩⟩ := H.get hT
  refine ⟨h0, by omega, ?_⟩
  rcases g4 with g4 | ⟨b, o, ha, hx⟩
  · omega
  · refine ⟨_, ha, ?_⟩
    have hg : xs[i.toNat]? = some (xs[i.toNat]'(by omega)) := by simp
    obtain ⟨ro2, h2, k1, k2, k3, k4, k5, k6⟩ := H
    obtain ⟨_, _, hc⟩ := sep.has hT k5
    rcases hc.2.2.2 with h4 | ⟨b', o', ha', hx'⟩
    · omega
    rw [ha] at ha'
    obtain ⟨rfl, rfl⟩ : b = b' ∧ o = o' := by simpa using ha'
    obtain ⟨cs, hr, hcs⟩ := hx' _ _ hg
    refine k _ cs ⟨ro2, h2, k1, k2, k3, k4, ⟨PH.emp, h2, fun _ => .inl rfl, PH.emp_le _, PH.le.refl _, hr, k5⟩, k6⟩ fun j u hj => ?_
    simp only [add_mk]
    exact roCell.cell k3 (hcs j u hj)
theorem idxO (H : Heap F w l) {i : Int} (h0 : 0 ≤ i) (h1 : i < xs.length) {K : Addr → Prop}
    (k : ∀ (a : Addr) (cs : List Value), Heap F w (rep cs (xs[i.toNat]'(by omega)) :: l) → At w a cs → K a) (hT : Has l (own e s xs) := by repeat (first | assumption | constructor)) : idx s.a s.len i (Rep.n α) K := by
  have hl := H.lenO hT
  refine ⟨h0, by omega, ?_⟩
  have hg : xs[i.toNat]? = some (xs[i.toNat]'(by omega)) := by simp
  obtain ⟨ro2, h2, k1, k2, k3, k4, k5, k6⟩ := H
  obtain ⟨h3, hh, hc⟩ := sep.has hT k5
  rcases hc.2 with h4 | ⟨g, cur, ha, hb, _, _, _, hx⟩
  · rw [h4] at hl; simp at hl; subst hl; simp at h1; omega
  refine ⟨_, ha, ?_⟩
  obtain ⟨cs, hr, hcs⟩ := hx _ _ hg
  refine k _ cs ⟨ro2, h2, k1, k2, k3, k4, ⟨PH.emp, h2, fun _ => .inl rfl, PH.emp_le _, PH.le.refl _, hr, k5⟩, k6⟩ fun j u hj => ?_
  simp only [add_mk, Nat.zero_add]
  rw [cell_of_row w g _ cur e (0, 0) (k4 _ _ (hh _ _ hb))]
  exact hcs j u hj
theorem At.ld {a : Addr} {cs : List Value} (h : At w a cs) {o : Nat} {t : Tag1} {x : t.T} {K : t.T → Prop} (k : K x) (hc : CellIs cs o (t.emb x) := by repeat (first | assumption | constructor)) : ldT t w (a.add o) K :=
  ⟨x, h _ _ hc.get, k⟩
theorem At.ld0 {a : Addr} {cs : List Value} (h : At w a cs) {t : Tag1} {x : t.T} {K : t.T → Prop} (k : K x) (hc : CellIs cs 0 (t.emb x) := by repeat (first | assumption | constructor)) : ldT t w a K :=
  ⟨x, by have := h 0 _ hc.get; simpa using this, k⟩
theorem At.drew {a : Addr} {cs : List Value} (h : At w a cs) : At w.drew a cs := h
/-- a piece of a slice that is read alone -/
theorem slcI (H : Heap F w l) {lo hi : Int} (h1 : 0 ≤ lo) (h2 : lo ≤ hi) (h3 : hi ≤ xs.length) {K : Sl → Prop}
    (k : ∀ t : Sl, Heap F w (imm t ((xs.drop lo.toNat).take (hi.toNat - lo.toNat)) :: l) → K t) (hT : Has l (imm s xs) := by repeat (first | assumption | constructor)) : slcT s lo hi (Rep.n α) K := by
  have hl := H.len hT
  have hc := H.cap hT
  refine ⟨by omega, by omega, h1, h2, k _ ?_⟩
  refine H.add hT fun ro g ⟨g1, g2, g3, g4⟩ => ⟨?_, ?_, ?_, ?_⟩
  · simp only [List.length_take, List.length_drop]; omega
  · show hi.toNat - lo.toNat ≤ s.cap - lo.toNat
    omega
  · show s.cap - lo.toNat ≤ maxLen
    omega
  · by_cases h0 : hi.toNat - lo.toNat = 0
    · exact .inl h0
    · right
      rcases g4 with g4 | ⟨b, o, ha, hx⟩
      · omega
      · have hne : ¬ s.cap = lo.toNat := by omega
        refine ⟨b, o + lo.toNat * Rep.n α, by simp [hne, ha], fun i x hi => ?_⟩
        rw [List.getElem?_take] at hi
        split at hi
        · rw [List.getElem?_drop] at hi
          obtain ⟨cs, k1, k2⟩ := hx _ _ hi
          refine ⟨cs, k1, fun j u hj => ?_⟩
          have := k2 j u hj
          rw [Nat.add_mul] at this
          rw [← this]; congr 1; omega
        · cases hi
/-- own is read alone from now on -/
theorem Heap.share (H : Heap F w l) (hT : Take l (own e s xs) r := by repeat (first | assumption | constructor)) : Heap F w (imm s xs :: r) := by
  refine (H.take hT).freeze fun ro h d ⟨h1, h2⟩ => ?_
  rcases h2 with h2 | ⟨g, cur, ha, hb, hc, hm, hs, hx⟩
  · subst h2; exact ⟨h1, Nat.le_refl _, by simp, .inl rfl⟩
  · refine ⟨h1, hc, hm, .inr ⟨g, 0, ha, fun i x hi => ?_⟩⟩
    obtain ⟨cs, k1, k2⟩ := hx i x hi
    refine ⟨cs, Rep.mono (PH.le_join_left _ _) k1, fun j u hj => ?_⟩
    simp only [roCell, PH.le_join_right d _ _ hb, Nat.zero_add]
    exact k2 j u hj
end
section
variable {α : Type} [Sc α] {F : Bs} {w w' : World} {l l' r : List SP} {s : Sl} {xs : List α} {e : TypeId}
theorem idxI1 (H : Heap F w l) {i : Int} (h0 : 0 ≤ i) (h1 : i < xs.length) {K : Addr → Prop}
    (k : ∀ (a : Addr), w.cell? a = some (Sc.enc (xs[i.toNat]'(by omega))) → K a) (hT : Has l (imm s xs) := by repeat (first | assumption | constructor)) : idx s.a s.len i 1 K := by
  refine idxI H h0 h1 (fun a cs H' hA => k a ?_) hT
  have : cs = [Sc.enc (xs[i.toNat]'(by omega))] := H'.pure .h fun _ _ h => h
  subst this
  simpa using hA 0 _ rfl
theorem idxO1 (H : Heap F w l) {i : Int} (h0 : 0 ≤ i) (h1 : i < xs.length) {K : Addr → Prop}
    (k : ∀ (a : Addr), w.cell? a = some (Sc.enc (xs[i.toNat]'(by omega))) → K a) (hT : Has l (own e s xs) := by repeat (first | assumption | constructor)) : idx s.a s.len i 1 K := by
  refine idxO H h0 h1 (fun a cs H' hA => k a ?_) hT
  have : cs = [Sc.enc (xs[i.toNat]'(by omega))] := H'.pure .h fun _ _ h => h
  subst this
  simpa using hA 0 _ rfl
end
/-! ### append -/
/-- what is to be appended, in a world: cells that stand for a list -/
structure Src {α : Type} [Rep α] (w : World) (ro : PH) (x : Sl) (ys : List α) : Prop where
  len : ys.length = x.len
  cells : x.len = 0 ∨ ∃ b o, x.a = some ⟨b, o, none⟩ ∧ ∀ i y, ys[i]? = some y → ∃ cs, Rep.r ro cs y ∧ ∀ j u, cs[j]? = some u → w.cell? ⟨b, o + i * Rep.n α + j, none⟩ = some u
theorem flat_get {n : Nat} : ∀ {L : List (List Value)}, (∀ c ∈ L, c.length = n) → ∀ i c j u, L[i]? = some c → c[j]? = some u → L.flatten[i * n + j]? = some u
  | [], _, i, c, j, u, hi, _ => by simp at hi
  | d :: L, hL, 0, c, j, u, hi, hj => by
    simp at hi; subst hi
    have : j < d.length := (List.getElem?_eq_some_iff.1 hj).1
    rw [Nat.zero_mul, Nat.zero_add, List.flatten_cons, List.getElem?_append_left this]; exact hj
  | d :: L, hL, i + 1, c, j, u, hi, hj => by
    have hd : d.length = n := hL d (by simp)
    simp only [List.getElem?_cons_succ] at hi
    have := flat_get (fun c hc => hL c (by simp [hc])) i c j u hi hj
    rw [List.flatten_cons, List.getElem?_append_right (by rw [hd, Nat.add_mul]; omega), hd, ← this]
    congr 1
    rw [Nat.add_mul]; omega
theorem flat_len {n : Nat} : ∀ {L : List (List Value)}, (∀ c ∈ L, c.length = n) → L.flatten.length = L.length * n
  | [], _ => by simp
  | d :: L, hL => by
    rw [List.flatten_cons, List.length_append, flat_len (fun c hc => hL c (by simp [hc])), hL d (by simp), List.length_cons, Nat.add_mul]; omega
section
variable {α : Type} [Rep α]
/-- rows of cells for a list, one by one -/
theorem rows_of {ro : PH} {R : Nat → List Value → Prop} : ∀ {ys : List α} (k : Nat), (∀ i y, ys[i]? = some y → ∃ cs, Rep.r ro cs y ∧ R (k + i) cs) →
    ∃ L : List (List Value), L.length = ys.length ∧ ∀ i y, ys[i]? = some y → ∃ cs, L[i]? = some cs ∧ Rep.r ro cs y ∧ R (k + i) cs
  | [], k, _ => ⟨[], rfl, fun i y h => by simp at h⟩
  | y :: ys, k, h => by
    obtain ⟨c, hc, hr⟩ := h 0 y rfl
    obtain ⟨L, hl, hL⟩ := rows_of (ys := ys) (k + 1) fun i z hz => by
      obtain ⟨cs, a, b⟩ := h (i + 1) z (by simpa using hz)
      exact ⟨cs, a, by rw [show k + 1 + i = k + (i + 1) by omega]; exact b⟩
    refine ⟨c :: L, by simp [hl], fun i z hz => ?_⟩
    cases i with
    | zero => simp at hz; subst hz; exact ⟨c, rfl, hc, hr⟩
    | succ i =>
      obtain ⟨cs, a, b, d⟩ := hL i z (by simpa using hz)
      exact ⟨cs, by simpa using a, b, by rw [show k + (i + 1) = k + 1 + i by omega]; exact d⟩
variable {F : Bs} {w w' : World} {l l' r : List SP} {s x : Sl} {xs ys : List α} {e : TypeId}
/-- 'S' appends rows that stand for ys to a slice of the call's own -/
theorem app_core {P : Program} (hpos : 0 < Rep.n α) {S : Sem Value} (H : Heap F w l)
    (hrun : ∀ ro, PH.le F.h ro → PH.le ro (PH.of w) → (∃ g, sep l ro g ∧ PH.le g (PH.of w)) → ∃ M : List (List Value), M.length = ys.length ∧ (∀ (i : Nat) (y : α), ys[i]? = some y → ∃ cs : List Value, M[i]? = some cs ∧ Rep.r ro cs y) ∧
      ∀ olds, xs.length = s.len → w.ownsRow 0 e (Rep.n α) s.v s.len olds → ∃ v' w', S.run P w = .ok v' w' ∧ w'.ownsRow 0 e (Rep.n α) v' (s.len + ys.length) (olds ++ M.flatten) ∧ w.grownBy w' s.v.ownBlock ∧ (v'.ownBlock = s.v.ownBlock ∨ v'.ownBlock = some w.heap.size))
    {K : Sl → World → Prop}
    (k : ∀ (s' : Sl) (w' : World), Heap F w' (own e s' (xs ++ ys) :: r) → K s' w') (hT : Take l (own e s xs) r := by repeat (first | assumption | constructor)) :
    runG .sl P w S K := by
  have hxs := H.lenO hT.has
  obtain ⟨ro, h, h1, h2, h3, h4, h5, h6⟩ := H
  obtain ⟨M, hM, hMy, hrun⟩ := hrun ro h1 h3 ⟨h, h5, h4⟩
  obtain ⟨g1, g2, d, l1, l2, hc, hs⟩ := sep.take hT h5
  have dro : PH.disj ro g1 := h2.sub (PH.le.refl _) l1
  have hlen : ∀ (A : List (List Value)) (zs : List α), A.length = zs.length → (∀ (i : Nat) (y : α), zs[i]? = some y → ∃ cs : List Value, A[i]? = some cs ∧ Rep.r ro cs y) → ∀ c ∈ A, c.length = Rep.n α := fun A zs h1 h2 c hc => by
    obtain ⟨i, hi, rfl⟩ := List.getElem_of_mem hc
    obtain ⟨cs, (a : A[i]? = some cs), b⟩ := h2 i (zs[i]'(by omega)) (List.getElem?_eq_getElem _)
    rw [List.getElem?_eq_getElem hi, Option.some.injEq] at a
    rw [a]; exact Rep.len b
  -- the rows of what is there
  have old : ∃ L : List (List Value), L.length = xs.length ∧ (∀ (i : Nat) (y : α), xs[i]? = some y → ∃ cs : List Value, L[i]? = some cs ∧ Rep.r ro cs y) ∧ w.ownsRow 0 e (Rep.n α) s.v s.len L.flatten := by
    rcases hc.2 with h0 | ⟨g, cur, ha, hb, hle, hm, hs, hx⟩
    · subst h0
      have : xs = [] := List.eq_nil_of_length_eq_zero hxs
      subst this
      exact ⟨[], rfl, fun i y h => by simp at h, World.ownsRow_nil _ _ _ _⟩
    · obtain ⟨L, hL, hLx⟩ := rows_of (ro := ro) (R := fun i cs => ∀ j u, cs[j]? = some u → cur[i * Rep.n α + j]? = some u) (ys := xs) 0 fun i y hy => by rw [Nat.zero_add]; exact hx i y hy
      have hn := hlen L xs hL fun i y hy => by obtain ⟨cs, a, b, _⟩ := hLx i y hy; exact ⟨cs, a, b⟩
      refine ⟨L, hL, fun i y hy => by obtain ⟨cs, a, b, _⟩ := hLx i y hy; exact ⟨cs, a, b⟩, by rw [flat_len hn, hL, hxs], .inr ⟨g, s.cap, cur, by simp [Sl.v, ha], Nat.zero_le _, h4 _ _ (l1 _ _ hb), hle, hm, hs, ?_⟩⟩
      apply List.ext_getElem?
      intro m
      by_cases hm : m < s.len * Rep.n α
      · rw [List.getElem?_take, if_pos hm]
        have hq : m / Rep.n α < xs.length := by rw [hxs]; exact (Nat.div_lt_iff_lt_mul hpos).2 hm
        obtain ⟨cs, a, b, c⟩ := hLx (m / Rep.n α) (xs[m / Rep.n α]'hq) (by simp)
        have hr : m % Rep.n α < cs.length := by rw [Rep.len b]; exact Nat.mod_lt _ hpos
        have e1 := flat_get hn _ _ (m % Rep.n α) _ a (List.getElem?_eq_getElem hr)
        have e2 := c (m % Rep.n α) _ (List.getElem?_eq_getElem hr)
        have hm' : m / Rep.n α * Rep.n α + m % Rep.n α = m := by rw [Nat.mul_comm]; exact Nat.div_add_mod _ _
        rw [Nat.zero_add] at e2
        rw [hm'] at e1 e2
        rw [e1]; simpa using e2
      · rw [List.getElem?_take, if_neg hm, List.getElem?_eq_none (by rw [flat_len hn, hL, hxs]; omega)]
  obtain ⟨L, hL, hLx, hown⟩ := old
  have hblk : ∀ b, s.v.ownBlock = some b → g1 b ≠ none := fun b hb => by
    rcases hc.2 with h0 | ⟨g, cur, ha, hbb, _⟩
    · subst h0; cases hb
    · simp only [Sl.v, ha, Value.ownBlock, Option.some.injEq] at hb
      subst hb; rw [hbb]; simp
  obtain ⟨v', w', hrun, ho, hg, hv⟩ := hrun _ hxs hown
  have nL := hlen L xs hL hLx
  have nM := hlen M ys hM hMy
  have hv' : ∃ s' : Sl, v' = s'.v ∧ s'.len = s.len + ys.length := by
    rcases ho.2 with ⟨e, h0⟩ | ⟨g, cap, cur, e, _⟩
    · exact ⟨⟨none, 0, 0⟩, e, h0.symm⟩
    · exact ⟨⟨_, _, _⟩, e, rfl⟩
  obtain ⟨s', rfl, hs'⟩ := hv'
  refine ⟨_, w', hrun, s', rfl, k s' w' ?_⟩
  have k4 : ∀ k, k < w.heap.size → g1 k = none → w'.heap[k]? = w.heap[k]? := fun k hk hn => hg.block k hk fun e => hblk k e.symm hn
  have nLM : ∀ c ∈ L ++ M, c.length = Rep.n α := fun c hc => by
    rcases List.mem_append.1 hc with h | h
    · exact nL c h
    · exact nM c h
  have key : ∀ (i : Nat) (y : α), (xs ++ ys)[i]? = some y → ∃ cs : List Value, (L ++ M)[i]? = some cs ∧ Rep.r ro cs y := fun i y hy => by
    rcases Nat.lt_or_ge i xs.length with h | h
    · rw [List.getElem?_append_left h] at hy
      rw [List.getElem?_append_left (by omega)]
      exact hLx i y hy
    · rw [List.getElem?_append_right h] at hy
      rw [List.getElem?_append_right (by omega), hL]
      exact hMy _ y hy
  have hlen' : (xs ++ ys).length = s'.len := by rw [List.length_append, hs']; omega
  rcases ho.2 with ⟨e0, h0⟩ | ⟨g, cap, cur, e0, _, hgh, hle, hcm, hcs, htk⟩
  · have : s' = ⟨none, 0, 0⟩ := by
      obtain ⟨a, b, c⟩ := s'
      simp only [Sl.v, Value.slice.injEq] at e0
      obtain ⟨rfl, rfl, rfl⟩ := e0; rfl
    exact Heap.upd1 (g := PH.emp) h1 dro (h2.sub (PH.le.refl _) l2) d h3 (l2.trans h4) hs h6 hg.os hg.tape hg.output ⟨hlen', .inl this⟩ (PH.emp_le _) (fun k hk => absurd rfl hk) k4
  · have e1 : s'.a = some ⟨g, 0, none⟩ ∧ s'.cap = cap := by
      simp only [Sl.v, Value.slice.injEq] at e0
      exact ⟨e0.1, e0.2.2⟩
    obtain ⟨ea, rfl⟩ := e1
    refine Heap.upd1 (g := PH.one g (.cells cur e (0, 0))) h1 dro (h2.sub (PH.le.refl _) l2) d h3 (l2.trans h4) hs h6 hg.os hg.tape hg.output ⟨hlen', .inr ⟨g, cur, ea, by simp [PH.one], by omega, hcm, hcs, fun i y hy => ?_⟩⟩ (fun k o hk => ?_) (fun k hk => ?_) k4
    · obtain ⟨cs, a, b⟩ := key i y hy
      refine ⟨cs, b, fun j u hj => ?_⟩
      have := flat_get nLM i cs j u a hj
      rw [List.flatten_append, ← htk, List.getElem?_take] at this
      split at this
      · simpa using this
      · cases this
    · simp only [PH.one] at hk
      split at hk
      · rename_i hi; subst hi; cases hk; exact hgh
      · cases hk
    · have hk' : k = g := by
        simp only [PH.one] at hk
        split at hk
        · assumption
        · exact absurd rfl hk
      subst hk'
      have eb : s'.v.ownBlock = some k := by simp [Sl.v, ea, Value.ownBlock]
      rcases hv with hv | hv
      · left; exact hblk k (by rw [← hv]; exact eb)
      · right; rw [eb] at hv; simp at hv; omega
theorem app {P : Program} {t bytes ty : Nat} (hS : SlT P t e (Rep.n α) bytes) (H : Heap F w l) (hsrc : ∀ ro, PH.le F.h ro → PH.le ro (PH.of w) → (∃ g, sep l ro g ∧ PH.le g (PH.of w)) → Src w ro x ys)
    (hb : (xs.length + ys.length) * bytes ≤ 140737488355328) (hm : xs.length + ys.length ≤ maxLen) {K : Sl → World → Prop}
    (k : ∀ (s' : Sl) (w' : World), Heap F w' (own e s' (xs ++ ys) :: r) → K s' w') (hT : Take l (own e s xs) r := by repeat (first | assumption | constructor)) :
    runG .sl P w (Builtin.append_ #[t, t] ty #[.slice s.a s.len s.cap, .slice x.a x.len x.cap]) K := by
  obtain ⟨i, z, hi, hz, hsz, hby, hzs⟩ := hS.ex
  refine app_core (ys := ys) hS.pos H (fun ro h1 h3 hg => ?_) k hT
  have SRC := hsrc ro h1 h3 hg
  have hyl := SRC.len
  rcases SRC.cells with h0 | ⟨b, o, ha, hx⟩
  · have hn : ys = [] := List.eq_nil_of_length_eq_zero (by omega)
    subst hn
    have e0 : x.v = .slice x.a 0 x.cap := by simp [Sl.v, h0]
    refine ⟨[], rfl, fun i y h => by simp at h, fun olds hxs hown => ⟨s.v, w, ?_, by simpa using hown, ⟨rfl, rfl, rfl, Nat.le_refl _, fun _ _ _ => rfl⟩, .inl rfl⟩⟩
    have hnc : s.len ≤ s.cap := by
      rcases hown.2 with ⟨e, _⟩ | ⟨g, cap, cur, e, _, _, hle, _⟩
      · simp only [Sl.v, Value.slice.injEq] at e; omega
      · simp only [Sl.v, Value.slice.injEq] at e; omega
    have hfc : (Builtin.firstCells i.size 0 (.slice x.a 0 x.cap)).run P w = .ok #[] w := by
      cases x.a <;> simp [Builtin.firstCells, loadCells, loadCellsFrom]
    show (Builtin.append_ #[t, t] ty #[.slice s.a s.len s.cap, x.v]).run P w = .ok (.slice s.a s.len s.cap) w
    rw [e0]
    cases s.a with
    | none => simp [Builtin.append_, run_underlying hS.ht, sizeOf, typeInfo, hi, Builtin.lenOf, hfc, hnc]
    | some a => simp [Builtin.append_, run_underlying hS.ht, sizeOf, typeInfo, hi, Builtin.lenOf, hfc, hnc, storeCells]
  · obtain ⟨M, hM, hMx⟩ := rows_of (ro := ro) (R := fun i cs => ∀ j u, cs[j]? = some u → w.cell? ⟨b, o + i * Rep.n α + j, none⟩ = some u) (ys := ys) 0 fun i y hy => by rw [Nat.zero_add]; exact hx i y hy
    have hMy : ∀ (i : Nat) (y : α), ys[i]? = some y → ∃ cs : List Value, M[i]? = some cs ∧ Rep.r ro cs y := fun i y hy => by obtain ⟨cs, a, b, _⟩ := hMx i y hy; exact ⟨cs, a, b⟩
    have nM : ∀ c ∈ M, c.length = Rep.n α := fun c hc => by
      obtain ⟨i, hi, rfl⟩ := List.getElem_of_mem hc
      obtain ⟨cs, (a : M[i]? = some cs), b⟩ := hMy i (ys[i]'(by omega)) (List.getElem?_eq_getElem _)
      rw [List.getElem?_eq_getElem hi, Option.some.injEq] at a
      rw [a]; exact Rep.len b
    have hcell : ∀ j u, M.flatten[j]? = some u → w.cell? ⟨b, o + j, none⟩ = some u := fun m u hm => by
      have hlt : m < M.flatten.length := (List.getElem?_eq_some_iff.1 hm).1
      rw [flat_len nM, hM] at hlt
      have hpos := hS.pos
      have hq : m / Rep.n α < ys.length := (Nat.div_lt_iff_lt_mul hpos).2 hlt
      obtain ⟨cs, a, c, f⟩ := hMx (m / Rep.n α) (ys[m / Rep.n α]'hq) (by simp)
      have hr : m % Rep.n α < cs.length := by rw [Rep.len c]; exact Nat.mod_lt _ hpos
      have e1 := flat_get nM _ _ (m % Rep.n α) _ a (List.getElem?_eq_getElem hr)
      have hm' : m / Rep.n α * Rep.n α + m % Rep.n α = m := by rw [Nat.mul_comm]; exact Nat.div_add_mod _ _
      rw [hm', hm] at e1
      have := f (m % Rep.n α) u (by rw [List.getElem?_eq_getElem hr]; exact e1.symm)
      rw [Nat.zero_add, Nat.add_assoc, hm'] at this
      exact this
    have one : ∀ u ∈ M.flatten, u.oneCell' = true := fun u hu => by
      obtain ⟨c, hc, huc⟩ := List.mem_flatten.1 hu
      obtain ⟨i, hi, rfl⟩ := List.getElem_of_mem hc
      obtain ⟨cs, a, c2⟩ := hMy i (ys[i]'(by omega)) (List.getElem?_eq_getElem _)
      rw [List.getElem?_eq_getElem hi, Option.some.injEq] at a
      have := Rep.one c2 u (by rw [← a]; exact huc)
      cases u <;> first | rfl | cases this
    refine ⟨M, hM, hMy, fun olds hxs hown => ?_⟩
    obtain ⟨v', w', hr, ho, hg, _, hvb⟩ := run_append_own_at (P := P) (w := w) 0 t ty e i z (Rep.n α) bytes hS.ht hi hz hsz hby hzs hS.pos s.v s.len olds hown ⟨b, o, none⟩ x.len x.cap M.flatten (by rw [flat_len nM, hM, hyl])
      (fun j u hj => by rw [add_mk]; exact hcell j u hj) one (by omega) (by rw [← hxs, ← hyl]; exact hb) (Nat.zero_le _)
    refine ⟨v', w', ?_, by rw [hyl]; exact ho, hg, hvb⟩
    rw [← ha] at hr
    exact hr
/-- what is read alone is appended -/
theorem appI {P : Program} {t bytes ty : Nat} (hS : SlT P t e (Rep.n α) bytes) (H : Heap F w l) 
    (hb : (xs.length + ys.length) * bytes ≤ 140737488355328) (hm : xs.length + ys.length ≤ maxLen) {K : Sl → World → Prop}
    (k : ∀ (s' : Sl) (w' : World), Heap F w' (own e s' (xs ++ ys) :: r) → K s' w') (hT : Take l (own e s xs) r := by repeat (first | assumption | constructor)) (hI : Has l (imm x ys) := by repeat (first | assumption | constructor)) :
    runG .sl P w (Builtin.append_ #[t, t] ty #[.slice s.a s.len s.cap, .slice x.a x.len x.cap]) K := by
  refine app hS H (fun ro _ hro ⟨g, hs, _⟩ => ?_) hb hm k hT
  obtain ⟨_, _, hc⟩ := sep.has hI hs
  exact ⟨hc.1, hc.2.2.2.imp id fun ⟨b, o, ha, hx⟩ => ⟨b, o, ha, fun i y hy => by
    obtain ⟨cs, a, f⟩ := hx i y hy
    exact ⟨cs, a, fun j u hj => roCell.cell hro (f j u hj)⟩⟩⟩
/-- one more -/
theorem push {P : Program} {t bytes ty ty2 b : Nat} {cs : List Value} {y : α} (hS : SlT P t e (Rep.n α) bytes) (H : Heap F w l)
    (hb : (xs.length + 1) * bytes ≤ 140737488355328) (hm : xs.length + 1 ≤ maxLen) {K : Sl → World → Prop}
    (k : ∀ (s' : Sl) (w' : World), Heap F w' (own e s' (xs ++ [y]) :: r) → K s' w') (hT : Take l (own e s xs) r := by repeat (first | assumption | constructor)) (hB : Has l (blk b ty2 cs) := by repeat (first | assumption | constructor)) (hr : Has l (rep cs y) := by repeat (first | assumption | constructor)) :
    runG .sl P w (Builtin.append_ #[t, t] ty #[.slice s.a s.len s.cap, .slice (some ⟨b, 0, none⟩) 1 1]) K := by
  have B := H.Blk hB
  refine app (x := ⟨some ⟨b, 0, none⟩, 1, 1⟩) hS H (fun ro _ hro ⟨g, hs, _⟩ => ?_) hb hm k hT
  obtain ⟨_, _, hc⟩ := sep.has hr hs
  refine ⟨rfl, .inr ⟨b, 0, rfl, fun i z hz => ?_⟩⟩
  cases i with
  | zero => simp at hz; subst hz; exact ⟨cs, hc, fun j u hj => by rw [Nat.zero_mul, Nat.zero_add, B.cell]; simpa using hj⟩
  | succ i => simp at hz
end
end Go.VC

set_option linter.unusedVariables false
set_option linter.unusedSimpArgs false
namespace Go.VC
open Go Go.RowKit
/-! ### Chunks with something hidden -/
def SP.of {α : Type} (f : α → List SP) : SP := ⟨fun ro h => ∃ x, sep (f x) ro h, fun hr hh ⟨x, hx⟩ => ⟨x, hx.mono hr hh⟩⟩
def pur (φ : Prop) : SP := ⟨fun _ _ => φ, fun _ _ h => h⟩
section
variable {F : Bs} {w w' : World} {l l' r cs : List SP} {c c' : SP} {φ : Prop}
theorem Heap.opn {α : Type} {f : α → List SP} (H : Heap F w (SP.of f :: l)) : ∃ x, Heap F w (f x ++ l) := H.ex fun _ _ h => h
theorem Heap.pur (H : Heap F w (pur φ :: l)) : φ ∧ Heap F w l := ⟨H.pure .h fun _ _ h => h, H.tl⟩
theorem Heap.addp (H : Heap F w l) (h : φ) : Heap F w (Go.VC.pur φ :: l) := H.add0 fun _ => h
theorem sep.split : ∀ {a b : List SP} {ro h : PH}, sep (a ++ b) ro h → ∃ h1 h2, PH.disj h1 h2 ∧ PH.le h1 h ∧ PH.le h2 h ∧ sep a ro h1 ∧ sep b ro h2
  | [], b, ro, h, hs => ⟨PH.emp, h, fun _ => .inl rfl, PH.emp_le _, PH.le.refl _, trivial, hs⟩
  | c :: a, b, ro, h, ⟨h1, h2, d, l1, l2, hc, hs⟩ => by
    obtain ⟨h3, h4, d', l3, l4, ha, hb⟩ := sep.split hs
    refine ⟨PH.join h1 h3, h4, PH.disj_join (d.sub (PH.le.refl _) l4) d', PH.join_le l1 (l3.trans l2), l4.trans l2, ⟨h1, h3, d.sub (PH.le.refl _) l3, PH.le_join_left _ _, PH.le_join_right (d.sub (PH.le.refl _) l3), hc, ha⟩, hb⟩
theorem Heap.cls {α : Type} {f : α → List SP} (H : Heap F w l) (x : α) (hT : Takes l (f x) r := by repeat (first | assumption | constructor)) : Heap F w (SP.of f :: r) :=
  H.imp fun ro h hs => by
    obtain ⟨h1, h2, d, l1, l2, ha, hb⟩ := sep.split (sep.takes hT hs)
    exact ⟨h1, h2, d, l1, l2, ⟨x, ha⟩, hb⟩
theorem Heap.dup (H : Heap F w l) (hT : Has l c) (hc : ∀ {ro h}, c.p ro h → c.p ro PH.emp) : Heap F w (c :: l) := H.add hT fun _ _ h => hc h
end
theorem nn {b o : Nat} {K : Addr → Prop} (k : K ⟨b, o, none⟩) : nnil (some ⟨b, o, none⟩) K := ⟨_, rfl, k⟩
theorem nns {a : Addr} {K : Addr → Prop} (k : K a) : nnil (some a) K := ⟨_, rfl, k⟩

/-! ### Rows of the call's own: made, written -/
/-- a slice type whose elements are of one cell, and its zero -/
structure SlZ (P : Program) (t e : TypeId) (v : Value) (bytes : Nat) : Prop where
  ht : P.underlying t = some (.slice e)
  info : (P.info? e).map (fun i => (i.zero.map (·.cells), i.size, i.bytes)) = some (some #[v], 1, bytes)
theorem SlZ.ex {P : Program} {t e bytes : Nat} {v : Value} (h : SlZ P t e v bytes) : ∃ i z, P.info? e = some i ∧ i.zero = some z ∧ i.size = 1 ∧ i.bytes = bytes ∧ z.cells = #[v] := by
  have := h.info
  cases hi : P.info? e with
  | none => simp [hi] at this
  | some i =>
    simp only [hi, Option.map_some, Option.some.injEq, Prod.mk.injEq] at this
    obtain ⟨h1, h2, h3⟩ := this
    cases hz : i.zero with
    | none => simp [hz] at h1
    | some z => simp [hz] at h1; exact ⟨i, z, rfl, hz, h2, h3, h1⟩
section
variable {α : Type} [Sc α] {F : Bs} {w w' : World} {l l' r : List SP} {s : Sl} {xs : List α} {e : TypeId}
theorem own_of_row {b n : Nat} {ro h : PH} {cs : List Value} {xs : List α} (hb : h b = some (.cells cs.toArray e (0, 0))) (hx : cs = xs.map Sc.enc) (hm : xs.length ≤ maxLen) (hn : xs.length = n) : (own e ⟨some ⟨b, 0, none⟩, n, n⟩ xs).p ro h := by
  subst hx; subst hn
  exact ⟨rfl, .inr ⟨b, _, rfl, hb, Nat.le_refl _, hm, by simp [Rep.n], fun i x hi => ⟨[Sc.enc x], rfl, fun j u hj => by
    cases j with
    | zero => simp at hj; subst hj; simp [Rep.n, hi]
    | succ j => simp at hj⟩⟩⟩
/-- a block as a slice of the call's own -/
theorem Heap.blk_own {b n : Nat} {cs : List Value} (H : Heap F w l) (xs : List α) (hx : cs = xs.map Sc.enc) (hm : xs.length ≤ maxLen) (hn : xs.length = n) (hT : Take l (blk b e cs) r := by repeat (first | assumption | constructor)) : Heap F w (own e ⟨some ⟨b, 0, none⟩, n, n⟩ xs :: r) :=
  (H.take hT).ent1 fun ro h hb => own_of_row hb hx hm hn
theorem mk {P : Program} {t bytes : Nat} {d : α} (hS : SlZ P t e (Sc.enc d) bytes) (H : Heap F w l) {n : Int} (h0 : 0 ≤ n) (hb : (bytes : Int) * n ≤ 281474976710656) (hm : n ≤ maxLen) {K : Sl → World → Prop}
    (k : ∀ (b : Nat) (w' : World), Heap F w' (blk b e ((List.replicate n.toNat d).map Sc.enc) :: l) → K ⟨some ⟨b, 0, none⟩, n.toNat, n.toNat⟩ w') :
    runG .sl P w (Instr.makeSlice t (.int .i64 n) (.int .i64 n)) K := by
  obtain ⟨i, z, hi, hz, hsz, hby, hzc⟩ := hS.ex
  have hr := run_make (P := P) w t e i z hS.ht hi hz .i64 .i64 n n h0 (by omega) (by rw [hby]; exact hb) (by simp only [maxLen] at hm; omega)
  have e1 : madeCells z.cells (n.toNat * i.size) = ((List.replicate n.toNat d).map Sc.enc).toArray := by
    rw [hsz, Nat.mul_one, hzc]
    apply Array.ext'
    simp only [madeCells, Array.toList_map, Array.toList_range]
    apply List.ext_getElem?
    intro j
    by_cases hj : j < n.toNat
    · simp [hj, List.getElem?_range hj, Nat.mod_one]
    · simp [hj]
  rw [e1] at hr
  refine ⟨_, _, hr, ⟨some ⟨w.heap.size, 0, none⟩, n.toNat, n.toNat⟩, rfl, ?_⟩
  exact al H (K := fun a w' => K ⟨some a, n.toNat, n.toNat⟩ w') (fun b w' H' => k b w' H') rfl
/-- an element's place in a row of the call's own -/
theorem idxW (H : Heap F w l) {i : Int} (h0 : 0 ≤ i) (h1 : i < xs.length) {K : Addr → Prop} (k : ∀ g, s.a = some ⟨g, 0, none⟩ → K ⟨g, i.toNat, none⟩) (hT : Has l (own e s xs) := by repeat (first | assumption | constructor)) : idx s.a s.len i 1 K := by
  have hl := H.lenO hT
  obtain ⟨ro, g, _, _, hc⟩ := H.get hT
  refine ⟨h0, by omega, ?_⟩
  rcases hc.2 with h4 | ⟨g, cur, ha, _⟩
  · rw [h4] at hl; simp at hl; subst hl; simp at h1; omega
  · exact ⟨_, ha, by simp only [add_mk, Nat.zero_add, Nat.mul_one]; exact k g ha⟩
theorem stO (H : Heap F w l) {g i : Nat} (hs : s.a = some ⟨g, 0, none⟩) (hi : i < xs.length) {v : Value} {K : World → Prop} (x : α) (hv : v = Sc.enc x) (k : ∀ w', Heap F w' (own e s (xs.set i x) :: r) → K w') (hT : Take l (own e s xs) r := by repeat (first | assumption | constructor)) : stC w ⟨g, i, none⟩ v K := by
  subst hv
  have hl := H.lenO hT.has
  obtain ⟨ro, gg, _, hg, hc⟩ := H.get hT.has
  rcases hc.2 with h4 | ⟨g', cur, ha, hb, hle, hm, hsz, hx⟩
  · rw [h4] at hs; cases hs
  rw [hs] at ha
  obtain rfl : g = g' := by simpa using ha
  have hgb : w.heap[g]? = some (.cells cur e (0, 0)) := hg _ _ hb
  have hlt : i < cur.size := by simp only [Rep.n, Nat.mul_one] at hsz; omega
  refine ⟨Sc.one x, by rw [cell_of_row w g _ cur e (0, 0) hgb]; simp [hlt], frozen_of_row w g i cur e hgb, k _ ?_⟩
  refine (H.take hT).upd rfl rfl rfl fun ro h1 _ hle1 _ hc1 => ?_
  obtain ⟨k1, k2⟩ := hc1
  rcases k2 with h4 | ⟨g', cur', ha', hb', hle', hm', hsz', hx'⟩
  · rw [h4] at hs; cases hs
  rw [hs] at ha'
  obtain rfl : g = g' := by simpa using ha'
  have : cur' = cur := by have := hle1 _ _ hb'; rw [show PH.of w g = some (.cells cur e (0, 0)) from hgb] at this; simpa using this.symm
  subst this
  refine ⟨PH.one g (.cells (cur'.setIfInBounds i (Sc.enc x)) e (0, 0)), ⟨by simpa using k1, .inr ⟨g, cur'.setIfInBounds i (Sc.enc x), hs, by simp [PH.one], hle', hm', by simpa using hsz', fun j y hj => ?_⟩⟩, fun j o hj => ?_, fun j hj => ?_, fun j hj hn => ?_⟩
  · refine ⟨[Sc.enc y], rfl, fun m u hm => ?_⟩
    cases m with
    | succ m => simp at hm
    | zero =>
      simp only [List.getElem?_cons_zero, Option.some.injEq] at hm
      subst hm
      simp only [Rep.n, Nat.mul_one, Nat.add_zero]
      by_cases hji : j = i
      · subst hji
        rw [List.getElem?_set_self hi] at hj
        cases hj
        simp [hlt]
      · rw [List.getElem?_set_ne (by omega)] at hj
        obtain ⟨cs, c1, c2⟩ := hx' j y hj
        have c1' : cs = [Sc.enc y] := c1
        subst c1'
        have := c2 0 _ rfl
        simp only [Rep.n, Nat.mul_one, Nat.add_zero] at this
        rw [Array.getElem?_setIfInBounds_ne (by omega)]
        exact this
  · simp only [PH.one] at hj
    split at hj
    · rename_i e'; subst e'; cases hj
      exact heap_setCell_same w j i cur' e (Sc.enc x) hgb
    · cases hj
  · left
    simp only [PH.one] at hj
    split at hj
    · rename_i e'; subst e'; rw [hb']; simp
    · exact absurd rfl hj
  · refine heap_setCell_other w ⟨g, i, none⟩ j _ ?_
    intro e'
    rw [show j = g from e', hb'] at hn; cases hn
end
/-! ### noughts are appended -/
theorem run_append_zero {P : Program} (w : World) (t u ty e : TypeId) (i : TypeInfo) (z : Value) (d : Value) (bytes : Nat) (ht : P.underlying t = some (.slice e)) (hu : P.underlying u = some (.int .i64)) (hi : P.info? e = some i) (hz : i.zero = some z)
    (hsize : i.size = 1) (hby : i.bytes = bytes) (hzc : z.cells = #[d]) (hd : oneC d = true)
    (v : Value) (n : Nat) (xs : List Value) (hown : w.ownsRow 0 e 1 v n xs) (m : Nat) (h63 : n + m ≤ maxLen) (hbytes : (n + m) * bytes ≤ 140737488355328) :
    ∃ v' w', (Builtin.append_ #[t, u] ty #[v, .int .i64 (m : Int)]).run P w = .ok v' w' ∧ w'.ownsRow 0 e 1 v' (n + m) (xs ++ List.replicate m d) ∧ w.grownBy w' v.ownBlock ∧ (v'.ownBlock = v.ownBlock ∨ v'.ownBlock = some w.heap.size) := by
  subst hby
  have hsmall : n + m ≤ 9223372036854775807 := by simp only [maxLen] at h63; omega
  have hmx : n + m ≤ 9223372036854775807 := hsmall
  have wm : IntKind.i64.wrap (m : Int) = m := by rw [IntKind.wrap_i64]; omega
  have n1 : ¬ ((m : Int) < 0) := by omega
  have w0 : IntKind.i64.wrap 0 = 0 := by rw [IntKind.wrap_i64]; rfl
  have hmb : m * i.bytes ≤ 140737488355328 := Nat.le_trans (Nat.mul_le_mul_right _ (by omega)) hbytes
  have n2 : ¬ (281474976710656 < (m : Int) * (i.bytes : Int)) := by rw [← Int.natCast_mul]; omega
  have zc : ∀ k, Builtin.zeroCells z.cells k = (List.replicate k d).toArray := fun k => by
    rw [hzc]; apply Array.ext'
    simp only [Builtin.zeroCells, Array.toList_map, Array.toList_range]
    apply List.ext_getElem?
    intro j
    by_cases hj : j < k
    · simp [hj, List.getElem?_range hj, Nat.mod_one]
    · simp [hj]
  have one : ∀ u ∈ List.replicate m d, u.oneCell' = true := fun u hu => by
    have := List.eq_of_mem_replicate hu
    subst this
    cases u <;> first | rfl | cases hd
  have hlen : (xs ++ List.replicate m d).length = (n + m) * 1 := by rw [List.length_append, hown.1]; simp
  have grown : ∀ (old : Nat), ∀ (row : Option Nat),
      (w.drew.alloc (.cells ((xs.toArray ++ (List.replicate m d).toArray) ++ (List.replicate (grownCap w (n + m) old e - (n + m)) d).toArray) e)).ownsRow 0 e 1
        (.slice (some ⟨w.heap.size, 0, none⟩) (n + m) (grownCap w (n + m) old e)) (n + m) (xs ++ List.replicate m d) ∧
      w.grownBy (w.drew.alloc (.cells ((xs.toArray ++ (List.replicate m d).toArray) ++ (List.replicate (grownCap w (n + m) old e - (n + m)) d).toArray) e)) row := by
    intro old row
    have hge := grownCap_ge w (n + m) old e
    have hcm : grownCap w (n + m) old e ≤ maxLen := grownCap_le_maxLen w (n + m) old e h63
    refine ⟨⟨hlen, .inr ⟨w.heap.size, _, _, rfl, Nat.zero_le _, heap_alloc_new w.drew _, hge, hcm, ?_, ?_⟩⟩, ⟨rfl, rfl, rfl, by simp, fun k hk _ => Go.heap_alloc_old w.drew _ hk⟩⟩
    · have h1 := hown.1
      simp only [Array.size_append, List.size_toArray, List.length_replicate] at *
      omega
    · simp only [Array.toList_append]
      rw [← hlen, show xs ++ List.replicate m d = xs.toArray.toList ++ (List.replicate m d).toArray.toList by simp]
      exact List.take_left
  rcases hown.2 with ⟨rfl, rfl⟩ | ⟨g, cap, cur, rfl, hbg, hg, hnc, hcm, hcs, htake⟩
  · have hx : xs = [] := List.eq_nil_of_length_eq_zero (by simpa using hown.1)
    subst hx
    by_cases hm : m = 0
    · subst hm
      refine ⟨.slice none 0 0, w, ?_, World.ownsRow_nil w 0 e 1, ⟨rfl, rfl, rfl, Nat.le_refl _, fun _ _ _ => rfl⟩, Or.inl rfl⟩
      have n2' : ¬ ((281474976710656 : Int) < 0) := by omega
      simp [Builtin.append_, run_underlying ht, run_underlying hu, sizeOf, typeInfo, hi, asInt, asIntOf, w0]
    · have hgr := grown 0 (Value.ownBlock (.slice none 0 0))
      refine ⟨_, _, ?_, hgr.1, hgr.2, Or.inr rfl⟩
      have h63' : ¬ (9223372036854775807 < (m : Int)) := by omega
      have h48' : ¬ (281474976710656 < Builtin.nextslicecap m 0 * i.bytes) := by rw [nextslicecap_zero (by omega)]; omega
      simp [Builtin.append_, run_underlying ht, run_underlying hu, sizeOf, typeInfo, zeroValue, hi, hz, asInt, asIntOf, wm, n1, n2, hm, hsize, h63', h48', Question.forced, newRow, grownCap, zc, Builtin.firstCells, loadCells, loadCellsFrom]
  · by_cases hroom : n + m ≤ cap
    · have hfit : n + (List.replicate m d).length ≤ cur.size := by rw [hcs]; simp; omega
      have hst := run_storeCells_at P g n e (List.replicate m d) 0 cur w hg (by simpa using hfit) one
      simp only [Nat.add_zero] at hst
      refine ⟨_, _, ?_, ⟨hlen, .inr ⟨g, cap, _, rfl, hbg, setRow_heap w g cur (cur.toList.take n ++ List.replicate m d ++ cur.toList.drop (n + (List.replicate m d).length)).toArray e _ hg, hroom, hcm, ?_, ?_⟩⟩, ⟨rfl, rfl, rfl, by simp, fun k _ hk => setRow_other w g k _ (fun e => hk (by simp [Value.ownBlock, e]))⟩, Or.inl rfl⟩
      · by_cases hm : m = 0
        · subst hm
          have e1 : w.setRow g (cur.toList.take n ++ List.replicate 0 d ++ cur.toList.drop (n + (List.replicate 0 d).length)).toArray = w := by
            simp only [List.replicate_zero, List.append_nil, List.length_nil, Nat.add_zero, List.take_append_drop, Array.toArray_toList]
            exact setRow_self w g cur e (0, 0) hg
          rw [e1]
          simp [Builtin.append_, run_underlying ht, run_underlying hu, sizeOf, typeInfo, hi, asInt, asIntOf, hnc, storeCells, Addr.add_lit, w0]
        · simp [Builtin.append_, run_underlying ht, run_underlying hu, sizeOf, typeInfo, zeroValue, hi, hz, asInt, asIntOf, wm, n1, n2, hm, hsize, hroom, Addr.add_lit, zc, hst]
      · simp only [List.size_toArray, List.length_append, List.length_take, List.length_drop, Array.length_toList]
        simp at hfit ⊢
        omega
      · rw [show n = n * 1 by omega, htake, show xs ++ List.replicate m d ++ _ = (xs ++ List.replicate m d) ++ _ from rfl, show n * 1 + m = (n + m) by omega, ← hlen]
        exact List.take_left
    · have hgr := grown cap (Value.ownBlock (.slice (some ⟨g, 0, none⟩) n cap))
      refine ⟨_, _, ?_, hgr.1, hgr.2, Or.inr rfl⟩
      have h63' : ¬ (9223372036854775807 < ((n : Int) + (m : Int))) := by omega
      have h48' : ¬ (281474976710656 < Builtin.nextslicecap (n + m) cap * i.bytes) := by have := growslice_fits (by omega : cap < n + m) hbytes; omega
      have holds : ∀ j u, xs[j]? = some u → w.cell? ((⟨g, 0, none⟩ : Addr).add j) = some u := hown.cells (g := g) rfl
      have hfo := run_firstCells_some (P := P) w.drew 1 n ⟨g, 0, none⟩ n cap xs hown.1 (by simpa using holds)
      have hm : m ≠ 0 := by omega
      simp [Builtin.append_, run_underlying ht, run_underlying hu, sizeOf, typeInfo, zeroValue, hi, hz, asInt, asIntOf, wm, n1, n2, hm, hsize, hroom, h63', h48', Question.forced, newRow, grownCap, zc, hfo]
end Go.VC
