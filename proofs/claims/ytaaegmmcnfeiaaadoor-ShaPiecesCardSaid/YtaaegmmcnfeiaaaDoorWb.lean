import Derived.Test.YtaaegmmcnfeiaaaDoorWa
set_option linter.unusedVariables false
set_option linter.unusedSimpArgs false
namespace Go.VC
open Go
theorem idxR_intro {n : Nat} {i : Int} {φ : Prop} (h0 : 0 ≤ i) (h1 : i < n) (h : φ) : idxR n i φ := ⟨h0, h1, h⟩
/-- several cells of one block are written -/
theorem stL_blk {b : Nat} {ty : TypeId} : ∀ {vs : List Value} {o i : Nat} {w : World} {cs : Array Value} {K : World → Prop}, Blk w b ty cs → o + i + vs.length ≤ cs.size → (∀ v ∈ vs, oneC v = true) →
    (∀ w' cs', Blk w' b ty cs' → cs'.size = cs.size → (∀ j, cs'[j]? = if o + i ≤ j ∧ j < o + i + vs.length then vs[j - (o + i)]? else cs[j]?) → Ch (· = b) w w' → w'.heap.size = w.heap.size → K w') → stL ⟨b, o, none⟩ i vs w K
  | [], o, i, w, cs, K, hb, hl, h1, k => k w cs hb rfl (fun j => by rw [if_neg (by simp)]) (Ch.refl _ w) rfl
  | v :: r, o, i, w, cs, K, hb, hl, h1, k => by
    have hl' : o + i + (r.length + 1) ≤ cs.size := by simpa using hl
    show stC w ((⟨b, o, none⟩ : Addr).add i) v _
    rw [add_mk]
    refine stC_blk hb (by omega) (h1 v (by simp)) fun w1 hb1 hc1 hs1 => ?_
    refine stL_blk (vs := r) (o := o) (i := i + 1) hb1 (by simp; omega) (fun u hu => h1 u (by simp [hu])) fun w2 cs2 hb2 hsz2 hg2 hc2 hs2 => ?_
    refine k w2 cs2 hb2 (by simpa using hsz2) (fun j => ?_) (hc1.trans hc2) (hs2.trans hs1)
    rw [hg2]
    by_cases hj : j = o + i
    · subst hj
      have h : (cs.setIfInBounds (o + i) v)[o + i]? = some v := by simp [show o + i < cs.size by omega]
      rw [if_neg (by omega), h, if_pos (by simp)]
      simp
    · have h : (cs.setIfInBounds (o + i) v)[j]? = cs[j]? := Array.getElem?_setIfInBounds_ne (by omega)
      rw [h]
      simp only [List.length_cons]
      by_cases hin : o + (i + 1) ≤ j ∧ j < o + (i + 1) + r.length
      · rw [if_pos hin, if_pos (by omega), show j - (o + i) = (j - (o + (i + 1))) + 1 by omega]; simp
      · rw [if_neg hin, if_neg (by omega)]
theorem stL_all {b : Nat} {ty : TypeId} {vs : List Value} {w : World} {cs : Array Value} {K : World → Prop} (hb : Blk w b ty cs) (hl : vs.length = cs.size) (h1 : ∀ v ∈ vs, oneC v = true)
    (k : ∀ w', Blk w' b ty vs.toArray → Ch (· = b) w w' → w'.heap.size = w.heap.size → K w') : stL ⟨b, 0, none⟩ 0 vs w K :=
  stL_blk hb (by omega) h1 fun w' cs' hb' hsz hg hc hs => by
    have e : cs' = vs.toArray := by
      apply Array.ext_getElem?
      intro j
      rw [hg]
      by_cases hj : j < vs.length
      · rw [if_pos (by omega)]; simp
      · rw [if_neg (by omega)]; simp [Array.getElem?_eq_none (by omega : cs.size ≤ j)]; omega
    exact k w' (e ▸ hb') hc hs
end Go.VC
namespace Go.Proofs.YtaaegmmcnfeiaaaDoor.G
open Go Go.VC Go.RowKit Go.Proofs Go.Proofs.YtaaegmmcnfeiaaaDoor
def KeyOk (w : World) : Prop := ∀ j, j < 64 → w.cell? ⟨0, j, none⟩ = some (.int .u32 ((Sha.K.getD j 0).toNat : Int))
theorem KeyOk.ext {w w' : World} (h : KeyOk w) (hc : Ext w w') : KeyOk w' := fun j hj => hc.cell (h j hj) fun h => h
/-- the schedule, as far as it has come -/
def sched (b : List UInt8) (k : Nat) : List UInt32 := (List.range 64).map fun j => if j < k then Sha.W b j else 0
@[simp] theorem sched_length (b : List UInt8) (k : Nat) : (sched b k).length = 64 := by simp [sched]
theorem sched_get (b : List UInt8) {k j : Nat} (hj : j < k) (hk : k ≤ 64) : (sched b k).getD j 0 = Sha.W b j := by
  simp [sched, List.getD_eq_getElem?_getD, show j < 64 by omega, hj]
theorem sched_zero (b : List UInt8) : sched b 0 = List.replicate 64 0 := by simp [sched, List.map_const']
theorem sched_set (b : List UInt8) {k : Nat} (hk : k < 64) : (sched b k).set k (Sha.W b k) = sched b (k + 1) := by
  apply List.ext_getElem?
  intro j
  by_cases hj : j = k
  · subst hj; simp [sched, hk]
  · rw [List.getElem?_set_ne (by omega)]
    by_cases h64 : j < 64
    · simp only [sched, List.getElem?_map, List.getElem?_range h64, Option.map_some]
      congr 1
      by_cases h : j < k
      · rw [if_pos h, if_pos (by omega)]
      · rw [if_neg h, if_neg (by omega)]
    · simp [sched, h64]
def stV (s : Sha.St) : Array Value := words s.list
theorem word_eq (b : List UInt8) (k : Nat) :
    bits .or .u32 (bits .or .u32 (bits .or .u32 (IntKind.wrap .u32 ((IntKind.wrap .u32 ((b.getD (4 * k) 0).toNat : Int)) * 2 ^ (min (Int.toNat (24)) (IntKind.bits .u32)))) (IntKind.wrap .u32 ((IntKind.wrap .u32 ((b.getD (4 * k + 1) 0).toNat : Int)) * 2 ^ (min (Int.toNat (16)) (IntKind.bits .u32)))))
      (IntKind.wrap .u32 ((IntKind.wrap .u32 ((b.getD (4 * k + 2) 0).toNat : Int)) * 2 ^ (min (Int.toNat (8)) (IntKind.bits .u32))))) (IntKind.wrap .u32 ((b.getD (4 * k + 3) 0).toNat : Int)) = ((Sha.word b k).toNat : Int) := by
  rw [wrap32_8, wrap32_8, wrap32_8, wrap32_8, shl32i _ 24 (by decide) (by decide), shl32i _ 16 (by decide) (by decide), shl32i _ 8 (by decide) (by decide), or32, or32, or32]
  rfl
/-- the first sixteen words -/
def L1 (w0 : World) (s : Sha.St) (b : List UInt8) (b1 b2 b3 b4 : Nat) (k : Nat) (w : World) : Prop :=
  Ext w0 w ∧ Blk w b1 44 (stV s) ∧ Blk w b2 47 (bytes b) ∧ Blk w b3 44 (words (List.replicate 8 0)) ∧ Blk w b4 58 (words (sched b k))
end Go.Proofs.YtaaegmmcnfeiaaaDoor.G
