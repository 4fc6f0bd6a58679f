import Derived.Test.YtlbhilhfbbocfaaDoorQa
import Derived.Test.YtlbhilhfbbocfaaDoorNs
import Derived.Laws.CopyRow
import Derived.Stop.BytesEq
import Derived.Laws.IdiomStrings
set_option linter.unusedVariables false
set_option linter.unusedSimpArgs false
namespace Go.Proofs.YtlbhilhfbbocfaaDoor.G
open Go Go.VC Go.RowKit Go.Proofs Go.Proofs.YtlbhilhfbbocfaaDoor
def byteV (x : UInt8) : Value := .int .u8 (x.toNat : Int)
def wordV (x : UInt32) : Value := .int .u32 (x.toNat : Int)
theorem rot_cnt (n : Nat) (h1 : 1 ≤ n) (h2 : n ≤ 31) : bits .and .u64 (IntKind.wrap .u64 (-(n : Int))) 31 = ((32 - n : Nat) : Int) := by
  have e : IntKind.wrap .u64 (-(n : Int)) = 18446744073709551616 - n := by simp [IntKind.wrap, IntKind.bits, IntKind.signed]; omega
  rw [e]
  have := bits_mask .u64 64 (by decide) (fun n h0 h1 => IntWalk.u64_in n (by omega)) 5 (by decide) (18446744073709551616 - n) (by omega) (by omega)
  rw [show ((2:Int)^5 - 1) = 31 from rfl] at this
  rw [this]; omega
theorem rot_does (x : UInt32) (n : Nat) (h1 : 1 ≤ n) (h2 : n ≤ 31) (w : World) : Does Tryd.prog 78 #[.int .u32 (x.toNat : Int), .int .i64 (-(n : Int))] w fun v w' => v = wordV (Sha.rotr x n) ∧ w' = w := by
  refine F78_does _ _ _ _ ?_
  unfold F78
  rw [rot_cnt n h1 h2]
  have e : IntKind.wrap .u64 (32 - ((32 - n : Nat) : Int)) = (n : Int) := by rw [IntWalk.u64_in _ (by omega)]; omega
  rw [e, shl32 _ _ (by omega), shr32 _ _ (by omega), or32]
  exact ⟨by omega, by omega, rfl, rfl⟩
theorem turn_does (x : UInt32) (n : Nat) (h1 : 1 ≤ n) (h2 : n ≤ 31) (w : World) : Does Tryd.prog 73 #[.int .u32 (x.toNat : Int), .int .i64 (n : Int)] w fun v w' => v = wordV (Sha.rotr x n) ∧ w' = w := by
  refine F73_does _ _ _ _ ?_
  unfold F73
  rw [IntWalk.i64_in _ (by omega), Int.zero_sub]
  refine (rot_does x n h1 h2 w).mono ?_
  rintro v w' ⟨rfl, rfl⟩
  exact ⟨_, rfl, rfl, rfl⟩
/-- rows of words, of bytes -/
def words (l : List UInt32) : Array Value := (l.map wordV).toArray
def bytes (l : List UInt8) : Array Value := (l.map byteV).toArray
@[simp] theorem size_words (l : List UInt32) : (words l).size = l.length := by simp [words]
@[simp] theorem size_bytes (l : List UInt8) : (bytes l).size = l.length := by simp [bytes]
theorem words_get {l : List UInt32} {i : Nat} (h : i < l.length) : (words l)[i]? = some (.int .u32 ((l.getD i 0).toNat : Int)) := by simp [words, h, wordV]
theorem bytes_get {l : List UInt8} {i : Nat} (h : i < l.length) : (bytes l)[i]? = some (.int .u8 ((l.getD i 0).toNat : Int)) := by simp [bytes, h, byteV]
theorem words_set (l : List UInt32) (i : Nat) (x : UInt32) : (words l).setIfInBounds i (.int .u32 (x.toNat : Int)) = words (l.set i x) := by simp [words, List.map_set, wordV]
theorem bytes_set (l : List UInt8) (i : Nat) (x : UInt8) : (bytes l).setIfInBounds i (.int .u8 (x.toNat : Int)) = bytes (l.set i x) := by simp [bytes, List.map_set, byteV]
theorem zc44 : zc Tryd.prog 88 = words (List.replicate 8 0) := by kernel_rfl
theorem zc58 : zc Tryd.prog 146 = words (List.replicate 64 0) := by kernel_rfl
theorem zc24 : zc Tryd.prog 23 = bytes (List.replicate 32 0) := by kernel_rfl
theorem zc51 : zc Tryd.prog 131 = bytes (List.replicate 8 0) := by kernel_rfl
end Go.Proofs.YtlbhilhfbbocfaaDoor.G

set_option linter.unusedVariables false
set_option linter.unusedSimpArgs false
namespace Go.VC
open Go
theorem idxR_intro {n : Nat} {i : Int} {φ : Prop} (h0 : 0 ≤ i) (h1 : i < n) (h : φ) : idxR n i φ := ⟨h0, h1, h⟩
/-- several cells of one block are written -/
theorem stL_blk {b : Nat} {ty : TypeId} : ∀ {vs : List Value} {o i : Nat} {w : World} {cs : Array Value} {K : World → Prop}, Blk w b ty cs → o + i + vs.length ≤ cs.size → (∀ v ∈ vs, oneC v = true) →
    (∀ w' cs', Blk w' b ty cs' → cs'.size = cs.size → (∀ j, cs'[j]? = if o + i ≤ j ∧ j < o + i + vs.length then vs[j - (o + i)]? else cs[j]?) → Ch (· = b) w w' → w'.heap.size = w.heap.size → K w') → stL ⟨b, o, none⟩ i vs w K
  | [], o, i, w, cs, K, hb, hl, h1, k => k w cs hb rfl (fun j => by rw [if_neg (by simp)]) (Ch.refl _ w) rfl
  | v :: r, o, i, w, cs, K, hb, hl, h1, k => by
    have hl' : o + i + (r.length + 1) ≤ cs.size := by simpa using hl
    show stC w ((⟨b, o, none⟩ : Addr).add i) v _
    rw [add_mk]
    refine stC_blk hb (by omega) (h1 v (by simp)) fun w1 hb1 hc1 hs1 => ?_
    refine stL_blk (vs := r) (o := o) (i := i + 1) hb1 (by simp; omega) (fun u hu => h1 u (by simp [hu])) fun w2 cs2 hb2 hsz2 hg2 hc2 hs2 => ?_
    refine k w2 cs2 hb2 (by simpa using hsz2) (fun j => ?_) (hc1.trans hc2) (hs2.trans hs1)
    rw [hg2]
    by_cases hj : j = o + i
    · subst hj
      have h : (cs.setIfInBounds (o + i) v)[o + i]? = some v := by simp [show o + i < cs.size by omega]
      rw [if_neg (by omega), h, if_pos (by simp)]
      simp
    · have h : (cs.setIfInBounds (o + i) v)[j]? = cs[j]? := Array.getElem?_setIfInBounds_ne (by omega)
      rw [h]
      simp only [List.length_cons]
      by_cases hin : o + (i + 1) ≤ j ∧ j < o + (i + 1) + r.length
      · rw [if_pos hin, if_pos (by omega), show j - (o + i) = (j - (o + (i + 1))) + 1 by omega]; simp
      · rw [if_neg hin, if_neg (by omega)]
theorem stL_all {b : Nat} {ty : TypeId} {vs : List Value} {w : World} {cs : Array Value} {K : World → Prop} (hb : Blk w b ty cs) (hl : vs.length = cs.size) (h1 : ∀ v ∈ vs, oneC v = true)
    (k : ∀ w', Blk w' b ty vs.toArray → Ch (· = b) w w' → w'.heap.size = w.heap.size → K w') : stL ⟨b, 0, none⟩ 0 vs w K :=
  stL_blk hb (by omega) h1 fun w' cs' hb' hsz hg hc hs => by
    have e : cs' = vs.toArray := by
      apply Array.ext_getElem?
      intro j
      rw [hg]
      by_cases hj : j < vs.length
      · rw [if_pos (by omega)]; simp
      · rw [if_neg (by omega)]; simp [Array.getElem?_eq_none (by omega : cs.size ≤ j)]; omega
    exact k w' (e ▸ hb') hc hs
end Go.VC
namespace Go.Proofs.YtlbhilhfbbocfaaDoor.G
open Go Go.VC Go.RowKit Go.Proofs Go.Proofs.YtlbhilhfbbocfaaDoor
def KeyOk (w : World) : Prop := ∀ j, j < 64 → w.cell? ⟨1, j, none⟩ = some (.int .u32 ((Sha.K.getD j 0).toNat : Int))
theorem KeyOk.ext {w w' : World} (h : KeyOk w) (hc : Ext w w') : KeyOk w' := fun j hj => hc.cell (h j hj) fun h => h
/-- the schedule, as far as it has come -/
def sched (b : List UInt8) (k : Nat) : List UInt32 := (List.range 64).map fun j => if j < k then Sha.W b j else 0
@[simp] theorem sched_length (b : List UInt8) (k : Nat) : (sched b k).length = 64 := by simp [sched]
theorem sched_get (b : List UInt8) {k j : Nat} (hj : j < k) (hk : k ≤ 64) : (sched b k).getD j 0 = Sha.W b j := by
  simp [sched, List.getD_eq_getElem?_getD, show j < 64 by omega, hj]
theorem sched_zero (b : List UInt8) : sched b 0 = List.replicate 64 0 := by simp [sched, List.map_const']
theorem sched_set (b : List UInt8) {k : Nat} (hk : k < 64) : (sched b k).set k (Sha.W b k) = sched b (k + 1) := by
  apply List.ext_getElem?
  intro j
  by_cases hj : j = k
  · subst hj; simp [sched, hk]
  · rw [List.getElem?_set_ne (by omega)]
    by_cases h64 : j < 64
    · simp only [sched, List.getElem?_map, List.getElem?_range h64, Option.map_some]
      congr 1
      by_cases h : j < k
      · rw [if_pos h, if_pos (by omega)]
      · rw [if_neg h, if_neg (by omega)]
    · simp [sched, h64]
def stV (s : Sha.St) : Array Value := words s.list
theorem word_eq (b : List UInt8) (k : Nat) :
    bits .or .u32 (bits .or .u32 (bits .or .u32 (IntKind.wrap .u32 ((IntKind.wrap .u32 ((b.getD (4 * k) 0).toNat : Int)) * 2 ^ (min (Int.toNat (24)) (IntKind.bits .u32)))) (IntKind.wrap .u32 ((IntKind.wrap .u32 ((b.getD (4 * k + 1) 0).toNat : Int)) * 2 ^ (min (Int.toNat (16)) (IntKind.bits .u32)))))
      (IntKind.wrap .u32 ((IntKind.wrap .u32 ((b.getD (4 * k + 2) 0).toNat : Int)) * 2 ^ (min (Int.toNat (8)) (IntKind.bits .u32))))) (IntKind.wrap .u32 ((b.getD (4 * k + 3) 0).toNat : Int)) = ((Sha.word b k).toNat : Int) := by
  rw [wrap32_8, wrap32_8, wrap32_8, wrap32_8, shl32i _ 24 (by decide) (by decide), shl32i _ 16 (by decide) (by decide), shl32i _ 8 (by decide) (by decide), or32, or32, or32]
  rfl
/-- the first sixteen words -/
def L1 (w0 : World) (s : Sha.St) (b : List UInt8) (b1 b2 b3 b4 : Nat) (k : Nat) (w : World) : Prop :=
  Ext w0 w ∧ Blk w b1 88 (stV s) ∧ Blk w b2 127 (bytes b) ∧ Blk w b3 88 (words (List.replicate 8 0)) ∧ Blk w b4 146 (words (sched b k))
end Go.Proofs.YtlbhilhfbbocfaaDoor.G

set_option linter.unusedVariables false
set_option linter.unusedSimpArgs false
namespace Go.Proofs.YtlbhilhfbbocfaaDoor.G
open Go Go.VC Go.RowKit Go.Proofs Go.Proofs.YtlbhilhfbbocfaaDoor
theorem sched_cell {w : World} {b4 : Nat} {b : List UInt8} {k j : Nat} (B : Blk w b4 146 (words (sched b k))) (hj : j < k) (hk : k ≤ 64) : w.cell? ⟨b4, j, none⟩ = some (.int .u32 ((Sha.W b j).toNat : Int)) := by
  rw [B.cell, words_get (by simp; omega), sched_get b hj hk]
/-- the rounds: as L1, the schedule whole, and the eight words of now -/
def L3 (w0 : World) (s : Sha.St) (b : List UInt8) (b1 : Nat) (b5 : Nat) (k : Nat) (w : World) : Prop :=
  L1 w0 s b b1 (b1 + 1) (b1 + 2) (b1 + 3) 64 w ∧ Blk w b5 88 (stV (Sha.rounds b s k)) ∧ b1 + 3 < b5
theorem wr_add (a b : UInt32) : IntKind.wrap .u32 ((a.toNat : Int) + (b.toNat : Int)) = ((a + b).toNat : Int) := add32 a b
def mixed8 (h v : List UInt32) (k : Nat) : List UInt32 := (List.range 8).map fun j => if j < k then h.getD j 0 + v.getD j 0 else h.getD j 0
theorem mixed8_set (h v : List UInt32) {k : Nat} (hk : k < 8) : (mixed8 h v k).set k (h.getD k 0 + v.getD k 0) = mixed8 h v (k + 1) := by
  apply List.ext_getElem?
  intro j
  by_cases hj : j = k
  · subst hj; simp [mixed8, hk]
  · rw [List.getElem?_set_ne (by omega)]
    by_cases h8 : j < 8
    · simp only [mixed8, List.getElem?_map, List.getElem?_range h8, Option.map_some]
      congr 1
      by_cases h : j < k
      · rw [if_pos h, if_pos (by omega)]
      · rw [if_neg h, if_neg (by omega)]
    · simp [mixed8, h8]
theorem mixed8_zero (s : Sha.St) (v : List UInt32) : mixed8 s.list v 0 = s.list := rfl
theorem mixed8_all (s v : Sha.St) : mixed8 s.list v.list 8 = (s.add v).list := rfl
theorem mixed8_get (h v : List UInt32) {k : Nat} (hk : k < 8) : (mixed8 h v k).getD k 0 = h.getD k 0 := by simp [mixed8, List.getD_eq_getElem?_getD, hk]
@[simp] theorem mixed8_length (h v : List UInt32) (k : Nat) : (mixed8 h v k).length = 8 := by simp [mixed8]
@[simp] theorem list_length (s : Sha.St) : s.list.length = 8 := rfl
theorem dlt {k n : Nat} (h : k < n) : decide ((k : Int) < (n : Int)) = true := by simp; omega
theorem dge {k n : Nat} (h : ¬ k < n) : decide ((k : Int) < (n : Int)) = false := by simp; omega
theorem block_tail (z : Sha.St) (b1 b3 : Nat) (w106 : World) (l : List UInt32) (hl : l.length = 8) (B1 : Blk w106 b1 88 (stV z)) (B3 : Blk w106 b3 88 (words l)) (Q : Value → World → Prop)
    (hQ : ∀ w', Ch (· = b3) w106 w' → Q (.agg (stV z)) w') (a1 a5 : Addr) (e1 : a1 = ⟨b1, 0, none⟩) (e5 : a5 = ⟨b3, 0, none⟩) :
  (ldT (.int .u32) w106 (a1) fun x112 => ldT (.int .u32) w106 ((a1).add 1) fun x113 => ldT (.int .u32) w106 ((a1).add 2) fun x114 => ldT (.int .u32) w106 ((a1).add 3) fun x115 => ldT (.int .u32) w106 ((a1).add 4) fun x116 => ldT (.int .u32) w106 ((a1).add 5) fun x117 => ldT (.int .u32) w106 ((a1).add 6) fun x118 => ldT (.int .u32) w106 ((a1).add 7) fun x119 =>
              stC w106 (a5) (.int .u32 (x112)) fun w121 => stC w121 ((a5).add 1) (.int .u32 (x113)) fun w122 => stC w122 ((a5).add 2) (.int .u32 (x114)) fun w123 => stC w123 ((a5).add 3) (.int .u32 (x115)) fun w124 => stC w124 ((a5).add 4) (.int .u32 (x116)) fun w125 => stC w125 ((a5).add 5) (.int .u32 (x117)) fun w126 => stC w126 ((a5).add 6) (.int .u32 (x118)) fun w127 => stC w127 ((a5).add 7) (.int .u32 (x119)) fun w128 =>
              ldT (.int .u32) w128 (a5) fun x129 => ldT (.int .u32) w128 ((a5).add 1) fun x130 => ldT (.int .u32) w128 ((a5).add 2) fun x131 => ldT (.int .u32) w128 ((a5).add 3) fun x132 => ldT (.int .u32) w128 ((a5).add 4) fun x133 => ldT (.int .u32) w128 ((a5).add 5) fun x134 => ldT (.int .u32) w128 ((a5).add 6) fun x135 => ldT (.int .u32) w128 ((a5).add 7) fun x136 =>
              Q (.agg #[.int .u32 (x129), .int .u32 (x130), .int .u32 (x131), .int .u32 (x132), .int .u32 (x133), .int .u32 (x134), .int .u32 (x135), .int .u32 (x136)]) w128) := by
  subst e1 e5
  simp only [add_mk, Nat.zero_add]
  refine ldT_blk B1 _ rfl ?_
  refine ldT_blk B1 _ rfl ?_
  refine ldT_blk B1 _ rfl ?_
  refine ldT_blk B1 _ rfl ?_
  refine ldT_blk B1 _ rfl ?_
  refine ldT_blk B1 _ rfl ?_
  refine ldT_blk B1 _ rfl ?_
  refine ldT_blk B1 _ rfl ?_
  refine stL_all (vs := [.int .u32 (z.a.toNat : Int), .int .u32 (z.b.toNat : Int), .int .u32 (z.c.toNat : Int), .int .u32 (z.d.toNat : Int), .int .u32 (z.e.toNat : Int), .int .u32 (z.f.toNat : Int), .int .u32 (z.g.toNat : Int), .int .u32 (z.h.toNat : Int)]) B3 (by simp [hl]) (by simp [oneC]) fun w7 B3' C7 z7 => ?_
  refine ldT_blk B3' _ rfl ?_
  refine ldT_blk B3' _ rfl ?_
  refine ldT_blk B3' _ rfl ?_
  refine ldT_blk B3' _ rfl ?_
  refine ldT_blk B3' _ rfl ?_
  refine ldT_blk B3' _ rfl ?_
  refine ldT_blk B3' _ rfl ?_
  refine ldT_blk B3' _ rfl ?_
  exact hQ _ C7
set_option maxHeartbeats 1000000 in
theorem block_does (s : Sha.St) (b : List UInt8) (hb : b.length = 64) (w : World) (hk : KeyOk w) :
    Does Tryd.prog 67 #[.agg #[.int .u32 (s.a.toNat : Int), .int .u32 (s.b.toNat : Int), .int .u32 (s.c.toNat : Int), .int .u32 (s.d.toNat : Int), .int .u32 (s.e.toNat : Int), .int .u32 (s.f.toNat : Int), .int .u32 (s.g.toNat : Int), .int .u32 (s.h.toNat : Int)], .agg (bytes b)] w
      fun v w' => v = .agg (stV (Sha.block s b)) ∧ Ext w w' := by
  generalize hz : Sha.block s b = z
  refine F67_does _ _ _ _ _ _ _ _ _ _ _ ?_
  unfold F67
  refine allocK_intro fun b1 w1 e1 B1 X1 z1 => ?_
  refine allocK_intro fun b2 w2 e2 B2 X2 z2 => ?_
  refine allocK_intro fun b3 w3 e3 B3 X3 z3 => ?_
  refine allocK_intro fun b4 w4 e4 B4 X4 z4 => ?_
  rw [zc44] at B3
  rw [zc58] at B4
  have X : Ext w w4 := ((X1.ext X2).ext X3).ext X4
  replace B1 : Blk w4 b1 88 (stV s) := (((show Blk w1 b1 88 (stV s) from B1).ext X2).ext X3).ext X4
  replace B2 := (B2.ext X3).ext X4
  replace B3 := B3.ext X4
  have hw0 : w.heap.size ≤ b1 := by omega
  clear X1 X2 X3 X4
  obtain rfl : b2 = b1 + 1 := by omega
  obtain rfl : b3 = b1 + 2 := by omega
  obtain rfl : b4 = b1 + 3 := by omega
  refine ⟨fun x w' => ∃ k : Nat, x = k ∧ k ≤ 16 ∧ L1 w s b b1 (b1 + 1) (b1 + 2) (b1 + 3) k w', fun x _ => (16 - x).toNat, ⟨0, rfl, by omega, X, B1, B2, B3, by rw [sched_zero]; exact B4⟩, ?_⟩
  clear X B1 B2 B3 B4 z1 z2 z3 z4 e1 e2 e3 e4 w1 w2 w3 w4
  rintro x w5 ⟨k, rfl, hk16, X, B1, B2, B3, B4⟩
  by_cases hlt : k < 16
  · rw [show decide ((k : Int) < 16) = true from dlt hlt, cond_true]
    simp (disch := omega) only [IntWalk.i64_in, add_mk, Nat.zero_add, Nat.mul_one]
    have t0 : Int.toNat (4 * (k : Int)) = 4 * k := by omega
    have t1 : Int.toNat (4 * (k : Int) + 1) = 4 * k + 1 := by omega
    have t2 : Int.toNat (4 * (k : Int) + 2) = 4 * k + 2 := by omega
    have t3 : Int.toNat (4 * (k : Int) + 3) = 4 * k + 3 := by omega
    simp only [t0, t1, t2, t3, Int.toNat_natCast]
    refine idxR_intro (by omega) (by omega) (ldT_blk B2.drew _ (bytes_get (by omega)) ⟨by omega, idxR_intro (by omega) (by omega) (ldT_blk B2.drew _ (bytes_get (by omega)) ⟨by omega,
      idxR_intro (by omega) (by omega) (ldT_blk B2.drew _ (bytes_get (by omega)) ⟨by omega, idxR_intro (by omega) (by omega) (ldT_blk B2.drew _ (bytes_get (by omega)) (idxR_intro (by omega) (by omega) ?_))⟩)⟩)⟩)
    rw [word_eq]
    refine stC_blk B4.drew (by simp; omega) rfl fun w6 B4' C6 z6 => ?_
    rw [words_set, ← Sha.W_low b hlt, sched_set b (by omega)] at B4'
    have X' : Ext w w6 := X.drew.step C6 fun i hi e => by omega
    refine ⟨⟨k + 1, by omega, by omega, X', B1.drew.mono C6 (by omega), B2.drew.mono C6 (by omega), B3.drew.mono C6 (by omega), B4'⟩, by omega⟩
  · rw [show decide ((k : Int) < 16) = false from dge hlt, cond_false]
    obtain rfl : k = 16 := by omega
    refine ⟨fun x w' => ∃ k : Nat, x = k ∧ 16 ≤ k ∧ k ≤ 64 ∧ L1 w s b b1 (b1 + 1) (b1 + 2) (b1 + 3) k w', fun x _ => (64 - x).toNat, ⟨16, rfl, by omega, by omega, X, B1, B2, B3, B4⟩, ?_⟩
    clear X B1 B2 B3 B4 w5 hlt hk16
    rintro x w5 ⟨k, rfl, hk16, hk64, X, B1, B2, B3, B4⟩
    by_cases hlt : k < 64
    · rw [show decide ((k : Int) < 64) = true from dlt hlt, cond_true]
      simp (disch := omega) only [IntWalk.i64_in, add_mk, Nat.zero_add, Nat.mul_one]
      have t0 : Int.toNat ((k : Int) - 15) = k - 15 := by omega
      have t1 : Int.toNat ((k : Int) - 2) = k - 2 := by omega
      have t2 : Int.toNat ((k : Int) - 16) = k - 16 := by omega
      have t3 : Int.toNat ((k : Int) - 7) = k - 7 := by omega
      simp only [t0, t1, t2, t3, Int.toNat_natCast]
      have c15 := sched_cell B4 (j := k - 15) (by omega) hk64
      have c2 := sched_cell B4 (j := k - 2) (by omega) hk64
      have c16 := sched_cell B4 (j := k - 16) (by omega) hk64
      have c7 := sched_cell B4 (j := k - 7) (by omega) hk64
      refine idxR_intro (by omega) (by omega) (ldT_cell _ c15 (idxR_intro (by omega) (by omega) (ldT_cell _ c2 (idxR_intro (by omega) (by omega) (ldT_cell _ c16 (idxR_intro (by omega) (by omega) (ldT_cell _ c7 ⟨by omega, by omega, ?_⟩)))))))
      refine (turn_does _ 7 (by omega) (by omega) _).mono ?_
      rintro _ _ ⟨rfl, rfl⟩
      refine ⟨_, rfl, c7, c16, ?_⟩
      refine (turn_does _ 18 (by omega) (by omega) _).mono ?_
      rintro _ _ ⟨rfl, rfl⟩
      refine ⟨_, rfl, c7, c16, ?_⟩
      refine (turn_does _ 17 (by omega) (by omega) _).mono ?_
      rintro _ _ ⟨rfl, rfl⟩
      refine ⟨_, rfl, c7, c16, ?_⟩
      refine (turn_does _ 19 (by omega) (by omega) _).mono ?_
      rintro _ _ ⟨rfl, rfl⟩
      refine ⟨_, rfl, c7, c16, ?_⟩
      refine idxR_intro (by omega) (by omega) ?_
      rw [xor32, xor32, shr32i _ 3 (by decide) (by decide), shr32i _ 10 (by decide) (by decide), xor32, xor32, wr_add, wr_add, wr_add]
      refine stC_blk (B4.drew.drew) (by simp; omega) rfl fun w6 B4' C6 z6 => ?_
      rw [words_set, show Sha.W b (k - 16) + Sha.W b (k - 7) + (Sha.rotr (Sha.W b (k - 15)) 7 ^^^ Sha.rotr (Sha.W b (k - 15)) 18 ^^^ Sha.W b (k - 15) >>> UInt32.ofNat (Int.toNat 3)) + (Sha.rotr (Sha.W b (k - 2)) 17 ^^^ Sha.rotr (Sha.W b (k - 2)) 19 ^^^ Sha.W b (k - 2) >>> UInt32.ofNat (Int.toNat 10)) = Sha.W b k from (Sha.W_high b hk16 hlt).symm, sched_set b (by omega)] at B4'
      have X' : Ext w w6 := X.drew.drew.step C6 fun i hi e => by omega
      exact ⟨⟨k + 1, by omega, by omega, by omega, X', B1.drew.drew.mono C6 (by omega), B2.drew.drew.mono C6 (by omega), B3.drew.drew.mono C6 (by omega), B4'⟩, by omega⟩
    · rw [show decide ((k : Int) < 64) = false from dge hlt, cond_false]
      obtain rfl : k = 64 := by omega
      refine ldT_blk B1 _ rfl ?_
      refine ldT_blk B1 _ rfl ?_
      refine ldT_blk B1 _ rfl ?_
      refine ldT_blk B1 _ rfl ?_
      refine ldT_blk B1 _ rfl ?_
      refine ldT_blk B1 _ rfl ?_
      refine ldT_blk B1 _ rfl ?_
      refine ldT_blk B1 _ rfl ?_
      refine allocK_intro fun b5 w6 e5 B5 X5 z5 => ?_
      rw [zc44] at B5
      have hb5 : b1 + 3 < b5 := by have := B4.lt; omega
      refine stL_all (vs := [.int .u32 (s.a.toNat : Int), .int .u32 (s.b.toNat : Int), .int .u32 (s.c.toNat : Int), .int .u32 (s.d.toNat : Int), .int .u32 (s.e.toNat : Int), .int .u32 (s.f.toNat : Int), .int .u32 (s.g.toNat : Int), .int .u32 (s.h.toNat : Int)]) B5 rfl (by simp [oneC]) fun w7 B5' C7 z7 => ?_
      have X' : Ext w w7 := (X.ext X5).step C7 fun i hi e => by omega
      refine ⟨fun x w' => ∃ k : Nat, x = k ∧ k ≤ 64 ∧ L3 w s b b1 b5 k w', fun x _ => (64 - x).toNat,
        ⟨0, rfl, by omega, ⟨X', (B1.ext X5).mono C7 (by omega), (B2.ext X5).mono C7 (by omega), (B3.ext X5).mono C7 (by omega), (B4.ext X5).mono C7 (by omega)⟩, B5', hb5⟩, ?_⟩
      clear X' B1 B2 B3 B4 B5 B5' C7 X5 z5 z7 X e5 w5 w6 w7 hlt hk16 hk64
      rintro x w5 ⟨k, rfl, hk64, ⟨X, B1, B2, B3, B4⟩, B5, _⟩
      by_cases hlt : k < 64
      · rw [show decide ((k : Int) < 64) = true from dlt hlt, cond_true]
        simp (disch := omega) only [IntWalk.i64_in, add_mk, Nat.zero_add, Nat.mul_one, Int.toNat_natCast]
        generalize hst : Sha.rounds b s k = st at B5
        have ck := (hk.ext X) k hlt
        have cw := sched_cell B4 (j := k) hlt (by omega)
        have c5 : w5.cell? ⟨b5, 5, none⟩ = some (wordV st.f) := B5.cell 5
        have c6 : w5.cell? ⟨b5, 6, none⟩ = some (wordV st.g) := B5.cell 6
        have c7 : w5.cell? ⟨b5, 7, none⟩ = some (wordV st.h) := B5.cell 7
        have c1 : w5.cell? ⟨b5, 1, none⟩ = some (wordV st.b) := B5.cell 1
        have c2 : w5.cell? ⟨b5, 2, none⟩ = some (wordV st.c) := B5.cell 2
        have c3 : w5.cell? ⟨b5, 3, none⟩ = some (wordV st.d) := B5.cell 3
        have c4 : w5.cell? ⟨b5, 4, none⟩ = some (wordV st.e) := B5.cell 4
        have c0 : w5.cell? ⟨b5, 0, none⟩ = some (wordV st.a) := B5.cell 0
        refine idxR_intro (by omega) (by omega) (ldT_cell _ c4 (idxR_intro (by omega) (by omega) (ldT_cell _ c0 ?_)))
        refine idxR_intro (by omega) (by omega) (ldT_cell _ c7 (idxR_intro (by omega) (by omega) (ldT_cell _ c5 (idxR_intro (by omega) (by omega) (ldT_cell _ c6 ?_)))))
        refine idxR_intro (by omega) (by omega) (ldT_cell _ ck (idxR_intro (by omega) (by omega) (ldT_cell _ cw ?_)))
        refine (turn_does _ 6 (by omega) (by omega) _).mono ?_
        rintro _ _ ⟨rfl, rfl⟩
        refine ⟨_, rfl, cw, ck, c6, c5, c7, ?_⟩
        refine (turn_does _ 11 (by omega) (by omega) _).mono ?_
        rintro _ _ ⟨rfl, rfl⟩
        refine ⟨_, rfl, cw, ck, c6, c5, c7, ?_⟩
        refine (turn_does _ 25 (by omega) (by omega) _).mono ?_
        rintro _ _ ⟨rfl, rfl⟩
        refine ⟨_, rfl, cw, ck, c6, c5, c7, ?_⟩
        refine idxR_intro (by omega) (by omega) (ldT_cell _ c1 (idxR_intro (by omega) (by omega) (ldT_cell _ c2 (idxR_intro (by omega) (by omega) (ldT_cell _ c1 (idxR_intro (by omega) (by omega) (ldT_cell _ c2 ?_)))))))
        refine (turn_does _ 2 (by omega) (by omega) _).mono ?_
        rintro _ _ ⟨rfl, rfl⟩
        refine ⟨_, rfl, c2, c1, c2, c1, ?_⟩
        refine (turn_does _ 13 (by omega) (by omega) _).mono ?_
        rintro _ _ ⟨rfl, rfl⟩
        refine ⟨_, rfl, c2, c1, c2, c1, ?_⟩
        refine (turn_does _ 22 (by omega) (by omega) _).mono ?_
        rintro _ _ ⟨rfl, rfl⟩
        refine ⟨_, rfl, c2, c1, c2, c1, ?_⟩
        refine idxR_intro (by omega) (by omega) (ldT_cell _ c1 (idxR_intro (by omega) (by omega) (ldT_cell _ c2 (idxR_intro (by omega) (by omega) (ldT_cell _ c3 ?_)))))
        refine idxR_intro (by omega) (by omega) (ldT_cell _ c5 (idxR_intro (by omega) (by omega) (ldT_cell _ c6 ?_)))
        simp only [xor32, and32, not32, wr_add]
        have h1 : st.h + (Sha.rotr st.e 6 ^^^ Sha.rotr st.e 11 ^^^ Sha.rotr st.e 25) + (st.e &&& st.f ^^^ ~~~st.e &&& st.g) + Sha.K.getD k 0 + Sha.W b k = Sha.T1 b st k := rfl
        have h2 : (Sha.rotr st.a 2 ^^^ Sha.rotr st.a 13 ^^^ Sha.rotr st.a 22) + (st.a &&& st.b ^^^ st.a &&& st.c ^^^ st.b &&& st.c) = Sha.T2 st := rfl
        rw [h1, h2]
        have h3 : Sha.rnd b st k = ⟨Sha.T1 b st k + Sha.T2 st, st.a, st.b, st.c, st.d + Sha.T1 b st k, st.e, st.f, st.g⟩ := rfl
        clear h1 h2
        generalize Sha.T1 b st k = t1 at *
        generalize Sha.T2 st = t2 at *
        refine stL_all (vs := [.int .u32 ((t1 + t2).toNat : Int), .int .u32 (st.a.toNat : Int), .int .u32 (st.b.toNat : Int), .int .u32 (st.c.toNat : Int), .int .u32 ((st.d + t1).toNat : Int), .int .u32 (st.e.toNat : Int), .int .u32 (st.f.toNat : Int), .int .u32 (st.g.toNat : Int)])
          (B5.drew.drew.drew) rfl (by simp [oneC]) fun w7 B5' C7 z7 => ?_
        have X' : Ext w w7 := X.drew.drew.drew.step C7 fun i hi e => by omega
        refine ⟨⟨k + 1, by omega, by omega, ⟨X', B1.drew.drew.drew.mono C7 (by omega), B2.drew.drew.drew.mono C7 (by omega), B3.drew.drew.drew.mono C7 (by omega), B4.drew.drew.drew.mono C7 (by omega)⟩, ?_, hb5⟩, by omega⟩
        rw [show Sha.rounds b s (k + 1) = Sha.rnd b st k by rw [← hst]; rfl, h3]
        exact B5'
      · rw [show decide ((k : Int) < 64) = false from dge hlt, cond_false]
        obtain rfl : k = 64 := by omega
        generalize hst : Sha.rounds b s 64 = st at B5
        have hr : s.add st = z := by rw [← hz, ← hst, Sha.block]
        clear hz hst
        refine ⟨fun x w' => ∃ k : Nat, x = k ∧ k ≤ 8 ∧ Ext w w' ∧ Blk w' b1 88 (words (mixed8 s.list st.list k)) ∧ Blk w' (b1 + 2) 88 (words (List.replicate 8 0)) ∧ Blk w' b5 88 (stV st), fun x _ => (8 - x).toNat,
          ⟨0, rfl, by omega, X, B1, B3, B5⟩, ?_⟩
        clear X B1 B2 B3 B4 B5 w5 hlt hk64
        rintro x w5 ⟨k, rfl, hk8, X, B1, B3, B5⟩
        by_cases hlt : k < 8
        · rw [show decide ((k : Int) < 8) = true from dlt hlt, cond_true]
          simp (disch := omega) only [IntWalk.i64_in, add_mk, Nat.zero_add, Nat.mul_one, Int.toNat_natCast]
          refine idxR_intro (by omega) (by omega) (ldT_blk B1.drew _ (words_get (by simp; omega)) (idxR_intro (by omega) (by omega) (ldT_blk B5.drew _ (words_get (by simp; omega)) (idxR_intro (by omega) (by omega) ?_))))
          rw [wr_add, mixed8_get _ _ hlt]
          refine stC_blk B1.drew (by simp; omega) rfl fun w7 B1' C7 z7 => ?_
          rw [words_set, mixed8_set _ _ hlt] at B1'
          have X' : Ext w w7 := X.drew.step C7 fun i hi e => by omega
          exact ⟨⟨k + 1, by omega, by omega, X', B1', B3.drew.mono C7 (by omega), B5.drew.mono C7 (by omega)⟩, by omega⟩
        · rw [show decide ((k : Int) < 8) = false from dge hlt, cond_false]
          obtain rfl : k = 8 := by omega
          rw [mixed8_all, hr] at B1
          have ht := block_tail z b1 (b1 + 2) w5 (List.replicate 8 0) (by simp) B1 B3 (fun v w' => v = .agg (stV z) ∧ Ext w w') (fun w' C => ⟨rfl, X.step C fun i hi e => by omega⟩) ⟨b1, 0, none⟩ ⟨b1 + 2, 0, none⟩ rfl rfl
          exact ht
end Go.Proofs.YtlbhilhfbbocfaaDoor.G

set_option linter.unusedVariables false
set_option linter.unusedSimpArgs false
namespace Go.VC
open Go Go.RowKit
theorem slcA_intro {a : Addr} {n : Nat} {lo hi : Int} {sz : Nat} {K : Sl → Prop} (h1 : 0 ≤ lo) (h2 : lo ≤ hi) (h3 : hi ≤ n) (k : K ⟨some (if n = lo.toNat then a else a.add (lo.toNat * sz)), hi.toNat - lo.toNat, n - lo.toNat⟩) : slcA a n lo hi sz K :=
  ⟨by omega, h3, h1, h2, k⟩
theorem ldArr_part {w : World} {b o n : Nat} {ty : TypeId} {cs : Array Value} {K : Array Value → Prop} (hb : Blk w b ty cs) (xs : List Value) (hn : xs.length = n) (hx : ∀ j, j < n → cs[o + j]? = xs[j]?) (k : K xs.toArray) : ldArr w ⟨b, o, none⟩ n K :=
  ⟨xs.toArray, by simpa using hn, fun j v hj => by
    simp only [List.getElem?_toArray] at hj
    have hl : j < n := by have := List.getElem?_eq_some_iff.1 hj; obtain ⟨h, _⟩ := this; omega
    rw [add_mk, hb.cell, hx j hl, hj], k⟩
theorem ldArr_blk {w : World} {b n : Nat} {ty : TypeId} {cs : Array Value} {K : Array Value → Prop} (hb : Blk w b ty cs) (hn : cs.size = n) (k : K cs) : ldArr w ⟨b, 0, none⟩ n K :=
  ⟨cs, hn, fun j v hj => by rw [add_mk, hb.cell, Nat.zero_add]; exact hj, k⟩
theorem stArr_all {w : World} {b n : Nat} {ty : TypeId} {cs vs : Array Value} {K : World → Prop} (hb : Blk w b ty cs) (hn : cs.size = n) (hv : vs.size = n) (h1 : ∀ v ∈ vs.toList, oneC v = true)
    (k : ∀ w', Blk w' b ty vs → Ch (· = b) w w' → w'.heap.size = w.heap.size → K w') : stArr w ⟨b, 0, none⟩ vs n K := by
  refine ⟨hv, h1, fun j hj => ⟨by rw [add_mk, hb.cell, Nat.zero_add]; simp [hn, hj], by rw [add_mk]; exact hb.free _⟩, ?_⟩
  have key : ∀ (l : List Value) (i : Nat) (w1 : World) (cs1 : Array Value), Blk w1 b ty cs1 → i + l.length = cs1.size → ∃ cs2, Blk (setL ⟨b, 0, none⟩ i l w1) b ty cs2 ∧ cs2.size = cs1.size ∧ (∀ j, cs2[j]? = if i ≤ j ∧ j < i + l.length then l[j - i]? else cs1[j]?) ∧
      Ch (· = b) w1 (setL ⟨b, 0, none⟩ i l w1) ∧ (setL ⟨b, 0, none⟩ i l w1).heap.size = w1.heap.size := by
    intro l
    induction l with
    | nil => exact fun i w1 cs1 hb1 hl => ⟨cs1, hb1, rfl, fun j => by rw [if_neg (by simp)], Ch.refl _ w1, rfl⟩
    | cons v r ih =>
      intro i w1 cs1 hb1 hl
      simp only [setL, add_mk, Nat.zero_add]
      have hl' : i + (r.length + 1) = cs1.size := by simpa using hl
      obtain ⟨cs2, h2, h3, h4, h5, h6⟩ := ih (i + 1) _ _ (hb1.set i v) (by simp; omega)
      refine ⟨cs2, h2, by simpa using h3, fun j => ?_, ((Ch.refl (· = b) w1).setCell (p := ⟨b, i, none⟩) v fun _ => rfl).trans h5, by simpa using h6⟩
      rw [h4]
      by_cases hj : j = i
      · subst hj
        rw [if_neg (by omega), if_pos (by simp)]
        simp [show j < cs1.size by omega]
      · simp only [List.length_cons]
        rw [Array.getElem?_setIfInBounds_ne (by omega)]
        by_cases hin : i + 1 ≤ j ∧ j < i + 1 + r.length
        · rw [if_pos hin, if_pos (by omega), show j - i = (j - (i + 1)) + 1 by omega]; simp
        · rw [if_neg hin, if_neg (by omega)]
  obtain ⟨cs2, h2, h3, h4, h5, h6⟩ := key vs.toList 0 w cs hb (by simp; omega)
  have e : cs2 = vs := by
    apply Array.ext_getElem?
    intro j
    rw [h4]
    by_cases hj : j < vs.size
    · rw [if_pos (by simpa using hj)]; simp
    · rw [if_neg (by simpa using hj)]; simp [Array.getElem?_eq_none (by omega : cs.size ≤ j), Array.getElem?_eq_none (by omega : vs.size ≤ j)]
  exact k _ (e ▸ h2) h5 h6
theorem Ch.setRow (w : World) (g : Nat) (cs : Array Value) : Ch (· = g) w (w.setRow g cs) ∧ (w.setRow g cs).heap.size = w.heap.size := by
  exact ⟨⟨rfl, rfl, rfl, by simp, fun k _ hs => setRow_other w g k cs hs⟩, by simp⟩
/-- copy into a part of a block -/
theorem copy_blk {P : Program} {t e bytes g o dLen dCap rt : Nat} (hT : SlT P t e 1 bytes) {w : World} {x : Sl} {cur : Array Value} {ty : TypeId} {news : List Value} (hb : Blk w g ty cur) (hx : Sees w x 1 news)
    (hfit : o + dLen ≤ cur.size) (h1 : ∀ u ∈ news, oneC u = true) {K : Int → World → Prop}
    (k : ∀ w', Blk w' g ty (cur.toList.take o ++ news.take dLen ++ cur.toList.drop (o + Nat.min x.len dLen)).toArray → Ch (· = g) w w' → w'.heap.size = w.heap.size → K ((Nat.min x.len dLen : Nat) : Int) w') :
    runG (.int .i64) P w (Builtin.copy_ #[t, t] rt #[.slice (some ⟨g, o, none⟩) dLen dCap, .slice x.a x.len x.cap]) K := by
  obtain ⟨i, z, hi, hz, hsz, hby, hzs⟩ := hT.ex
  have hlen := hx.len
  rw [Nat.mul_one] at hlen
  rcases hx.cells with h0 | ⟨b, o', ha, hc⟩
  · have hn : news = [] := List.eq_nil_of_length_eq_zero (by omega)
    subst hn
    have hm : Nat.min x.len dLen = 0 := by rw [h0]; exact Nat.zero_min _
    rw [hm] at k
    refine ⟨_, w, ?_, 0, rfl, by simpa using k w (by simpa using hb) (Ch.refl _ w) rfl⟩
    have hfc : (Builtin.firstCells i.size 0 (.slice x.a 0 x.cap)).run P w = .ok #[] w := by
      cases x.a <;> simp [Builtin.firstCells, loadCells, loadCellsFrom]
    rw [h0]
    simp [Builtin.copy_, run_underlying hT.ht, sizeOf, typeInfo, hi, Builtin.lenOf, hfc, storeCells]
    rfl
  · have hl : (news.take dLen).length = Nat.min x.len dLen := by simp [hlen, Nat.min_comm]
    have h1' : ∀ u ∈ news.take dLen, u.oneCell' = true := fun u hu => by have := h1 u (List.mem_of_mem_take hu); cases u <;> first | rfl | cases this
    have hr := run_copy_row (P := P) w t t rt e g o dLen dCap ⟨b, o', none⟩ x.len x.cap cur ty (news.take dLen) hT.ht (by simp [hi, hsz]) hb hl
      (fun j v hj => by
        rw [add_mk]; refine hc j v ?_
        rw [List.getElem?_take] at hj; split at hj
        · exact hj
        · cases hj) (by have : Nat.min x.len dLen ≤ dLen := Nat.min_le_right _ _; omega) h1'
    rw [← ha] at hr
    have hs := Ch.setRow w g (cur.toList.take o ++ news.take dLen ++ cur.toList.drop (o + (news.take dLen).length)).toArray
    rw [hl] at hr hs
    exact ⟨_, _, hr, _, rfl, k _ (setRow_heap w g cur _ ty _ hb) hs.1 hs.2⟩
end Go.VC

set_option linter.unusedVariables false
set_option linter.unusedSimpArgs false
namespace Go.Proofs.YtlbhilhfbbocfaaDoor.G
open Go Go.VC Go.RowKit Go.Proofs Go.Proofs.YtlbhilhfbbocfaaDoor
def hashL (x : Sha.Hs) : List Value := x.st.list.map wordV ++ x.rest.map byteV ++ [.int .i64 (x.n : Int)]
def hashV (x : Sha.Hs) : Array Value := (hashL x).toArray
theorem hashL_word (x : Sha.Hs) {j : Nat} (h : j < 8) : (hashL x)[j]? = some (wordV (x.st.list.getD j 0)) := by
  have h8 : x.st.list.length = 8 := rfl
  unfold hashL
  rw [List.append_assoc, List.getElem?_append_left (by simp [h8]; omega)]
  simp [h8, h]
theorem hashL_rest (x : Sha.Hs) (hr : x.rest.length = 64) {j : Nat} (h : j < 64) : (hashL x)[8 + j]? = (x.rest.map byteV)[j]? := by
  have h8 : x.st.list.length = 8 := rfl
  unfold hashL
  rw [List.append_assoc, List.getElem?_append_right (by simp [h8]), List.getElem?_append_left (by simp [h8]; omega)]
  simp [h8]
theorem hashL_n (x : Sha.Hs) (hr : x.rest.length = 64) : (hashL x)[72]? = some (.int .i64 (x.n : Int)) := by
  have h8 : x.st.list.length = 8 := rfl
  unfold hashL
  rw [List.getElem?_append_right (by simp [h8, hr])]
  simp [h8, hr]
theorem hashV_word (x : Sha.Hs) {j : Nat} (h : j < 8) : (hashV x)[j]? = some (.int .u32 ((x.st.list.getD j 0).toNat : Int)) := by simp only [hashV, List.getElem?_toArray]; exact hashL_word x h
theorem hashV_rest (x : Sha.Hs) (hr : x.rest.length = 64) {j : Nat} (h : j < 64) : (hashV x)[8 + j]? = (x.rest.map byteV)[j]? := by simp only [hashV, List.getElem?_toArray]; exact hashL_rest x hr h
theorem hashV_n (x : Sha.Hs) (hr : x.rest.length = 64) : (hashV x)[72]? = some (.int .i64 (x.n : Int)) := by simp only [hashV, List.getElem?_toArray]; exact hashL_n x hr
theorem hashV_size (x : Sha.Hs) (hr : x.rest.length = 64) : (hashV x).size = 73 := by
  have h8 : x.st.list.length = 8 := rfl
  simp [hashV, hashL, h8, hr]
theorem hashV_splice (x : Sha.Hs) (l : List UInt8) (o : Nat) (hr : x.rest.length = 64) (ho : o + l.length ≤ 64) :
    ((hashV x).toList.take (8 + o) ++ l.map byteV ++ (hashV x).toList.drop (8 + o + l.length)).toArray = hashV ⟨x.st, Sha.splice x.rest l o, x.n⟩ := by
  have h8 : (x.st.list.map wordV).length = 8 := rfl
  simp only [hashV, hashL, Sha.splice, List.append_assoc]
  congr 1
  rw [List.take_append, List.take_append, List.take_of_length_le (by rw [h8]; omega), h8, show 8 + o - 8 = o by omega, List.length_map, hr, show o - 64 = 0 by omega, List.take_zero, List.append_nil,
    List.drop_append, List.drop_append, List.drop_eq_nil_of_le (by rw [h8]; omega), h8, show 8 + o + l.length - 8 = o + l.length by omega, List.length_map, hr, show o + l.length - 64 = 0 by omega]
  simp [List.map_take, List.map_drop]
theorem hashV_set_n (x : Sha.Hs) (hr : x.rest.length = 64) (m : Nat) : (hashV x).setIfInBounds 72 (.int .i64 (m : Int)) = hashV ⟨x.st, x.rest, m⟩ := by
  have h8 : (x.st.list.map wordV).length = 8 := rfl
  simp only [hashV, hashL]
  rw [List.setIfInBounds_toArray, List.set_append, if_neg (by simp [h8, hr])]
  congr 2
  simp [h8, hr]
theorem hashL_tail (x : Sha.Hs) (s : Sha.St) {j : Nat} (h : ¬ j < 8) : (hashL x)[j]? = (hashL ⟨s, x.rest, x.n⟩)[j]? := by
  have h8 : ∀ s : Sha.St, (s.list.map wordV).length = 8 := fun _ => rfl
  have key : ∀ p q t : List Value, p.length = 8 → q.length = 8 → (p ++ t)[j]? = (q ++ t)[j]? := fun p q t hp hq => by
    rw [List.getElem?_append_right (by omega), List.getElem?_append_right (by omega), hp, hq]
  simp only [hashL, List.append_assoc]
  exact key _ _ _ (h8 _) (h8 _)
theorem hashV_set_st (x : Sha.Hs) (s : Sha.St) {cs : Array Value}
    (hg : ∀ j, cs[j]? = if 0 ≤ j ∧ j < 0 + 8 then (s.list.map wordV)[j - 0]? else (hashV x)[j]?) : cs = hashV ⟨s, x.rest, x.n⟩ := by
  apply Array.ext_getElem?
  intro j
  rw [hg]
  by_cases hj : j < 8
  · rw [if_pos (by omega)]
    simp only [hashV, List.getElem?_toArray]
    rw [hashL_word _ hj]
    have h8 : s.list.length = 8 := rfl
    simp [h8, hj]
  · rw [if_neg (by omega)]
    simp only [hashV, List.getElem?_toArray]
    exact hashL_tail x s hj
theorem nnil_some (a : Addr) (K : Addr → Prop) : nnil (some a) K = K a := propext ⟨fun ⟨_, e, h⟩ => by cases e; exact h, fun h => ⟨_, rfl, h⟩⟩
theorem stArg (s : Sha.St) (b : List UInt8) (hb : b.length = 64) (w : World) (hk : KeyOk w) {xs : Array Value} (e : xs = bytes b) {Q : Value → World → Prop} (k : ∀ w', Ext w w' → Q (.agg (stV (Sha.block s b))) w') :
    Does Tryd.prog 67 #[.agg #[.int .u32 (s.a.toNat : Int), .int .u32 (s.b.toNat : Int), .int .u32 (s.c.toNat : Int), .int .u32 (s.d.toNat : Int), .int .u32 (s.e.toNat : Int), .int .u32 (s.f.toNat : Int), .int .u32 (s.g.toNat : Int), .int .u32 (s.h.toNat : Int)], .agg xs] w Q := by
  subst e
  refine (block_does s b hb w hk).mono ?_
  rintro _ w' ⟨rfl, C⟩
  exact k w' C
theorem slT22 : SlT Tryd.prog 26 5 1 1 := ⟨by kernel_rfl, by kernel_rfl, by decide⟩
theorem oneC_byte (l : List UInt8) : ∀ u ∈ l.map byteV, oneC u = true := by
  intro u hu
  obtain ⟨c, _, rfl⟩ := List.mem_map.1 hu
  rfl
theorem tmod_nat (a b : Nat) : Int.tmod (a : Int) (b : Int) = ((a % b : Nat) : Int) := by simp [Int.tmod]
set_option maxHeartbeats 1000000 in
theorem write_does (x : Sha.Hs) (l : List UInt8) (w : World) (hb : Nat) (b : Sl) (B : Blk w hb 129 (hashV x)) (hr : x.rest.length = 64) (hs : Sees w b 1 (l.map byteV)) (hne : b.blk ≠ some hb)
    (hn : x.n + l.length < 9223372036854775807) (hk : KeyOk w) (h0 : hb ≠ 1) :
    Does Tryd.prog 54 #[.pointer (some ⟨hb, 0, none⟩), .slice b.a b.len b.cap] w fun v w' => v = .tuple #[] ∧ Ch (· = hb) w w' ∧ Blk w' hb 129 (hashV (x.write l)) := by
  refine F54_does _ _ _ _ ?_
  unfold F54
  refine ⟨fun b1 w' => ∃ d r : List UInt8, l = d ++ r ∧ Sees w' b1 1 (r.map byteV) ∧ b1.blk ≠ some hb ∧ Ch (· = hb) w w' ∧ Blk w' hb 129 (hashV (x.write d)), fun b1 _ => b1.len, ⟨[], l, rfl, hs, hne, Ch.refl _ w, B⟩, ?_⟩
  rintro b1 w1 ⟨d, r, rfl, hs, hne, C, B⟩
  have hy : (x.write d).rest.length = 64 := by rw [Sha.Hs.write_rest, hr]
  have hyn := x.write_n d
  have hkey : KeyOk w1 := fun j hj => C.cell (hk j hj) fun e => h0 e.symm
  have hlen := hs.len
  simp only [List.length_map, Nat.mul_one] at hlen
  have hcap := hs.cap
  have hmax := hs.max
  simp only [List.length_append] at hn
  rw [Sha.Hs.write_append] 
  generalize hxd : x.write d = y at *
  by_cases hpos : 0 < b1.len
  · rw [show decide ((b1.len : Int) > 0) = true by simp; omega, cond_true]
    simp only [nnil_some, add_mk, Nat.zero_add]
    refine ldT_blk B.drew _ (hashV_n y hy) ⟨by decide, ?_⟩
    rw [show (64 : Int) = ((64 : Nat) : Int) from rfl, tmod_nat]
    refine slcA_intro (by omega) (by omega) (by omega) ?_
    rw [Int.toNat_natCast, Int.toNat_natCast, if_neg (by omega), add_mk, Nat.mul_one]
    dsimp only
    have hm : y.n % 64 < 64 := Nat.mod_lt _ (by decide)
    refine copy_blk slT22 B.drew hs.drew (by rw [hashV_size y hy]; omega) (oneC_byte r) fun w2 B2 C2 z2 => ?_
    have e1 : Nat.min b1.len (64 - y.n % 64) = (r.take (64 - y.n % 64)).length := by simp [hlen, Nat.min_comm]
    rw [e1, ← List.map_take] at B2
    rw [e1]
    clear e1
    have hsplit : r = r.take (64 - y.n % 64) ++ r.drop (64 - y.n % 64) := (List.take_append_drop _ _).symm
    have hdl : r.drop (64 - y.n % 64) = r.drop (r.take (64 - y.n % 64)).length := by
      rw [List.length_take]
      rcases Nat.le_total (64 - y.n % 64) r.length with h | h
      · rw [Nat.min_eq_left h]
      · rw [Nat.min_eq_right h, List.drop_of_length_le h, List.drop_of_length_le (Nat.le_refl _)]
    have hrl : r.length = (r.take (64 - y.n % 64)).length + (r.drop (64 - y.n % 64)).length := by rw [← List.length_append, ← hsplit]
    have hc0 : (r.take (64 - y.n % 64)) ≠ [] := by intro h; have := congrArg List.length h; rw [List.length_take, List.length_nil] at this; omega
    have hcl : (r.take (64 - y.n % 64)).length ≤ 64 - y.n % 64 := by simp; omega
    rw [hdl] at hsplit hrl
    clear hdl
    generalize r.take (64 - y.n % 64) = c at *
    rw [hashV_splice y c _ hy (by omega)] at B2
    have hch := Sha.Hs.chunk c y hc0 hy (by omega)
    have hcs : (Sha.splice y.rest c (y.n % 64)).length = 64 := by rw [Sha.splice_length _ _ _ (by omega), hy]
    generalize hrest : Sha.splice y.rest c (y.n % 64) = r' at *
    refine ldT_blk B2 _ (hashV_n _ hcs) ?_
    rw [IntWalk.i64_in _ (by show _ ≤ (y.n : Int) + (c.length : Int) ∧ (y.n : Int) + (c.length : Int) ≤ _; omega)]
    refine stC_blk B2 (by rw [hashV_size _ hcs]; decide) rfl fun w3 B3 C3 z3 => ?_
    have e2 : ((y.n : Int) + (c.length : Int)) = ((y.n + c.length : Nat) : Int) := by omega
    rw [e2, hashV_set_n _ hcs] at B3
    have hs3 : Sees w3 b1 1 (r.map byteV) := (hs.drew.mono C2 fun k hk e => hne (by rw [hk, e])).mono C3 fun k hk e => hne (by rw [hk, e])
    refine hs3.slc (by omega) (by omega) (by omega) fun t ht htl htb htc => ?_
    rw [Int.toNat_natCast, Int.toNat_natCast, Nat.mul_one, Nat.mul_one, ← List.map_drop, ← List.map_take] at ht
    rw [Int.toNat_natCast, Int.toNat_natCast] at htl
    rw [List.take_of_length_le (by simp; omega)] at ht
    have C' : Ch (· = hb) w w3 := ((C.drew.trans C2).trans C3)
    have hw : y.write r = (y.write c).write (r.drop c.length) := by rw [← Sha.Hs.write_append, ← hsplit]
    refine ldT_blk B3 _ (hashV_n _ hcs) ⟨by decide, ?_⟩
    show cond (Int.tmod ((y.n + c.length : Nat) : Int) ((64 : Nat) : Int) == 0) _ _
    rw [tmod_nat]
    have hmeas : t.len < b1.len := by have := List.length_pos_iff.2 hc0; omega
    have hcar : ∀ w4, Ch (· = hb) w3 w4 → Blk w4 hb 129 (hashV (y.write c)) → ∃ d2 r2 : List UInt8, d ++ r = d2 ++ r2 ∧ Sees w4 t 1 (r2.map byteV) ∧ t.blk ≠ some hb ∧ Ch (· = hb) w w4 ∧ Blk w4 hb 129 (hashV (x.write d2)) := fun w4 C4 B4 => by
      refine ⟨d ++ c, r.drop c.length, by rw [List.append_assoc, ← hsplit], ht.mono C4 fun k hk e => hne (by rw [← htb, hk, e]), by rw [htb]; exact hne, C'.trans C4, ?_⟩
      rw [Sha.Hs.write_append, hxd]; exact B4
    by_cases h64 : (y.n + c.length) % 64 = 0
    · rw [if_pos h64] at hch
      rw [show ((((y.n + c.length) % 64 : Nat) : Int) == 0) = true by simp; omega, cond_true]
      generalize hst : y.st = st at *
      refine ldT_blk B3.drew _ (hashV_word _ (j := 0) (by decide)) ?_
      refine ldT_blk B3.drew _ (hashV_word _ (j := 1) (by decide)) ?_
      refine ldT_blk B3.drew _ (hashV_word _ (j := 2) (by decide)) ?_
      refine ldT_blk B3.drew _ (hashV_word _ (j := 3) (by decide)) ?_
      refine ldT_blk B3.drew _ (hashV_word _ (j := 4) (by decide)) ?_
      refine ldT_blk B3.drew _ (hashV_word _ (j := 5) (by decide)) ?_
      refine ldT_blk B3.drew _ (hashV_word _ (j := 6) (by decide)) ?_
      refine ldT_blk B3.drew _ (hashV_word _ (j := 7) (by decide)) ?_
      refine ldArr_part B3.drew (r'.map byteV) (by simp [hcs]) (fun j hj => hashV_rest _ hcs hj) ?_
      refine stArg st r' hcs _ (fun j hj => C'.drew.cell (hk j hj) fun e => h0 e.symm) rfl fun w4 X4 => ?_
      have B4 := B3.drew.ext X4
      generalize hz : Sha.block st r' = z at *
      refine ⟨_, _, _, _, _, _, _, _, rfl, ?_⟩
      refine stL_blk (vs := [.int .u32 (z.a.toNat : Int), .int .u32 (z.b.toNat : Int), .int .u32 (z.c.toNat : Int), .int .u32 (z.d.toNat : Int), .int .u32 (z.e.toNat : Int), .int .u32 (z.f.toNat : Int), .int .u32 (z.g.toNat : Int), .int .u32 (z.h.toNat : Int)]) (i := 0) B4 (by rw [hashV_size _ hcs]; show 0 + 0 + 8 ≤ 73; decide) (by simp [oneC]) fun w5 cs5 B5 z5 g5 C5 s5 => ?_
      rw [hashV_set_st _ z g5] at B5
      exact ⟨hcar w5 (((Ch.refl (· = hb) w3).drew.ext X4).trans C5) (by rw [hch]; exact B5), hmeas⟩
    · rw [if_neg h64] at hch
      rw [show ((((y.n + c.length) % 64 : Nat) : Int) == 0) = false by simp; omega, cond_false]
      exact ⟨hcar w3 (Ch.refl _ w3) (by rw [hch]; exact B3), hmeas⟩
  · have : r = [] := List.eq_nil_of_length_eq_zero (by omega)
    subst this
    rw [show decide ((b1.len : Int) > 0) = false by simp; omega, cond_false]
    exact ⟨rfl, C, B⟩
end Go.Proofs.YtlbhilhfbbocfaaDoor.G

set_option linter.unusedVariables false
set_option linter.unusedSimpArgs false
namespace Go.Proofs.YtlbhilhfbbocfaaDoor.G
open Go Go.VC Go.RowKit Go.Proofs Go.Proofs.YtlbhilhfbbocfaaDoor
theorem zc49 : zc Tryd.prog 129 = hashV ⟨⟨0,0,0,0,0,0,0,0⟩, List.replicate 64 0, 0⟩ := by kernel_rfl
theorem new_does (w : World) {Q : Value → World → Prop} (k : ∀ (b : Nat) (w' : World), w.heap.size ≤ b → Ext w w' → Blk w' b 129 (hashV Sha.Hs.new) → Q (.pointer (some ⟨b, 0, none⟩)) w') : Does Tryd.prog 53 #[] w Q := by
  refine F53_does _ _ ?_
  unfold F53
  refine allocK_intro fun b w1 e B X z => ?_
  exact k b w1 (by omega) X B
theorem oneC_hash (x : Sha.Hs) : ∀ v ∈ (hashV x).toList, oneC v = true := by
  intro v hv
  simp only [hashV, hashL, List.mem_append, List.mem_map, List.mem_singleton] at hv
  rcases hv with (⟨_, _, rfl⟩ | ⟨_, _, rfl⟩) | rfl <;> rfl
theorem copy_does (x : Sha.Hs) (w : World) (hb : Nat) (B : Blk w hb 129 (hashV x)) (hr : x.rest.length = 64) {Q : Value → World → Prop}
    (k : ∀ (b : Nat) (w' : World), w.heap.size ≤ b → b ≠ hb → Ext w w' → Blk w' b 129 (hashV x) → Q (.pointer (some ⟨b, 0, none⟩)) w') : Does Tryd.prog 68 #[.pointer (some ⟨hb, 0, none⟩)] w Q := by
  refine F68_does _ _ _ ?_
  unfold F68
  simp only [nnil_some]
  refine ldArr_blk B (hashV_size x hr) ?_
  refine allocK_intro fun b w1 e B1 X z => ?_
  rw [zc49] at B1
  have := B.lt
  refine stArr_all B1 (hashV_size _ (by simp)) (hashV_size x hr) (oneC_hash x) fun w2 B2 C2 z2 => ?_
  exact k b w2 (by omega) (by omega) (X.step C2 fun i hi e => by omega) B2
/-- a slice of a block's bytes, from its begin on -/
theorem sees_blk {w : World} {b n : Nat} {ty : TypeId} {cs : Array Value} (B : Blk w b ty cs) (hn : cs.size = n) (hm : n ≤ maxLen) : Sees w ⟨some ⟨b, 0, none⟩, n, n⟩ 1 cs.toList :=
  ⟨by simp [hn], Nat.le_refl _, hm, .inr ⟨b, 0, rfl, fun j u hj => by rw [B.cell, Nat.zero_add]; simpa using hj⟩⟩
theorem size_eq (n i : Nat) (hn : n < 9223372036854775808) (hi : i < 8) :
    IntKind.wrap .u8 (Int.fdiv (IntKind.wrap .u64 ((IntKind.wrap .u64 (n : Int)) * 8)) (2 ^ (min (Int.toNat ((IntKind.wrap .i64 (56 - (IntKind.wrap .i64 (8 * (i : Int))))))) (IntKind.bits .u64)))) = ((Sha.sizeB n i).toNat : Int) := by
  rw [IntWalk.i64_in (8 * (i : Int)) (by omega), IntWalk.i64_in _ (by omega), IntWalk.u64_in (n : Int) (by omega), show (56 - 8 * (i : Int)).toNat = 56 - 8 * i by omega]
  rw [show min (56 - 8 * i) (IntKind.bits .u64) = 56 - 8 * i by simp [IntKind.bits]; omega]
  have e : IntKind.wrap .u64 ((n : Int) * 8) = ((n * 8 % 2 ^ 64 : Nat) : Int) := by simp [IntKind.wrap, IntKind.bits, IntKind.signed]
  rw [e, show ((2 : Int) ^ (56 - 8 * i)) = ((2 ^ (56 - 8 * i) : Nat) : Int) by simp, Int.fdiv_eq_ediv_of_nonneg _ (Int.natCast_nonneg _), ← Int.natCast_ediv]
  rw [IntKind.wrap_u8]
  simp [Sha.sizeB]
theorem out_eq (s : Sha.St) (i : Nat) (hi : i < 32) :
    IntKind.wrap .u8 (Int.fdiv ((s.list.getD (i / 4) 0).toNat : Int) (2 ^ (min (Int.toNat ((IntKind.wrap .i64 (24 - (IntKind.wrap .i64 (8 * (Int.tmod (i : Int) 4))))))) (IntKind.bits .u32)))) = ((Sha.outB s i).toNat : Int) := by
  rw [show Int.tmod (i : Int) 4 = ((i % 4 : Nat) : Int) from tmod_nat i 4, IntWalk.i64_in (8 * ((i % 4 : Nat) : Int)) (by omega), IntWalk.i64_in _ (by omega), shr32i _ _ (by omega) (by omega), wrap8_32,
    show (24 - 8 * ((i % 4 : Nat) : Int)).toNat = 24 - 8 * (i % 4) by omega]
  rfl
/-- a write of bytes that stand in a block of their own -/
theorem writeB (x : Sha.Hs) (l : List UInt8) (w : World) (hb b n : Nat) (ty : TypeId) (B : Blk w hb 129 (hashV x)) (hr : x.rest.length = 64) (Bb : Blk w b ty (bytes l)) (hl : l.length = n) (hm : n ≤ 1000) (hne : b ≠ hb)
    (hn : x.n + n < 9223372036854775807) (hk : KeyOk w) (h0 : hb ≠ 1) {Q : Value → World → Prop} (k : ∀ w', Ch (· = hb) w w' → Blk w' hb 129 (hashV (x.write l)) → Q (.tuple #[]) w') :
    Does Tryd.prog 54 #[.pointer (some ⟨hb, 0, none⟩), .slice (some ⟨b, 0, none⟩) n n] w Q := by
  refine (write_does x l w hb ⟨some ⟨b, 0, none⟩, n, n⟩ B hr (by have := sees_blk Bb (n := n) (by simpa using hl) (by simp [maxLen]; omega); simpa [bytes] using this) (by simp [Sl.blk]; exact hne) (by omega) hk h0).mono ?_
  rintro _ w' ⟨rfl, C, B'⟩
  exact k w' C B'
def left (b : Nat) (N : Nat) (w : World) : Nat := match w.cell? ⟨b, 72, none⟩ with
  | some (.int .i64 m) => ((N : Int) - m).toNat
  | _ => 0
theorem left_eq {b N : Nat} {w : World} {x : Sha.Hs} (B : Blk w b 129 (hashV x)) (hr : x.rest.length = 64) : left b N w = N - x.n := by
  unfold left
  rw [B.cell, hashV_n x hr]
  show ((N : Int) - (x.n : Int)).toNat = _
  omega
set_option maxHeartbeats 1000000 in
theorem sum_does (x : Sha.Hs) (w : World) (hb : Nat) (B : Blk w hb 129 (hashV x)) (hr : x.rest.length = 64) (hn : x.n + 1000 < 9223372036854775807) (hk : KeyOk w) {Q : Value → World → Prop}
    (k : ∀ w', Ext w w' → Q (.agg (bytes x.sum)) w') : Does Tryd.prog 55 #[.pointer (some ⟨hb, 0, none⟩)] w Q := by
  have h0 : 1 < w.heap.size := World.block_lt_of_cell? w _ (hk 0 (by decide))
  have hlt := B.lt
  refine F55_does _ _ _ ?_
  unfold F55
  refine allocK_intro fun b1 w1 e1 B1 X1 z1 => ?_
  rw [zc24] at B1
  refine copy_does x w1 hb (B.ext X1) hr fun b2 w2 e2 n2 X2 B2 => ?_
  refine ⟨_, rfl, ?_⟩
  refine allocK_intro fun b3 w3 e3 B3 X3 z3 => ?_
  have hb32 : b2 < b3 := by have := B2.lt; omega
  have X03 : Ext w w3 := (X1.ext X2).ext X3
  refine writeB x [128] w3 b2 b3 1 5 (B2.ext X3) hr B3 rfl (by omega) (by omega) (by omega) (hk.ext X03) (by omega) fun w4 C4 B4 => ?_
  refine ⟨rfl, ?_⟩
  have X04 : Ext w w4 := X03.step C4 fun i hi e => by omega
  have B14 : Blk w4 b1 23 (bytes (List.replicate 32 0)) := ((B1.ext X2).ext X3).mono C4 (by omega)
  have hyr : (x.write [128]).rest.length = 64 := by rw [Sha.Hs.write_rest, hr]
  have hyn := x.write_n [128]
  rw [List.length_singleton] at hyn
  have hxs : x.sum = Sha.out (((x.write [128]).write (List.replicate (Sha.zeros x.n) 0)).write (Sha.size8 x.n)).st := by
    rw [Sha.Hs.sum, Sha.pad, ← Sha.Hs.write_append, ← Sha.Hs.write_append]; rfl
  generalize x.write [128] = y at *
  have hb20 : w.heap.size ≤ b2 := by omega
  have hb12 : b1 ≠ b2 := by omega
  have hb10 : w.heap.size ≤ b1 := by omega
  clear B1 B2 B3 C4 X1 X2 X3 X03 e1 e2 e3 z1 z3 w1 w2 w3 hb32
  refine ⟨fun w' => ∃ j : Nat, j ≤ Sha.zeros x.n ∧ Ext w w' ∧ Blk w' b2 129 (hashV (y.write (List.replicate j 0))) ∧ Blk w' b1 23 (bytes (List.replicate 32 0)), left b2 (x.n + 1000), ⟨0, by omega, X04, B4, B14⟩, ?_⟩
  clear X04 B4 B14 w4
  rintro w1 ⟨j, hj, X, B2, B1⟩
  have hvr : (y.write (List.replicate j 0)).rest.length = 64 := by rw [Sha.Hs.write_rest, hyr]
  have hvn := y.write_n (List.replicate j 0)
  rw [List.length_replicate] at hvn
  simp only [nnil_some, add_mk, Nat.zero_add]
  refine ldT_blk B2 _ (hashV_n _ hvr) ⟨by decide, ?_⟩
  rw [show (64 : Int) = ((64 : Nat) : Int) from rfl, tmod_nat, hvn, hyn]
  have hz : Sha.zeros x.n < 64 := by unfold Sha.zeros; omega
  have hz2 : (x.n + 1 + Sha.zeros x.n) % 64 = 56 := by unfold Sha.zeros; omega
  by_cases hlt : j < Sha.zeros x.n
  · have hne : (x.n + 1 + j) % 64 ≠ 56 := by unfold Sha.zeros at hlt; omega
    rw [show ((((x.n + 1 + j) % 64 : Nat) : Int) != 56) = true by simp; omega, cond_true]
    refine allocK_intro fun b3 w2 e3 B3 X2 z3 => ?_
    have := B2.lt
    refine writeB _ [0] w2 b2 b3 1 5 (B2.ext X2) hvr B3 rfl (by omega) (by omega) (by omega) (hk.ext (X.ext X2)) (by omega) fun w3 C3 B3' => ?_
    rw [← Sha.Hs.write_append, ← List.replicate_succ'] at B3'
    refine ⟨rfl, ⟨j + 1, by omega, (X.ext X2).step C3 fun i hi e => by omega, B3', (B1.ext X2).mono C3 hb12⟩, ?_⟩
    rw [left_eq B3' (by rw [Sha.Hs.write_rest, hyr]), left_eq B2 hvr, Sha.Hs.write_n, Sha.Hs.write_n, List.length_replicate, List.length_replicate, hyn]
    omega
  · obtain rfl : j = Sha.zeros x.n := by omega
    rw [show ((((x.n + 1 + Sha.zeros x.n) % 64 : Nat) : Int) != 56) = false by rw [hz2]; rfl, cond_false]
    generalize hv : y.write (List.replicate (Sha.zeros x.n) 0) = v at *
    refine allocK_intro fun b3 w2 e3 B3 X2 z3 => ?_
    rw [zc51] at B3
    have hb2l := B2.lt
    have hb1l := B1.lt
    have hb3 : w.heap.size ≤ b3 := by have := X.size; omega
    have hb32 : b3 ≠ b2 := by omega
    have hb31 : b1 ≠ b3 := by omega
    refine ⟨fun i w' => ∃ m : Nat, i = m ∧ m ≤ 8 ∧ Ext w w' ∧ Blk w' b2 129 (hashV v) ∧ Blk w' b1 23 (bytes (List.replicate 32 0)) ∧ Blk w' b3 131 (bytes (fill (Sha.sizeB x.n) 0 8 m)), fun i _ => (8 - i).toNat,
      ⟨0, rfl, by omega, X.ext X2, B2.ext X2, B1.ext X2, by rw [fill_zero]; exact B3⟩, ?_⟩
    clear X B2 B1 X2 B3 e3 z3 hb1l hb2l w1 w2
    rintro i w1 ⟨m, rfl, hm, X, B2, B1, B3⟩
    by_cases hlt : m < 8
    · rw [show decide ((m : Int) < 8) = true from dlt hlt, cond_true]
      refine ldT_blk (B.ext X) _ (hashV_n _ hr) ⟨by rw [IntWalk.i64_in (8 * (m : Int)) (by omega), IntWalk.i64_in _ (by omega)]; omega, idxR_intro (by omega) (by omega) ?_⟩
      rw [size_eq x.n m (by omega) hlt, Int.toNat_natCast, Nat.mul_one, add_mk, Nat.zero_add]
      refine stC_blk B3 (by simp; omega) rfl fun w2 B3' C2 z2 => ?_
      rw [bytes_set, fill_set _ _ hlt] at B3'
      rw [IntWalk.i64_in _ (by omega)]
      exact ⟨⟨m + 1, by omega, by omega, X.step C2 fun i hi e => by omega, B2.mono C2 (fun e => hb32 e.symm), B1.mono C2 hb31, B3'⟩, by show ((8 : Int) - ((m : Int) + 1)).toNat < ((8 : Int) - (m : Int)).toNat; omega⟩
    · obtain rfl : m = 8 := by omega
      rw [show decide (((8 : Nat) : Int) < 8) = false from rfl, cond_false]
      rw [fill_all] at B3
      refine slcA_intro (by omega) (by omega) (by omega) ?_
      dsimp only
      refine writeB v (Sha.size8 x.n) w1 b2 b3 8 131 B2 hvr B3 rfl (by omega) hb32 (by omega) (hk.ext X) (by omega) fun w2 C2 B2' => ?_
      refine ⟨rfl, ?_⟩
      have X2 : Ext w w2 := X.step C2 fun i hi e => by omega
      have B12 := B1.mono C2 hb12
      have hur : (v.write (Sha.size8 x.n)).rest.length = 64 := by rw [Sha.Hs.write_rest, hvr]
      generalize v.write (Sha.size8 x.n) = u at *
      refine allocK_intro fun b4 w3 e4 B4 X3 z4 => ?_
      rw [zc24] at B4
      have hb2l := B2'.lt
      have hb1l := B12.lt
      have hb4 : w.heap.size ≤ b4 := by have := X2.size; omega
      have hb42 : b2 ≠ b4 := by omega
      have hb41 : b1 ≠ b4 := by omega
      refine ⟨fun i w' => ∃ m : Nat, i = m ∧ m ≤ 32 ∧ Ext w w' ∧ Blk w' b2 129 (hashV u) ∧ Blk w' b1 23 (bytes (List.replicate 32 0)) ∧ Blk w' b4 23 (bytes (fill (Sha.outB u.st) 0 32 m)), fun i _ => (32 - i).toNat,
        ⟨0, rfl, by omega, X2.ext X3, B2'.ext X3, B12.ext X3, by rw [fill_zero]; exact B4⟩, ?_⟩
      clear X B2 B1 X2 B3 e4 z4 hb1l hb2l w1 w2 w3 B2' B12 X3 B4 C2
      rintro i w1 ⟨m, rfl, hm, X, B2, B1, B4⟩
      by_cases hlt : m < 32
      · rw [show decide ((m : Int) < 32) = true from dlt hlt, cond_true]
        have ed : IntKind.wrap .i64 (Int.tdiv (m : Int) 4) = ((m / 4 : Nat) : Int) := by rw [show Int.tdiv (m : Int) 4 = ((m / 4 : Nat) : Int) from rfl, IntWalk.i64_in _ (by omega)]
        refine ⟨by decide, ?_⟩
        rw [ed]
        refine idxR_intro (by omega) (by omega) ?_
        rw [Int.toNat_natCast, Nat.mul_one]
        refine ldT_blk B2 _ (hashV_word u (by omega)) ⟨by decide, ?_, idxR_intro (by omega) (by omega) ?_⟩
        · rw [show Int.tmod (m : Int) 4 = ((m % 4 : Nat) : Int) from tmod_nat m 4, IntWalk.i64_in (8 * ((m % 4 : Nat) : Int)) (by omega), IntWalk.i64_in _ (by omega)]; omega
        · rw [out_eq u.st m hlt, Int.toNat_natCast, Nat.mul_one, add_mk, Nat.zero_add]
          refine stC_blk B4 (by simp; omega) rfl fun w2 B4' C2 z2 => ?_
          rw [bytes_set, fill_set _ _ hlt] at B4'
          rw [IntWalk.i64_in _ (by omega)]
          exact ⟨⟨m + 1, by omega, by omega, X.step C2 fun i hi e => by omega, B2.mono C2 hb42, B1.mono C2 hb41, B4'⟩, by show ((32 : Int) - ((m : Int) + 1)).toNat < ((32 : Int) - (m : Int)).toNat; omega⟩
      · obtain rfl : m = 32 := by omega
        rw [show decide (((32 : Nat) : Int) < 32) = false from rfl, cond_false]
        rw [fill_all, show (List.range 32).map (Sha.outB u.st) = x.sum from hxs.symm] at B4
        have hsl : (bytes x.sum).size = 32 := by rw [hxs]; simp [Sha.out]
        refine ldArr_blk B4 hsl ?_
        refine stArr_all B1 (by simp) hsl (by simpa [bytes] using oneC_byte x.sum) fun w2 B1' C2 z2 => ?_
        refine ldArr_blk B1' hsl ?_
        exact k w2 (X.step C2 fun i hi e => by omega)
end Go.Proofs.YtlbhilhfbbocfaaDoor.G

set_option linter.unusedVariables false
set_option linter.unusedSimpArgs false
namespace Sha
def dig (n : Nat) : UInt8 := UInt8.ofNat (if n < 10 then 48 + n else 87 + n)
def hexAt (l : List UInt8) (j : Nat) : UInt8 := dig (if j % 2 = 0 then (l.getD (j / 2) 0).toNat / 16 else (l.getD (j / 2) 0).toNat % 16)
def hex (l : List UInt8) : List UInt8 := (List.range 64).map (hexAt l)
end Sha
namespace Go.Proofs.YtlbhilhfbbocfaaDoor.G
open Go Go.VC Go.RowKit Go.Proofs Go.Proofs.YtlbhilhfbbocfaaDoor
/-- equal arrays of 32 bytes -/
theorem eqArr {w : World} {x y : Operand} (xs ys : List UInt8) (hx : xs.length = 32) (hy : ys.length = 32) {K : Bool → World → Prop} (k : K (xs == ys) w) :
    runG .bool Tryd.prog w (do eqGuard .eql 23 x y (.agg (bytes xs)) (.agg (bytes ys)); binOp .eql 23 (.agg (bytes xs)) (.agg (bytes ys))) K := by
  refine ⟨.bool (xs == ys), w, ?_, _, rfl, k⟩
  rw [Sem.run_bind, run_eqGuard_agg w .eql 23 x y _ _ (by kernel_rfl)]
  simp only [Result.andThen_ok]
  exact run_eql_bytes w 23 5 32 (by kernel_rfl) (by kernel_rfl) (fun w => by
    have : (Tryd.prog.info? 5).map (·.size) = some 1 := by kernel_rfl
    cases h : Tryd.prog.info? 5 with
    | none => simp [h] at this
    | some i => simp [h] at this; simp [sizeOf, typeInfo, h, this]) xs ys hx hy
theorem nqArr {w : World} {x y : Operand} (xs ys : List UInt8) (hx : xs.length = 32) (hy : ys.length = 32) {K : Bool → World → Prop} (k : K (!(xs == ys)) w) :
    runG .bool Tryd.prog w (do eqGuard .neq 23 x y (.agg (bytes xs)) (.agg (bytes ys)); binOp .neq 23 (.agg (bytes xs)) (.agg (bytes ys))) K := by
  refine ⟨.bool (!(xs == ys)), w, ?_, _, rfl, k⟩
  rw [Sem.run_bind, run_eqGuard_agg w .neq 23 x y _ _ (by kernel_rfl)]
  simp only [Result.andThen_ok]
  rw [run_neq_struct, show (Op.equalIn 10000 23 (.agg (bytes xs)) (.agg (bytes ys))).run Tryd.prog w = .ok (xs == ys) w from run_equalIn_bytes w 9998 23 5 32 (by kernel_rfl) (by kernel_rfl) (fun w => by
    have : (Tryd.prog.info? 5).map (·.size) = some 1 := by kernel_rfl
    cases h : Tryd.prog.info? 5 with
    | none => simp [h] at this
    | some i => simp [h] at this; simp [sizeOf, typeInfo, h, this]) xs ys hx hy]
  rfl
theorem sum_length (x : Sha.Hs) : x.sum.length = 32 := by simp [Sha.Hs.sum, Sha.out]
theorem sumL (l : List UInt8) : (Sha.sum l).length = 32 := sum_length _
/-- Sum of bytes -/
theorem sumF_does (l : List UInt8) (b : Sl) (w : World) (hs : Sees w b 1 (l.map byteV)) (hbk : ∀ k, b.blk = some k → k < w.heap.size) (hn : l.length < 1000000) (hk : KeyOk w) {Q : Value → World → Prop} (k : ∀ w', Ext w w' → Q (.agg (bytes (Sha.sum l))) w') :
    Does Tryd.prog 36 #[.slice b.a b.len b.cap] w Q := by
  refine F36_does _ _ _ ?_
  unfold F36
  refine allocK_intro fun b1 w1 e1 B1 X1 z1 => ?_
  rw [zc24] at B1
  refine new_does w1 fun hb w2 h2 X2 B2 => ?_
  refine ⟨_, rfl, ?_⟩
  have h0 : 1 < w.heap.size := World.block_lt_of_cell? w _ (hk 0 (by decide))
  have hb1 := B1.lt
  have X02 := X1.ext X2
  have hne : b.blk ≠ some hb := fun e => by have := hbk hb e; omega
  refine (write_does Sha.Hs.new l w2 hb b B2 rfl (hs.ext X02) hne (by show 0 + _ < _; omega) (hk.ext X02) (by omega)).mono ?_
  rintro _ w3 ⟨rfl, C3, B3⟩
  refine ⟨rfl, ?_⟩
  have X3 : Ext w w3 := X02.step C3 fun i hi e => by omega
  refine sum_does _ w3 hb B3 (by rw [Sha.Hs.write_rest]; rfl) (by rw [Sha.Hs.write_n]; show 0 + _ + _ < _; omega) (hk.ext X3) fun w4 X4 => ?_
  refine ⟨_, rfl, ?_⟩
  have B14 : Blk w4 b1 23 (bytes (List.replicate 32 0)) := ((B1.ext X2).mono C3 (by omega)).ext X4
  refine stArr_all B14 (by simp) (by simp [sum_length]) (by simpa [bytes] using oneC_byte (Sha.Hs.sum _)) fun w5 B5 C5 z5 => ?_
  refine ldArr_blk B5 (by simp [sum_length]) ?_
  exact k w5 ((X3.ext X4).step C5 fun i hi e => by omega)
end Go.Proofs.YtlbhilhfbbocfaaDoor.G
