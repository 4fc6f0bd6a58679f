import Derived.Test.YtaaegmmcnfeiaaaDoorWg
import Derived.Lib.OthersKept
set_option linter.unusedVariables false
set_option linter.unusedSimpArgs false
namespace Sha
def val (c : Nat) : Nat := if 48 ≤ c ∧ c ≤ 57 then c - 48 else if 97 ≤ c ∧ c ≤ 102 then c - 97 + 10 else 16
theorem val_le (c : Nat) : val c ≤ 16 := by
  unfold val
  split
  · omega
  · split <;> omega
def vat (s : ByteArray) (i : Nat) : Nat := match s[i]? with
  | some c => val c.toNat
  | none => 16
/-- a sum's byte i, of the first n digits -/
def nib (s : ByteArray) (n i : Nat) : UInt8 := UInt8.ofNat (if 2 * i + 1 < n then 16 * vat s (2 * i) + vat s (2 * i + 1) else if 2 * i < n then vat s (2 * i) else 0)
def nibs (s : ByteArray) (n : Nat) : List UInt8 := (List.range 32).map (nib s n)
def good (s : ByteArray) : Prop := s.size = 64 ∧ ∀ i, i < 64 → vat s i ≤ 15
open Classical in
noncomputable def unhex (s : ByteArray) : List UInt8 × Bool := if good s then (nibs s 64, true) else (List.replicate 32 0, false)
theorem unhex_good {s : ByteArray} (h : good s) : unhex s = (nibs s 64, true) := by unfold unhex; rw [if_pos h]
theorem unhex_bad {s : ByteArray} (h : ¬ good s) : unhex s = (List.replicate 32 0, false) := by unfold unhex; rw [if_neg h]
theorem unhex_length (s : ByteArray) : (unhex s).1.length = 32 := by unfold unhex; split <;> simp [nibs]
@[simp] theorem nibs_length (s : ByteArray) (n : Nat) : (nibs s n).length = 32 := by simp [nibs]
theorem nibs_zero (s : ByteArray) : nibs s 0 = List.replicate 32 0 := by
  have : nib s 0 = fun _ => 0 := by funext i; simp [nib]
  rw [nibs, this]; rfl
theorem nibs_set (s : ByteArray) {n : Nat} (hn : n < 64) (h : ∀ i, i < n → vat s i ≤ 15) (hv : vat s n ≤ 15) :
    ((nibs s n).getD (n / 2) 0).toNat < 16 ∧ (nibs s n).set (n / 2) (UInt8.ofNat (16 * ((nibs s n).getD (n / 2) 0).toNat + vat s n)) = nibs s (n + 1) := by
  have hg : (nibs s n).getD (n / 2) 0 = nib s n (n / 2) := by simp [nibs, List.getD_eq_getElem?_getD, show n / 2 < 32 by omega]
  have hx : (nib s n (n / 2)).toNat < 16 ∧ UInt8.ofNat (16 * (nib s n (n / 2)).toNat + vat s n) = nib s (n + 1) (n / 2) := by
    by_cases ho : n % 2 = 0
    · have e1 : nib s n (n / 2) = 0 := by unfold nib; rw [if_neg (by omega), if_neg (by omega)]; rfl
      have e2 : nib s (n + 1) (n / 2) = UInt8.ofNat (vat s n) := by unfold nib; rw [if_neg (by omega), if_pos (by omega), show 2 * (n / 2) = n by omega]
      rw [e1, e2]; exact ⟨by decide, by simp⟩
    · have h1 := h (n - 1) (by omega)
      have e1 : nib s n (n / 2) = UInt8.ofNat (vat s (n - 1)) := by unfold nib; rw [if_neg (by omega), if_pos (by omega), show 2 * (n / 2) = n - 1 by omega]
      have e2 : nib s (n + 1) (n / 2) = UInt8.ofNat (16 * vat s (n - 1) + vat s n) := by unfold nib; rw [if_pos (by omega), show 2 * (n / 2) = n - 1 by omega, show n - 1 + 1 = n by omega]
      have e3 : (UInt8.ofNat (vat s (n - 1))).toNat = vat s (n - 1) := by simp; omega
      rw [e1, e2, e3]; exact ⟨by omega, rfl⟩
  rw [hg]
  refine ⟨hx.1, ?_⟩
  rw [hx.2]
  apply List.ext_getElem?
  intro j
  by_cases hj : j = n / 2
  · subst hj; simp [nibs, show n / 2 < 32 by omega]
  · rw [List.getElem?_set_ne (by omega)]
    by_cases h8 : j < 32
    · simp only [nibs, List.getElem?_map, List.getElem?_range h8, Option.map_some]
      congr 1
      unfold nib
      congr 1
      by_cases h1 : 2 * j + 1 < n
      · rw [if_pos h1, if_pos (by omega)]
      · rw [if_neg h1, if_neg (show ¬ 2 * j + 1 < n + 1 by omega)]
        by_cases h2 : 2 * j < n
        · rw [if_pos h2, if_pos (by omega)]
        · rw [if_neg h2, if_neg (by omega)]
    · simp [nibs, h8]
end Sha
namespace Go.Proofs.YtaaegmmcnfeiaaaDoor.G
open Go Go.VC Go.RowKit Go.Proofs Go.Proofs.YtaaegmmcnfeiaaaDoor
theorem value_does (c : Nat) (hc : c < 256) (w : World) {Q : Value → World → Prop} (k : Q (.int .u8 ((Sha.val c : Nat) : Int)) w) : Does Tryd.prog 24 #[.int .u8 (c : Int)] w Q := by
  refine F24_does _ _ _ ?_
  unfold F24
  unfold Sha.val at k
  intro J hJ
  by_cases h1 : 48 ≤ c
  · rw [show decide ((c : Int) ≥ 48) = true by simp; omega, cond_true]
    refine hJ _ _ ?_
    by_cases h2 : c ≤ 57
    · rw [show decide ((c : Int) ≤ 57) = true by simp; omega, cond_true]
      rw [if_pos ⟨h1, h2⟩] at k
      rw [show IntKind.wrap .u8 ((c : Int) - 48) = ((c - 48 : Nat) : Int) by rw [IntKind.wrap_u8]; omega]
      exact k
    · rw [show decide ((c : Int) ≤ 57) = false by simp; omega, cond_false]
      rw [if_neg (by omega)] at k
      intro J2 hJ2
      by_cases h3 : 97 ≤ c
      · rw [show decide ((c : Int) ≥ 97) = true by simp; omega, cond_true]
        refine hJ2 _ _ ?_
        by_cases h4 : c ≤ 102
        · rw [show decide ((c : Int) ≤ 102) = true by simp; omega, cond_true]
          rw [if_pos ⟨h3, h4⟩] at k
          rw [show IntKind.wrap .u8 (IntKind.wrap .u8 ((c : Int) - 97) + 10) = ((c - 97 + 10 : Nat) : Int) by rw [IntKind.wrap_u8, IntKind.wrap_u8]; omega]
          exact k
        · rw [show decide ((c : Int) ≤ 102) = false by simp; omega, cond_false]
          rw [if_neg (by omega)] at k
          exact k
      · rw [show decide ((c : Int) ≥ 97) = false by simp; omega, cond_false]
        refine hJ2 _ _ ?_
        rw [cond_false]
        rw [if_neg (by omega)] at k
        exact k
  · rw [show decide ((c : Int) ≥ 48) = false by simp; omega, cond_false]
    refine hJ _ _ ?_
    rw [cond_false]
    intro J2 hJ2
    rw [show decide ((c : Int) ≥ 97) = false by simp; omega, cond_false]
    refine hJ2 _ _ ?_
    rw [cond_false]
    rw [if_neg (by omega), if_neg (by omega)] at k
    exact k
theorem nibOr : ∀ x : Fin 16, ∀ n : Fin 16, bits .or .u8 (IntKind.wrap .u8 ((x.1 : Int) * 2 ^ (min (Int.toNat (4)) (IntKind.bits .u8)))) (n.1 : Int) = ((UInt8.ofNat (16 * x.1 + n.1)).toNat : Int) := by decide +kernel
def posOf (k : Nat) (w : World) : Nat := match w.heap[k]? with
  | some (.stringIter _ p) => 64 - p
  | _ => 0
theorem posOf_eq {k p : Nat} {w : World} {s : ByteArray} (h : w.heap[k]? = some (.stringIter s p)) : posOf k w = 64 - p := by unfold posOf; rw [h]
theorem Ch.iterAt (w : World) (k : Nat) (s : ByteArray) (p : Nat) : Ch (· = k) w (w.iterAt k s p) :=
  ⟨rfl, rfl, rfl, by simp [World.iterAt], fun i hi hs => by simp [World.iterAt]; rw [Array.getElem?_setIfInBounds_ne (fun e => hs e.symm)]⟩
theorem z32 : (#[.int .u8 (0), .int .u8 (0), .int .u8 (0), .int .u8 (0), .int .u8 (0), .int .u8 (0), .int .u8 (0), .int .u8 (0), .int .u8 (0), .int .u8 (0), .int .u8 (0), .int .u8 (0), .int .u8 (0), .int .u8 (0), .int .u8 (0), .int .u8 (0), .int .u8 (0), .int .u8 (0), .int .u8 (0), .int .u8 (0), .int .u8 (0), .int .u8 (0), .int .u8 (0), .int .u8 (0), .int .u8 (0), .int .u8 (0), .int .u8 (0), .int .u8 (0), .int .u8 (0), .int .u8 (0), .int .u8 (0), .int .u8 (0)] : Array Value) = bytes (List.replicate 32 0) := rfl
def ercode (b : Bool) : Int := if b then 0 else 3
set_option maxHeartbeats 1000000 in
theorem unhex_does (s : ByteArray) (w : World) {Q : Value → World → Prop} (k : ∀ w', Ext w w' → Q (.tuple #[.agg (bytes (Sha.unhex s).1), .int .i64 (ercode (Sha.unhex s).2)]) w') : Does Tryd.prog 17 #[.string s] w Q := by
  refine F17_does _ _ _ ?_
  unfold F17
  refine allocK_intro fun b1 w1 e1 B1 X1 z1 => ?_
  refine allocK_intro fun b2 w2 e2 B2 X2 z2 => ?_
  rw [zc24] at B1 B2
  have X := X1.ext X2
  replace B1 := B1.ext X2
  have hb1 : w.heap.size ≤ b1 := by omega
  have hb2 : w.heap.size ≤ b2 := by omega
  have hb12 : b1 ≠ b2 := by omega
  clear X1 X2 e1 e2 z1 w1
  by_cases h64 : s.size = 64
  · rw [show ((s.size : Int) != 64) = false by simp; omega, cond_false]
    refine ⟨_, _, run_range_string w2 9 s (by kernel_rfl), ?_⟩
    have hk0 : (w2.iter s 0).heap[w2.heap.size]? = some (.stringIter s 0) := World.iter_heap ..
    have X3 : Ext w2 (w2.iter s 0) := (Ch.refl _ w2).alloc _
    refine ⟨fun w' => ∃ p : Nat, p ≤ 64 ∧ (∀ i, i < p → Sha.vat s i ≤ 15) ∧ Ext w w' ∧ Blk w' b1 24 (bytes (List.replicate 32 0)) ∧ Blk w' b2 24 (bytes (Sha.nibs s p)) ∧ w'.heap[w2.heap.size]? = some (.stringIter s p), posOf w2.heap.size,
      ⟨0, by omega, by omega, X.ext X3, B1.ext X3, by rw [Sha.nibs_zero]; exact B2.ext X3, hk0⟩, ?_⟩
    have hq1 : b1 ≠ w2.heap.size := by have := B1.lt; omega
    have hq2 : b2 ≠ w2.heap.size := by have := B2.lt; omega
    have hq : w.heap.size ≤ w2.heap.size := by omega
    generalize w2.heap.size = q at *
    clear X B1 B2 X3 hk0 z2
    rintro w1 ⟨p, hp, hall, X, B1, B2, hk⟩
    by_cases hlt : p < 64
    · have hps : p < s.size := by omega
      refine ⟨_, _, Go.Lib.run_next_any_at w1 q s p 0 hk hps, .inr ⟨_, _, rfl, ?_⟩⟩
      have hasc : (s[p]'hps).toNat < 128 → Utf8.decode s p = ((s[p]'hps).toNat, 1) := decode_ascii s p hps
      have hvat : Sha.vat s p = Sha.val (s[p]'hps).toNat := by
        have e : s[p]? = some (s[p]'hps) := getElem?_pos s p hps
        unfold Sha.vat; rw [e]
      have hbnd : (s[p]'hps).toNat < 256 := (s[p]'hps).toNat_lt
      have hidx : s[((p : Int)).toNat]? = some (s[p]'hps) := by rw [Int.toNat_natCast]; exact getElem?_pos s p hps
      generalize (s[p]'hps) = c at *
      generalize Utf8.decode s p = dc at *
      refine ⟨by omega, c, hidx, ?_⟩
      have C0 := Ch.iterAt w1 q s (p + dc.2)
      have hk1 := Go.Lib.iterAt_heap w1 q s p (p + dc.2) hk
      have X1 := X.step C0 fun i hi e => by omega
      have B11 := B1.mono C0 hq1
      have B21 := B2.mono C0 hq2
      generalize w1.iterAt q s (p + dc.2) = w3 at *
      refine value_does c.toNat hbnd w3 ⟨_, rfl, ?_⟩
      by_cases hv : Sha.val c.toNat ≤ 15
      · rw [show decide (((Sha.val c.toNat : Nat) : Int) > 15) = false by simp; omega, cond_false]
        have hc128 : c.toNat < 128 := by
          unfold Sha.val at hv
          split at hv
          · omega
          · split at hv <;> omega
        have hdc : dc.2 = 1 := by rw [hasc hc128]
        have ed : IntKind.wrap .i64 (Int.tdiv (p : Int) 2) = ((p / 2 : Nat) : Int) := by rw [show Int.tdiv (p : Int) 2 = ((p / 2 : Nat) : Int) from rfl, IntWalk.i64_in _ (by omega)]
        refine ⟨by decide, by decide, ?_⟩
        rw [ed, Int.toNat_natCast, Nat.mul_one, add_mk, Nat.zero_add]
        refine idxR_intro (by omega) (by omega) (ldT_blk B21 _ (bytes_get (by simp; omega)) ⟨by decide, idxR_intro (by omega) (by omega) ?_⟩)
        obtain ⟨hx, hset⟩ := Sha.nibs_set s hlt hall (by omega)
        have hor := nibOr ⟨_, hx⟩ ⟨Sha.val c.toNat, by omega⟩
        simp only at hor
        rw [hor]
        refine stC_blk B21 (by simp; omega) rfl fun w4 B4 C4 z4 => ?_
        rw [bytes_set, ← hvat, hset] at B4
        rw [hdc] at hk1
        have hk4 : w4.heap[q]? = some (.stringIter s (p + 1)) := by
          rw [C4.block q ((Array.getElem?_eq_some_iff.1 hk1).1) (fun e => hq2 e.symm)]; exact hk1
        refine ⟨⟨p + 1, by omega, fun i hi => ?_, X1.step C4 fun i hi e => by omega, B11.mono C4 hb12, B4, hk4⟩, ?_⟩
        · by_cases hi2 : i = p
          · subst hi2; omega
          · exact hall i (by omega)
        · rw [posOf_eq hk4, posOf_eq hk]; omega
      · rw [show decide (((Sha.val c.toNat : Nat) : Int) > 15) = true by simp; omega, cond_true]
        rw [z32]
        refine stArr_all B11 (by simp) (by simp) (by simpa [bytes] using oneC_byte (List.replicate 32 0)) fun w4 B4 C4 z4 => ?_
        refine ldArr_blk B4 (by simp) ?_
        have := k w4 (X1.step C4 fun i hi e => by omega)
        rw [Sha.unhex_bad (fun hg => hv (by rw [← hvat]; exact hg.2 p hlt))] at this
        exact this
    · obtain rfl : p = 64 := by omega
      refine ⟨_, _, Go.Lib.run_next_end_at w1 q s 64 0 hk (by omega), .inl ⟨rfl, ?_⟩⟩
      have hu := Sha.unhex_good (s := s) ⟨h64, hall⟩
      refine ldArr_blk B2 (by simp) ?_
      refine stArr_all B1 (by simp) (by simp) (by simpa [bytes] using oneC_byte (Sha.nibs s 64)) fun w4 B4 C4 z4 => ?_
      refine ldArr_blk B4 (by simp) ?_
      have := k w4 (X.step C4 fun i hi e => by omega)
      rw [hu] at this
      exact this
  · rw [show ((s.size : Int) != 64) = true by simp; omega, cond_true]
    refine ldArr_blk B2 (by simp) ?_
    refine stArr_all B1 (by simp) (by simp) (by simpa [bytes] using oneC_byte (List.replicate 32 0)) fun w4 B4 C4 z4 => ?_
    refine ldArr_blk B4 (by simp) ?_
    have := k w4 (X.step C4 fun i hi e => by omega)
    rw [Sha.unhex_bad (fun hg => h64 hg.1)] at this
    exact this
end Go.Proofs.YtaaegmmcnfeiaaaDoor.G
