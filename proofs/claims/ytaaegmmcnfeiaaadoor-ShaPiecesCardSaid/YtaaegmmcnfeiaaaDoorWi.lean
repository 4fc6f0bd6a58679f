import Derived.Test.YtaaegmmcnfeiaaaDoorWh
set_option linter.unusedVariables false
set_option linter.unusedSimpArgs false
namespace Sha
theorem val_dig : ∀ n : Nat, n < 16 → val (dig n).toNat = n := by decide
theorem dig_val : ∀ c : UInt8, val c.toNat ≤ 15 → dig (val c.toNat) = c := by
  intro c h
  apply UInt8.toNat_inj.1
  have := c.toNat_lt
  by_cases h1 : 48 ≤ c.toNat ∧ c.toNat ≤ 57
  · have e : val c.toNat = c.toNat - 48 := by unfold val; rw [if_pos h1]
    rw [e]
    unfold dig
    rw [if_pos (by omega)]; simp; omega
  · by_cases h2 : 97 ≤ c.toNat ∧ c.toNat ≤ 102
    · have e : val c.toNat = c.toNat - 97 + 10 := by unfold val; rw [if_neg h1, if_pos h2]
      rw [e]
      unfold dig
      rw [if_neg (by omega)]; simp; omega
    · have e : val c.toNat = 16 := by unfold val; rw [if_neg h1, if_neg h2]
      omega
theorem vat_hex (l : List UInt8) {i : Nat} (hi : i < 64) : vat (ByteArray.mk (hex l).toArray) i = if i % 2 = 0 then (l.getD (i / 2) 0).toNat / 16 else (l.getD (i / 2) 0).toNat % 16 := by
  have e : (ByteArray.mk (hex l).toArray)[i]? = some (hexAt l i) := by
    have h1 : i < (ByteArray.mk (hex l).toArray).size := by show i < (hex l).toArray.size; simp [hex, hi]
    rw [getElem?_pos (ByteArray.mk (hex l).toArray) i h1]
    show some ((hex l).toArray[i]) = _
    simp [hex]
  unfold vat
  rw [e]
  have := (l.getD (i / 2) 0).toNat_lt
  show val (hexAt l i).toNat = _
  unfold hexAt
  exact val_dig _ (by split <;> omega)
theorem good_hex (l : List UInt8) : good ⟨(hex l).toArray⟩ := ⟨by show (hex l).toArray.size = 64; simp [hex], fun i hi => by rw [vat_hex l hi]; have := (l.getD (i / 2) 0).toNat_lt; split <;> omega⟩
theorem unhex_hex (l : List UInt8) (hl : l.length = 32) : unhex ⟨(hex l).toArray⟩ = (l, true) := by
  rw [unhex_good (good_hex l)]
  congr 1
  apply List.ext_getElem?
  intro j
  by_cases hj : j < 32
  · simp only [nibs, List.getElem?_map, List.getElem?_range hj, Option.map_some]
    unfold nib
    rw [if_pos (by omega), vat_hex l (by omega), vat_hex l (by omega), if_pos (by omega), if_neg (by omega), show 2 * j / 2 = j by omega, show (2 * j + 1) / 2 = j by omega,
      Nat.div_add_mod]
    simp [List.getD_eq_getElem?_getD, show j < l.length by omega]
  · simp [nibs, hj]; omega
theorem hex_unhex (s : ByteArray) (h : good s) : (⟨(hex (nibs s 64)).toArray⟩ : ByteArray) = s := by
  obtain ⟨h1, h2⟩ := h
  have hd : s.data.toList = hex (nibs s 64) := by
    have hl : s.data.toList.length = 64 := h1
    apply List.ext_getElem?
    intro i
    by_cases hi : i < 64
    · simp only [hex, List.getElem?_map, List.getElem?_range hi, Option.map_some]
      have e : s[i]? = some (s.data.toList[i]'(by omega)) := by rw [getElem?_pos s i (by omega)]; rfl
      have ev : vat s i = val (s.data.toList[i]'(by omega)).toNat := by unfold vat; rw [e]
      rw [List.getElem?_eq_getElem (by omega)]
      congr 1
      have hg : (nibs s 64).getD (i / 2) 0 = nib s 64 (i / 2) := by simp [nibs, List.getD_eq_getElem?_getD, show i / 2 < 32 by omega]
      unfold hexAt
      rw [hg]
      unfold nib
      rw [if_pos (show 2 * (i / 2) + 1 < 64 by omega)]
      have a := h2 (2 * (i / 2)) (by omega)
      have b := h2 (2 * (i / 2) + 1) (by omega)
      have hn : (UInt8.ofNat (16 * vat s (2 * (i / 2)) + vat s (2 * (i / 2) + 1))).toNat = 16 * vat s (2 * (i / 2)) + vat s (2 * (i / 2) + 1) := by simp; omega
      rw [hn]
      have hv : vat s i ≤ 15 := h2 i hi
      have key : (if i % 2 = 0 then (16 * vat s (2 * (i / 2)) + vat s (2 * (i / 2) + 1)) / 16 else (16 * vat s (2 * (i / 2)) + vat s (2 * (i / 2) + 1)) % 16) = vat s i := by
        split
        · rw [show 2 * (i / 2) = i by omega] at *; omega
        · rw [show 2 * (i / 2) + 1 = i by omega] at *; omega
      rw [key, ev]
      exact (dig_val _ (by rw [← ev]; exact hv)).symm
    · simp [hex, hi]; have : s.size = s.data.size := rfl; omega
  rw [← hd]
end Sha
namespace Go.Proofs.YtaaegmmcnfeiaaaDoor.G
open Go Go.VC Go.RowKit Go.Proofs Go.Proofs.YtaaegmmcnfeiaaaDoor
theorem bytes32 {l : List UInt8} (h : l.length = 32) : (bytes l).size = 32 := by simp [h]
theorem oneC_bytes (l : List UInt8) : ∀ v ∈ (bytes l).toList, oneC v = true := by simpa [bytes] using oneC_byte l
/-- a fresh array of 32 bytes -/
theorem fresh32 {w : World} {l : List UInt8} (hl : l.length = 32) {K : Addr → World → Prop} (k : ∀ (b : Nat) (w' : World), w.heap.size ≤ b → Ext w w' → Blk w' b 24 (bytes l) → K ⟨b, 0, none⟩ w') :
    allocK w (zc Tryd.prog 24) 24 fun a w2 => stArr w2 a (bytes l) 32 fun w3 => K a w3 := by
  refine allocK_intro fun b w1 e B X z => ?_
  rw [zc24] at B
  refine stArr_all B (by simp) (bytes32 hl) (oneC_bytes l) fun w2 B2 C2 z2 => ?_
  exact k b w2 (by omega) (X.step C2 fun i hi e => by omega) B2
theorem back_does (l : List UInt8) (hl : l.length = 32) (s : ByteArray) (w : World) (hk : KeyOk w) {Q : Value → World → Prop} (k : ∀ w', Ext w w' → Q (.bool true) w') : Does Tryd.prog 7 #[.agg (bytes l), .string s] w Q := by
  refine F7_does _ _ _ _ ?_
  unfold F7
  refine allocK_intro fun b1 w1 e1 B1 X1 z1 => ?_
  refine ldArr_blk B1 (bytes32 hl) ?_
  refine hex_does l hl w1 fun w2 X2 => ?_
  refine ⟨_, rfl, ?_⟩
  refine unhex_does _ w2 fun w3 X3 => ?_
  rw [Sha.unhex_hex l hl]
  refine ⟨_, _, rfl, ?_⟩
  refine fresh32 hl fun b2 w4 h2 X4 B2 => ?_
  refine unhex_does s w4 fun w5 X5 => ?_
  refine ⟨_, _, rfl, ?_⟩
  refine fresh32 (Sha.unhex_length s) fun b3 w6 h3 X6 B3 => ?_
  have X46 := X5.ext X6
  have X36 := X4.ext X46
  have X16 := (X2.ext X3).ext X36
  have X : Ext w w6 := X1.ext X16
  refine ldArr_blk (B2.ext X46) (bytes32 hl) ?_
  refine ldArr_blk (B1.ext X16) (bytes32 hl) ?_
  refine eqArr l l hl hl ?_
  rw [beq_self_eq_true, cond_true]
  rw [show (ercode (l, true).2 == 0) = true from rfl, cond_true]
  by_cases hg : Sha.good s
  · rw [Sha.unhex_good hg] at B3 ⊢
    rw [show (ercode (Sha.nibs s 64, true).2 != 0) = false from rfl, cond_false, show (ercode (Sha.nibs s 64, true).2 == 0) = true from rfl, cond_true]
    refine ldArr_blk B3 (by simp) ?_
    refine hex_does _ (by simp) w6 fun w7 X7 => ?_
    refine ⟨_, rfl, ?_⟩
    rw [Sha.hex_unhex s hg, beq_self_eq_true, cond_true]
    refine awake_does w7 (hk.ext (X.ext X7)) fun w8 X8 => ?_
    exact ⟨_, rfl, k w8 ((X.ext X7).ext X8)⟩
  · rw [Sha.unhex_bad hg] at B3 ⊢
    rw [show (ercode (List.replicate 32 (0 : UInt8), false).2 != 0) = true from rfl, cond_true]
    refine ldArr_blk B3 (by simp) ?_
    rw [z32]
    refine eqArr _ _ (by simp) (by simp) ?_
    rw [beq_self_eq_true, cond_true]
    refine awake_does w6 (hk.ext X) fun w8 X8 => ?_
    exact ⟨_, rfl, k w8 (X.ext X8)⟩
end Go.Proofs.YtaaegmmcnfeiaaaDoor.G
