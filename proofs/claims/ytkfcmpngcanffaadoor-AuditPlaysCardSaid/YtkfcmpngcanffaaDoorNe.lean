import Derived.Test.YtkfcmpngcanffaaDoorNd
set_option linter.unusedVariables false
set_option linter.unusedSimpArgs false
namespace Nac
/-! ### The check of 32 bits, bit by bit -/
def poly : UInt32 := 2197175160
def stp (r : UInt32) : UInt32 := (r >>> 1) ^^^ (if r &&& 1 = 1 then poly else 0)
theorem and1 (a : UInt32) : a &&& 1 = 0 ∨ a &&& 1 = 1 := by
  have h : (a &&& 1).toNat = a.toNat % 2 := by rw [UInt32.toNat_and]; exact Nat.and_one_is_mod _
  rcases Nat.mod_two_eq_zero_or_one a.toNat with e | e
  · left; apply UInt32.toNat_inj.1; rw [h, e]; rfl
  · right; apply UInt32.toNat_inj.1; rw [h, e]; rfl
theorem stp_xor (a b : UInt32) : stp (a ^^^ b) = stp a ^^^ stp b := by
  unfold stp
  have e1 : (a ^^^ b) >>> 1 = (a >>> 1) ^^^ (b >>> 1) := by simp [UInt32.shiftRight_xor]
  have e2 : (a ^^^ b) &&& 1 = (a &&& 1) ^^^ (b &&& 1) := by
    apply UInt32.toNat_inj.1
    simp only [UInt32.toNat_xor, UInt32.toNat_and]
    apply Nat.eq_of_testBit_eq
    intro i
    simp only [Nat.testBit_and, Nat.testBit_xor]
    cases a.toNat.testBit i <;> cases b.toNat.testBit i <;> cases (UInt32.toNat 1).testBit i <;> rfl
  rw [e1, e2]
  rcases and1 a with h1 | h1 <;> rcases and1 b with h2 | h2 <;> rw [h1, h2]
  · simp
  · rw [if_pos (by decide), if_neg (by decide), if_pos rfl]; simp [UInt32.xor_assoc]
  · rw [if_pos (by decide), if_pos rfl, if_neg (by decide)]; simp only [UInt32.xor_assoc]; congr 1; simp [UInt32.xor_comm]
  · rw [if_neg (by decide), if_pos rfl]
    simp only [UInt32.xor_assoc]; congr 1
    rw [UInt32.xor_comm (b >>> 1) poly, ← UInt32.xor_assoc poly, UInt32.xor_self]; simp
theorem stp_even (y : UInt32) (h : y.toNat < 2147483648) : stp (y <<< 1) = y := by
  have e : (y <<< 1).toNat = 2 * y.toNat := by
    rw [UInt32.toNat_shiftLeft, show (1 : UInt32).toNat % 32 = 1 from rfl, Nat.shiftLeft_eq]; omega
  have e1 : (y <<< 1) >>> 1 = y := by
    apply UInt32.toNat_inj.1
    rw [UInt32.toNat_shiftRight, show (1 : UInt32).toNat % 32 = 1 from rfl, Nat.shiftRight_eq_div_pow, e]; omega
  have e2 : ¬ (y <<< 1) &&& 1 = 1 := fun h => by
    have : ((y <<< 1) &&& 1).toNat = (y <<< 1).toNat % 2 := by rw [UInt32.toNat_and]; exact Nat.and_one_is_mod _
    rw [h, e] at this
    have h1 : (1 : UInt32).toNat = 1 := rfl
    omega
  unfold stp
  rw [e1, if_neg e2]; simp
def stp4 (r : UInt32) : UInt32 := stp (stp (stp (stp r)))
theorem stp4_xor (a b : UInt32) : stp4 (a ^^^ b) = stp4 a ^^^ stp4 b := by simp only [stp4, stp_xor]
theorem shl_shl (y : UInt32) : y <<< 4 = (((y <<< 1) <<< 1) <<< 1) <<< 1 := by
  apply UInt32.toNat_inj.1
  simp only [UInt32.toNat_shiftLeft, show (1 : UInt32).toNat % 32 = 1 from rfl, show (4 : UInt32).toNat % 32 = 4 from rfl, Nat.shiftLeft_eq]
  omega
theorem stp4_high (r : UInt32) : stp4 ((r >>> 4) <<< 4) = r >>> 4 := by
  have hr := r.toNat_lt
  have hn : (r >>> 4).toNat = r.toNat / 16 := by
    rw [UInt32.toNat_shiftRight, show (4 : UInt32).toNat % 32 = 4 from rfl, Nat.shiftRight_eq_div_pow]
  generalize hy : r >>> 4 = y at *
  have s1 : (y <<< 1).toNat = 2 * y.toNat := by rw [UInt32.toNat_shiftLeft, show (1 : UInt32).toNat % 32 = 1 from rfl, Nat.shiftLeft_eq]; omega
  have s2 : ((y <<< 1) <<< 1).toNat = 4 * y.toNat := by rw [UInt32.toNat_shiftLeft, show (1 : UInt32).toNat % 32 = 1 from rfl, Nat.shiftLeft_eq]; omega
  have s3 : (((y <<< 1) <<< 1) <<< 1).toNat = 8 * y.toNat := by rw [UInt32.toNat_shiftLeft, show (1 : UInt32).toNat % 32 = 1 from rfl, Nat.shiftLeft_eq]; omega
  rw [shl_shl, stp4, stp_even _ (by omega), stp_even _ (by omega), stp_even _ (by omega), stp_even _ (by omega)]
theorem stp4_low : ∀ n : Fin 16, stp4 (UInt32.ofNat n.val) = half.getD n.val 0 := by decide
theorem split16 (r : UInt32) : r = ((r >>> 4) <<< 4) ^^^ (r &&& 15) := by
  apply UInt32.toNat_inj.1
  have hr := r.toNat_lt
  rw [UInt32.toNat_xor, UInt32.toNat_and, UInt32.toNat_shiftLeft, UInt32.toNat_shiftRight, show (4 : UInt32).toNat % 32 = 4 from rfl, show (15 : UInt32).toNat = 15 from rfl]
  rw [show r.toNat &&& 15 = r.toNat % 2 ^ 4 from Nat.and_two_pow_sub_one_eq_mod _ 4, Nat.shiftRight_eq_div_pow, Nat.shiftLeft_eq, Nat.mod_eq_of_lt (by omega)]
  have := Nat.two_pow_add_eq_or_of_lt (i := 4) (b := r.toNat % 2 ^ 4) (by omega) (r.toNat / 2 ^ 4)
  have hx : (r.toNat / 2 ^ 4 * 2 ^ 4) ^^^ (r.toNat % 2 ^ 4) = (r.toNat / 2 ^ 4 * 2 ^ 4) ||| (r.toNat % 2 ^ 4) := by
    apply Nat.eq_of_testBit_eq
    intro i
    rw [Nat.testBit_xor, Nat.testBit_or]
    by_cases hi : i < 4
    · rw [Nat.testBit_mul_two_pow]; simp [show ¬ 4 ≤ i by omega]
    · rw [Nat.testBit_mod_two_pow]; simp [hi]
  rw [hx, Nat.mul_comm, ← this]
  omega
theorem stp4_eq (r : UInt32) : stp4 r = crcH r := by
  have hlt : (r &&& 15).toNat < 16 := by
    rw [UInt32.toNat_and]; exact Nat.lt_of_le_of_lt Nat.and_le_right (by decide)
  have hs := split16 r
  have hl := stp4_low ⟨(r &&& 15).toNat, hlt⟩
  have hof : UInt32.ofNat (r &&& 15).toNat = r &&& 15 := by simp
  simp only [hof] at hl
  calc stp4 r = stp4 (((r >>> 4) <<< 4) ^^^ (r &&& 15)) := by rw [← hs]
    _ = (r >>> 4) ^^^ half.getD (r &&& 15).toNat 0 := by rw [stp4_xor, stp4_high, hl]
theorem xor_mod2 (a b : Nat) : (a ^^^ b) % 2 = (a + b) % 2 := by
  have h := Nat.testBit_xor a b 0
  simp only [Nat.testBit_zero] at h
  rcases Nat.mod_two_eq_zero_or_one a with ha | ha <;> rcases Nat.mod_two_eq_zero_or_one b with hb | hb <;> rcases Nat.mod_two_eq_zero_or_one (a ^^^ b) with hc | hc <;> simp [ha, hb, hc] at h <;> omega
/-- what the document does with a byte, as far as k bits -/
def refBits (r : UInt32) (c : UInt8) : Nat → UInt32
  | 0 => r
  | k + 1 => ((refBits r c k) >>> 1) ^^^ (if ((refBits r c k).toNat % 2 + c.toNat / 2 ^ k % 2) % 2 = 1 then poly else 0)
def stpN (r : UInt32) : Nat → UInt32
  | 0 => r
  | k + 1 => stp (stpN r k)
theorem refBits_eq (r : UInt32) (c : UInt8) : ∀ k, stpN (r ^^^ c.toUInt32) k = refBits r c k ^^^ UInt32.ofNat (c.toNat / 2 ^ k)
  | 0 => by
    have hc := c.toNat_lt
    show r ^^^ c.toUInt32 = r ^^^ UInt32.ofNat (c.toNat / 1)
    rw [Nat.div_one]
    congr 1
    apply UInt32.toNat_inj.1
    rw [UInt8.toNat_toUInt32, UInt32.toNat_ofNat', Nat.mod_eq_of_lt (by omega)]
  | k + 1 => by
    have hc := c.toNat_lt
    have hq : c.toNat / 2 ^ k ≤ c.toNat := Nat.div_le_self _ _
    rw [stpN, refBits_eq r c k, refBits, stp]
    generalize refBits r c k = R
    have e1 : (R ^^^ UInt32.ofNat (c.toNat / 2 ^ k)) >>> 1 = (R >>> 1) ^^^ UInt32.ofNat (c.toNat / 2 ^ (k + 1)) := by
      rw [show (R ^^^ UInt32.ofNat (c.toNat / 2 ^ k)) >>> 1 = (R >>> 1) ^^^ (UInt32.ofNat (c.toNat / 2 ^ k) >>> 1) by simp [UInt32.shiftRight_xor]]
      congr 1
      apply UInt32.toNat_inj.1
      rw [UInt32.toNat_shiftRight, show (1 : UInt32).toNat % 32 = 1 from rfl, Nat.shiftRight_eq_div_pow, UInt32.toNat_ofNat', UInt32.toNat_ofNat', show (2 : Nat) ^ (k + 1) = 2 ^ k * 2 from Nat.pow_succ .., ← Nat.div_div_eq_div_mul]
      have : c.toNat / 2 ^ k / 2 ≤ c.toNat / 2 ^ k := Nat.div_le_self _ _
      rw [Nat.mod_eq_of_lt (by omega), Nat.mod_eq_of_lt (by omega)]
    have e2 : ((R ^^^ UInt32.ofNat (c.toNat / 2 ^ k)) &&& 1 = 1) ↔ (R.toNat % 2 + c.toNat / 2 ^ k % 2) % 2 = 1 := by
      rw [← UInt32.toNat_inj, UInt32.toNat_and, show (1 : UInt32).toNat = 1 from rfl, Nat.and_one_is_mod, UInt32.toNat_xor, UInt32.toNat_ofNat', Nat.mod_eq_of_lt (show c.toNat / 2 ^ k < 2 ^ 32 by omega), xor_mod2]
      omega
    rw [e1]
    by_cases h : (R.toNat % 2 + c.toNat / 2 ^ k % 2) % 2 = 1
    · rw [if_pos (e2.2 h), if_pos h, UInt32.xor_assoc, UInt32.xor_assoc, UInt32.xor_comm poly]
    · rw [if_neg (fun h' => h (e2.1 h')), if_neg h]; simp
theorem refByte (r : UInt32) (c : UInt8) : refBits r c 8 = crcB r c := by
  have h := refBits_eq r c 8
  have hc := c.toNat_lt
  rw [show c.toNat / 2 ^ 8 = 0 by omega] at h
  have h0 : UInt32.ofNat 0 = 0 := rfl
  rw [h0, UInt32.xor_zero] at h
  rw [← h, crcB, ← stp4_eq, ← stp4_eq]
  rfl
/-- the number of bytes, unit by unit -/
theorem last_none {l : List Wr} {at_ : Int} {c : List UInt8} (h : ∀ w ∈ l, w.at_ ≠ at_) : Disk.last l at_ c = c := by
  induction l generalizing c with
  | nil => rfl
  | cons w l ih =>
    show Disk.last l at_ (if w.at_ = at_ then w.b else c) = c
    rw [if_neg (h w (by simp)), ih fun x hx => h x (by simp [hx])]
theorem last_at {l : List Wr} {at_ : Int} {c : List UInt8} {i : Nat} (hi : i < l.length) (he : l[i].at_ = at_) (h : ∀ j (hj : j < l.length), i < j → l[j].at_ ≠ at_) : Disk.last l at_ c = l[i].b := by
  have e : l = l.take i ++ l[i] :: l.drop (i + 1) := by rw [← List.drop_eq_getElem_cons hi, List.take_append_drop]
  have h2 : Disk.last (l.drop (i + 1)) at_ l[i].b = l[i].b := last_none fun w hw => by
    obtain ⟨j, hj, rfl⟩ := List.getElem_of_mem hw
    rw [List.getElem_drop]
    simp at hj
    exact h _ (by omega) (by omega)
  have h3 : Disk.last (l.take i ++ l[i] :: l.drop (i + 1)) at_ c = l[i].b := by
    rw [Disk.last, List.foldl_append, List.foldl_cons, if_pos he]
    exact h2
  rwa [← e] at h3
end Nac
