import Derived.Test.YtaaegmmcnfeiaaaDoorBase
set_option linter.unusedVariables false
set_option linter.unusedSimpArgs false
namespace Go.VC
open Go Go.RowKit
/-! ### Words of 32 bits, bytes: the model's numbers as Lean's own -/
@[reducible] def i32 (a : UInt32) : Int := (a.toNat : Int)
@[reducible] def i8 (a : UInt8) : Int := (a.toNat : Int)
theorem ofInt32 (a : UInt32) : BitVec.ofInt 32 (a.toNat : Int) = a.toBitVec := by
  rw [BitVec.ofInt_natCast]; exact BitVec.eq_of_toNat_eq (by simp)
theorem ofInt8 (a : UInt8) : BitVec.ofInt 8 (a.toNat : Int) = a.toBitVec := by
  rw [BitVec.ofInt_natCast]; exact BitVec.eq_of_toNat_eq (by simp)
theorem wrap32_nat (n : Nat) (h : n < 4294967296) : IntKind.wrap .u32 (n : Int) = n := by rw [IntKind.wrap_u32]; omega
theorem wrap8_nat (n : Nat) (h : n < 256) : IntKind.wrap .u8 (n : Int) = n := by rw [IntKind.wrap_u8]; omega
theorem u32_lt (a : UInt32) : a.toNat < 4294967296 := a.toNat_lt
theorem u8_lt (a : UInt8) : a.toNat < 256 := a.toNat_lt
theorem xor32 (a b : UInt32) : bits .xor .u32 (a.toNat : Int) (b.toNat : Int) = ((a ^^^ b).toNat : Int) := by
  show IntKind.wrap .u32 (((BitVec.ofInt 32 (a.toNat : Int) ^^^ BitVec.ofInt 32 (b.toNat : Int)).toNat : Nat) : Int) = _
  rw [ofInt32, ofInt32, ← UInt32.toBitVec_xor]; exact wrap32_nat _ (u32_lt _)
theorem and32 (a b : UInt32) : bits .and .u32 (a.toNat : Int) (b.toNat : Int) = ((a &&& b).toNat : Int) := by
  show IntKind.wrap .u32 (((BitVec.ofInt 32 (a.toNat : Int) &&& BitVec.ofInt 32 (b.toNat : Int)).toNat : Nat) : Int) = _
  rw [ofInt32, ofInt32, ← UInt32.toBitVec_and]; exact wrap32_nat _ (u32_lt _)
theorem or32 (a b : UInt32) : bits .or .u32 (a.toNat : Int) (b.toNat : Int) = ((a ||| b).toNat : Int) := by
  show IntKind.wrap .u32 (((BitVec.ofInt 32 (a.toNat : Int) ||| BitVec.ofInt 32 (b.toNat : Int)).toNat : Nat) : Int) = _
  rw [ofInt32, ofInt32, ← UInt32.toBitVec_or]; exact wrap32_nat _ (u32_lt _)
theorem or8 (a b : UInt8) : bits .or .u8 (a.toNat : Int) (b.toNat : Int) = ((a ||| b).toNat : Int) := by
  show IntKind.wrap .u8 (((BitVec.ofInt 8 (a.toNat : Int) ||| BitVec.ofInt 8 (b.toNat : Int)).toNat : Nat) : Int) = _
  rw [ofInt8, ofInt8, ← UInt8.toBitVec_or]; exact wrap8_nat _ (u8_lt _)
theorem and8 (a b : UInt8) : bits .and .u8 (a.toNat : Int) (b.toNat : Int) = ((a &&& b).toNat : Int) := by
  show IntKind.wrap .u8 (((BitVec.ofInt 8 (a.toNat : Int) &&& BitVec.ofInt 8 (b.toNat : Int)).toNat : Nat) : Int) = _
  rw [ofInt8, ofInt8, ← UInt8.toBitVec_and]; exact wrap8_nat _ (u8_lt _)
theorem not32 (a : UInt32) : notK .u32 (a.toNat : Int) = ((~~~ a).toNat : Int) := by
  have e : (if IntKind.u32.signed = true then (-1 : Int) else IntKind.u32.max) = ((4294967295 : UInt32).toNat : Int) := by decide
  unfold notK
  rw [e, xor32]
  have e2 : (4294967295 : UInt32) ^^^ a = ~~~ a := by
    apply UInt32.toBitVec_inj.1
    rw [UInt32.toBitVec_xor, UInt32.toBitVec_not]
    apply BitVec.eq_of_getLsbD_eq
    intro i hi
    have h1 : (UInt32.toBitVec 4294967295) = BitVec.allOnes 32 := by decide
    rw [BitVec.getLsbD_xor, h1, BitVec.getLsbD_not, BitVec.getLsbD_allOnes]
    simp [hi]
  rw [e2]
theorem add32 (a b : UInt32) : IntKind.wrap .u32 ((a.toNat : Int) + b.toNat) = ((a + b).toNat : Int) := by
  rw [IntKind.wrap_u32, UInt32.toNat_add]; omega
theorem sub32 (a b : UInt32) : IntKind.wrap .u32 ((a.toNat : Int) - b.toNat) = ((a - b).toNat : Int) := by
  have ha := u32_lt a; have hb := u32_lt b
  rw [IntKind.wrap_u32, UInt32.toNat_sub]; omega
theorem wrap32_8 (b : UInt8) : IntKind.wrap .u32 (b.toNat : Int) = (b.toUInt32.toNat : Int) := by
  have := u8_lt b
  rw [wrap32_nat _ (by omega)]; simp
theorem shr32 (a : UInt32) (n : Nat) (h : n < 32) : Int.fdiv (a.toNat : Int) (2 ^ (min (Int.toNat (n : Int)) (IntKind.bits .u32))) = ((a >>> (UInt32.ofNat n)).toNat : Int) := by
  have hm : min (Int.toNat (n : Int)) (IntKind.bits .u32) = n := by simp [IntKind.bits]; omega
  have hn : (UInt32.ofNat n).toNat = n := by simp; omega
  rw [hm, UInt32.toNat_shiftRight, hn, Nat.mod_eq_of_lt h, Nat.shiftRight_eq_div_pow]
  rw [Int.fdiv_eq_ediv_of_nonneg _ (Int.le_of_lt (Int.pow_pos (by decide)))]
  simp
theorem shl32 (a : UInt32) (n : Nat) (h : n < 32) : IntKind.wrap .u32 ((a.toNat : Int) * 2 ^ (min (Int.toNat (n : Int)) (IntKind.bits .u32))) = ((a <<< (UInt32.ofNat n)).toNat : Int) := by
  have hm : min (Int.toNat (n : Int)) (IntKind.bits .u32) = n := by simp [IntKind.bits]; omega
  have hn : (UInt32.ofNat n).toNat = n := by simp; omega
  rw [hm, UInt32.toNat_shiftLeft, hn, Nat.mod_eq_of_lt h, Nat.shiftLeft_eq, IntKind.wrap_u32, show ((a.toNat : Int) * 2 ^ n) = ((a.toNat * 2 ^ n : Nat) : Int) from by rw [Int.natCast_mul, Int.natCast_pow]; rfl]
  generalize a.toNat * 2 ^ n = k
  show ((k : Int) % 4294967296) = ((k % 4294967296 : Nat) : Int)
  omega
theorem mul32 (a b : UInt32) : IntKind.wrap .u32 ((a.toNat : Int) * b.toNat) = ((a * b).toNat : Int) := by
  rw [IntKind.wrap_u32, UInt32.toNat_mul, ← Int.natCast_mul]
  generalize a.toNat * b.toNat = k
  show ((k : Int) % 4294967296) = ((k % 4294967296 : Nat) : Int)
  omega
theorem wrap8_32 (a : UInt32) : IntKind.wrap .u8 (a.toNat : Int) = (a.toUInt8.toNat : Int) := by
  rw [IntKind.wrap_u8, UInt32.toNat_toUInt8]
  show ((a.toNat : Int) % 256) = ((a.toNat % 256 : Nat) : Int)
  omega
theorem shl32i (a : UInt32) (n : Int) (h0 : 0 ≤ n) (h : n < 32) : IntKind.wrap .u32 ((a.toNat : Int) * 2 ^ (min (Int.toNat n) (IntKind.bits .u32))) = ((a <<< (UInt32.ofNat n.toNat)).toNat : Int) := by
  obtain ⟨k, rfl⟩ := Int.eq_ofNat_of_zero_le h0
  exact shl32 a k (by omega)
theorem shr32i (a : UInt32) (n : Int) (h0 : 0 ≤ n) (h : n < 32) : Int.fdiv (a.toNat : Int) (2 ^ (min (Int.toNat n) (IntKind.bits .u32))) = ((a >>> (UInt32.ofNat n.toNat)).toNat : Int) := by
  obtain ⟨k, rfl⟩ := Int.eq_ofNat_of_zero_le h0
  exact shr32 a k (by omega)
end Go.VC
