import Derived.Test.YtomoejbamegpoaaDoorSl
set_option linter.unusedVariables false
set_option linter.unusedSimpArgs false
namespace Nac
/-- a whole number as a word of 64 bits, as a byte -/
def u64 (n : Int) : UInt64 := UInt64.ofNat (n % 18446744073709551616).toNat
def b8 (n : Int) : UInt8 := UInt8.ofNat (n % 256).toNat
/-- a number as bytes, the lowest first -/
def put (n : UInt64) : Nat → List UInt8
  | 0 => []
  | k + 1 => n.toUInt8 :: put (n >>> 8) k
/-- the number whose bytes these are -/
def get : List UInt8 → UInt64
  | [] => 0
  | c :: l => (get l <<< 8) ||| c.toUInt64
@[simp] theorem put_length (k : Nat) : ∀ n, (put n k).length = k := by
  induction k with
  | zero => intro n; rfl
  | succ k ih => intro n; simp [put, ih]
def half : List UInt32 := [0x00000000, 0x105ec76f, 0x20bd8ede, 0x30e349b1, 0x417b1dbc, 0x5125dad3, 0x61c69362, 0x7198540d, 0x82f63b78, 0x92a8fc17, 0xa24bb5a6, 0xb21572c9, 0xc38d26c4, 0xd3d3e1ab, 0xe330a81a, 0xf36e6f75]
def crcH (r : UInt32) : UInt32 := (r >>> 4) ^^^ half.getD (r &&& 15).toNat 0
def crcB (r : UInt32) (c : UInt8) : UInt32 := crcH (crcH (r ^^^ c.toUInt32))
def crcOn (s : UInt32) (l : List UInt8) : UInt32 := ~~~ (l.foldl crcB (~~~ s))
def crc (l : List UInt8) : UInt32 := crcOn 0 l
def seal_ (l : List UInt8) : List UInt8 := l ++ put (crc l).toUInt64 4
end Nac
namespace Go.VC
open Go Go.RowKit
theorem wrap_u64n (n : Nat) (h : n < 18446744073709551616) : IntKind.wrap .u64 (n : Int) = n := by rw [IntKind.wrap_u64]; omega
theorem wrap64 (n : Int) : IntKind.wrap .u64 n = ((Nac.u64 n).toNat : Int) := by
  rw [IntKind.wrap_u64, Nac.u64, UInt64.toNat_ofNat']
  simp only [Nat.reducePow]
  omega
theorem wrap8 (n : Int) : IntKind.wrap .u8 n = ((Nac.b8 n).toNat : Int) := by
  rw [IntKind.wrap_u8, Nac.b8, UInt8.toNat_ofNat']
  simp only [Nat.reducePow]
  omega
theorem u64_lt (a : UInt64) : a.toNat < 18446744073709551616 := a.toNat_lt
theorem wrap8_64 (a : UInt64) : IntKind.wrap .u8 (a.toNat : Int) = (a.toUInt8.toNat : Int) := by
  rw [IntKind.wrap_u8, UInt64.toNat_toUInt8]
  show ((a.toNat : Int) % 256) = ((a.toNat % 256 : Nat) : Int)
  omega
theorem wrap32_64 (a : UInt64) : IntKind.wrap .u32 (a.toNat : Int) = (a.toUInt32.toNat : Int) := by
  rw [IntKind.wrap_u32, UInt64.toNat_toUInt32]
  show ((a.toNat : Int) % 4294967296) = ((a.toNat % 4294967296 : Nat) : Int)
  omega
theorem wrap64_32 (a : UInt32) : IntKind.wrap .u64 (a.toNat : Int) = (a.toUInt64.toNat : Int) := by
  have := u32_lt a
  rw [wrap_u64n _ (by omega)]; simp
theorem wrap64_8 (a : UInt8) : IntKind.wrap .u64 (a.toNat : Int) = (a.toUInt64.toNat : Int) := by
  have := u8_lt a
  rw [wrap_u64n _ (by omega)]; simp
theorem shr64_8 (a : UInt64) : Int.fdiv (a.toNat : Int) (2 ^ (min (Int.toNat (8)) (IntKind.bits .u64))) = ((a >>> 8).toNat : Int) := by
  have hm : min (Int.toNat 8) (IntKind.bits .u64) = 8 := by decide
  rw [hm, UInt64.toNat_shiftRight, show (8 : UInt64).toNat % 64 = 8 from rfl, Nat.shiftRight_eq_div_pow]
  rw [Int.fdiv_eq_ediv_of_nonneg _ (Int.le_of_lt (Int.pow_pos (by decide)))]
  simp
theorem shl64_8 (a : UInt64) : IntKind.wrap .u64 ((a.toNat : Int) * 2 ^ (min (Int.toNat (8)) (IntKind.bits .u64))) = ((a <<< 8).toNat : Int) := by
  have hm : min (Int.toNat 8) (IntKind.bits .u64) = 8 := by decide
  rw [hm, UInt64.toNat_shiftLeft, show (8 : UInt64).toNat % 64 = 8 from rfl, Nat.shiftLeft_eq, IntKind.wrap_u64, show ((a.toNat : Int) * 2 ^ 8) = ((a.toNat * 2 ^ 8 : Nat) : Int) from by rw [Int.natCast_mul, Int.natCast_pow]; rfl]
  generalize a.toNat * 2 ^ 8 = k
  show ((k : Int) % 18446744073709551616) = ((k % 18446744073709551616 : Nat) : Int)
  omega
theorem ofInt64 (a : UInt64) : BitVec.ofInt 64 (a.toNat : Int) = a.toBitVec := by
  rw [BitVec.ofInt_natCast]; exact BitVec.eq_of_toNat_eq (by simp)
theorem or64 (a b : UInt64) : bits .or .u64 (a.toNat : Int) (b.toNat : Int) = ((a ||| b).toNat : Int) := by
  show IntKind.wrap .u64 (((BitVec.ofInt 64 (a.toNat : Int) ||| BitVec.ofInt 64 (b.toNat : Int)).toNat : Nat) : Int) = _
  rw [ofInt64, ofInt64, ← UInt64.toBitVec_or]; exact wrap_u64n _ (u64_lt _)
end Go.VC
