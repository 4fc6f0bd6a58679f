import Derived.Test.YtaaegmmcnfeiaaaDoorGen
import Derived.Test.YtaaegmmcnfeiaaaDoorShaS
set_option linter.unusedVariables false
set_option linter.unusedSimpArgs false
namespace Go.Proofs.YtaaegmmcnfeiaaaDoor.G
open Go Go.VC Go.RowKit Go.Proofs Go.Proofs.YtaaegmmcnfeiaaaDoor
def byteV (x : UInt8) : Value := .int .u8 (x.toNat : Int)
def wordV (x : UInt32) : Value := .int .u32 (x.toNat : Int)
theorem rot_cnt (n : Nat) (h1 : 1 ≤ n) (h2 : n ≤ 31) : bits .and .u64 (IntKind.wrap .u64 (-(n : Int))) 31 = ((32 - n : Nat) : Int) := by
  have e : IntKind.wrap .u64 (-(n : Int)) = 18446744073709551616 - n := by simp [IntKind.wrap, IntKind.bits, IntKind.signed]; omega
  rw [e]
  have := bits_mask .u64 64 (by decide) (fun n h0 h1 => IntWalk.u64_in n (by omega)) 5 (by decide) (18446744073709551616 - n) (by omega) (by omega)
  rw [show ((2:Int)^5 - 1) = 31 from rfl] at this
  rw [this]; omega
theorem rot_does (x : UInt32) (n : Nat) (h1 : 1 ≤ n) (h2 : n ≤ 31) (w : World) : Does Tryd.prog 29 #[.int .u32 (x.toNat : Int), .int .i64 (-(n : Int))] w fun v w' => v = wordV (Sha.rotr x n) ∧ w' = w := by
  refine F29_does _ _ _ _ ?_
  unfold F29
  rw [rot_cnt n h1 h2]
  have e : IntKind.wrap .u64 (32 - ((32 - n : Nat) : Int)) = (n : Int) := by rw [IntWalk.u64_in _ (by omega)]; omega
  rw [e, shl32 _ _ (by omega), shr32 _ _ (by omega), or32]
  exact ⟨by omega, by omega, rfl, rfl⟩
theorem turn_does (x : UInt32) (n : Nat) (h1 : 1 ≤ n) (h2 : n ≤ 31) (w : World) : Does Tryd.prog 28 #[.int .u32 (x.toNat : Int), .int .i64 (n : Int)] w fun v w' => v = wordV (Sha.rotr x n) ∧ w' = w := by
  refine F28_does _ _ _ _ ?_
  unfold F28
  rw [IntWalk.i64_in _ (by omega), Int.zero_sub]
  refine (rot_does x n h1 h2 w).mono ?_
  rintro v w' ⟨rfl, rfl⟩
  exact ⟨_, rfl, rfl, rfl⟩
/-- rows of words, of bytes -/
def words (l : List UInt32) : Array Value := (l.map wordV).toArray
def bytes (l : List UInt8) : Array Value := (l.map byteV).toArray
@[simp] theorem size_words (l : List UInt32) : (words l).size = l.length := by simp [words]
@[simp] theorem size_bytes (l : List UInt8) : (bytes l).size = l.length := by simp [bytes]
theorem words_get {l : List UInt32} {i : Nat} (h : i < l.length) : (words l)[i]? = some (.int .u32 ((l.getD i 0).toNat : Int)) := by simp [words, h, wordV]
theorem bytes_get {l : List UInt8} {i : Nat} (h : i < l.length) : (bytes l)[i]? = some (.int .u8 ((l.getD i 0).toNat : Int)) := by simp [bytes, h, byteV]
theorem words_set (l : List UInt32) (i : Nat) (x : UInt32) : (words l).setIfInBounds i (.int .u32 (x.toNat : Int)) = words (l.set i x) := by simp [words, List.map_set, wordV]
theorem bytes_set (l : List UInt8) (i : Nat) (x : UInt8) : (bytes l).setIfInBounds i (.int .u8 (x.toNat : Int)) = bytes (l.set i x) := by simp [bytes, List.map_set, byteV]
theorem zc44 : zc Tryd.prog 44 = words (List.replicate 8 0) := by kernel_rfl
theorem zc58 : zc Tryd.prog 58 = words (List.replicate 64 0) := by kernel_rfl
theorem zc24 : zc Tryd.prog 24 = bytes (List.replicate 32 0) := by kernel_rfl
theorem zc51 : zc Tryd.prog 51 = bytes (List.replicate 8 0) := by kernel_rfl
end Go.Proofs.YtaaegmmcnfeiaaaDoor.G
