import Derived.Test.YtlbhilhfbbocfaaDoorSl
import Derived.Test.YtlbhilhfbbocfaaDoorSm
set_option linter.unusedVariables false
set_option linter.unusedSimpArgs false
namespace Nac
/-- a whole number as a word of 64 bits, as a byte -/
def u64 (n : Int) : UInt64 := UInt64.ofNat (n % 18446744073709551616).toNat
def b8 (n : Int) : UInt8 := UInt8.ofNat (n % 256).toNat
/-- a number as bytes, the lowest first -/
def put (n : UInt64) : Nat → List UInt8
  | 0 => []
  | k + 1 => n.toUInt8 :: put (n >>> 8) k
/-- the number whose bytes these are -/
def get : List UInt8 → UInt64
  | [] => 0
  | c :: l => (get l <<< 8) ||| c.toUInt64
@[simp] theorem put_length (k : Nat) : ∀ n, (put n k).length = k := by
  induction k with
  | zero => intro n; rfl
  | succ k ih => intro n; simp [put, ih]
def half : List UInt32 := [0x00000000, 0x105ec76f, 0x20bd8ede, 0x30e349b1, 0x417b1dbc, 0x5125dad3, 0x61c69362, 0x7198540d, 0x82f63b78, 0x92a8fc17, 0xa24bb5a6, 0xb21572c9, 0xc38d26c4, 0xd3d3e1ab, 0xe330a81a, 0xf36e6f75]
def crcH (r : UInt32) : UInt32 := (r >>> 4) ^^^ half.getD (r &&& 15).toNat 0
def crcB (r : UInt32) (c : UInt8) : UInt32 := crcH (crcH (r ^^^ c.toUInt32))
def crcOn (s : UInt32) (l : List UInt8) : UInt32 := ~~~ (l.foldl crcB (~~~ s))
def crc (l : List UInt8) : UInt32 := crcOn 0 l
def seal_ (l : List UInt8) : List UInt8 := l ++ put (crc l).toUInt64 4
end Nac
namespace Go.VC
open Go Go.RowKit
theorem wrap_u64n (n : Nat) (h : n < 18446744073709551616) : IntKind.wrap .u64 (n : Int) = n := by rw [IntKind.wrap_u64]; omega
theorem wrap64 (n : Int) : IntKind.wrap .u64 n = ((Nac.u64 n).toNat : Int) := by
  rw [IntKind.wrap_u64, Nac.u64, UInt64.toNat_ofNat']
  simp only [Nat.reducePow]
  omega
theorem wrap8 (n : Int) : IntKind.wrap .u8 n = ((Nac.b8 n).toNat : Int) := by
  rw [IntKind.wrap_u8, Nac.b8, UInt8.toNat_ofNat']
  simp only [Nat.reducePow]
  omega
theorem u64_lt (a : UInt64) : a.toNat < 18446744073709551616 := a.toNat_lt
theorem wrap8_64 (a : UInt64) : IntKind.wrap .u8 (a.toNat : Int) = (a.toUInt8.toNat : Int) := by
  rw [IntKind.wrap_u8, UInt64.toNat_toUInt8]
  show ((a.toNat : Int) % 256) = ((a.toNat % 256 : Nat) : Int)
  omega
theorem wrap32_64 (a : UInt64) : IntKind.wrap .u32 (a.toNat : Int) = (a.toUInt32.toNat : Int) := by
  rw [IntKind.wrap_u32, UInt64.toNat_toUInt32]
  show ((a.toNat : Int) % 4294967296) = ((a.toNat % 4294967296 : Nat) : Int)
  omega
theorem wrap64_32 (a : UInt32) : IntKind.wrap .u64 (a.toNat : Int) = (a.toUInt64.toNat : Int) := by
  have := u32_lt a
  rw [wrap_u64n _ (by omega)]; simp
theorem wrap64_8 (a : UInt8) : IntKind.wrap .u64 (a.toNat : Int) = (a.toUInt64.toNat : Int) := by
  have := u8_lt a
  rw [wrap_u64n _ (by omega)]; simp
theorem shr64_8 (a : UInt64) : Int.fdiv (a.toNat : Int) (2 ^ (min (Int.toNat (8)) (IntKind.bits .u64))) = ((a >>> 8).toNat : Int) := by
  have hm : min (Int.toNat 8) (IntKind.bits .u64) = 8 := by decide
  rw [hm, UInt64.toNat_shiftRight, show (8 : UInt64).toNat % 64 = 8 from rfl, Nat.shiftRight_eq_div_pow]
  rw [Int.fdiv_eq_ediv_of_nonneg _ (Int.le_of_lt (Int.pow_pos (by decide)))]
  simp
theorem shl64_8 (a : UInt64) : IntKind.wrap .u64 ((a.toNat : Int) * 2 ^ (min (Int.toNat (8)) (IntKind.bits .u64))) = ((a <<< 8).toNat : Int) := by
  have hm : min (Int.toNat 8) (IntKind.bits .u64) = 8 := by decide
  rw [hm, UInt64.toNat_shiftLeft, show (8 : UInt64).toNat % 64 = 8 from rfl, Nat.shiftLeft_eq, IntKind.wrap_u64, show ((a.toNat : Int) * 2 ^ 8) = ((a.toNat * 2 ^ 8 : Nat) : Int) from by rw [Int.natCast_mul, Int.natCast_pow]; rfl]
  generalize a.toNat * 2 ^ 8 = k
  show ((k : Int) % 18446744073709551616) = ((k % 18446744073709551616 : Nat) : Int)
  omega
theorem ofInt64 (a : UInt64) : BitVec.ofInt 64 (a.toNat : Int) = a.toBitVec := by
  rw [BitVec.ofInt_natCast]; exact BitVec.eq_of_toNat_eq (by simp)
theorem or64 (a b : UInt64) : bits .or .u64 (a.toNat : Int) (b.toNat : Int) = ((a ||| b).toNat : Int) := by
  show IntKind.wrap .u64 (((BitVec.ofInt 64 (a.toNat : Int) ||| BitVec.ofInt 64 (b.toNat : Int)).toNat : Nat) : Int) = _
  rw [ofInt64, ofInt64, ← UInt64.toBitVec_or]; exact wrap_u64n _ (u64_lt _)
end Go.VC

set_option linter.unusedVariables false
set_option linter.unusedSimpArgs false
/-! the instructions of partitions' programs, plain -/
namespace Nac
open Go Go.VC Go.RowKit
structure Ins where
  op : UInt8
  a : UInt8
  b : UInt8
  c : UInt8
deriving DecidableEq
namespace Ins
def cs (i : Ins) : List Value := [.int .u8 (i.op.toNat : Int), .int .u8 (i.a.toNat : Int), .int .u8 (i.b.toNat : Int), .int .u8 (i.c.toNat : Int)]
def v (i : Ins) : Value := .agg #[.int .u8 (i.op.toNat : Int), .int .u8 (i.a.toNat : Int), .int .u8 (i.b.toNat : Int), .int .u8 (i.c.toNat : Int)]
def n16 (i : Ins) : Int := (i.b.toNat : Int) + 256 * (i.c.toNat : Int)
def num (i : Ins) : Int := if i.op.toNat = 1 ∧ 32768 ≤ i.n16 then i.n16 - 65536 else i.n16
def form (i : Ins) : Prop := (i.op.toNat = 0 ∧ i.a.toNat = 0 ∧ i.b.toNat = 0 ∧ i.c.toNat = 0) ∨ ((i.op.toNat = 1 ∨ i.op.toNat = 16) ∧ i.a.toNat < 8) ∨ (i.op.toNat = 2 ∧ i.a.toNat < 8 ∧ i.b.toNat < 8 ∧ i.c.toNat = 0) ∨
  (3 ≤ i.op.toNat ∧ i.op.toNat ≤ 12 ∧ i.a.toNat < 8 ∧ i.b.toNat < 8 ∧ i.c.toNat < 8) ∨ ((i.op.toNat = 13 ∨ i.op.toNat = 14) ∧ i.a.toNat < 8 ∧ i.b.toNat < 8) ∨ (i.op.toNat = 15 ∧ i.a.toNat = 0) ∨ (i.op.toNat = 17 ∧ i.a.toNat < 16 ∧ i.b.toNat = 0 ∧ i.c.toNat = 0)
instance (i : Ins) : Decidable i.form := by unfold form; infer_instance
def jmp (i : Ins) : Prop := i.op.toNat = 15 ∨ i.op.toNat = 16
instance (i : Ins) : Decidable i.jmp := by unfold jmp; infer_instance
/-- what is wrong with an instruction of a list of n (0: nothing) -/
def bad (n : Nat) (i : Ins) : Int := if ¬ i.form then 3 else if i.jmp ∧ (n : Int) ≤ i.num then 4 else 0
theorem n16_rng (i : Ins) : 0 ≤ i.n16 ∧ i.n16 ≤ 65535 := by
  have := i.b.toNat_lt; have := i.c.toNat_lt; unfold n16; omega
theorem num_rng (i : Ins) : -32768 ≤ i.num ∧ i.num ≤ 65535 := by
  have := i.n16_rng; unfold num; split <;> omega
theorem num_jmp (i : Ins) (h : i.jmp) : 0 ≤ i.num := by
  have := i.n16_rng; unfold num; unfold jmp at h; rw [if_neg (by omega)]; omega
end Ins
/-- the first place that has something -/
def cfind (f : Ins → Int) : List Ins → Nat → Option (Int × Int)
  | [], _ => none
  | i :: l, k => if f i = 0 then cfind f l (k + 1) else some (f i, (k : Int))
theorem cfind_at {f : Ins → Int} : ∀ {l : List Ins} {k n : Nat} (hn : n < l.length), f l[n] ≠ 0 → (∀ j (hj : j < n), f (l[j]'(by omega)) = 0) → cfind f l k = some (f l[n], ((k + n : Nat) : Int))
  | i :: l, k, 0, _, h, _ => by simp only [cfind, List.getElem_cons_zero] at h ⊢; rw [if_neg h]; rfl
  | i :: l, k, n + 1, hn, h, hp => by
    have h0 : f i = 0 := hp 0 (by omega)
    simp only [cfind, List.getElem_cons_succ] at h ⊢
    rw [if_pos h0, cfind_at (n := n) (by simpa using hn) h (fun j hj => hp (j + 1) (by omega))]
    rw [show k + 1 + n = k + (n + 1) by omega]
theorem cfind_none {f : Ins → Int} : ∀ {l : List Ins} {k : Nat}, (∀ j (hj : j < l.length), f l[j] = 0) → cfind f l k = none
  | [], _, _ => rfl
  | i :: l, k, hp => by
    have h0 : f i = 0 := hp 0 (by simp)
    simp only [cfind]
    rw [if_pos h0, cfind_none fun j hj => hp (j + 1) (by simp; omega)]
def lastOp (l : List Ins) : Nat := match l.getLast? with
  | some i => i.op.toNat
  | none => 0
/-- what a list's check says: the error's number (0: none), and its place -/
def cchk (l : List Ins) : Int × Int :=
  if 1 ≤ l.length ∧ l.length ≤ 128 then
    match cfind (Ins.bad l.length) l 0 with
    | some x => x
    | none => if lastOp l = 0 ∨ lastOp l = 15 then (0, 0) else (2, (l.length : Int) - 1)
  else (1, 0)
theorem cchk_arg {l : List Ins} (h : ¬ (1 ≤ l.length ∧ l.length ≤ 128)) : cchk l = (1, 0) := if_neg h
theorem cchk_at {l : List Ins} (h : 1 ≤ l.length ∧ l.length ≤ 128) {n : Nat} (hn : n < l.length) (hb : l[n].bad l.length ≠ 0) (hp : ∀ j (hj : j < n), (l[j]'(by omega)).bad l.length = 0) : cchk l = (l[n].bad l.length, (n : Int)) := by
  unfold cchk; rw [if_pos h, cfind_at hn hb hp]; simp
theorem lastOp_eq {l : List Ins} (h : 1 ≤ l.length) : lastOp l = (l[l.length - 1]'(by omega)).op.toNat := by
  unfold lastOp; rw [List.getLast?_eq_getElem?, List.getElem?_eq_getElem (by omega)]
theorem cchk_last {l : List Ins} (h : 1 ≤ l.length ∧ l.length ≤ 128) (hp : ∀ j (hj : j < l.length), l[j].bad l.length = 0) : cchk l = if (l[l.length - 1]'(by omega)).op.toNat = 0 ∨ (l[l.length - 1]'(by omega)).op.toNat = 15 then (0, 0) else (2, (l.length : Int) - 1) := by
  unfold cchk; rw [if_pos h, cfind_none hp, lastOp_eq h.1]
/-- a program's bytes -/
def cenc : List Ins → List UInt8
  | [] => []
  | i :: l => i.op :: i.a :: i.b :: i.c :: cenc l
/-- the instructions that bytes would be -/
def clst : List UInt8 → List Ins
  | o :: a :: b :: c :: t => ⟨o, a, b, c⟩ :: clst t
  | _ => []
theorem clst_enc : ∀ l : List Ins, clst (cenc l) = l
  | [] => rfl
  | ⟨o, a, b, c⟩ :: l => by rw [cenc, clst, clst_enc l]
theorem cenc_inj {l m : List Ins} (h : cenc l = cenc m) : l = m := by rw [← clst_enc l, h, clst_enc]
theorem cenc_length : ∀ l : List Ins, (cenc l).length = 4 * l.length
  | [] => rfl
  | i :: l => by rw [cenc]; simp only [List.length_cons, cenc_length l]; omega
theorem cenc_append : ∀ l m : List Ins, cenc (l ++ m) = cenc l ++ cenc m
  | [], m => rfl
  | i :: l, m => by simp only [List.cons_append, cenc, cenc_append l m]
theorem clst_drop {b : List UInt8} {k : Nat} (h : 4 * k + 3 < b.length) : clst (b.drop (4 * k)) = ⟨b[4 * k], b[4 * k + 1], b[4 * k + 2], b[4 * k + 3]⟩ :: clst (b.drop (4 * (k + 1))) := by
  rw [List.drop_eq_getElem_cons (show 4 * k < b.length by omega), List.drop_eq_getElem_cons (show 4 * k + 1 < b.length by omega), List.drop_eq_getElem_cons (show 4 * k + 1 + 1 < b.length by omega), List.drop_eq_getElem_cons (show 4 * k + 1 + 1 + 1 < b.length by omega), clst]
  rfl
theorem clst_short {b : List UInt8} (h : b.length < 4) : clst b = [] := by
  match b, h with
  | [], _ => rfl
  | [_], _ => rfl
  | [_, _], _ => rfl
  | [_, _, _], _ => rfl
theorem clst_length : ∀ {b : List UInt8}, (clst b).length = b.length / 4
  | [] => rfl
  | [_] => by simp [clst]
  | [_, _] => by simp [clst]
  | [_, _, _] => by simp [clst]
  | o :: a :: b :: c :: t => by rw [clst]; simp only [List.length_cons, clst_length (b := t)]; omega
theorem cenc_lst : ∀ {b : List UInt8}, b.length % 4 = 0 → cenc (clst b) = b
  | [], _ => rfl
  | [_], h => by simp at h
  | [_, _], h => by simp at h
  | [_, _, _], h => by simp at h
  | o :: a :: b :: c :: t, h => by rw [clst, cenc, cenc_lst (b := t) (by simp only [List.length_cons] at h; omega)]
/-- what may come behind an instruction -/
def cadd (n : Nat) (x : Int) : List Int := if x < n then [x] else []
def cnext (l : List Ins) (at_ : Int) : List Int :=
  if h : 0 ≤ at_ ∧ at_ < l.length then
    let i := l[at_.toNat]'(by omega)
    if i.op.toNat = 0 then [] else if i.op.toNat = 15 then cadd l.length i.num
    else if i.op.toNat = 16 then cadd l.length (if at_ + 1 < i.num then at_ + 1 else i.num) ++ (if i.num = at_ + 1 then [] else cadd l.length (if i.num < at_ + 1 then at_ + 1 else i.num))
    else cadd l.length (at_ + 1)
  else []
instance : Rep Ins where
  n := 4
  r := fun ro cs x => cs = x.cs
  mono := fun h e => e
  len := fun e => by rw [e]; rfl
  one := fun e u hu => by rw [e] at hu; simp [Ins.cs] at hu; rcases hu with rfl | rfl | rfl | rfl <;> rfl
end Nac
