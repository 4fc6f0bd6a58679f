import Derived.Test.YtkfcmpngcanffaaDoorSl
set_option linter.unusedVariables false
namespace Nac
/-- a write that waits -/
structure Wr where
  at_ : Int
  b : List UInt8
/-- a disk: its sectors, what waits, whether the power is off, the calls that are left (below 0: it is not armed), who survives -/
structure Disk where
  has : List (List UInt8)
  waits : List Wr
  off : Bool
  left : Int
  surv : List Bool
namespace Disk
def lay (has : List (List UInt8)) (w : Wr) : List (List UInt8) := has.set w.at_.toNat w.b
def layAll (has : List (List UInt8)) (l : List Wr) : List (List UInt8) := l.foldl lay has
def layS : List (List UInt8) → List Wr → List Bool → List (List UInt8)
  | has, w :: l, s :: r => layS (cond s (lay has w) has) l r
  | has, _, _ => has
def crash (d : Disk) (s : List Bool) : Disk := cond d.off d { d with has := layS d.has d.waits s, waits := [], off := true, left := -1 }
def goes (d : Disk) : Disk × Bool :=
  cond d.off (d, false) (if d.left = 0 then (d.crash d.surv, false) else if 0 < d.left then ({ d with left := d.left - 1 }, true) else (d, true))
def inB (d : Disk) (at_ : Int) : Bool := decide (0 ≤ at_) && decide (at_ < d.has.length)
def last (l : List Wr) (at_ : Int) (b : List UInt8) : List UInt8 := l.foldl (fun b w => if w.at_ = at_ then w.b else b) b
def read (d : Disk) (at_ : Int) : List UInt8 × Int :=
  cond (d.inB at_) (cond d.off ([], 9) (last d.waits at_ (d.has.getD at_.toNat []), 0)) ([], 4)
def write (d : Disk) (at_ : Int) (b : List UInt8) : Disk × Int :=
  cond (d.inB at_) (if b.length = 64 then cond d.goes.2 ({ d.goes.1 with waits := d.goes.1.waits ++ [⟨at_, b⟩] }, 0) (d.goes.1, 9) else (d, 1)) (d, 4)
def flush (d : Disk) : Disk × Int := cond d.goes.2 ({ d.goes.1 with has := layAll d.goes.1.has d.goes.1.waits, waits := [] }, 0) (d.goes.1, 9)
def arm (d : Disk) (n : Int) (s : List Bool) : Disk := cond d.off d { d with left := if 0 ≤ n then n else -1, surv := s }
def power (d : Disk) : Disk := { d with waits := [], off := false, left := -1 }
def new (n : Nat) : Disk := ⟨List.replicate n (List.replicate 64 0), [], false, -1, []⟩
/-- what holds of all disks that come up -/
structure ok (d : Disk) : Prop where
  has : ∀ s ∈ d.has, s.length = 64
  size : d.has.length ≤ 256
  waits : ∀ w ∈ d.waits, 0 ≤ w.at_ ∧ w.at_ < d.has.length ∧ w.b.length = 64
  left : -1 ≤ d.left ∧ d.left ≤ 9223372036854775807
theorem lay_length (has : List (List UInt8)) (w : Wr) : (lay has w).length = has.length := by simp [lay]
theorem layAll_length (l : List Wr) : ∀ has : List (List UInt8), (layAll has l).length = has.length := by
  induction l with
  | nil => exact fun _ => rfl
  | cons w l ih => exact fun has => by show (layAll (lay has w) l).length = _; rw [ih, lay_length]
theorem layS_length (l : List Wr) : ∀ (has : List (List UInt8)) (s : List Bool), (layS has l s).length = has.length := by
  induction l with
  | nil => intro has s; simp [layS]
  | cons w l ih =>
    intro has s
    cases s with
    | nil => simp [layS]
    | cons b r => rw [layS, ih]; cases b <;> simp [lay]
theorem lay_all64 {has : List (List UInt8)} {w : Wr} (h : ∀ s ∈ has, s.length = 64) (hw : w.b.length = 64) : ∀ s ∈ lay has w, s.length = 64 := fun s hs => by
  rcases List.mem_or_eq_of_mem_set hs with h1 | h1
  · exact h s h1
  · rw [h1]; exact hw
theorem layAll_all64 {l : List Wr} : ∀ {has : List (List UInt8)}, (∀ s ∈ has, s.length = 64) → (∀ w ∈ l, w.b.length = 64) → ∀ s ∈ layAll has l, s.length = 64 := by
  induction l with
  | nil => exact fun h _ => h
  | cons w l ih => exact fun h hw => ih (lay_all64 h (hw w (by simp))) fun x hx => hw x (by simp [hx])
theorem layS_all64 {l : List Wr} : ∀ {has : List (List UInt8)} {s : List Bool}, (∀ s ∈ has, s.length = 64) → (∀ w ∈ l, w.b.length = 64) → ∀ x ∈ layS has l s, x.length = 64 := by
  induction l with
  | nil => intro has s h _; simpa [layS] using h
  | cons w l ih =>
    intro has s h hw
    cases s with
    | nil => simpa [layS] using h
    | cons b r =>
      rw [layS]
      refine ih ?_ fun x hx => hw x (by simp [hx])
      cases b
      · exact h
      · exact lay_all64 h (hw w (by simp))
theorem crash_ok {d : Disk} (h : d.ok) (s : List Bool) : (d.crash s).ok := by
  unfold crash
  cases hd : d.off
  · simp only [cond_false]
    exact ⟨layS_all64 h.has fun w hw => (h.waits w hw).2.2, by simp only [layS_length]; exact h.size, fun w hw => by simp at hw, by simp⟩
  · exact h
theorem goes_ok {d : Disk} (h : d.ok) : d.goes.1.ok := by
  unfold goes
  cases hd : d.off
  · simp only [cond_false]
    split
    · exact crash_ok h _
    · split
      · exact ⟨h.has, h.size, h.waits, by have := h.left; simp only; omega⟩
      · exact h
  · exact h
theorem crash_length (d : Disk) (s : List Bool) : (d.crash s).has.length = d.has.length := by
  unfold crash; cases d.off
  · simp [layS_length]
  · rfl
theorem goes_length (d : Disk) : d.goes.1.has.length = d.has.length := by
  unfold goes; cases d.off
  · simp only [cond_false]; split
    · exact crash_length _ _
    · split <;> rfl
  · rfl
theorem goes_waits (d : Disk) : d.goes.1.waits.length ≤ d.waits.length := by
  unfold goes; cases hd : d.off
  · simp only [cond_false]; split
    · simp [crash, hd]
    · split <;> simp
  · simp
end Disk
end Nac

set_option linter.unusedVariables false
set_option linter.unusedSimpArgs false
namespace Nac
/-- a whole number as a word of 64 bits, as a byte -/
def u64 (n : Int) : UInt64 := UInt64.ofNat (n % 18446744073709551616).toNat
def b8 (n : Int) : UInt8 := UInt8.ofNat (n % 256).toNat
/-- a number as bytes, the lowest first -/
def put (n : UInt64) : Nat → List UInt8
  | 0 => []
  | k + 1 => n.toUInt8 :: put (n >>> 8) k
/-- the number whose bytes these are -/
def get : List UInt8 → UInt64
  | [] => 0
  | c :: l => (get l <<< 8) ||| c.toUInt64
@[simp] theorem put_length (k : Nat) : ∀ n, (put n k).length = k := by
  induction k with
  | zero => intro n; rfl
  | succ k ih => intro n; simp [put, ih]
def half : List UInt32 := [0x00000000, 0x105ec76f, 0x20bd8ede, 0x30e349b1, 0x417b1dbc, 0x5125dad3, 0x61c69362, 0x7198540d, 0x82f63b78, 0x92a8fc17, 0xa24bb5a6, 0xb21572c9, 0xc38d26c4, 0xd3d3e1ab, 0xe330a81a, 0xf36e6f75]
def crcH (r : UInt32) : UInt32 := (r >>> 4) ^^^ half.getD (r &&& 15).toNat 0
def crcB (r : UInt32) (c : UInt8) : UInt32 := crcH (crcH (r ^^^ c.toUInt32))
def crcOn (s : UInt32) (l : List UInt8) : UInt32 := ~~~ (l.foldl crcB (~~~ s))
def crc (l : List UInt8) : UInt32 := crcOn 0 l
def seal_ (l : List UInt8) : List UInt8 := l ++ put (crc l).toUInt64 4
end Nac
namespace Go.VC
open Go Go.RowKit
theorem wrap_u64n (n : Nat) (h : n < 18446744073709551616) : IntKind.wrap .u64 (n : Int) = n := by rw [IntKind.wrap_u64]; omega
theorem wrap64 (n : Int) : IntKind.wrap .u64 n = ((Nac.u64 n).toNat : Int) := by
  rw [IntKind.wrap_u64, Nac.u64, UInt64.toNat_ofNat']
  simp only [Nat.reducePow]
  omega
theorem wrap8 (n : Int) : IntKind.wrap .u8 n = ((Nac.b8 n).toNat : Int) := by
  rw [IntKind.wrap_u8, Nac.b8, UInt8.toNat_ofNat']
  simp only [Nat.reducePow]
  omega
theorem u64_lt (a : UInt64) : a.toNat < 18446744073709551616 := a.toNat_lt
theorem wrap8_64 (a : UInt64) : IntKind.wrap .u8 (a.toNat : Int) = (a.toUInt8.toNat : Int) := by
  rw [IntKind.wrap_u8, UInt64.toNat_toUInt8]
  show ((a.toNat : Int) % 256) = ((a.toNat % 256 : Nat) : Int)
  omega
theorem wrap32_64 (a : UInt64) : IntKind.wrap .u32 (a.toNat : Int) = (a.toUInt32.toNat : Int) := by
  rw [IntKind.wrap_u32, UInt64.toNat_toUInt32]
  show ((a.toNat : Int) % 4294967296) = ((a.toNat % 4294967296 : Nat) : Int)
  omega
theorem wrap64_32 (a : UInt32) : IntKind.wrap .u64 (a.toNat : Int) = (a.toUInt64.toNat : Int) := by
  have := u32_lt a
  rw [wrap_u64n _ (by omega)]; simp
theorem wrap64_8 (a : UInt8) : IntKind.wrap .u64 (a.toNat : Int) = (a.toUInt64.toNat : Int) := by
  have := u8_lt a
  rw [wrap_u64n _ (by omega)]; simp
theorem shr64_8 (a : UInt64) : Int.fdiv (a.toNat : Int) (2 ^ (min (Int.toNat (8)) (IntKind.bits .u64))) = ((a >>> 8).toNat : Int) := by
  have hm : min (Int.toNat 8) (IntKind.bits .u64) = 8 := by decide
  rw [hm, UInt64.toNat_shiftRight, show (8 : UInt64).toNat % 64 = 8 from rfl, Nat.shiftRight_eq_div_pow]
  rw [Int.fdiv_eq_ediv_of_nonneg _ (Int.le_of_lt (Int.pow_pos (by decide)))]
  simp
theorem shl64_8 (a : UInt64) : IntKind.wrap .u64 ((a.toNat : Int) * 2 ^ (min (Int.toNat (8)) (IntKind.bits .u64))) = ((a <<< 8).toNat : Int) := by
  have hm : min (Int.toNat 8) (IntKind.bits .u64) = 8 := by decide
  rw [hm, UInt64.toNat_shiftLeft, show (8 : UInt64).toNat % 64 = 8 from rfl, Nat.shiftLeft_eq, IntKind.wrap_u64, show ((a.toNat : Int) * 2 ^ 8) = ((a.toNat * 2 ^ 8 : Nat) : Int) from by rw [Int.natCast_mul, Int.natCast_pow]; rfl]
  generalize a.toNat * 2 ^ 8 = k
  show ((k : Int) % 18446744073709551616) = ((k % 18446744073709551616 : Nat) : Int)
  omega
theorem ofInt64 (a : UInt64) : BitVec.ofInt 64 (a.toNat : Int) = a.toBitVec := by
  rw [BitVec.ofInt_natCast]; exact BitVec.eq_of_toNat_eq (by simp)
theorem or64 (a b : UInt64) : bits .or .u64 (a.toNat : Int) (b.toNat : Int) = ((a ||| b).toNat : Int) := by
  show IntKind.wrap .u64 (((BitVec.ofInt 64 (a.toNat : Int) ||| BitVec.ofInt 64 (b.toNat : Int)).toNat : Nat) : Int) = _
  rw [ofInt64, ofInt64, ← UInt64.toBitVec_or]; exact wrap_u64n _ (u64_lt _)
end Go.VC

set_option linter.unusedVariables false
set_option linter.unusedSimpArgs false
namespace Nac
structure Entry where
  kind : Int
  part : Int
  version : UInt32
  code : Int
deriving DecidableEq
def may (x : Entry) : Bool := decide (1 ≤ x.kind) && decide (x.kind ≤ 4) && decide (0 ≤ x.part) && decide (x.part < 8) && decide (0 ≤ x.code) && decide (x.code ≤ 255)
def asec (n : Nat) (x : Entry) : List UInt8 := seal_ ([65] ++ put (u64 n) 4 ++ [b8 x.kind, b8 x.part] ++ put x.version.toUInt64 4 ++ [b8 x.code] ++ List.replicate 48 0)
def ent (s : List UInt8) : Entry := ⟨((get (((s.drop 5).drop 0).take 1)).toNat : Int), ((get (((s.drop 5).drop 1).take 1)).toNat : Int), (get (((s.drop 5).drop 2).take 4)).toUInt32, ((get (((s.drop 5).drop 6).take 1)).toNat : Int)⟩
def said (n : Nat) (s : List UInt8) : Bool := may (ent s) && (asec n (ent s) == s)
structure Ext where
  from_ : Int
  count : Int
def lies (x : Ext) (sectors : Int) : Bool := decide (1 ≤ x.count) && decide (0 ≤ x.from_) && decide (x.count ≤ sectors) && decide (x.from_ ≤ sectors - x.count)
/-- a read of a part; a write of it; -/
def pread (d : Disk) (x : Ext) (at_ : Int) : List UInt8 × Int := if 0 ≤ at_ ∧ at_ < x.count then d.read (x.from_ + at_) else ([], 4)
def pwrite (d : Disk) (x : Ext) (at_ : Int) (b : List UInt8) : Disk × Int := if 0 ≤ at_ ∧ at_ < x.count then d.write (x.from_ + at_) b else (d, 4)
def scan (D : Disk) (X : Ext) : Nat → Nat → List Entry × Int
  | 0, _ => ([], 0)
  | k + 1, n => if (pread D X n).2 ≠ 0 then ([], (pread D X n).2) else if said n (pread D X n).1 = true then (ent (pread D X n).1 :: (scan D X k (n + 1)).1, (scan D X k (n + 1)).2) else ([], 0)
/-- an entry is noted: the disk, the entries, whether it is dead, the error -/
def aadd (D : Disk) (X : Ext) (L : List Entry) (dead : Bool) (x : Entry) : Disk × List Entry × Bool × Int :=
  cond dead (D, L, dead, 9) (cond (may x) (if (L.length : Int) = X.count then (D, L, dead, 5) else
    if (pwrite D X L.length (asec L.length x)).2 = 0 then
      if (pwrite D X L.length (asec L.length x)).1.flush.2 = 0 then ((pwrite D X L.length (asec L.length x)).1.flush.1, L ++ [x], dead, 0) else ((pwrite D X L.length (asec L.length x)).1.flush.1, L, true, (pwrite D X L.length (asec L.length x)).1.flush.2)
    else ((pwrite D X L.length (asec L.length x)).1, L, true, (pwrite D X L.length (asec L.length x)).2)) (D, L, dead, 1))
theorem asec_length (n : Nat) (x : Entry) : (asec n x).length = 64 := by simp [asec, seal_]
theorem get_one (l : List UInt8) : (get (l.take 1)).toNat < 256 := by
  cases l with
  | nil => decide
  | cons c l =>
    simp only [List.take_succ_cons, List.take_zero, get]
    have := c.toNat_lt
    simp
    omega
theorem get_single (c : UInt8) : (get [c]).toNat = c.toNat := by
  simp [get]
end Nac

set_option linter.unusedVariables false
set_option linter.unusedSimpArgs false
namespace Nac
def zeros64 : List UInt8 := List.replicate 64 0
/-! ### The numbers come back out of their bytes -/
theorem get_put1 (c : UInt8) : (get [c]).toNat = c.toNat := get_single c
theorem b8_toNat {n : Int} (h0 : 0 ≤ n) (h1 : n ≤ 255) : ((b8 n).toNat : Int) = n := by
  simp only [b8, UInt8.toNat_ofNat']; omega
theorem or_shift (a : UInt64) (c : UInt8) (h : a.toNat < 2 ^ 56) : ((a <<< 8) ||| c.toUInt64).toNat = a.toNat * 256 + c.toNat := by
  have hc := c.toNat_lt
  rw [UInt64.toNat_or, UInt64.toNat_shiftLeft, show (8 : UInt64).toNat % 64 = 8 from rfl, Nat.shiftLeft_eq]
  have e : a.toNat * 2 ^ 8 % 2 ^ 64 = 2 ^ 8 * a.toNat := by rw [Nat.mod_eq_of_lt (by omega)]; omega
  rw [e, show c.toUInt64.toNat = c.toNat by simp, ← Nat.two_pow_add_eq_or_of_lt (by omega)]
  omega
theorem get_lt : ∀ (k : Nat), k ≤ 7 → ∀ (l : List UInt8), l.length = k → (get l).toNat < 256 ^ k
  | 0, _, [], _ => by decide
  | k + 1, hk, c :: l, h => by
    have ih := get_lt k (by omega) l (by simpa using h)
    have hc := c.toNat_lt
    have h56 : 256 ^ k ≤ 256 ^ 6 := Nat.pow_le_pow_right (by decide) (by omega)
    rw [get, or_shift _ _ (by omega), Nat.pow_succ]
    omega
theorem get_put_nat : ∀ (k : Nat), k ≤ 7 → ∀ (n : UInt64), (get (put n k)).toNat = n.toNat % 256 ^ k
  | 0, _, n => by simp [put, get, Nat.mod_one]
  | k + 1, hk, n => by
    have ih := get_put_nat k (by omega) (n >>> 8)
    have hl := get_lt k (by omega) (put (n >>> 8) k) (by simp)
    have h56 : 256 ^ k ≤ 256 ^ 6 := Nat.pow_le_pow_right (by decide) (by omega)
    rw [put, get, or_shift _ _ (by omega), ih, UInt64.toNat_shiftRight, show (8 : UInt64).toNat % 64 = 8 from rfl, Nat.shiftRight_eq_div_pow, UInt64.toNat_toUInt8]
    rw [show (2 : Nat) ^ 8 = 256 from rfl, Nat.pow_succ, Nat.mul_comm (256 ^ k) 256, Nat.mod_mul]
    omega
theorem get_put4 (v : UInt32) : (get (put v.toUInt64 4)).toUInt32 = v := by
  have h := get_put_nat 4 (by decide) v.toUInt64
  have hv := v.toNat_lt
  apply UInt32.toNat_inj.1
  rw [UInt64.toNat_toUInt32, h]
  simp only [UInt32.toNat_toUInt64]
  omega
/-! ### An entry's sector says it -/
theorem ent_asec (n : Nat) (x : Entry) (h : may x = true) : ent (asec n x) = x := by
  simp only [may, Bool.and_eq_true, decide_eq_true_eq] at h
  obtain ⟨⟨⟨⟨⟨h1, h2⟩, h3⟩, h4⟩, h5⟩, h6⟩ := h
  have e4 : ∃ a b c d, put (u64 n) 4 = [a, b, c, d] := ⟨_, _, _, _, rfl⟩
  have ev : ∃ a b c d, put x.version.toUInt64 4 = [a, b, c, d] := ⟨_, _, _, _, rfl⟩
  have hg := get_put4 x.version
  obtain ⟨a, b, c, d, e4⟩ := e4
  obtain ⟨a', b', c', d', ev⟩ := ev
  rw [ev] at hg
  obtain ⟨k, p, v, cd⟩ := x
  simp only at *
  unfold ent asec seal_
  rw [e4, ev]
  simp only [Entry.mk.injEq]
  refine ⟨?_, ?_, ?_, ?_⟩
  · show ((get [b8 k]).toNat : Int) = k
    rw [get_single, b8_toNat (by omega) (by omega)]
  · show ((get [b8 p]).toNat : Int) = p
    rw [get_single, b8_toNat (by omega) (by omega)]
  · exact hg
  · show ((get [b8 cd]).toNat : Int) = cd
    rw [get_single, b8_toNat (by omega) (by omega)]
theorem said_asec (n : Nat) (x : Entry) (h : may x = true) : said n (asec n x) = true := by
  rw [said, ent_asec n x h, h]; simp
theorem said_zeros (n : Nat) : said n zeros64 = false := by
  have : may (ent zeros64) = false := by decide
  simp [said, this]
/-! ### What the entries are, and the disk -/
structure KI (c : Nat) (D : Disk) (L : List Entry) : Prop where
  ok : D.ok
  n12 : D.has.length = 12
  off : D.off = false
  waits : D.waits = []
  left : D.left = -1
  len : L.length ≤ c
  c9 : c ≤ 9
  has : ∀ (i : Nat) (x : Entry), L[i]? = some x → D.has[2 + i]? = some (asec i x) ∧ may x = true
  no : ∀ (j : Nat), L.length ≤ j → j < c → D.has[2 + j]? = some zeros64
theorem read_quiet {D : Disk} (hw : D.waits = []) (ho : D.off = false) {n : Nat} {s : List UInt8} (h : D.has[n]? = some s) : D.read n = (s, 0) := by
  have hlt : n < D.has.length := (List.getElem?_eq_some_iff.1 h).1
  have hi : D.inB n = true := by simp [Disk.inB, hlt]
  simp [Disk.read, hi, ho, hw, Disk.last, List.getD_eq_getElem?_getD, h]
theorem scan_KI {c : Nat} {D : Disk} {L : List Entry} (K : KI c D L) : ∀ k n, k + n = c → n ≤ L.length → scan D ⟨2, c⟩ k n = (L.drop n, 0) := by
  intro k
  induction k with
  | zero =>
    intro n h1 h2
    have := K.len
    rw [scan, List.drop_of_length_le (by omega)]
  | succ k ih =>
    intro n h1 h2
    have hp : ∀ s, D.has[2 + n]? = some s → pread D ⟨2, c⟩ n = (s, 0) := fun s hs => by
      rw [pread, if_pos (by simp only; omega)]
      have := read_quiet K.waits K.off hs
      rw [← this]; congr 1
    rw [scan]
    by_cases hn : n < L.length
    · obtain ⟨h3, h4⟩ := K.has n _ (List.getElem?_eq_getElem hn)
      rw [hp _ h3, if_neg (by simp), if_pos (said_asec n _ h4), ih (n + 1) (by omega) (by omega), ent_asec n _ h4, List.drop_eq_getElem_cons hn]
    · have h3 := K.no n (by omega) (by omega)
      rw [hp _ h3, if_neg (by simp), if_neg (by simp [said_zeros]), List.drop_of_length_le (by omega)]
theorem scan_all {c : Nat} {D : Disk} {L : List Entry} (K : KI c D L) : scan D ⟨2, c⟩ c 0 = (L, 0) := by
  have := scan_KI K c 0 rfl (Nat.zero_le _)
  simpa using this
theorem KI_new {c : Nat} (hc : c ≤ 9) : KI c (Disk.new 12) [] := by
  refine ⟨⟨fun s hs => ?_, by simp [Disk.new], fun w hw => by simp [Disk.new] at hw, by simp [Disk.new]⟩, by simp [Disk.new], rfl, rfl, rfl, by simp, hc, fun i x h => by simp at h, fun j _ hj => ?_⟩
  · simp only [Disk.new] at hs
    have := List.eq_of_mem_replicate hs
    rw [this]; simp
  · rw [Disk.new]
    show (List.replicate 12 (List.replicate 64 0))[2 + j]? = _
    rw [List.getElem?_replicate, if_pos (by omega)]; rfl
/-- behind an entry whose sector was laid -/
theorem KI_more {c : Nat} {D D' : Disk} {L : List Entry} {x : Entry} (K : KI c D L) (hm : may x = true) (hl : L.length < c) (h : D'.has = D.has.set (2 + L.length) (asec L.length x)) (hw : D'.waits = []) (ho : D'.off = false) (hf : D'.left = -1) : KI c D' (L ++ [x]) := by
  have h12 := K.n12
  refine ⟨⟨fun s hs => ?_, by rw [h, List.length_set]; omega, fun w hw' => by rw [hw] at hw'; simp at hw', by rw [hf]; decide⟩, by rw [h, List.length_set, h12], ho, hw, hf, by simp; omega, K.c9, fun i y hi => ?_, fun j hj hj2 => ?_⟩
  · rw [h] at hs
    rcases List.mem_or_eq_of_mem_set hs with h1 | h1
    · exact K.ok.has s h1
    · rw [h1]; exact asec_length _ _
  · rw [h]
    have := K.c9
    by_cases hil : i < L.length
    · rw [List.getElem?_append_left hil] at hi
      rw [List.getElem?_set_ne (by omega)]
      exact K.has i y hi
    · have hlt := (List.getElem?_eq_some_iff.1 hi).1
      simp at hlt
      obtain rfl : i = L.length := by omega
      rw [List.getElem?_append_right (Nat.le_refl _), Nat.sub_self] at hi
      simp at hi; subst hi
      exact ⟨by rw [List.getElem?_set_self (by omega)], hm⟩
  · simp at hj
    rw [h, List.getElem?_set_ne (by omega)]
    exact K.no j (by omega) hj2
theorem KI_same {c : Nat} {D D' : Disk} {L : List Entry} (K : KI c D L) (h : D'.has = D.has) (hw : D'.waits = []) (ho : D'.off = false) (hf : D'.left = -1) : KI c D' L :=
  ⟨⟨fun s hs => K.ok.has s (by rw [← h]; exact hs), by rw [h]; exact K.ok.size, fun w hw' => by rw [hw] at hw'; simp at hw', by rw [hf]; decide⟩, by rw [h]; exact K.n12, ho, hw, hf, K.len, K.c9, fun i x hi => by rw [h]; exact K.has i x hi, fun j h1 h2 => by rw [h]; exact K.no j h1 h2⟩
/-- what is noted while the power may fail -/
theorem keeps_step {c : Nat} {D D1 : Disk} {L : List Entry} {x : Entry} (K : KI c D L) (h1 : D1.has = D.has) (hw : D1.waits = []) (ho : D1.off = false) :
    ((aadd D1 ⟨2, c⟩ L false x).2.2.2 = 0 ∧ (aadd D1 ⟨2, c⟩ L false x).2.1 = L ++ [x] ∧ (aadd D1 ⟨2, c⟩ L false x).2.2.1 = false ∧ KI c ((aadd D1 ⟨2, c⟩ L false x).1.arm (-1) []) (L ++ [x])) ∨
    ((aadd D1 ⟨2, c⟩ L false x).2.2.2 ≠ 0 ∧ KI c ((aadd D1 ⟨2, c⟩ L false x).1.arm (-1) []).power L) ∨
    ((aadd D1 ⟨2, c⟩ L false x).2.2.2 = 9 ∧ KI c ((aadd D1 ⟨2, c⟩ L false x).1.arm (-1) []).power (L ++ [x])) := by
  have hc9 := K.c9
  have h12 : D1.has.length = 12 := by rw [h1]; exact K.n12
  unfold aadd
  rw [cond_false]
  cases hm : may x
  · right; left
    rw [cond_false]
    refine ⟨by simp, KI_same K ?_ rfl rfl rfl⟩
    simp [Disk.arm, Disk.power, ho, h1]
  rw [cond_true]
  by_cases hfull : (L.length : Int) = (⟨2, (c : Int)⟩ : Ext).count
  · rw [if_pos hfull]
    right; left
    refine ⟨by simp, KI_same K ?_ rfl rfl rfl⟩
    simp [Disk.arm, Disk.power, ho, h1]
  rw [if_neg hfull]
  have hlt : L.length < c := by have := K.len; simp only at hfull; omega
  have hpw : pwrite D1 ⟨2, c⟩ L.length (asec L.length x) = D1.write ((2 + L.length : Nat) : Int) (asec L.length x) := by
    rw [pwrite, if_pos (by simp only; omega)]; rfl
  have hin : D1.inB ((2 + L.length : Nat) : Int) = true := by simp [Disk.inB, h12]; omega
  have hwr : D1.write ((2 + L.length : Nat) : Int) (asec L.length x) = cond D1.goes.2 ({ D1.goes.1 with waits := D1.goes.1.waits ++ [⟨((2 + L.length : Nat) : Int), asec L.length x⟩] }, 0) (D1.goes.1, 9) := by
    rw [Disk.write, hin, cond_true, if_pos (asec_length _ _)]
  rw [hpw, hwr]
  have hcr : D1.crash D1.surv = { D1 with off := true, left := -1 } := by
    rw [Disk.crash, ho, cond_false, hw]
    obtain ⟨a, b, c, d, e⟩ := D1
    simp only at hw; subst hw; rfl
  by_cases hl0 : D1.left = 0
  · -- the power fails at the write
    have hg : D1.goes = ({ D1 with off := true, left := -1 }, false) := by rw [Disk.goes, ho, cond_false, if_pos hl0, hcr]
    rw [hg]
    simp only [cond_false]
    right; left
    refine ⟨by simp, KI_same K ?_ rfl rfl rfl⟩
    simp [Disk.arm, Disk.power, h1]
  have hg : ∃ D2 : Disk, D1.goes = (D2, true) ∧ D2.has = D1.has ∧ D2.waits = [] ∧ D2.off = false := by
    rw [Disk.goes, ho, cond_false, if_neg hl0]
    split
    · exact ⟨_, rfl, rfl, hw, by first | rfl | exact ho⟩
    · exact ⟨_, rfl, rfl, hw, by first | rfl | exact ho⟩
  obtain ⟨D2, hg, k1, k2, k3⟩ := hg
  rw [hg]
  simp only [cond_true, if_true, k2, List.nil_append]
  generalize hD3 : ({ D2 with waits := [⟨((2 + L.length : Nat) : Int), asec L.length x⟩] } : Disk) = D3
  have m1 : D3.has = D1.has := by rw [← hD3]; exact k1
  have m2 : D3.waits = [⟨((2 + L.length : Nat) : Int), asec L.length x⟩] := by rw [← hD3]
  have m3 : D3.off = false := by rw [← hD3]; exact k3
  have hset : Disk.lay D3.has ⟨((2 + L.length : Nat) : Int), asec L.length x⟩ = D.has.set (2 + L.length) (asec L.length x) := by
    rw [Disk.lay, m1, h1]; simp only [Int.toNat_natCast]
  by_cases hl0 : D3.left = 0
  · -- at the flush
    have hg : D3.goes = (D3.crash D3.surv, false) := by rw [Disk.goes, m3, cond_false, if_pos hl0]
    have hfl : D3.flush = (D3.crash D3.surv, 9) := by rw [Disk.flush, hg]; rfl
    rw [hfl]
    have hc2 : D3.crash D3.surv = { D3 with has := Disk.layS D3.has D3.waits D3.surv, waits := [], off := true, left := -1 } := by rw [Disk.crash, m3, cond_false]
    rw [hc2, m2]
    simp only [show ¬ ((9 : Int) = 0) by decide, if_false]
    cases hs : D3.surv with
    | nil =>
      right; left
      refine ⟨by simp, KI_same K ?_ rfl rfl rfl⟩
      simp [Disk.arm, Disk.power, Disk.layS, m1, h1]
    | cons s r =>
      cases s
      · right; left
        refine ⟨by simp, KI_same K ?_ rfl rfl rfl⟩
        simp [Disk.arm, Disk.power, Disk.layS, m1, h1]
      · right; right
        refine ⟨by first | rfl | trivial | simp, KI_more K hm hlt ?_ rfl rfl rfl⟩
        simp only [Disk.arm, Disk.power, Disk.layS, cond_true]
        exact hset
  · have hg : ∃ D4 : Disk, D3.goes = (D4, true) ∧ D4.has = D3.has ∧ D4.waits = D3.waits ∧ D4.off = false := by
      rw [Disk.goes, m3, cond_false, if_neg hl0]
      split
      · exact ⟨_, rfl, rfl, rfl, by first | rfl | exact m3⟩
      · exact ⟨_, rfl, rfl, rfl, by first | rfl | exact m3⟩
    obtain ⟨D4, hg, q1, q2, q3⟩ := hg
    have hfl : D3.flush = ({ D4 with has := Disk.layAll D4.has D4.waits, waits := [] }, 0) := by rw [Disk.flush, hg]; rfl
    rw [hfl]
    simp only [if_true]
    left
    refine ⟨trivial, trivial, trivial, KI_more K hm hlt ?_ ?_ ?_ ?_⟩
    · simp only [Disk.arm, q3, cond_false, q1, q2, m2]
      exact hset
    · simp [Disk.arm, q3]
    · simp [Disk.arm, q3]
    · simp [Disk.arm, q3]
end Nac
namespace Nac
theorem calm_step {c : Nat} {D : Disk} {L : List Entry} {x : Entry} (K : KI c D L) :
    (may x = false ∧ aadd D ⟨2, c⟩ L false x = (D, L, false, 1)) ∨ (may x = true ∧ L.length = c ∧ aadd D ⟨2, c⟩ L false x = (D, L, false, 5)) ∨
    (may x = true ∧ L.length < c ∧ ∃ D' : Disk, aadd D ⟨2, c⟩ L false x = (D', L ++ [x], false, 0) ∧ D'.has = D.has.set (2 + L.length) (asec L.length x) ∧ KI c D' (L ++ [x])) := by
  have hc9 := K.c9
  have h12 := K.n12
  unfold aadd
  rw [cond_false]
  cases hm : may x
  · exact .inl ⟨rfl, rfl⟩
  right
  rw [cond_true]
  by_cases hfull : (L.length : Int) = (⟨2, (c : Int)⟩ : Ext).count
  · rw [if_pos hfull]
    exact .inl ⟨rfl, by simp only at hfull; omega, rfl⟩
  right
  rw [if_neg hfull]
  have hlt : L.length < c := by have := K.len; simp only at hfull; omega
  refine ⟨rfl, hlt, ?_⟩
  have hpw : pwrite D ⟨2, c⟩ L.length (asec L.length x) = D.write ((2 + L.length : Nat) : Int) (asec L.length x) := by
    rw [pwrite, if_pos (by simp only; omega)]; rfl
  have hin : D.inB ((2 + L.length : Nat) : Int) = true := by simp [Disk.inB, h12]; omega
  have hg : ∀ E : Disk, E.off = false → E.left = -1 → E.goes = (E, true) := fun E h1 h2 => by rw [Disk.goes, h1, cond_false, if_neg (by omega), if_neg (by omega)]
  have hwr : D.write ((2 + L.length : Nat) : Int) (asec L.length x) = ({ D with waits := [⟨((2 + L.length : Nat) : Int), asec L.length x⟩] }, 0) := by
    rw [Disk.write, hin, cond_true, if_pos (asec_length _ _), hg D K.off K.left, cond_true, K.waits]; rfl
  rw [hpw, hwr]
  generalize hD3 : ({ D with waits := [⟨((2 + L.length : Nat) : Int), asec L.length x⟩] } : Disk) = D3
  have m1 : D3.has = D.has := by rw [← hD3]
  have m2 : D3.waits = [⟨((2 + L.length : Nat) : Int), asec L.length x⟩] := by rw [← hD3]
  have m3 : D3.off = false := by rw [← hD3]; exact K.off
  have m4 : D3.left = -1 := by rw [← hD3]; exact K.left
  have hfl : D3.flush = ({ D3 with has := Disk.layAll D3.has D3.waits, waits := [] }, 0) := by rw [Disk.flush, hg D3 m3 m4]; rfl
  rw [hfl]
  simp only [if_true]
  have hset : Disk.layAll D3.has D3.waits = D.has.set (2 + L.length) (asec L.length x) := by
    rw [m2, m1]; rfl
  exact ⟨_, rfl, hset, KI_more K hm hlt hset rfl m3 m4⟩
end Nac

set_option linter.unusedVariables false
set_option linter.unusedSimpArgs false
namespace Nac
/-! ### The check of 32 bits, bit by bit -/
def poly : UInt32 := 2197175160
def stp (r : UInt32) : UInt32 := (r >>> 1) ^^^ (if r &&& 1 = 1 then poly else 0)
theorem and1 (a : UInt32) : a &&& 1 = 0 ∨ a &&& 1 = 1 := by
  have h : (a &&& 1).toNat = a.toNat % 2 := by rw [UInt32.toNat_and]; exact Nat.and_one_is_mod _
  rcases Nat.mod_two_eq_zero_or_one a.toNat with e | e
  · left; apply UInt32.toNat_inj.1; rw [h, e]; rfl
  · right; apply UInt32.toNat_inj.1; rw [h, e]; rfl
theorem stp_xor (a b : UInt32) : stp (a ^^^ b) = stp a ^^^ stp b := by
  unfold stp
  have e1 : (a ^^^ b) >>> 1 = (a >>> 1) ^^^ (b >>> 1) := by simp [UInt32.shiftRight_xor]
  have e2 : (a ^^^ b) &&& 1 = (a &&& 1) ^^^ (b &&& 1) := by
    apply UInt32.toNat_inj.1
    simp only [UInt32.toNat_xor, UInt32.toNat_and]
    apply Nat.eq_of_testBit_eq
    intro i
    simp only [Nat.testBit_and, Nat.testBit_xor]
    cases a.toNat.testBit i <;> cases b.toNat.testBit i <;> cases (UInt32.toNat 1).testBit i <;> rfl
  rw [e1, e2]
  rcases and1 a with h1 | h1 <;> rcases and1 b with h2 | h2 <;> rw [h1, h2]
  · simp
  · rw [if_pos (by decide), if_neg (by decide), if_pos rfl]; simp [UInt32.xor_assoc]
  · rw [if_pos (by decide), if_pos rfl, if_neg (by decide)]; simp only [UInt32.xor_assoc]; congr 1; simp [UInt32.xor_comm]
  · rw [if_neg (by decide), if_pos rfl]
    simp only [UInt32.xor_assoc]; congr 1
    rw [UInt32.xor_comm (b >>> 1) poly, ← UInt32.xor_assoc poly, UInt32.xor_self]; simp
theorem stp_even (y : UInt32) (h : y.toNat < 2147483648) : stp (y <<< 1) = y := by
  have e : (y <<< 1).toNat = 2 * y.toNat := by
    rw [UInt32.toNat_shiftLeft, show (1 : UInt32).toNat % 32 = 1 from rfl, Nat.shiftLeft_eq]; omega
  have e1 : (y <<< 1) >>> 1 = y := by
    apply UInt32.toNat_inj.1
    rw [UInt32.toNat_shiftRight, show (1 : UInt32).toNat % 32 = 1 from rfl, Nat.shiftRight_eq_div_pow, e]; omega
  have e2 : ¬ (y <<< 1) &&& 1 = 1 := fun h => by
    have : ((y <<< 1) &&& 1).toNat = (y <<< 1).toNat % 2 := by rw [UInt32.toNat_and]; exact Nat.and_one_is_mod _
    rw [h, e] at this
    have h1 : (1 : UInt32).toNat = 1 := rfl
    omega
  unfold stp
  rw [e1, if_neg e2]; simp
def stp4 (r : UInt32) : UInt32 := stp (stp (stp (stp r)))
theorem stp4_xor (a b : UInt32) : stp4 (a ^^^ b) = stp4 a ^^^ stp4 b := by simp only [stp4, stp_xor]
theorem shl_shl (y : UInt32) : y <<< 4 = (((y <<< 1) <<< 1) <<< 1) <<< 1 := by
  apply UInt32.toNat_inj.1
  simp only [UInt32.toNat_shiftLeft, show (1 : UInt32).toNat % 32 = 1 from rfl, show (4 : UInt32).toNat % 32 = 4 from rfl, Nat.shiftLeft_eq]
  omega
theorem stp4_high (r : UInt32) : stp4 ((r >>> 4) <<< 4) = r >>> 4 := by
  have hr := r.toNat_lt
  have hn : (r >>> 4).toNat = r.toNat / 16 := by
    rw [UInt32.toNat_shiftRight, show (4 : UInt32).toNat % 32 = 4 from rfl, Nat.shiftRight_eq_div_pow]
  generalize hy : r >>> 4 = y at *
  have s1 : (y <<< 1).toNat = 2 * y.toNat := by rw [UInt32.toNat_shiftLeft, show (1 : UInt32).toNat % 32 = 1 from rfl, Nat.shiftLeft_eq]; omega
  have s2 : ((y <<< 1) <<< 1).toNat = 4 * y.toNat := by rw [UInt32.toNat_shiftLeft, show (1 : UInt32).toNat % 32 = 1 from rfl, Nat.shiftLeft_eq]; omega
  have s3 : (((y <<< 1) <<< 1) <<< 1).toNat = 8 * y.toNat := by rw [UInt32.toNat_shiftLeft, show (1 : UInt32).toNat % 32 = 1 from rfl, Nat.shiftLeft_eq]; omega
  rw [shl_shl, stp4, stp_even _ (by omega), stp_even _ (by omega), stp_even _ (by omega), stp_even _ (by omega)]
theorem stp4_low : ∀ n : Fin 16, stp4 (UInt32.ofNat n.val) = half.getD n.val 0 := by decide
theorem split16 (r : UInt32) : r = ((r >>> 4) <<< 4) ^^^ (r &&& 15) := by
  apply UInt32.toNat_inj.1
  have hr := r.toNat_lt
  rw [UInt32.toNat_xor, UInt32.toNat_and, UInt32.toNat_shiftLeft, UInt32.toNat_shiftRight, show (4 : UInt32).toNat % 32 = 4 from rfl, show (15 : UInt32).toNat = 15 from rfl]
  rw [show r.toNat &&& 15 = r.toNat % 2 ^ 4 from Nat.and_two_pow_sub_one_eq_mod _ 4, Nat.shiftRight_eq_div_pow, Nat.shiftLeft_eq, Nat.mod_eq_of_lt (by omega)]
  have := Nat.two_pow_add_eq_or_of_lt (i := 4) (b := r.toNat % 2 ^ 4) (by omega) (r.toNat / 2 ^ 4)
  have hx : (r.toNat / 2 ^ 4 * 2 ^ 4) ^^^ (r.toNat % 2 ^ 4) = (r.toNat / 2 ^ 4 * 2 ^ 4) ||| (r.toNat % 2 ^ 4) := by
    apply Nat.eq_of_testBit_eq
    intro i
    rw [Nat.testBit_xor, Nat.testBit_or]
    by_cases hi : i < 4
    · rw [Nat.testBit_mul_two_pow]; simp [show ¬ 4 ≤ i by omega]
    · rw [Nat.testBit_mod_two_pow]; simp [hi]
  rw [hx, Nat.mul_comm, ← this]
  omega
theorem stp4_eq (r : UInt32) : stp4 r = crcH r := by
  have hlt : (r &&& 15).toNat < 16 := by
    rw [UInt32.toNat_and]; exact Nat.lt_of_le_of_lt Nat.and_le_right (by decide)
  have hs := split16 r
  have hl := stp4_low ⟨(r &&& 15).toNat, hlt⟩
  have hof : UInt32.ofNat (r &&& 15).toNat = r &&& 15 := by simp
  simp only [hof] at hl
  calc stp4 r = stp4 (((r >>> 4) <<< 4) ^^^ (r &&& 15)) := by rw [← hs]
    _ = (r >>> 4) ^^^ half.getD (r &&& 15).toNat 0 := by rw [stp4_xor, stp4_high, hl]
theorem xor_mod2 (a b : Nat) : (a ^^^ b) % 2 = (a + b) % 2 := by
  have h := Nat.testBit_xor a b 0
  simp only [Nat.testBit_zero] at h
  rcases Nat.mod_two_eq_zero_or_one a with ha | ha <;> rcases Nat.mod_two_eq_zero_or_one b with hb | hb <;> rcases Nat.mod_two_eq_zero_or_one (a ^^^ b) with hc | hc <;> simp [ha, hb, hc] at h <;> omega
/-- what the document does with a byte, as far as k bits -/
def refBits (r : UInt32) (c : UInt8) : Nat → UInt32
  | 0 => r
  | k + 1 => ((refBits r c k) >>> 1) ^^^ (if ((refBits r c k).toNat % 2 + c.toNat / 2 ^ k % 2) % 2 = 1 then poly else 0)
def stpN (r : UInt32) : Nat → UInt32
  | 0 => r
  | k + 1 => stp (stpN r k)
theorem refBits_eq (r : UInt32) (c : UInt8) : ∀ k, stpN (r ^^^ c.toUInt32) k = refBits r c k ^^^ UInt32.ofNat (c.toNat / 2 ^ k)
  | 0 => by
    have hc := c.toNat_lt
    show r ^^^ c.toUInt32 = r ^^^ UInt32.ofNat (c.toNat / 1)
    rw [Nat.div_one]
    congr 1
    apply UInt32.toNat_inj.1
    rw [UInt8.toNat_toUInt32, UInt32.toNat_ofNat', Nat.mod_eq_of_lt (by omega)]
  | k + 1 => by
    have hc := c.toNat_lt
    have hq : c.toNat / 2 ^ k ≤ c.toNat := Nat.div_le_self _ _
    rw [stpN, refBits_eq r c k, refBits, stp]
    generalize refBits r c k = R
    have e1 : (R ^^^ UInt32.ofNat (c.toNat / 2 ^ k)) >>> 1 = (R >>> 1) ^^^ UInt32.ofNat (c.toNat / 2 ^ (k + 1)) := by
      rw [show (R ^^^ UInt32.ofNat (c.toNat / 2 ^ k)) >>> 1 = (R >>> 1) ^^^ (UInt32.ofNat (c.toNat / 2 ^ k) >>> 1) by simp [UInt32.shiftRight_xor]]
      congr 1
      apply UInt32.toNat_inj.1
      rw [UInt32.toNat_shiftRight, show (1 : UInt32).toNat % 32 = 1 from rfl, Nat.shiftRight_eq_div_pow, UInt32.toNat_ofNat', UInt32.toNat_ofNat', show (2 : Nat) ^ (k + 1) = 2 ^ k * 2 from Nat.pow_succ .., ← Nat.div_div_eq_div_mul]
      have : c.toNat / 2 ^ k / 2 ≤ c.toNat / 2 ^ k := Nat.div_le_self _ _
      rw [Nat.mod_eq_of_lt (by omega), Nat.mod_eq_of_lt (by omega)]
    have e2 : ((R ^^^ UInt32.ofNat (c.toNat / 2 ^ k)) &&& 1 = 1) ↔ (R.toNat % 2 + c.toNat / 2 ^ k % 2) % 2 = 1 := by
      rw [← UInt32.toNat_inj, UInt32.toNat_and, show (1 : UInt32).toNat = 1 from rfl, Nat.and_one_is_mod, UInt32.toNat_xor, UInt32.toNat_ofNat', Nat.mod_eq_of_lt (show c.toNat / 2 ^ k < 2 ^ 32 by omega), xor_mod2]
      omega
    rw [e1]
    by_cases h : (R.toNat % 2 + c.toNat / 2 ^ k % 2) % 2 = 1
    · rw [if_pos (e2.2 h), if_pos h, UInt32.xor_assoc, UInt32.xor_assoc, UInt32.xor_comm poly]
    · rw [if_neg (fun h' => h (e2.1 h')), if_neg h]; simp
theorem refByte (r : UInt32) (c : UInt8) : refBits r c 8 = crcB r c := by
  have h := refBits_eq r c 8
  have hc := c.toNat_lt
  rw [show c.toNat / 2 ^ 8 = 0 by omega] at h
  have h0 : UInt32.ofNat 0 = 0 := rfl
  rw [h0, UInt32.xor_zero] at h
  rw [← h, crcB, ← stp4_eq, ← stp4_eq]
  rfl
/-- the number of bytes, unit by unit -/
theorem last_none {l : List Wr} {at_ : Int} {c : List UInt8} (h : ∀ w ∈ l, w.at_ ≠ at_) : Disk.last l at_ c = c := by
  induction l generalizing c with
  | nil => rfl
  | cons w l ih =>
    show Disk.last l at_ (if w.at_ = at_ then w.b else c) = c
    rw [if_neg (h w (by simp)), ih fun x hx => h x (by simp [hx])]
theorem last_at {l : List Wr} {at_ : Int} {c : List UInt8} {i : Nat} (hi : i < l.length) (he : l[i].at_ = at_) (h : ∀ j (hj : j < l.length), i < j → l[j].at_ ≠ at_) : Disk.last l at_ c = l[i].b := by
  have e : l = l.take i ++ l[i] :: l.drop (i + 1) := by rw [← List.drop_eq_getElem_cons hi, List.take_append_drop]
  have h2 : Disk.last (l.drop (i + 1)) at_ l[i].b = l[i].b := last_none fun w hw => by
    obtain ⟨j, hj, rfl⟩ := List.getElem_of_mem hw
    rw [List.getElem_drop]
    simp at hj
    exact h _ (by omega) (by omega)
  have h3 : Disk.last (l.take i ++ l[i] :: l.drop (i + 1)) at_ c = l[i].b := by
    rw [Disk.last, List.foldl_append, List.foldl_cons, if_pos he]
    exact h2
  rwa [← e] at h3
end Nac
