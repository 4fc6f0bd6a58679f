import Derived.Test.YtkfcmpngcanffaaDoorNa
import Derived.Test.YtkfcmpngcanffaaDoorNb
set_option linter.unusedVariables false
set_option linter.unusedSimpArgs false
namespace Nac
structure Entry where
  kind : Int
  part : Int
  version : UInt32
  code : Int
deriving DecidableEq
def may (x : Entry) : Bool := decide (1 ≤ x.kind) && decide (x.kind ≤ 4) && decide (0 ≤ x.part) && decide (x.part < 8) && decide (0 ≤ x.code) && decide (x.code ≤ 255)
def asec (n : Nat) (x : Entry) : List UInt8 := seal_ ([65] ++ put (u64 n) 4 ++ [b8 x.kind, b8 x.part] ++ put x.version.toUInt64 4 ++ [b8 x.code] ++ List.replicate 48 0)
def ent (s : List UInt8) : Entry := ⟨((get (((s.drop 5).drop 0).take 1)).toNat : Int), ((get (((s.drop 5).drop 1).take 1)).toNat : Int), (get (((s.drop 5).drop 2).take 4)).toUInt32, ((get (((s.drop 5).drop 6).take 1)).toNat : Int)⟩
def said (n : Nat) (s : List UInt8) : Bool := may (ent s) && (asec n (ent s) == s)
structure Ext where
  from_ : Int
  count : Int
def lies (x : Ext) (sectors : Int) : Bool := decide (1 ≤ x.count) && decide (0 ≤ x.from_) && decide (x.count ≤ sectors) && decide (x.from_ ≤ sectors - x.count)
/-- a read of a part; a write of it; -/
def pread (d : Disk) (x : Ext) (at_ : Int) : List UInt8 × Int := if 0 ≤ at_ ∧ at_ < x.count then d.read (x.from_ + at_) else ([], 4)
def pwrite (d : Disk) (x : Ext) (at_ : Int) (b : List UInt8) : Disk × Int := if 0 ≤ at_ ∧ at_ < x.count then d.write (x.from_ + at_) b else (d, 4)
def scan (D : Disk) (X : Ext) : Nat → Nat → List Entry × Int
  | 0, _ => ([], 0)
  | k + 1, n => if (pread D X n).2 ≠ 0 then ([], (pread D X n).2) else if said n (pread D X n).1 = true then (ent (pread D X n).1 :: (scan D X k (n + 1)).1, (scan D X k (n + 1)).2) else ([], 0)
/-- an entry is noted: the disk, the entries, whether it is dead, the error -/
def aadd (D : Disk) (X : Ext) (L : List Entry) (dead : Bool) (x : Entry) : Disk × List Entry × Bool × Int :=
  cond dead (D, L, dead, 9) (cond (may x) (if (L.length : Int) = X.count then (D, L, dead, 5) else
    if (pwrite D X L.length (asec L.length x)).2 = 0 then
      if (pwrite D X L.length (asec L.length x)).1.flush.2 = 0 then ((pwrite D X L.length (asec L.length x)).1.flush.1, L ++ [x], dead, 0) else ((pwrite D X L.length (asec L.length x)).1.flush.1, L, true, (pwrite D X L.length (asec L.length x)).1.flush.2)
    else ((pwrite D X L.length (asec L.length x)).1, L, true, (pwrite D X L.length (asec L.length x)).2)) (D, L, dead, 1))
theorem asec_length (n : Nat) (x : Entry) : (asec n x).length = 64 := by simp [asec, seal_]
theorem get_one (l : List UInt8) : (get (l.take 1)).toNat < 256 := by
  cases l with
  | nil => decide
  | cons c l =>
    simp only [List.take_succ_cons, List.take_zero, get]
    have := c.toNat_lt
    simp
    omega
theorem get_single (c : UInt8) : (get [c]).toNat = c.toNat := by
  simp [get]
end Nac
