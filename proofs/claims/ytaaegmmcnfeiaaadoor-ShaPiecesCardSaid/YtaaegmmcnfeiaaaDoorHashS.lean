import Derived.Test.YtaaegmmcnfeiaaaDoorShaS
set_option linter.unusedVariables false
namespace Sha
structure Hs where
  st : St
  rest : List UInt8
  n : Nat
def Hs.push (x : Hs) (c : UInt8) : Hs := ⟨if (x.n + 1) % 64 = 0 then block x.st (x.rest.set (x.n % 64) c) else x.st, x.rest.set (x.n % 64) c, x.n + 1⟩
def Hs.write (x : Hs) (l : List UInt8) : Hs := l.foldl Hs.push x
theorem Hs.write_append (x : Hs) (a b : List UInt8) : x.write (a ++ b) = (x.write a).write b := List.foldl_append ..
@[simp] theorem Hs.write_nil (x : Hs) : x.write [] = x := rfl
theorem Hs.write_n (x : Hs) (l : List UInt8) : (x.write l).n = x.n + l.length := by
  induction l generalizing x with
  | nil => rfl
  | cons c r ih => show ((x.push c).write r).n = _; rw [ih]; simp [Hs.push]; omega
theorem Hs.write_rest (x : Hs) (l : List UInt8) : (x.write l).rest.length = x.rest.length := by
  induction l generalizing x with
  | nil => rfl
  | cons c r ih => show ((x.push c).write r).rest.length = _; rw [ih]; simp [Hs.push]
def splice (r l : List UInt8) (o : Nat) : List UInt8 := r.take o ++ l ++ r.drop (o + l.length)
theorem splice_length (r l : List UInt8) (o : Nat) (h : o + l.length ≤ r.length) : (splice r l o).length = r.length := by simp [splice]; omega
theorem set_eq_splice (r : List UInt8) (o : Nat) (c : UInt8) (h : o < r.length) : r.set o c = splice r [c] o := by
  simp only [splice, List.length_singleton]
  rw [List.set_eq_take_append_cons_drop, if_pos h]
  simp
theorem splice_splice (r l : List UInt8) (o : Nat) (c : UInt8) (h : o < r.length) : splice (r.set o c) l (o + 1) = splice r (c :: l) o := by
  simp only [splice, List.length_cons]
  rw [List.take_set, List.drop_set, if_pos (by omega), show o + 1 + l.length = o + (l.length + 1) by omega, List.take_add_one, List.set_append]
  simp [show r[o]? = some r[o] by simp [h]]
  rw [if_neg (by omega), show o - min o r.length = 0 by omega]
  simp
theorem Hs.chunk (l : List UInt8) : ∀ (x : Hs), l ≠ [] → x.rest.length = 64 → x.n % 64 + l.length ≤ 64 →
    x.write l = ⟨if (x.n + l.length) % 64 = 0 then block x.st (splice x.rest l (x.n % 64)) else x.st, splice x.rest l (x.n % 64), x.n + l.length⟩ := by
  induction l with
  | nil => intro x h; exact absurd rfl h
  | cons c r ih =>
    intro x _ hr hl
    have hl' : x.n % 64 + (r.length + 1) ≤ 64 := by simpa using hl
    by_cases h0 : r = []
    · subst h0
      show x.push c = _
      rw [Hs.push, set_eq_splice _ _ _ (by omega)]; rfl
    · have hpos : 0 < r.length := List.length_pos_iff.2 h0
      have hne : ¬ (x.n + 1) % 64 = 0 := by omega
      have e : x.push c = ⟨x.st, x.rest.set (x.n % 64) c, x.n + 1⟩ := by rw [Hs.push, if_neg hne]
      show (x.push c).write r = _
      rw [e, ih _ h0 (by simpa using hr) (by show (x.n + 1) % 64 + r.length ≤ 64; omega)]
      show (⟨if (x.n + 1 + r.length) % 64 = 0 then block x.st (splice (x.rest.set (x.n % 64) c) r ((x.n + 1) % 64)) else x.st, splice (x.rest.set (x.n % 64) c) r ((x.n + 1) % 64), x.n + 1 + r.length⟩ : Hs) = _
      rw [show (x.n + 1) % 64 = x.n % 64 + 1 by omega, splice_splice _ _ _ _ (by omega), show x.n + 1 + r.length = x.n + (c :: r).length by simp; omega]
end Sha
/-- a row that is filled as far as k -/
def fill {α : Type} (f : Nat → α) (d : α) (n k : Nat) : List α := (List.range n).map fun j => if j < k then f j else d
section
variable {α : Type} (f : Nat → α) (d : α) {n k : Nat}
@[simp] theorem fill_length (n k : Nat) : (fill f d n k).length = n := by simp [fill]
theorem fill_zero (n : Nat) : fill f d n 0 = List.replicate n d := by simp [fill, List.map_const']
theorem fill_all (n : Nat) : fill f d n n = (List.range n).map f := by
  unfold fill
  refine List.map_congr_left fun j hj => ?_
  rw [if_pos (List.mem_range.1 hj)]
theorem fill_set (hk : k < n) : (fill f d n k).set k (f k) = fill f d n (k + 1) := by
  apply List.ext_getElem?
  intro j
  by_cases hj : j = k
  · subst hj; simp [fill, hk]
  · rw [List.getElem?_set_ne (by omega)]
    by_cases h8 : j < n
    · simp only [fill, List.getElem?_map, List.getElem?_range h8, Option.map_some]
      congr 1
      by_cases h : j < k
      · rw [if_pos h, if_pos (by omega)]
      · rw [if_neg h, if_neg (by omega)]
    · simp [fill, h8]
end
namespace Sha
def zeros (n : Nat) : Nat := (119 - n % 64) % 64
def sizeB (n i : Nat) : UInt8 := UInt8.ofNat (n * 8 % 2 ^ 64 / 2 ^ (56 - 8 * i))
def size8 (n : Nat) : List UInt8 := (List.range 8).map (sizeB n)
def outB (s : St) (i : Nat) : UInt8 := (s.list.getD (i / 4) 0 >>> UInt32.ofNat (24 - 8 * (i % 4))).toUInt8
def out (s : St) : List UInt8 := (List.range 32).map (outB s)
/-- the bytes that come behind n bytes -/
def pad (n : Nat) : List UInt8 := 0x80 :: (List.replicate (zeros n) 0 ++ size8 n)
def Hs.sum (x : Hs) : List UInt8 := out (x.write (pad x.n)).st
def Hs.new : Hs := ⟨init, List.replicate 64 0, 0⟩
/-- the sum of bytes -/
def sum (l : List UInt8) : List UInt8 := (Hs.new.write l).sum
end Sha
