import Derived.Test.YtlbhilhfbbocfaaDoorSl
set_option linter.unusedVariables false
/- SHA-256, plainly: on words of 32 bits. -/
namespace Sha
def rotr (x : UInt32) (n : Nat) : UInt32 := (x <<< UInt32.ofNat (32 - n)) ||| (x >>> UInt32.ofNat n)
def s0 (x : UInt32) : UInt32 := rotr x 7 ^^^ rotr x 18 ^^^ (x >>> 3)
def s1 (x : UInt32) : UInt32 := rotr x 17 ^^^ rotr x 19 ^^^ (x >>> 10)
def S0 (x : UInt32) : UInt32 := rotr x 2 ^^^ rotr x 13 ^^^ rotr x 22
def S1 (x : UInt32) : UInt32 := rotr x 6 ^^^ rotr x 11 ^^^ rotr x 25
def ch (e f g : UInt32) : UInt32 := (e &&& f) ^^^ (~~~ e &&& g)
def maj (a b c : UInt32) : UInt32 := (a &&& b) ^^^ (a &&& c) ^^^ (b &&& c)
def byteAt (b : List UInt8) (i : Nat) : UInt32 := (b.getD i 0).toUInt32
/-- the word of four bytes -/
def word (b : List UInt8) (t : Nat) : UInt32 := byteAt b (4 * t) <<< 24 ||| byteAt b (4 * t + 1) <<< 16 ||| byteAt b (4 * t + 2) <<< 8 ||| byteAt b (4 * t + 3)
def next (b : List UInt8) (l : List UInt32) (t : Nat) : UInt32 :=
  if t < 16 then word b t else l.getD (t - 16) 0 + l.getD (t - 7) 0 + s0 (l.getD (t - 15) 0) + s1 (l.getD (t - 2) 0)
/-- the first n words of a block -/
def wl (b : List UInt8) : Nat → List UInt32
  | 0 => []
  | n + 1 => wl b n ++ [next b (wl b n) n]
def W (b : List UInt8) (t : Nat) : UInt32 := (wl b 64).getD t 0
theorem wl_length (b : List UInt8) : ∀ n, (wl b n).length = n
  | 0 => rfl
  | n + 1 => by simp [wl, wl_length b n]
theorem wl_prefix (b : List UInt8) : ∀ {n m i : Nat}, i < n → n ≤ m → (wl b m).getD i 0 = (wl b n).getD i 0 := by
  intro n m i hi hnm
  induction m with
  | zero => omega
  | succ m ih =>
    by_cases h : n = m + 1
    · rw [h]
    · have hl := wl_length b m
      rw [wl, List.getD_eq_getElem?_getD, List.getElem?_append_left (by omega), ← List.getD_eq_getElem?_getD]
      exact ih (by omega)
theorem W_eq (b : List UInt8) {t : Nat} (h : t < 64) : W b t = next b (wl b t) t := by
  unfold W
  rw [wl_prefix b (n := t + 1) (by omega) (by omega)]
  have hl := wl_length b t
  rw [wl, List.getD_eq_getElem?_getD, List.getElem?_append_right (by omega)]
  simp [hl]
theorem W_low (b : List UInt8) {t : Nat} (h : t < 16) : W b t = word b t := by rw [W_eq b (by omega)]; simp [next, h]
theorem W_high (b : List UInt8) {t : Nat} (h : 16 ≤ t) (h2 : t < 64) : W b t = W b (t - 16) + W b (t - 7) + s0 (W b (t - 15)) + s1 (W b (t - 2)) := by
  rw [W_eq b h2]
  have e : ∀ i, i < t → (wl b t).getD i 0 = W b i := fun i hi => (wl_prefix b hi (by omega)).symm
  simp only [next, if_neg (by omega : ¬ t < 16)]
  rw [e _ (by omega), e _ (by omega), e _ (by omega), e _ (by omega)]
structure St where
  a : UInt32
  b : UInt32
  c : UInt32
  d : UInt32
  e : UInt32
  f : UInt32
  g : UInt32
  h : UInt32
def K : List UInt32 := [0x428a2f98, 0x71374491, 0xb5c0fbcf, 0xe9b5dba5, 0x3956c25b, 0x59f111f1, 0x923f82a4, 0xab1c5ed5, 0xd807aa98, 0x12835b01, 0x243185be, 0x550c7dc3, 0x72be5d74, 0x80deb1fe, 0x9bdc06a7, 0xc19bf174,
  0xe49b69c1, 0xefbe4786, 0x0fc19dc6, 0x240ca1cc, 0x2de92c6f, 0x4a7484aa, 0x5cb0a9dc, 0x76f988da, 0x983e5152, 0xa831c66d, 0xb00327c8, 0xbf597fc7, 0xc6e00bf3, 0xd5a79147, 0x06ca6351, 0x14292967,
  0x27b70a85, 0x2e1b2138, 0x4d2c6dfc, 0x53380d13, 0x650a7354, 0x766a0abb, 0x81c2c92e, 0x92722c85, 0xa2bfe8a1, 0xa81a664b, 0xc24b8b70, 0xc76c51a3, 0xd192e819, 0xd6990624, 0xf40e3585, 0x106aa070,
  0x19a4c116, 0x1e376c08, 0x2748774c, 0x34b0bcb5, 0x391c0cb3, 0x4ed8aa4a, 0x5b9cca4f, 0x682e6ff3, 0x748f82ee, 0x78a5636f, 0x84c87814, 0x8cc70208, 0x90befffa, 0xa4506ceb, 0xbef9a3f7, 0xc67178f2]
def T1 (b : List UInt8) (s : St) (t : Nat) : UInt32 := s.h + S1 s.e + ch s.e s.f s.g + K.getD t 0 + W b t
def T2 (s : St) : UInt32 := S0 s.a + maj s.a s.b s.c
def rnd (b : List UInt8) (s : St) (t : Nat) : St := ⟨T1 b s t + T2 s, s.a, s.b, s.c, s.d + T1 b s t, s.e, s.f, s.g⟩
def rounds (b : List UInt8) (s : St) : Nat → St
  | 0 => s
  | n + 1 => rnd b (rounds b s n) n
def St.add (x y : St) : St := ⟨x.a + y.a, x.b + y.b, x.c + y.c, x.d + y.d, x.e + y.e, x.f + y.f, x.g + y.g, x.h + y.h⟩
def St.list (s : St) : List UInt32 := [s.a, s.b, s.c, s.d, s.e, s.f, s.g, s.h]
/-- a block is taken in -/
def block (s : St) (b : List UInt8) : St := s.add (rounds b s 64)
def init : St := ⟨0x6a09e667, 0xbb67ae85, 0x3c6ef372, 0xa54ff53a, 0x510e527f, 0x9b05688c, 0x1f83d9ab, 0x5be0cd19⟩
end Sha

set_option linter.unusedVariables false
namespace Sha
structure Hs where
  st : St
  rest : List UInt8
  n : Nat
def Hs.push (x : Hs) (c : UInt8) : Hs := ⟨if (x.n + 1) % 64 = 0 then block x.st (x.rest.set (x.n % 64) c) else x.st, x.rest.set (x.n % 64) c, x.n + 1⟩
def Hs.write (x : Hs) (l : List UInt8) : Hs := l.foldl Hs.push x
theorem Hs.write_append (x : Hs) (a b : List UInt8) : x.write (a ++ b) = (x.write a).write b := List.foldl_append ..
@[simp] theorem Hs.write_nil (x : Hs) : x.write [] = x := rfl
theorem Hs.write_n (x : Hs) (l : List UInt8) : (x.write l).n = x.n + l.length := by
  induction l generalizing x with
  | nil => rfl
  | cons c r ih => show ((x.push c).write r).n = _; rw [ih]; simp [Hs.push]; omega
theorem Hs.write_rest (x : Hs) (l : List UInt8) : (x.write l).rest.length = x.rest.length := by
  induction l generalizing x with
  | nil => rfl
  | cons c r ih => show ((x.push c).write r).rest.length = _; rw [ih]; simp [Hs.push]
def splice (r l : List UInt8) (o : Nat) : List UInt8 := r.take o ++ l ++ r.drop (o + l.length)
theorem splice_length (r l : List UInt8) (o : Nat) (h : o + l.length ≤ r.length) : (splice r l o).length = r.length := by simp [splice]; omega
theorem set_eq_splice (r : List UInt8) (o : Nat) (c : UInt8) (h : o < r.length) : r.set o c = splice r [c] o := by
  simp only [splice, List.length_singleton]
  rw [List.set_eq_take_append_cons_drop, if_pos h]
  simp
theorem splice_splice (r l : List UInt8) (o : Nat) (c : UInt8) (h : o < r.length) : splice (r.set o c) l (o + 1) = splice r (c :: l) o := by
  simp only [splice, List.length_cons]
  rw [List.take_set, List.drop_set, if_pos (by omega), show o + 1 + l.length = o + (l.length + 1) by omega, List.take_add_one, List.set_append]
  simp [show r[o]? = some r[o] by simp [h]]
  rw [if_neg (by omega), show o - min o r.length = 0 by omega]
  simp
theorem Hs.chunk (l : List UInt8) : ∀ (x : Hs), l ≠ [] → x.rest.length = 64 → x.n % 64 + l.length ≤ 64 →
    x.write l = ⟨if (x.n + l.length) % 64 = 0 then block x.st (splice x.rest l (x.n % 64)) else x.st, splice x.rest l (x.n % 64), x.n + l.length⟩ := by
  induction l with
  | nil => intro x h; exact absurd rfl h
  | cons c r ih =>
    intro x _ hr hl
    have hl' : x.n % 64 + (r.length + 1) ≤ 64 := by simpa using hl
    by_cases h0 : r = []
    · subst h0
      show x.push c = _
      rw [Hs.push, set_eq_splice _ _ _ (by omega)]; rfl
    · have hpos : 0 < r.length := List.length_pos_iff.2 h0
      have hne : ¬ (x.n + 1) % 64 = 0 := by omega
      have e : x.push c = ⟨x.st, x.rest.set (x.n % 64) c, x.n + 1⟩ := by rw [Hs.push, if_neg hne]
      show (x.push c).write r = _
      rw [e, ih _ h0 (by simpa using hr) (by show (x.n + 1) % 64 + r.length ≤ 64; omega)]
      show (⟨if (x.n + 1 + r.length) % 64 = 0 then block x.st (splice (x.rest.set (x.n % 64) c) r ((x.n + 1) % 64)) else x.st, splice (x.rest.set (x.n % 64) c) r ((x.n + 1) % 64), x.n + 1 + r.length⟩ : Hs) = _
      rw [show (x.n + 1) % 64 = x.n % 64 + 1 by omega, splice_splice _ _ _ _ (by omega), show x.n + 1 + r.length = x.n + (c :: r).length by simp; omega]
end Sha
/-- a row that is filled as far as k -/
def fill {α : Type} (f : Nat → α) (d : α) (n k : Nat) : List α := (List.range n).map fun j => if j < k then f j else d
section
variable {α : Type} (f : Nat → α) (d : α) {n k : Nat}
@[simp] theorem fill_length (n k : Nat) : (fill f d n k).length = n := by simp [fill]
theorem fill_zero (n : Nat) : fill f d n 0 = List.replicate n d := by simp [fill, List.map_const']
theorem fill_all (n : Nat) : fill f d n n = (List.range n).map f := by
  unfold fill
  refine List.map_congr_left fun j hj => ?_
  rw [if_pos (List.mem_range.1 hj)]
theorem fill_set (hk : k < n) : (fill f d n k).set k (f k) = fill f d n (k + 1) := by
  apply List.ext_getElem?
  intro j
  by_cases hj : j = k
  · subst hj; simp [fill, hk]
  · rw [List.getElem?_set_ne (by omega)]
    by_cases h8 : j < n
    · simp only [fill, List.getElem?_map, List.getElem?_range h8, Option.map_some]
      congr 1
      by_cases h : j < k
      · rw [if_pos h, if_pos (by omega)]
      · rw [if_neg h, if_neg (by omega)]
    · simp [fill, h8]
end
namespace Sha
def zeros (n : Nat) : Nat := (119 - n % 64) % 64
def sizeB (n i : Nat) : UInt8 := UInt8.ofNat (n * 8 % 2 ^ 64 / 2 ^ (56 - 8 * i))
def size8 (n : Nat) : List UInt8 := (List.range 8).map (sizeB n)
def outB (s : St) (i : Nat) : UInt8 := (s.list.getD (i / 4) 0 >>> UInt32.ofNat (24 - 8 * (i % 4))).toUInt8
def out (s : St) : List UInt8 := (List.range 32).map (outB s)
/-- the bytes that come behind n bytes -/
def pad (n : Nat) : List UInt8 := 0x80 :: (List.replicate (zeros n) 0 ++ size8 n)
def Hs.sum (x : Hs) : List UInt8 := out (x.write (pad x.n)).st
def Hs.new : Hs := ⟨init, List.replicate 64 0, 0⟩
/-- the sum of bytes -/
def sum (l : List UInt8) : List UInt8 := (Hs.new.write l).sum
end Sha

set_option linter.unusedVariables false
namespace Sha
/-- the state behind n blocks -/
def fold (s : St) (l : List UInt8) : Nat → St
  | 0 => s
  | n + 1 => block (fold s l n) ((l.drop (64 * n)).take 64)
theorem write_fold (l : List UInt8) : ∀ n, 64 * n ≤ l.length → (Hs.new.write (l.take (64 * n))).st = fold init l n
  | 0, _ => rfl
  | n + 1, h => by
    have ih := write_fold l n (by omega)
    have e : l.take (64 * (n + 1)) = l.take (64 * n) ++ (l.drop (64 * n)).take 64 := by
      rw [show 64 * (n + 1) = 64 * n + 64 by omega, List.take_add]
    have hl : ((l.drop (64 * n)).take 64).length = 64 := by simp; omega
    have hr : (Hs.new.write (l.take (64 * n))).rest.length = 64 := by rw [Hs.write_rest]; rfl
    have hn : (Hs.new.write (l.take (64 * n))).n = 64 * n := by rw [Hs.write_n, List.length_take]; show 0 + _ = _; omega
    rw [e, Hs.write_append]
    generalize Hs.new.write (l.take (64 * n)) = x at *
    rw [Hs.chunk _ x (by intro h0; rw [h0] at hl; cases hl) hr (by omega), hl, hn, if_pos (by omega), ih]
    show block _ (splice x.rest _ (64 * n % 64)) = block _ _
    congr 1
    rw [show 64 * n % 64 = 0 by omega]
    simp only [splice, List.take_zero, List.nil_append, Nat.zero_add, hl]
    rw [List.drop_of_length_le (show x.rest.length ≤ 64 by omega), List.append_nil]
theorem pad_length (l : List UInt8) : (l ++ pad l.length).length % 64 = 0 := by
  simp only [List.length_append, pad, List.length_cons, List.length_replicate, size8, List.length_map, List.length_range]
  unfold zeros
  omega
theorem sum_fold (l : List UInt8) : sum l = out (fold init (l ++ pad l.length) ((l ++ pad l.length).length / 64)) := by
  have h := pad_length l
  have hw := write_fold (l ++ pad l.length) ((l ++ pad l.length).length / 64) (by omega)
  rw [List.take_of_length_le (by omega)] at hw
  rw [← hw, sum, Hs.sum, Hs.write_append, Hs.write_n]
  show out (_ : Hs).st = _
  rw [show Hs.new.n + l.length = l.length from Nat.zero_add _]
end Sha
