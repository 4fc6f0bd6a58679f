import Derived.Test.YtaaegmmcnfeiaaaDoorNum
set_option linter.unusedVariables false
/- SHA-256, plainly: on words of 32 bits. -/
namespace Sha
def rotr (x : UInt32) (n : Nat) : UInt32 := (x <<< UInt32.ofNat (32 - n)) ||| (x >>> UInt32.ofNat n)
def s0 (x : UInt32) : UInt32 := rotr x 7 ^^^ rotr x 18 ^^^ (x >>> 3)
def s1 (x : UInt32) : UInt32 := rotr x 17 ^^^ rotr x 19 ^^^ (x >>> 10)
def S0 (x : UInt32) : UInt32 := rotr x 2 ^^^ rotr x 13 ^^^ rotr x 22
def S1 (x : UInt32) : UInt32 := rotr x 6 ^^^ rotr x 11 ^^^ rotr x 25
def ch (e f g : UInt32) : UInt32 := (e &&& f) ^^^ (~~~ e &&& g)
def maj (a b c : UInt32) : UInt32 := (a &&& b) ^^^ (a &&& c) ^^^ (b &&& c)
def byteAt (b : List UInt8) (i : Nat) : UInt32 := (b.getD i 0).toUInt32
/-- the word of four bytes -/
def word (b : List UInt8) (t : Nat) : UInt32 := byteAt b (4 * t) <<< 24 ||| byteAt b (4 * t + 1) <<< 16 ||| byteAt b (4 * t + 2) <<< 8 ||| byteAt b (4 * t + 3)
def next (b : List UInt8) (l : List UInt32) (t : Nat) : UInt32 :=
  if t < 16 then word b t else l.getD (t - 16) 0 + l.getD (t - 7) 0 + s0 (l.getD (t - 15) 0) + s1 (l.getD (t - 2) 0)
/-- the first n words of a block -/
def wl (b : List UInt8) : Nat → List UInt32
  | 0 => []
  | n + 1 => wl b n ++ [next b (wl b n) n]
def W (b : List UInt8) (t : Nat) : UInt32 := (wl b 64).getD t 0
theorem wl_length (b : List UInt8) : ∀ n, (wl b n).length = n
  | 0 => rfl
  | n + 1 => by simp [wl, wl_length b n]
theorem wl_prefix (b : List UInt8) : ∀ {n m i : Nat}, i < n → n ≤ m → (wl b m).getD i 0 = (wl b n).getD i 0 := by
  intro n m i hi hnm
  induction m with
  | zero => omega
  | succ m ih =>
    by_cases h : n = m + 1
    · rw [h]
    · have hl := wl_length b m
      rw [wl, List.getD_eq_getElem?_getD, List.getElem?_append_left (by omega), ← List.getD_eq_getElem?_getD]
      exact ih (by omega)
theorem W_eq (b : List UInt8) {t : Nat} (h : t < 64) : W b t = next b (wl b t) t := by
  unfold W
  rw [wl_prefix b (n := t + 1) (by omega) (by omega)]
  have hl := wl_length b t
  rw [wl, List.getD_eq_getElem?_getD, List.getElem?_append_right (by omega)]
  simp [hl]
theorem W_low (b : List UInt8) {t : Nat} (h : t < 16) : W b t = word b t := by rw [W_eq b (by omega)]; simp [next, h]
theorem W_high (b : List UInt8) {t : Nat} (h : 16 ≤ t) (h2 : t < 64) : W b t = W b (t - 16) + W b (t - 7) + s0 (W b (t - 15)) + s1 (W b (t - 2)) := by
  rw [W_eq b h2]
  have e : ∀ i, i < t → (wl b t).getD i 0 = W b i := fun i hi => (wl_prefix b hi (by omega)).symm
  simp only [next, if_neg (by omega : ¬ t < 16)]
  rw [e _ (by omega), e _ (by omega), e _ (by omega), e _ (by omega)]
structure St where
  a : UInt32
  b : UInt32
  c : UInt32
  d : UInt32
  e : UInt32
  f : UInt32
  g : UInt32
  h : UInt32
def K : List UInt32 := [0x428a2f98, 0x71374491, 0xb5c0fbcf, 0xe9b5dba5, 0x3956c25b, 0x59f111f1, 0x923f82a4, 0xab1c5ed5, 0xd807aa98, 0x12835b01, 0x243185be, 0x550c7dc3, 0x72be5d74, 0x80deb1fe, 0x9bdc06a7, 0xc19bf174,
  0xe49b69c1, 0xefbe4786, 0x0fc19dc6, 0x240ca1cc, 0x2de92c6f, 0x4a7484aa, 0x5cb0a9dc, 0x76f988da, 0x983e5152, 0xa831c66d, 0xb00327c8, 0xbf597fc7, 0xc6e00bf3, 0xd5a79147, 0x06ca6351, 0x14292967,
  0x27b70a85, 0x2e1b2138, 0x4d2c6dfc, 0x53380d13, 0x650a7354, 0x766a0abb, 0x81c2c92e, 0x92722c85, 0xa2bfe8a1, 0xa81a664b, 0xc24b8b70, 0xc76c51a3, 0xd192e819, 0xd6990624, 0xf40e3585, 0x106aa070,
  0x19a4c116, 0x1e376c08, 0x2748774c, 0x34b0bcb5, 0x391c0cb3, 0x4ed8aa4a, 0x5b9cca4f, 0x682e6ff3, 0x748f82ee, 0x78a5636f, 0x84c87814, 0x8cc70208, 0x90befffa, 0xa4506ceb, 0xbef9a3f7, 0xc67178f2]
def T1 (b : List UInt8) (s : St) (t : Nat) : UInt32 := s.h + S1 s.e + ch s.e s.f s.g + K.getD t 0 + W b t
def T2 (s : St) : UInt32 := S0 s.a + maj s.a s.b s.c
def rnd (b : List UInt8) (s : St) (t : Nat) : St := ⟨T1 b s t + T2 s, s.a, s.b, s.c, s.d + T1 b s t, s.e, s.f, s.g⟩
def rounds (b : List UInt8) (s : St) : Nat → St
  | 0 => s
  | n + 1 => rnd b (rounds b s n) n
def St.add (x y : St) : St := ⟨x.a + y.a, x.b + y.b, x.c + y.c, x.d + y.d, x.e + y.e, x.f + y.f, x.g + y.g, x.h + y.h⟩
def St.list (s : St) : List UInt32 := [s.a, s.b, s.c, s.d, s.e, s.f, s.g, s.h]
/-- a block is taken in -/
def block (s : St) (b : List UInt8) : St := s.add (rounds b s 64)
def init : St := ⟨0x6a09e667, 0xbb67ae85, 0x3c6ef372, 0xa54ff53a, 0x510e527f, 0x9b05688c, 0x1f83d9ab, 0x5be0cd19⟩
end Sha
