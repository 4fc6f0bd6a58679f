import Derived.Test.YtaaegmmcnfeiaaaDoorHashS
set_option linter.unusedVariables false
namespace Sha
/-- the state behind n blocks -/
def fold (s : St) (l : List UInt8) : Nat → St
  | 0 => s
  | n + 1 => block (fold s l n) ((l.drop (64 * n)).take 64)
theorem write_fold (l : List UInt8) : ∀ n, 64 * n ≤ l.length → (Hs.new.write (l.take (64 * n))).st = fold init l n
  | 0, _ => rfl
  | n + 1, h => by
    have ih := write_fold l n (by omega)
    have e : l.take (64 * (n + 1)) = l.take (64 * n) ++ (l.drop (64 * n)).take 64 := by
      rw [show 64 * (n + 1) = 64 * n + 64 by omega, List.take_add]
    have hl : ((l.drop (64 * n)).take 64).length = 64 := by simp; omega
    have hr : (Hs.new.write (l.take (64 * n))).rest.length = 64 := by rw [Hs.write_rest]; rfl
    have hn : (Hs.new.write (l.take (64 * n))).n = 64 * n := by rw [Hs.write_n, List.length_take]; show 0 + _ = _; omega
    rw [e, Hs.write_append]
    generalize Hs.new.write (l.take (64 * n)) = x at *
    rw [Hs.chunk _ x (by intro h0; rw [h0] at hl; cases hl) hr (by omega), hl, hn, if_pos (by omega), ih]
    show block _ (splice x.rest _ (64 * n % 64)) = block _ _
    congr 1
    rw [show 64 * n % 64 = 0 by omega]
    simp only [splice, List.take_zero, List.nil_append, Nat.zero_add, hl]
    rw [List.drop_of_length_le (show x.rest.length ≤ 64 by omega), List.append_nil]
theorem pad_length (l : List UInt8) : (l ++ pad l.length).length % 64 = 0 := by
  simp only [List.length_append, pad, List.length_cons, List.length_replicate, size8, List.length_map, List.length_range]
  unfold zeros
  omega
theorem sum_fold (l : List UInt8) : sum l = out (fold init (l ++ pad l.length) ((l ++ pad l.length).length / 64)) := by
  have h := pad_length l
  have hw := write_fold (l ++ pad l.length) ((l ++ pad l.length).length / 64) (by omega)
  rw [List.take_of_length_le (by omega)] at hw
  rw [← hw, sum, Hs.sum, Hs.write_append, Hs.write_n]
  show out (_ : Hs).st = _
  rw [show Hs.new.n + l.length = l.length from Nat.zero_add _]
end Sha
