import Derived.Test.YtlbhilhfbbocfaaDoorNa
import Derived.Test.YtlbhilhfbbocfaaDoorNs
set_option linter.unusedVariables false
set_option linter.unusedSimpArgs false
/-! images and their manifests, plain -/
namespace Nac
open Go Go.VC Go.RowKit
theorem cfind_rng {f : Ins → Int} : ∀ {l : List Ins} {k : Nat} {x : Int × Int}, cfind f l k = some x → (k : Int) ≤ x.2 ∧ x.2 < (k : Int) + l.length
  | [], _, _, h => by cases h
  | i :: l, k, x, h => by
    unfold cfind at h
    split at h
    · have := cfind_rng h
      simp only [List.length_cons]; omega
    · cases h; simp only [List.length_cons]; omega
theorem cchk_rng (l : List Ins) : 0 ≤ (cchk l).2 ∧ (cchk l).2 ≤ l.length ∧ ((cchk l).1 ≠ 0 → (cchk l).2 ≤ 128) := by
  unfold cchk
  split
  · split
    · have := cfind_rng ‹_›
      omega
    · split
      · exact ⟨by simp, by simp, by simp⟩
      · dsimp only; omega
  · simp
/-- what decoding says -/
def dcd (b : List UInt8) : List (Int × Int) :=
  if b.length % 4 ≠ 0 then [(2, ((b.length / 4 : Nat) : Int))] else if (cchk (clst b)).1 = 0 then [] else [((cchk (clst b)).1, 4 * (cchk (clst b)).2), cchk (clst b)]
structure Man where
  part : Int
  ver : Int
  size : Int
  sum : List UInt8
deriving DecidableEq
namespace Man
def cs (m : Man) : List Value := .int .i64 m.part :: .int .u32 m.ver :: .int .i64 m.size :: m.sum.map fun x => .int .u8 (x.toNat : Int)
def ok (m : Man) : Prop := (-9223372036854775808 ≤ m.part ∧ m.part ≤ 9223372036854775807) ∧ (0 ≤ m.ver ∧ m.ver < 4294967296) ∧ (-9223372036854775808 ≤ m.size ∧ m.size ≤ 9223372036854775807) ∧ m.sum.length = 32
def may (m : Man) : Prop := 0 ≤ m.part ∧ m.part < 8 ∧ 4 ≤ m.size ∧ m.size ≤ 512 ∧ m.size % 4 = 0
instance (m : Man) : Decidable m.may := by unfold may; infer_instance
def zero : Man := ⟨0, 0, 0, List.replicate 32 0⟩
theorem cs_length (m : Man) : m.cs.length = 3 + m.sum.length := by simp [cs]; omega
end Man
end Nac

set_option linter.unusedVariables false
set_option linter.unusedSimpArgs false
/-! images and their manifests, plain: the reader with its faults, what is said and heard, checked and taken in -/
namespace Nac
open Go Go.VC Go.RowKit
theorem or_shift (a : UInt64) (c : UInt8) (h : a.toNat < 2 ^ 56) : ((a <<< 8) ||| c.toUInt64).toNat = a.toNat * 256 + c.toNat := by
  have hc := c.toNat_lt
  rw [UInt64.toNat_or, UInt64.toNat_shiftLeft, show (8 : UInt64).toNat % 64 = 8 from rfl, Nat.shiftLeft_eq]
  have e : a.toNat * 2 ^ 8 % 2 ^ 64 = 2 ^ 8 * a.toNat := by rw [Nat.mod_eq_of_lt (by omega)]; omega
  rw [e, show c.toUInt64.toNat = c.toNat by simp, ← Nat.two_pow_add_eq_or_of_lt (by omega)]
  omega
theorem get_lt : ∀ (k : Nat), k ≤ 7 → ∀ (l : List UInt8), l.length = k → (get l).toNat < 256 ^ k
  | 0, _, [], _ => by decide
  | k + 1, hk, c :: l, h => by
    have ih := get_lt k (by omega) l (by simpa using h)
    have hc := c.toNat_lt
    have h56 : 256 ^ k ≤ 256 ^ 6 := Nat.pow_le_pow_right (by decide) (by omega)
    rw [get, or_shift _ _ (by omega), Nat.pow_succ]
    omega
theorem get_put_nat : ∀ (k : Nat), k ≤ 7 → ∀ (n : UInt64), (get (put n k)).toNat = n.toNat % 256 ^ k
  | 0, _, n => by simp [put, get, Nat.mod_one]
  | k + 1, hk, n => by
    have ih := get_put_nat k (by omega) (n >>> 8)
    have hl := get_lt k (by omega) (put (n >>> 8) k) (by simp)
    have h56 : 256 ^ k ≤ 256 ^ 6 := Nat.pow_le_pow_right (by decide) (by omega)
    rw [put, get, or_shift _ _ (by omega), ih, UInt64.toNat_shiftRight, show (8 : UInt64).toNat % 64 = 8 from rfl, Nat.shiftRight_eq_div_pow, UInt64.toNat_toUInt8]
    rw [show (2 : Nat) ^ 8 = 256 from rfl, Nat.pow_succ, Nat.mul_comm (256 ^ k) 256, Nat.mod_mul]
    omega
theorem put_get : ∀ {l : List UInt8}, l.length ≤ 8 → put (get l) l.length = l
  | [], _ => rfl
  | c :: l, h => by
    have hl : l.length ≤ 7 := by simp at h; omega
    have hlt := get_lt l.length hl l rfl
    have hlt' : (get l).toNat < 2 ^ 56 := Nat.lt_of_lt_of_le hlt (by
      calc 256 ^ l.length ≤ 256 ^ 7 := Nat.pow_le_pow_right (by decide) hl
        _ = 2 ^ 56 := by decide)
    have ho := or_shift (get l) c hlt'
    rw [List.length_cons, get, put]
    have e1 : ((get l <<< 8) ||| c.toUInt64).toUInt8 = c := by
      apply UInt8.toNat.inj
      rw [UInt64.toNat_toUInt8, ho]
      have := c.toNat_lt
      omega
    have e2 : ((get l <<< 8) ||| c.toUInt64) >>> 8 = get l := by
      apply UInt64.toNat.inj
      rw [UInt64.toNat_shiftRight, ho, Nat.shiftRight_eq_div_pow]
      have := c.toNat_lt
      rw [show 2 ^ (UInt64.toNat 8 % 64) = 256 by decide]
      omega
    rw [e1, e2, put_get (by omega)]
theorem get_one (c : UInt8) : (get [c]).toNat = c.toNat := by
  rw [get, or_shift _ _ (by decide)]; simp [get]
/-! ### the reader -/
abbrev Fl := List (Int × Int)
def rdB (bb : List UInt8) (m : Nat) (s : Nat × Fl) : List UInt8 × Nat × Fl :=
  if s.2 ≠ [] then ([], s) else if bb.length < s.1 + m then ([], s.1, [(2, (s.1 : Int))]) else ((bb.drop s.1).take m, s.1 + m, [])
def failB (c : Int) (s : Nat × Fl) : Nat × Fl := (s.1, if s.2 = [] then [(c, (s.1 : Int))] else s.2)
def mustB (ok : Bool) (c : Int) (s : Nat × Fl) : Nat × Fl := if ok = true then s else failB c s
def endB (bb : List UInt8) (s : Nat × Fl) : Fl := if s.2 ≠ [] then s.2 else if s.1 < bb.length then [(7, (s.1 : Int))] else []
theorem rdB_le {bb : List UInt8} {m : Nat} {s : Nat × Fl} (h : s.1 ≤ bb.length) : (rdB bb m s).2.1 ≤ bb.length := by
  unfold rdB; split
  · exact h
  · split
    · exact h
    · dsimp only; omega
theorem mustB_le {bb : List UInt8} {ok : Bool} {c : Int} {s : Nat × Fl} (h : s.1 ≤ bb.length) : (mustB ok c s).1 ≤ bb.length := by
  unfold mustB failB; split <;> exact h
theorem rdB_iff {bb : List UInt8} {m : Nat} {s : Nat × Fl} : (rdB bb m s).2.2 = [] ↔ s.2 = [] ∧ s.1 + m ≤ bb.length := by
  unfold rdB; split
  · rename_i h; simp [h]
  · rename_i h
    split
    · rename_i g; simp; omega
    · rename_i g; simp only [true_iff]; exact ⟨by simpa using h, by omega⟩
theorem rdB_ok {bb : List UInt8} {m : Nat} {s : Nat × Fl} (h : (rdB bb m s).2.2 = []) : rdB bb m s = ((bb.drop s.1).take m, s.1 + m, []) := by
  obtain ⟨h1, h2⟩ := rdB_iff.1 h
  unfold rdB; rw [if_neg (by simp [h1]), if_neg (by omega)]
theorem mustB_iff {ok : Bool} {c : Int} {s : Nat × Fl} : (mustB ok c s).2 = [] ↔ s.2 = [] ∧ ok = true := by
  unfold mustB failB; split
  · rename_i h; simp [h]
  · rename_i h; dsimp only; split <;> simp_all
theorem endB_iff {bb : List UInt8} {s : Nat × Fl} : endB bb s = [] ↔ s.2 = [] ∧ bb.length ≤ s.1 := by
  unfold endB; split
  · rename_i h; simp [h]
  · rename_i h
    split
    · simp; omega
    · rename_i g; simp only [true_iff]; exact ⟨by simpa using h, by omega⟩
/-! ### the manifest's bytes -/
def manOf (bb : List UInt8) : Man := ⟨((get ((bb.drop 1).take 1)).toNat : Int), ((get ((bb.drop 2).take 4)).toNat : Int), ((get ((bb.drop 6).take 2)).toNat : Int), (bb.drop 8).take 32⟩
def menc (m : Man) : List UInt8 := 77 :: (put (u64 m.part) 1 ++ put (u64 m.ver) 4 ++ put (u64 m.size) 2 ++ m.sum)
def heard (bb : List UInt8) : Prop := bb.length = 40 ∧ bb[0]? = some 77
structure Said (bb : List UInt8) (a1 a2 a3 a4 a5 : List UInt8 × Nat × Fl) : Prop where
  h1 : a1 = rdB bb 1 (0, [])
  h2 : a2 = rdB bb 1 (mustB (((get a1.1).toNat : Int) == 77) 3 a1.2)
  h3 : a3 = rdB bb 4 a2.2
  h4 : a4 = rdB bb 2 a3.2
  h5 : a5 = rdB bb 32 a4.2
theorem Said.all {bb : List UInt8} {a1 a2 a3 a4 a5 : List UInt8 × Nat × Fl} (h : Said bb a1 a2 a3 a4 a5) : (endB bb a5.2 = [] ↔ heard bb) ∧
    (endB bb a5.2 = [] → a2.1 = (bb.drop 1).take 1 ∧ a3.1 = (bb.drop 2).take 4 ∧ a4.1 = (bb.drop 6).take 2 ∧ a5 = ((bb.drop 8).take 32, 40, [])) := by
  obtain ⟨h1, h2, h3, h4, h5⟩ := h
  by_cases g5 : a5.2.2 = []
  · have e5 := rdB_ok (h5 ▸ g5)
    have q5 := rdB_iff.1 (h5 ▸ g5)
    have e4 := rdB_ok (h4 ▸ q5.1)
    have q4 := rdB_iff.1 (h4 ▸ q5.1)
    have e3 := rdB_ok (h3 ▸ q4.1)
    have q3 := rdB_iff.1 (h3 ▸ q4.1)
    have e2 := rdB_ok (h2 ▸ q3.1)
    have q2 := rdB_iff.1 (h2 ▸ q3.1)
    have m1 := mustB_iff.1 q2.1
    have e1 := rdB_ok (h1 ▸ m1.1)
    have q1 := rdB_iff.1 (h1 ▸ m1.1)
    rw [← h1] at e1; rw [← h2] at e2; rw [← h3] at e3; rw [← h4] at e4; rw [← h5] at e5
    have k1 : a1.2 = (1, []) := by rw [e1]
    have kb : (((get a1.1).toNat : Int) == 77) = true := m1.2
    have k2 : mustB (((get a1.1).toNat : Int) == 77) 3 a1.2 = (1, []) := by rw [mustB, if_pos kb, k1]
    rw [k2] at e2 q2
    have k3 : a2.2 = (2, []) := by rw [e2]
    rw [k3] at e3 q3
    have k4 : a3.2 = (6, []) := by rw [e3]
    rw [k4] at e4 q4
    have k5 : a4.2 = (8, []) := by rw [e4]
    rw [k5] at e5 q5
    simp only [Nat.reduceAdd] at e2 e3 e4 e5 q2 q3 q4 q5
    have hlt : 0 < bb.length := by omega
    have e0 : a1.1 = [bb[0]] := by
      rw [e1]; simp only [List.drop_zero]
      rw [List.take_one, List.head?_eq_getElem?, List.getElem?_eq_getElem hlt]; rfl
    have hl : bb[0]? = some 77 := by
      rw [e0, get_one] at kb
      rw [List.getElem?_eq_getElem hlt]
      have : bb[0].toNat = 77 := by simp at kb; omega
      congr 1
      exact UInt8.toNat_inj.1 this
    have hend : endB bb a5.2 = [] ↔ bb.length ≤ 40 := by rw [endB_iff, e5]; simp
    refine ⟨?_, fun _ => ⟨by rw [e2], by rw [e3], by rw [e4], e5⟩⟩
    rw [hend]
    exact ⟨fun h => ⟨by omega, hl⟩, fun h => by have := h.1; omega⟩
  · have hn : ¬ endB bb a5.2 = [] := fun h => g5 (endB_iff.1 h).1
    refine ⟨⟨fun h => absurd h hn, fun hh => ?_⟩, fun h => absurd h hn⟩
    exfalso
    apply g5
    obtain ⟨hl, h0⟩ := hh
    have i1 : (rdB bb 1 (0, [])).2.2 = [] := rdB_iff.2 ⟨rfl, by omega⟩
    have e1 := rdB_ok i1
    rw [← h1] at e1
    have kb : (((get a1.1).toNat : Int) == 77) = true := by
      rw [e1]
      simp only [List.drop_zero]
      rw [List.take_one, List.head?_eq_getElem?, h0]
      show (((get [77]).toNat : Int) == 77) = true
      rw [get_one]; rfl
    have k2 : mustB (((get a1.1).toNat : Int) == 77) 3 a1.2 = (1, []) := by rw [mustB, if_pos kb, e1]
    rw [k2] at h2
    have e2 := rdB_ok (bb := bb) (m := 1) (s := (1, [])) (rdB_iff.2 ⟨rfl, by omega⟩)
    rw [← h2] at e2
    rw [e2] at h3
    have e3 := rdB_ok (bb := bb) (m := 4) (s := (1 + 1, [])) (rdB_iff.2 ⟨rfl, by omega⟩)
    rw [← h3] at e3
    rw [e3] at h4
    have e4 := rdB_ok (bb := bb) (m := 2) (s := (1 + 1 + 4, [])) (rdB_iff.2 ⟨rfl, by omega⟩)
    rw [← h4] at e4
    rw [e4] at h5
    have e5 := rdB_ok (bb := bb) (m := 32) (s := (1 + 1 + 4 + 2, [])) (rdB_iff.2 ⟨rfl, by omega⟩)
    rw [← h5] at e5
    rw [e5]
theorem u64_get (x : List UInt8) : u64 ((get x).toNat : Int) = get x := by
  have := (get x).toNat_lt
  apply UInt64.toNat_inj.1
  unfold u64
  rw [UInt64.toNat_ofNat']
  omega
theorem menc_of {bb : List UInt8} (h : heard bb) : menc (manOf bb) = bb := by
  obtain ⟨hl, h0⟩ := h
  unfold menc manOf
  dsimp only
  rw [u64_get, u64_get, u64_get]
  have p1 := put_get (l := (bb.drop 1).take 1) (by simp; omega)
  have p2 := put_get (l := (bb.drop 2).take 4) (by simp; omega)
  have p3 := put_get (l := (bb.drop 6).take 2) (by simp; omega)
  rw [show ((bb.drop 1).take 1).length = 1 by simp; omega] at p1
  rw [show ((bb.drop 2).take 4).length = 4 by simp; omega] at p2
  rw [show ((bb.drop 6).take 2).length = 2 by simp; omega] at p3
  rw [p1, p2, p3]
  have c : ∀ i k : Nat, (bb.drop i).take k ++ bb.drop (i + k) = bb.drop i := fun i k => by
    rw [← List.drop_drop, List.take_append_drop]
  have e8 : (bb.drop 8).take 32 = bb.drop 8 := List.take_of_length_le (by simp; omega)
  rw [e8, List.append_assoc, List.append_assoc, c 6 2, c 2 4, c 1 1]
  match bb, hl, h0 with
  | x :: l, _, h0 => simp at h0; subst h0; rfl
theorem manOf_ok {bb : List UInt8} (h : heard bb) : (manOf bb).ok := by
  obtain ⟨hl, h0⟩ := h
  have q1 := get_lt 1 (by decide) ((bb.drop 1).take 1) (by simp; omega)
  have q2 := get_lt 4 (by decide) ((bb.drop 2).take 4) (by simp; omega)
  have q3 := get_lt 2 (by decide) ((bb.drop 6).take 2) (by simp; omega)
  unfold manOf Man.ok
  dsimp only
  refine ⟨by omega, by omega, by omega, by simp; omega⟩
theorem put1 (n : UInt64) : put n 1 = [n.toUInt8] := rfl
theorem menc_length {m : Man} (h : m.sum.length = 32) : (menc m).length = 40 := by unfold menc; simp [h]
theorem manOf_enc {m : Man} (ho : m.ok) (h : m.may) : heard (menc m) ∧ manOf (menc m) = m := by
  obtain ⟨h1, h2, h3, h4⟩ := ho
  obtain ⟨k1, k2, k3, k4, k5⟩ := h
  refine ⟨⟨menc_length h4, rfl⟩, ?_⟩
  have g : ∀ {n : Int} {k : Nat}, k ≤ 7 → 0 ≤ n → n < ((256 ^ k : Nat) : Int) → n < 18446744073709551616 → ((get (put (u64 n) k)).toNat : Int) = n := fun {n k} hk hn hlt hlt2 => by
    rw [get_put_nat k hk]
    unfold u64
    rw [UInt64.toNat_ofNat']
    have e : (n % 18446744073709551616).toNat % 2 ^ 64 = n.toNat := by omega
    rw [e, Nat.mod_eq_of_lt (by omega)]; omega
  have e1 : ((menc m).drop 1).take 1 = put (u64 m.part) 1 := by
    unfold menc; rw [List.drop_one, List.tail_cons, List.append_assoc, List.append_assoc, List.take_left' (by simp)]
  have e2 : ((menc m).drop 2).take 4 = put (u64 m.ver) 4 := by
    unfold menc; rw [show (2 : Nat) = 1 + 1 from rfl, List.drop_succ_cons, List.append_assoc, List.append_assoc, List.drop_left' (by simp), List.take_left' (by simp)]
  have e3 : ((menc m).drop 6).take 2 = put (u64 m.size) 2 := by
    unfold menc; rw [show (6 : Nat) = 5 + 1 from rfl, List.drop_succ_cons, List.append_assoc, List.drop_left' (by simp), List.take_left' (by simp)]
  have e4 : ((menc m).drop 8).take 32 = m.sum := by
    unfold menc; rw [show (8 : Nat) = 7 + 1 from rfl, List.drop_succ_cons, List.drop_left' (by simp), List.take_of_length_le (by omega)]
  unfold manOf
  rw [e1, e2, e3, e4, g (by decide) k1 (by omega) (by omega), g (by decide) h2.1 (by omega) (by omega), g (by decide) (by omega) (by omega) (by omega)]
/-! ### what is checked, and what is taken in -/
def mchk (m : Man) (b : List UInt8) : Fl :=
  if ¬ m.may then [(1, 0)] else if (b.length : Int) < m.size then [(2, (b.length : Int))] else if (b.length : Int) > m.size then [(7, m.size)] else if ¬ (Sha.sum b = m.sum) then [(8, 0)]
  else match dcd b with
    | [] => []
    | x :: t => (x.1, m.ver) :: x :: t
structure Stg where
  man : Man
  got : List UInt8
def Stg.zero : Stg := ⟨Man.zero, []⟩
def schunk (s : Stg) (x : Int) (b : List UInt8) : Stg × Int :=
  if ¬ s.man.may ∨ s.man.size < s.got.length then (Stg.zero, 1) else if x ≠ s.got.length then (Stg.zero, 4) else if s.man.size < s.got.length + b.length then (Stg.zero, 7) else (⟨s.man, s.got ++ b⟩, 0)
end Nac
