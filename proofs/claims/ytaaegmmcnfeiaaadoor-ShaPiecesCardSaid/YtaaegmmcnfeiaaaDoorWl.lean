import Derived.Test.YtaaegmmcnfeiaaaDoorWk
set_option linter.unusedVariables false
set_option linter.unusedSimpArgs false
namespace Go.Proofs.YtaaegmmcnfeiaaaDoor.G
open Go Go.VC Go.RowKit Go.Proofs Go.Proofs.YtaaegmmcnfeiaaaDoor
/-- a row of bytes of the call's own, made behind the world w0 -/
def OwnB (w0 w : World) (s : Sl) (bs : List UInt8) : Prop := Ext w0 w ∧ w.ownsRow w0.heap.size 5 1 s.v bs.length (bs.map byteV)
theorem OwnB.len {w0 w : World} {s : Sl} {bs : List UInt8} (h : OwnB w0 w s bs) : s.len = bs.length := (sees_of_own h.2).2.1
theorem OwnB.sees {w0 w : World} {s : Sl} {bs : List UInt8} (h : OwnB w0 w s bs) : Sees w s 1 (bs.map byteV) := (sees_of_own h.2).1
theorem OwnB.blk {w0 w : World} {s : Sl} {bs : List UInt8} (h : OwnB w0 w s bs) : ∀ k, s.blk = some k → w0.heap.size ≤ k ∧ k < w.heap.size := (sees_of_own h.2).2.2
theorem own_ch {S : Nat → Prop} {w w' : World} {base : Nat} {e : TypeId} {size : Nat} {v : Value} {n : Nat} {xs : List Value} (h : w.ownsRow base e size v n xs) (hc : Ch S w w') (hs : ∀ k, base ≤ k → ¬ S k) : w'.ownsRow base e size v n xs := by
  obtain ⟨h1, h2⟩ := h
  refine ⟨h1, h2.imp id fun ⟨g, cp, cur, e, hg, hh, h3⟩ => ⟨g, cp, cur, e, hg, ?_, h3⟩⟩
  have hlt : g < w.heap.size := (Array.getElem?_eq_some_iff.1 hh).1
  rw [hc.block g hlt (hs g hg)]; exact hh
/-- one byte more -/
theorem OwnB.push {w0 w : World} {s : Sl} {bs : List UInt8} (h : OwnB w0 w s bs) (c : UInt8) (hn : bs.length ≤ 1000000) {K : Sl → World → Prop} (k : ∀ (s' : Sl) (w' : World), OwnB w0 w' s' (bs ++ [c]) → K s' w') :
    allocK w #[.int .u8 (c.toNat : Int)] 5 fun a w1 => runG .sl Tryd.prog w1 (Builtin.append_ #[22, 22] 22 #[.slice s.a s.len s.cap, .slice (some a) 1 1]) K := by
  obtain ⟨X, ho⟩ := h
  refine allocK_intro fun b w1 e B X1 z => ?_
  have ho1 : w1.ownsRow w0.heap.size 5 1 s.v bs.length (bs.map byteV) := own_ch ho X1 fun _ _ h => h
  have hx : Sees w1 ⟨some ⟨b, 0, none⟩, 1, 1⟩ 1 ([c].map byteV) := by
    have := sees_blk B (n := 1) rfl (by decide)
    exact this
  have X1' := X.ext X1
  refine app_own (s := s) slT22 ho1 hx (oneC_byte [c]) (by show (bs.length + 1) * 1 ≤ _; omega) (Nat.le_trans (by show bs.length + 1 ≤ 2000000; omega) (by decide)) X1'.size fun s2 w2 ho2 hg2 => ?_
  refine k s2 w2 ⟨X1'.grown hg2 fun k e2 hk => by have := (ho1.lt k e2).1; omega, ?_⟩
  rw [List.map_append, List.length_append]; exact ho2
theorem OwnB.ext {w0 w w' : World} {s : Sl} {bs : List UInt8} (h : OwnB w0 w s bs) (X : Ext w w') : OwnB w0 w' s bs := ⟨h.1.ext X, own_ch h.2 X fun _ _ h => h⟩
theorem size_eq' (n i : Nat) (hn : n < 1000000) (hi : i < 8) :
    IntKind.wrap .u8 (Int.fdiv (IntKind.wrap .u64 ((IntKind.wrap .u64 (n : Int)) * 8)) (2 ^ (min (Int.toNat ((IntKind.wrap .u64 (IntKind.wrap .i64 (8 * (((7 - i : Nat)) : Int)))))) (IntKind.bits .u64)))) = ((Sha.sizeB n i).toNat : Int) := by
  rw [← size_eq n i (by omega) hi]
  rw [IntWalk.i64_in (8 * (((7 - i : Nat)) : Int)) (by omega), IntWalk.u64_in (8 * (((7 - i : Nat)) : Int)) (by omega), IntWalk.i64_in (8 * (i : Int)) (by omega), IntWalk.i64_in _ (by omega)]
  rw [show (8 * (((7 - i : Nat)) : Int)).toNat = (56 - 8 * (i : Int)).toNat by omega]
set_option maxHeartbeats 1000000 in
theorem padded_does (l : List UInt8) (b : Sl) (w : World) (hs : Sees w b 1 (l.map byteV)) (hl : l.length ≤ 30000) {Q : Value → World → Prop}
    (k : ∀ (s : Sl) (w' : World), OwnB w w' s (l ++ Sha.pad l.length) → Q (.slice s.a s.len s.cap) w') : Does Tryd.prog 21 #[.slice b.a b.len b.cap] w Q := by
  refine F21_does _ _ _ ?_
  unfold F21
  have hbl := hs.len
  simp only [List.length_map, Nat.mul_one] at hbl
  refine allocK_intro fun b1 w1 e1 B1 X1 z1 => ?_
  have ho := own_empty (size := 1) B1 (base := w.heap.size) (by omega)
  refine app_own (s := ⟨some ⟨b1, 0, none⟩, 0, 0⟩) slT22 ho (hs.ext X1) (oneC_byte l) (by omega) (Nat.le_trans (by omega : 0 + b.len ≤ 2000000) (by decide)) (by omega) fun s1 w2 ho2 hg2 => ?_
  have X2 : Ext w w2 := X1.grown hg2 fun k e2 hk => by have := (ho.lt k e2).1; omega
  have O2 : OwnB w w2 s1 l := ⟨X2, by rw [List.nil_append, Nat.zero_add, ← hbl] at ho2; exact ho2⟩
  clear ho ho2 hg2 X1 X2 B1 e1 z1
  refine OwnB.push O2 128 (by omega) fun s2 w3 O3 => ?_
  have hz : Sha.zeros l.length < 64 := by unfold Sha.zeros; omega
  have hz2 : (l.length + 1 + Sha.zeros l.length) % 64 = 56 := by unfold Sha.zeros; omega
  refine ⟨fun s w' => ∃ j : Nat, j ≤ Sha.zeros l.length ∧ OwnB w w' s (l ++ 128 :: List.replicate j 0), fun s _ => 100000 - s.len, ⟨0, by omega, O3⟩, ?_⟩
  clear O2 O3 s1 s2 w1 w2 w3
  rintro s w1 ⟨j, hj, O⟩
  have hsl : s.len = l.length + 1 + j := by rw [O.len]; simp; omega
  refine ⟨by decide, ?_⟩
  rw [show (64 : Int) = ((64 : Nat) : Int) from rfl, tmod_nat, hsl]
  by_cases hlt : j < Sha.zeros l.length
  · have hne : (l.length + 1 + j) % 64 ≠ 56 := by unfold Sha.zeros at hlt; omega
    rw [show ((((l.length + 1 + j) % 64 : Nat) : Int) != 56) = true by simp; omega, cond_true, ← hsl]
    refine OwnB.push O 0 (by simp; omega) fun s3 w3 O3 => ?_
    have e : l ++ 128 :: List.replicate j 0 ++ [0] = l ++ 128 :: List.replicate (j + 1) 0 := by rw [List.replicate_succ']; simp
    rw [e] at O3
    have hs3 : s3.len = l.length + 1 + (j + 1) := by rw [O3.len]; simp; omega
    exact ⟨⟨j + 1, by omega, O3⟩, by show 100000 - s3.len < 100000 - s.len; omega⟩
  · obtain rfl : j = Sha.zeros l.length := by omega
    rw [show ((((l.length + 1 + Sha.zeros l.length) % 64 : Nat) : Int) != 56) = false by rw [hz2]; rfl, cond_false, ← hsl]
    refine ⟨fun s x w' => ∃ m : Nat, m ≤ 8 ∧ x = 7 - (m : Int) ∧ OwnB w w' s (l ++ 128 :: List.replicate (Sha.zeros l.length) 0 ++ (List.range m).map (Sha.sizeB l.length)), fun s x _ => (x + 1).toNat, ⟨0, by omega, rfl, by simpa using O⟩, ?_⟩
    clear O w1 hsl s
    rintro s x w1 ⟨m, hm, rfl, O⟩
    by_cases h8 : m < 8
    · rw [show decide ((7 : Int) - (m : Int) ≥ 0) = true by simp; omega, cond_true]
      rw [show (7 : Int) - (m : Int) = ((7 - m : Nat) : Int) by omega, ← hbl]
      refine ⟨by rw [IntWalk.i64_in _ (by omega), IntWalk.u64_in _ (by omega)]; omega, ?_⟩
      rw [size_eq' l.length m (by omega) h8]
      refine OwnB.push O (Sha.sizeB l.length m) (by simp; omega) fun s3 w3 O3 => ?_
      rw [List.append_assoc _ _ [Sha.sizeB l.length m], show (List.range m).map (Sha.sizeB l.length) ++ [Sha.sizeB l.length m] = (List.range (m + 1)).map (Sha.sizeB l.length) by rw [List.range_succ]; simp] at O3
      rw [IntWalk.i64_in _ (by omega)]
      exact ⟨⟨m + 1, by omega, by omega, O3⟩, by show ((((7 - m : Nat) : Int) - 1) + 1).toNat < (((7 - m : Nat) : Int) + 1).toNat; omega⟩
    · obtain rfl : m = 8 := by omega
      rw [show decide ((7 : Int) - ((8 : Nat) : Int) ≥ 0) = false from rfl, cond_false]
      refine k s w1 ?_
      have e : l ++ Sha.pad l.length = l ++ 128 :: List.replicate (Sha.zeros l.length) 0 ++ (List.range 8).map (Sha.sizeB l.length) := by simp [Sha.pad, Sha.size8]
      rw [e]; exact O
end Go.Proofs.YtaaegmmcnfeiaaaDoor.G
