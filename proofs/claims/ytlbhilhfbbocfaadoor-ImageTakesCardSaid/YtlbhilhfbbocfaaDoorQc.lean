import Derived.Test.YtlbhilhfbbocfaaDoorQb
import Derived.Test.YtlbhilhfbbocfaaDoorNs
import Derived.Test.YtlbhilhfbbocfaaDoorSm
set_option linter.unusedVariables false
set_option linter.unusedSimpArgs false
namespace Go.Proofs.YtlbhilhfbbocfaaDoor.G
open Go Go.VC Go.RowKit Go.Proofs Go.Proofs.YtlbhilhfbbocfaaDoor
/-- a row of bytes of the call's own, made behind the world w0 -/
def OwnB (w0 w : World) (s : Sl) (bs : List UInt8) : Prop := Ext w0 w ∧ w.ownsRow w0.heap.size 5 1 s.v bs.length (bs.map byteV)
theorem OwnB.len {w0 w : World} {s : Sl} {bs : List UInt8} (h : OwnB w0 w s bs) : s.len = bs.length := (sees_of_own h.2).2.1
theorem OwnB.sees {w0 w : World} {s : Sl} {bs : List UInt8} (h : OwnB w0 w s bs) : Sees w s 1 (bs.map byteV) := (sees_of_own h.2).1
theorem OwnB.blk {w0 w : World} {s : Sl} {bs : List UInt8} (h : OwnB w0 w s bs) : ∀ k, s.blk = some k → w0.heap.size ≤ k ∧ k < w.heap.size := (sees_of_own h.2).2.2
theorem own_ch {S : Nat → Prop} {w w' : World} {base : Nat} {e : TypeId} {size : Nat} {v : Value} {n : Nat} {xs : List Value} (h : w.ownsRow base e size v n xs) (hc : Ch S w w') (hs : ∀ k, base ≤ k → ¬ S k) : w'.ownsRow base e size v n xs := by
  obtain ⟨h1, h2⟩ := h
  refine ⟨h1, h2.imp id fun ⟨g, cp, cur, e, hg, hh, h3⟩ => ⟨g, cp, cur, e, hg, ?_, h3⟩⟩
  have hlt : g < w.heap.size := (Array.getElem?_eq_some_iff.1 hh).1
  rw [hc.block g hlt (hs g hg)]; exact hh
/-- one byte more -/
theorem OwnB.push {w0 w : World} {s : Sl} {bs : List UInt8} (h : OwnB w0 w s bs) (c : UInt8) (hn : bs.length ≤ 1000000) {K : Sl → World → Prop} (k : ∀ (s' : Sl) (w' : World), OwnB w0 w' s' (bs ++ [c]) → K s' w') :
    allocK w #[.int .u8 (c.toNat : Int)] 5 fun a w1 => runG .sl Tryd.prog w1 (Builtin.append_ #[26, 26] 26 #[.slice s.a s.len s.cap, .slice (some a) 1 1]) K := by
  obtain ⟨X, ho⟩ := h
  refine allocK_intro fun b w1 e B X1 z => ?_
  have ho1 : w1.ownsRow w0.heap.size 5 1 s.v bs.length (bs.map byteV) := own_ch ho X1 fun _ _ h => h
  have hx : Sees w1 ⟨some ⟨b, 0, none⟩, 1, 1⟩ 1 ([c].map byteV) := by
    have := sees_blk B (n := 1) rfl (by decide)
    exact this
  have X1' := X.ext X1
  refine app_own (s := s) slT22 ho1 hx (oneC_byte [c]) (by show (bs.length + 1) * 1 ≤ _; omega) (Nat.le_trans (by show bs.length + 1 ≤ 2000000; omega) (by decide)) X1'.size fun s2 w2 ho2 hg2 => ?_
  refine k s2 w2 ⟨X1'.grown hg2 fun k e2 hk => by have := (ho1.lt k e2).1; omega, ?_⟩
  rw [List.map_append, List.length_append]; exact ho2
theorem OwnB.ext {w0 w w' : World} {s : Sl} {bs : List UInt8} (h : OwnB w0 w s bs) (X : Ext w w') : OwnB w0 w' s bs := ⟨h.1.ext X, own_ch h.2 X fun _ _ h => h⟩
theorem size_eq' (n i : Nat) (hn : n < 1000000) (hi : i < 8) :
    IntKind.wrap .u8 (Int.fdiv (IntKind.wrap .u64 ((IntKind.wrap .u64 (n : Int)) * 8)) (2 ^ (min (Int.toNat ((IntKind.wrap .u64 (IntKind.wrap .i64 (8 * (((7 - i : Nat)) : Int)))))) (IntKind.bits .u64)))) = ((Sha.sizeB n i).toNat : Int) := by
  rw [← size_eq n i (by omega) hi]
  rw [IntWalk.i64_in (8 * (((7 - i : Nat)) : Int)) (by omega), IntWalk.u64_in (8 * (((7 - i : Nat)) : Int)) (by omega), IntWalk.i64_in (8 * (i : Int)) (by omega), IntWalk.i64_in _ (by omega)]
  rw [show (8 * (((7 - i : Nat)) : Int)).toNat = (56 - 8 * (i : Int)).toNat by omega]
set_option maxHeartbeats 1000000 in
theorem padded_does (l : List UInt8) (b : Sl) (w : World) (hs : Sees w b 1 (l.map byteV)) (hl : l.length ≤ 30000) {Q : Value → World → Prop}
    (k : ∀ (s : Sl) (w' : World), OwnB w w' s (l ++ Sha.pad l.length) → Q (.slice s.a s.len s.cap) w') : Does Tryd.prog 46 #[.slice b.a b.len b.cap] w Q := by
  refine F46_does _ _ _ ?_
  unfold F46
  have hbl := hs.len
  simp only [List.length_map, Nat.mul_one] at hbl
  refine allocK_intro fun b1 w1 e1 B1 X1 z1 => ?_
  have ho := own_empty (size := 1) B1 (base := w.heap.size) (by omega)
  refine app_own (s := ⟨some ⟨b1, 0, none⟩, 0, 0⟩) slT22 ho (hs.ext X1) (oneC_byte l) (by omega) (Nat.le_trans (by omega : 0 + b.len ≤ 2000000) (by decide)) (by omega) fun s1 w2 ho2 hg2 => ?_
  have X2 : Ext w w2 := X1.grown hg2 fun k e2 hk => by have := (ho.lt k e2).1; omega
  have O2 : OwnB w w2 s1 l := ⟨X2, by rw [List.nil_append, Nat.zero_add, ← hbl] at ho2; exact ho2⟩
  clear ho ho2 hg2 X1 X2 B1 e1 z1
  refine OwnB.push O2 128 (by omega) fun s2 w3 O3 => ?_
  have hz : Sha.zeros l.length < 64 := by unfold Sha.zeros; omega
  have hz2 : (l.length + 1 + Sha.zeros l.length) % 64 = 56 := by unfold Sha.zeros; omega
  refine ⟨fun s w' => ∃ j : Nat, j ≤ Sha.zeros l.length ∧ OwnB w w' s (l ++ 128 :: List.replicate j 0), fun s _ => 100000 - s.len, ⟨0, by omega, O3⟩, ?_⟩
  clear O2 O3 s1 s2 w1 w2 w3
  rintro s w1 ⟨j, hj, O⟩
  have hsl : s.len = l.length + 1 + j := by rw [O.len]; simp; omega
  refine ⟨by decide, ?_⟩
  rw [show (64 : Int) = ((64 : Nat) : Int) from rfl, tmod_nat, hsl]
  by_cases hlt : j < Sha.zeros l.length
  · have hne : (l.length + 1 + j) % 64 ≠ 56 := by unfold Sha.zeros at hlt; omega
    rw [show ((((l.length + 1 + j) % 64 : Nat) : Int) != 56) = true by simp; omega, cond_true, ← hsl]
    refine OwnB.push O 0 (by simp; omega) fun s3 w3 O3 => ?_
    have e : l ++ 128 :: List.replicate j 0 ++ [0] = l ++ 128 :: List.replicate (j + 1) 0 := by rw [List.replicate_succ']; simp
    rw [e] at O3
    have hs3 : s3.len = l.length + 1 + (j + 1) := by rw [O3.len]; simp; omega
    exact ⟨⟨j + 1, by omega, O3⟩, by show 100000 - s3.len < 100000 - s.len; omega⟩
  · obtain rfl : j = Sha.zeros l.length := by omega
    rw [show ((((l.length + 1 + Sha.zeros l.length) % 64 : Nat) : Int) != 56) = false by rw [hz2]; rfl, cond_false, ← hsl]
    refine ⟨fun s x w' => ∃ m : Nat, m ≤ 8 ∧ x = 7 - (m : Int) ∧ OwnB w w' s (l ++ 128 :: List.replicate (Sha.zeros l.length) 0 ++ (List.range m).map (Sha.sizeB l.length)), fun s x _ => (x + 1).toNat, ⟨0, by omega, rfl, by simpa using O⟩, ?_⟩
    clear O w1 hsl s
    rintro s x w1 ⟨m, hm, rfl, O⟩
    by_cases h8 : m < 8
    · rw [show decide ((7 : Int) - (m : Int) ≥ 0) = true by simp; omega, cond_true]
      rw [show (7 : Int) - (m : Int) = ((7 - m : Nat) : Int) by omega, ← hbl]
      refine ⟨by rw [IntWalk.i64_in _ (by omega), IntWalk.u64_in _ (by omega)]; omega, ?_⟩
      rw [size_eq' l.length m (by omega) h8]
      refine OwnB.push O (Sha.sizeB l.length m) (by simp; omega) fun s3 w3 O3 => ?_
      rw [List.append_assoc _ _ [Sha.sizeB l.length m], show (List.range m).map (Sha.sizeB l.length) ++ [Sha.sizeB l.length m] = (List.range (m + 1)).map (Sha.sizeB l.length) by rw [List.range_succ]; simp] at O3
      rw [IntWalk.i64_in _ (by omega)]
      exact ⟨⟨m + 1, by omega, by omega, O3⟩, by show ((((7 - m : Nat) : Int) - 1) + 1).toNat < (((7 - m : Nat) : Int) + 1).toNat; omega⟩
    · obtain rfl : m = 8 := by omega
      rw [show decide ((7 : Int) - ((8 : Nat) : Int) ≥ 0) = false from rfl, cond_false]
      refine k s w1 ?_
      have e : l ++ Sha.pad l.length = l ++ 128 :: List.replicate (Sha.zeros l.length) 0 ++ (List.range 8).map (Sha.sizeB l.length) := by simp [Sha.pad, Sha.size8]
      rw [e]; exact O
end Go.Proofs.YtlbhilhfbbocfaaDoor.G

set_option linter.unusedVariables false
set_option linter.unusedSimpArgs false
namespace Sha
theorem or8n (a b : Nat) (h : b < 256) : a <<< 8 ||| b = a * 256 + b := by
  rw [← Nat.shiftLeft_add_eq_or_of_lt (by simpa using h : b < 2 ^ 8), Nat.shiftLeft_eq]
theorem wordNat (a b c d : Nat) (hb : b < 256) (hc : c < 256) (hd : d < 256) : a <<< 24 ||| b <<< 16 ||| c <<< 8 ||| d = ((a * 256 + b) * 256 + c) * 256 + d := by
  have e1 : a <<< 24 ||| b <<< 16 = (a * 256 + b) <<< 16 := by
    rw [← or8n a b hb, Nat.shiftLeft_or_distrib, ← Nat.shiftLeft_add]
  have e2 : (a * 256 + b) <<< 16 ||| c <<< 8 = ((a * 256 + b) * 256 + c) <<< 8 := by
    rw [← or8n _ c hc, Nat.shiftLeft_or_distrib, ← Nat.shiftLeft_add]
  rw [e1, e2, or8n _ d hd]
/-- a word, byte for byte -/
def acc (b : List UInt8) (t : Nat) : Nat → UInt32
  | 0 => 0
  | k + 1 => acc b t k * 256 + byteAt b (4 * t + k)
theorem acc_word (b : List UInt8) (t : Nat) : acc b t 4 = word b t := by
  apply UInt32.toNat_inj.1
  have hb : ∀ i, (byteAt b i).toNat < 256 := fun i => by
    have := (b.getD i 0).toNat_lt
    show ((b.getD i 0).toUInt32).toNat < 256
    rw [UInt8.toNat_toUInt32]; omega
  have h0 := hb (4 * t)
  have h1 := hb (4 * t + 1)
  have h2 := hb (4 * t + 2)
  have h3 := hb (4 * t + 3)
  simp only [acc, word, Nat.add_zero]
  generalize byteAt b (4 * t) = x0 at *
  generalize byteAt b (4 * t + 1) = x1 at *
  generalize byteAt b (4 * t + 2) = x2 at *
  generalize byteAt b (4 * t + 3) = x3 at *
  simp only [UInt32.toNat_or, UInt32.toNat_shiftLeft, UInt32.toNat_add, UInt32.toNat_mul]
  have e24 : (24 : UInt32).toNat % 32 = 24 := rfl
  have e16 : (16 : UInt32).toNat % 32 = 16 := rfl
  have e8 : (8 : UInt32).toNat % 32 = 8 := rfl
  have e256 : (256 : UInt32).toNat = 256 := rfl
  have e0 : (0 : UInt32).toNat = 0 := rfl
  rw [e24, e16, e8, e256, e0]
  rw [show x0.toNat <<< 24 % 2 ^ 32 = x0.toNat <<< 24 by rw [Nat.shiftLeft_eq]; omega, show x1.toNat <<< 16 % 2 ^ 32 = x1.toNat <<< 16 by rw [Nat.shiftLeft_eq]; omega,
    show x2.toNat <<< 8 % 2 ^ 32 = x2.toNat <<< 8 by rw [Nat.shiftLeft_eq]; omega, wordNat _ _ _ _ h1 h2 h3]
  omega
end Sha
namespace Go.Proofs.YtlbhilhfbbocfaaDoor.G
open Go Go.VC Go.RowKit Go.Proofs Go.Proofs.YtlbhilhfbbocfaaDoor
/-- the document's turn -/
theorem refTurn_does (x : UInt32) (n : Nat) (h1 : 1 ≤ n) (h2 : n ≤ 31) (w : World) : Does Tryd.prog 61 #[.int .u32 (x.toNat : Int), .int .u64 (n : Int)] w fun v w' => v = wordV (Sha.rotr x n) ∧ w' = w := by
  refine F61_does _ _ _ _ ?_
  unfold F61
  have e : IntKind.wrap .u64 (32 - (n : Int)) = ((32 - n : Nat) : Int) := by rw [IntWalk.u64_in _ (by omega)]; omega
  rw [e, shr32 _ _ (by omega), shl32 _ _ (by omega), or32]
  refine ⟨by omega, by omega, ?_, rfl⟩
  rw [UInt32.or_comm]
  rfl
/-- the document's keys -/
theorem keys_does (w : World) {Q : Value → World → Prop} (k : ∀ (b : Nat) (w' : World), b = w.heap.size → Ext w w' → Blk w' b 22 (words Sha.K) → Q (.slice (some ⟨b, 0, none⟩) 64 64) w') : Does Tryd.prog 60 #[] w Q := by
  refine F60_does _ _ ?_
  unfold F60
  refine allocK_intro fun b w1 e B X z => ?_
  exact k b w1 e X (by exact B)
theorem add4 (a b c d : UInt32) : a + b + c + d = d + b + c + a := by ac_rfl
theorem slT54 : SlT Tryd.prog 111 22 1 4 := ⟨by kernel_rfl, by kernel_rfl, by decide⟩
theorem oneC_word (l : List UInt32) : ∀ u ∈ l.map wordV, oneC u = true := by
  intro u hu
  obtain ⟨c, _, rfl⟩ := List.mem_map.1 hu
  rfl
/-- a row of words of the call's own, made behind the world w0 -/
def OwnW (w0 w : World) (s : Sl) (bs : List UInt32) : Prop := Ext w0 w ∧ w.ownsRow w0.heap.size 22 1 s.v bs.length (bs.map wordV)
theorem OwnW.nil (w : World) : OwnW w w ⟨none, 0, 0⟩ [] := ⟨Ch.refl _ w, by simp, .inl ⟨rfl, rfl⟩⟩
theorem OwnW.len {w0 w : World} {s : Sl} {bs : List UInt32} (h : OwnW w0 w s bs) : s.len = bs.length := (sees_of_own h.2).2.1
theorem OwnW.sees {w0 w : World} {s : Sl} {bs : List UInt32} (h : OwnW w0 w s bs) : Sees w s 1 (bs.map wordV) := (sees_of_own h.2).1
theorem OwnW.ext {w0 w w' : World} {s : Sl} {bs : List UInt32} (h : OwnW w0 w s bs) (X : Ext w w') : OwnW w0 w' s bs := ⟨h.1.ext X, own_ch h.2 X fun _ _ h => h⟩
theorem OwnW.push {w0 w : World} {s : Sl} {bs : List UInt32} (h : OwnW w0 w s bs) (c : UInt32) (hn : bs.length ≤ 1000000) {K : Sl → World → Prop} (k : ∀ (s' : Sl) (w' : World), OwnW w0 w' s' (bs ++ [c]) → K s' w') :
    allocK w #[.int .u32 (c.toNat : Int)] 22 fun a w1 => runG .sl Tryd.prog w1 (Builtin.append_ #[111, 111] 111 #[.slice s.a s.len s.cap, .slice (some a) 1 1]) K := by
  obtain ⟨X, ho⟩ := h
  refine allocK_intro fun b w1 e B X1 z => ?_
  have ho1 : w1.ownsRow w0.heap.size 22 1 s.v bs.length (bs.map wordV) := own_ch ho X1 fun _ _ h => h
  have hx : Sees w1 ⟨some ⟨b, 0, none⟩, 1, 1⟩ 1 ([c].map wordV) := by
    have := sees_blk B (n := 1) rfl (by decide)
    exact this
  have X1' := X.ext X1
  refine app_own (s := s) slT54 ho1 hx (oneC_word [c]) (by show (bs.length + 1) * 4 ≤ _; omega) (Nat.le_trans (by show bs.length + 1 ≤ 2000000; omega) (by decide)) X1'.size fun s2 w2 ho2 hg2 => ?_
  refine k s2 w2 ⟨X1'.grown hg2 fun k e2 hk => by have := (ho1.lt k e2).1; omega, ?_⟩
  rw [List.map_append, List.length_append]; exact ho2
def ws (b : List UInt8) (m : Nat) : List UInt32 := (List.range m).map (Sha.W b)
@[simp] theorem ws_length (b : List UInt8) (m : Nat) : (ws b m).length = m := by simp [ws]
theorem ws_succ (b : List UInt8) (m : Nat) : ws b m ++ [Sha.W b m] = ws b (m + 1) := by simp [ws, List.range_succ]
theorem ws_get (b : List UInt8) {m j : Nat} (h : j < m) : ((ws b m).map wordV)[j]? = some (.int .u32 ((Sha.W b j).toNat : Int)) := by simp [ws, h, wordV]
theorem accStep (b : List UInt8) (m q : Nat) : IntKind.wrap .u32 (IntKind.wrap .u32 (((Sha.acc b m q).toNat : Int) * 256) + IntKind.wrap .u32 ((b.getD (4 * m + q) 0).toNat : Int)) = ((Sha.acc b m (q + 1)).toNat : Int) := by
  have := mul32 (Sha.acc b m q) 256
  rw [show ((256 : UInt32).toNat : Int) = 256 from rfl] at this
  rw [this, wrap32_8, add32]
  rfl
set_option maxHeartbeats 1000000 in
theorem words_does (b : List UInt8) (hb : b.length = 64) (s : Sl) (w : World) (hs : Sees w s 1 (b.map byteV)) {Q : Value → World → Prop}
    (k : ∀ (t : Sl) (w' : World), OwnW w w' t (ws b 64) → Q (.slice t.a t.len t.cap) w') : Does Tryd.prog 59 #[.slice s.a s.len s.cap] w Q := by
  refine F59_does _ _ _ ?_
  unfold F59
  have hbl := hs.len
  simp only [List.length_map, Nat.mul_one] at hbl
  refine ⟨fun t x w' => ∃ m : Nat, x = m ∧ m ≤ 16 ∧ OwnW w w' t (ws b m), fun t x _ => (16 - x).toNat, ⟨0, rfl, by omega, OwnW.nil w⟩, ?_⟩
  rintro t x w1 ⟨m, rfl, hm, O⟩
  by_cases h16 : m < 16
  · rw [show decide ((m : Int) < 16) = true from dlt h16, cond_true]
    refine ⟨fun x q w' => ∃ j : Nat, q = j ∧ j ≤ 4 ∧ x = ((Sha.acc b m j).toNat : Int) ∧ w' = w1, fun x q _ => (4 - q).toNat, ⟨0, rfl, by omega, rfl, rfl⟩, ?_⟩
    rintro x q w2 ⟨j, rfl, hj, rfl, rfl⟩
    by_cases h4 : j < 4
    · rw [show decide ((j : Int) < 4) = true from dlt h4, cond_true]
      rw [IntWalk.i64_in (4 * (m : Int)) (by omega), IntWalk.i64_in (4 * (m : Int) + (j : Int)) (by omega), IntWalk.i64_in ((j : Int) + 1) (by omega)]
      have hg : (b.map byteV)[(4 * (m : Int) + (j : Int)).toNat]? = some (.int .u8 ((b.getD (4 * m + j) 0).toNat : Int)) := by
        have h1 : 4 * m + j < b.length := by omega
        rw [show (4 * (m : Int) + (j : Int)).toNat = 4 * m + j by omega]
        simp [byteV, h1]
      refine (hs.ext O.1).idx1 (by omega) (by omega) hg fun a ha _ => ?_
      refine ldT_cell _ ha ?_
      rw [accStep]
      exact ⟨⟨j + 1, by omega, by omega, rfl, rfl⟩, by show ((4 : Int) - ((j : Int) + 1)).toNat < ((4 : Int) - (j : Int)).toNat; omega⟩
    · obtain rfl : j = 4 := by omega
      rw [show decide (((4 : Nat) : Int) < 4) = false from rfl, cond_false]
      rw [Sha.acc_word, ← Sha.W_low b h16]
      refine OwnW.push O (Sha.W b m) (by simp; omega) fun t' w3 O3 => ?_
      rw [ws_succ] at O3
      rw [IntWalk.i64_in _ (by omega)]
      exact ⟨⟨m + 1, by omega, by omega, O3⟩, by show ((16 : Int) - ((m : Int) + 1)).toNat < ((16 : Int) - (m : Int)).toNat; omega⟩
  · obtain rfl : m = 16 := by omega
    rw [show decide (((16 : Nat) : Int) < 16) = false from rfl, cond_false]
    refine ⟨fun t x w' => ∃ m : Nat, x = m ∧ 16 ≤ m ∧ m ≤ 64 ∧ OwnW w w' t (ws b m), fun t x _ => (64 - x).toNat, ⟨16, rfl, by omega, by omega, O⟩, ?_⟩
    clear O h16 hm w1 t
    rintro t x w1 ⟨m, rfl, hm, hm2, O⟩
    by_cases h64 : m < 64
    · rw [show decide ((m : Int) < 64) = true from dlt h64, cond_true]
      have hl : t.len = m := by rw [O.len]; simp
      have S := O.sees.drew
      rw [IntWalk.i64_in ((m : Int) - 15) (by omega), IntWalk.i64_in ((m : Int) - 2) (by omega), IntWalk.i64_in ((m : Int) - 7) (by omega), IntWalk.i64_in ((m : Int) - 16) (by omega), IntWalk.i64_in ((m : Int) + 1) (by omega)]
      have g15 : ((ws b m).map wordV)[((m : Int) - 15).toNat]? = some (.int .u32 ((Sha.W b (m - 15)).toNat : Int)) := by rw [show ((m : Int) - 15).toNat = m - 15 by omega]; exact ws_get b (by omega)
      have g2 : ((ws b m).map wordV)[((m : Int) - 2).toNat]? = some (.int .u32 ((Sha.W b (m - 2)).toNat : Int)) := by rw [show ((m : Int) - 2).toNat = m - 2 by omega]; exact ws_get b (by omega)
      have g7 : ((ws b m).map wordV)[((m : Int) - 7).toNat]? = some (.int .u32 ((Sha.W b (m - 7)).toNat : Int)) := by rw [show ((m : Int) - 7).toNat = m - 7 by omega]; exact ws_get b (by omega)
      have g16 : ((ws b m).map wordV)[((m : Int) - 16).toNat]? = some (.int .u32 ((Sha.W b (m - 16)).toNat : Int)) := by rw [show ((m : Int) - 16).toNat = m - 16 by omega]; exact ws_get b (by omega)
      refine S.idx1 (by omega) (by omega) g15 fun a1 c1 _ => ldT_cell _ c1 ?_
      refine S.idx1 (by omega) (by omega) g15 fun a2 c2 _ => ldT_cell _ c2 ?_
      refine S.idx1 (by omega) (by omega) g15 fun a3 c3 _ => ldT_cell _ c3 ⟨by decide, ?_⟩
      refine (refTurn_does _ 7 (by omega) (by omega) _).mono ?_
      rintro _ _ ⟨rfl, rfl⟩
      refine ⟨_, rfl, c3, c2, ?_⟩
      refine (refTurn_does _ 18 (by omega) (by omega) _).mono ?_
      rintro _ _ ⟨rfl, rfl⟩
      refine ⟨_, rfl, c3, ?_⟩
      refine S.drew.idx1 (by omega) (by omega) g2 fun a4 c4 _ => ldT_cell _ c4 ?_
      refine S.drew.idx1 (by omega) (by omega) g2 fun a5 c5 _ => ldT_cell _ c5 ?_
      refine S.drew.idx1 (by omega) (by omega) g2 fun a6 c6 _ => ldT_cell _ c6 ⟨by decide, ?_⟩
      refine (refTurn_does _ 17 (by omega) (by omega) _).mono ?_
      rintro _ _ ⟨rfl, rfl⟩
      refine ⟨_, rfl, c6, c5, ?_⟩
      refine (refTurn_does _ 19 (by omega) (by omega) _).mono ?_
      rintro _ _ ⟨rfl, rfl⟩
      refine ⟨_, rfl, c6, ?_⟩
      refine S.drew.drew.idx1 (by omega) (by omega) g7 fun a7 c7 _ => ldT_cell _ c7 ?_
      refine S.drew.drew.idx1 (by omega) (by omega) g16 fun a8 c8 _ => ldT_cell _ c8 ?_
      rw [xor32, xor32, shr32i _ 3 (by decide) (by decide), shr32i _ 10 (by decide) (by decide), xor32, xor32, wr_add, wr_add, wr_add]
      have eW : Sha.s1 (Sha.W b (m - 2)) + Sha.W b (m - 7) + Sha.s0 (Sha.W b (m - 15)) + Sha.W b (m - 16) = Sha.W b m := by rw [Sha.W_high b hm h64]; exact add4 _ _ _ _
      rw [show (Sha.rotr (Sha.W b (m - 2)) 17 ^^^ Sha.rotr (Sha.W b (m - 2)) 19 ^^^ Sha.W b (m - 2) >>> UInt32.ofNat (Int.toNat 10)) + Sha.W b (m - 7) + (Sha.rotr (Sha.W b (m - 15)) 7 ^^^ Sha.rotr (Sha.W b (m - 15)) 18 ^^^ Sha.W b (m - 15) >>> UInt32.ofNat (Int.toNat 3)) + Sha.W b (m - 16) = Sha.W b m from eW]
      refine OwnW.push (O.ext (((Ch.drew' _ _).drew).drew)) (Sha.W b m) (by simp; omega) fun t' w3 O3 => ?_
      rw [ws_succ] at O3
      exact ⟨⟨m + 1, by omega, by omega, by omega, O3⟩, by show ((64 : Int) - ((m : Int) + 1)).toNat < ((64 : Int) - (m : Int)).toNat; omega⟩
    · obtain rfl : m = 64 := by omega
      rw [show decide (((64 : Nat) : Int) < 64) = false from rfl, cond_false]
      exact k t w1 O
end Go.Proofs.YtlbhilhfbbocfaaDoor.G

set_option linter.unusedVariables false
set_option linter.unusedSimpArgs false
namespace Sha
theorem ch_or (e f g : UInt32) : (e &&& f) ||| (~~~ e &&& g) = ch e f g := by
  unfold ch
  apply UInt32.toBitVec_inj.1
  simp only [UInt32.toBitVec_or, UInt32.toBitVec_xor, UInt32.toBitVec_and, UInt32.toBitVec_not]
  apply BitVec.eq_of_getLsbD_eq
  intro i hi
  simp only [BitVec.getLsbD_or, BitVec.getLsbD_xor, BitVec.getLsbD_and, BitVec.getLsbD_not, hi, decide_true, Bool.true_and]
  cases e.toBitVec.getLsbD i <;> cases f.toBitVec.getLsbD i <;> cases g.toBitVec.getLsbD i <;> rfl
theorem maj_or (a b c : UInt32) : (a &&& b) ||| (a &&& c) ||| (b &&& c) = maj a b c := by
  unfold maj
  apply UInt32.toBitVec_inj.1
  simp only [UInt32.toBitVec_or, UInt32.toBitVec_xor, UInt32.toBitVec_and]
  apply BitVec.eq_of_getLsbD_eq
  intro i hi
  simp only [BitVec.getLsbD_or, BitVec.getLsbD_xor, BitVec.getLsbD_and]
  cases a.toBitVec.getLsbD i <;> cases b.toBitVec.getLsbD i <;> cases c.toBitVec.getLsbD i <;> rfl
end Sha
namespace Go.Proofs.YtlbhilhfbbocfaaDoor.G
open Go Go.VC Go.RowKit Go.Proofs Go.Proofs.YtlbhilhfbbocfaaDoor
theorem not32' (a : UInt32) : IntKind.wrap .u32 (4294967295 - (a.toNat : Int)) = ((~~~ a).toNat : Int) := by
  have := u32_lt a
  rw [IntKind.wrap_u32, UInt32.toNat_not]
  simp only [UInt32.size]
  omega
set_option maxHeartbeats 1000000 in
theorem refBlock_does (s : Sha.St) (b : List UInt8) (hb : b.length = 64) (t : Sl) (w : World) (hs : Sees w t 1 (b.map byteV)) {Q : Value → World → Prop} (k : ∀ w', Ext w w' → Q (.agg (stV (Sha.block s b))) w') :
    Does Tryd.prog 47 #[.agg #[.int .u32 (s.a.toNat : Int), .int .u32 (s.b.toNat : Int), .int .u32 (s.c.toNat : Int), .int .u32 (s.d.toNat : Int), .int .u32 (s.e.toNat : Int), .int .u32 (s.f.toNat : Int), .int .u32 (s.g.toNat : Int), .int .u32 (s.h.toNat : Int)], .slice t.a t.len t.cap] w Q := by
  generalize hz : Sha.block s b = z at k
  refine F47_does _ _ _ _ _ _ _ _ _ _ _ ?_
  unfold F47
  refine allocK_intro fun b1 w1 e1 B1 X1 z1 => ?_
  refine allocK_intro fun b2 w2 e2 B2 X2 z2 => ?_
  rw [zc44] at B2
  have X12 := X1.ext X2
  refine words_does b hb t w2 (hs.ext X12) fun t7 w3 O => ?_
  refine ⟨_, rfl, ?_⟩
  refine keys_does w3 fun b4 w4 e4 X4 B4 => ?_
  refine ⟨⟨some ⟨b4, 0, none⟩, 64, 64⟩, rfl, ?_⟩
  have X24 : Ext w2 w4 := O.1.ext X4
  have X := X12.ext X24
  replace B1 : Blk w4 b1 88 (stV s) := ((show Blk w1 b1 88 (stV s) from B1).ext X2).ext X24
  replace B2 := B2.ext X24
  have S := (O.ext X4).sees
  have hl7 : t7.len = 64 := by rw [O.len]; simp
  have S4 := sees_blk B4 (n := 64) rfl (by decide)
  have hb2 : w.heap.size ≤ b2 := by omega
  clear O X1 X2 X12 X24 X4 B4 e1 e2 e4 z1 z2 hs w1 w2 w3
  simp only [add_mk, Nat.zero_add]
  have D1 := B1.drew
  refine idxR_intro (by omega) (by omega) (ldT_blk D1 _ rfl (idxR_intro (by omega) (by omega) (ldT_blk D1 _ rfl (idxR_intro (by omega) (by omega) (ldT_blk D1 _ rfl (idxR_intro (by omega) (by omega) (ldT_blk D1 _ rfl ?_)))))))
  refine idxR_intro (by omega) (by omega) (ldT_blk D1 _ rfl (idxR_intro (by omega) (by omega) (ldT_blk D1 _ rfl (idxR_intro (by omega) (by omega) (ldT_blk D1 _ rfl (idxR_intro (by omega) (by omega) (ldT_blk D1 _ rfl ?_)))))))
  refine ⟨fun x1 x2 x3 x4 x5 x6 x7 x8 y w' => ∃ m : Nat, y = m ∧ m ≤ 64 ∧ Ext w4 w' ∧ x1 = ((Sha.rounds b s m).a.toNat : Int) ∧ x2 = ((Sha.rounds b s m).b.toNat : Int) ∧ x3 = ((Sha.rounds b s m).c.toNat : Int) ∧ x4 = ((Sha.rounds b s m).d.toNat : Int) ∧
      x5 = ((Sha.rounds b s m).e.toNat : Int) ∧ x6 = ((Sha.rounds b s m).f.toNat : Int) ∧ x7 = ((Sha.rounds b s m).g.toNat : Int) ∧ x8 = ((Sha.rounds b s m).h.toNat : Int), fun _ _ _ _ _ _ _ _ y _ => (64 - y).toNat,
    ⟨0, rfl, by omega, Ch.drew' _ w4, rfl, rfl, rfl, rfl, rfl, rfl, rfl, rfl⟩, ?_⟩
  rintro x1 x2 x3 x4 x5 x6 x7 x8 y w5 ⟨m, rfl, hm, XL, rfl, rfl, rfl, rfl, rfl, rfl, rfl, rfl⟩
  by_cases hlt : m < 64
  · rw [show decide ((m : Int) < 64) = true from dlt hlt, cond_true]
    generalize hst : Sha.rounds b s m = st
    have SK : ((words Sha.K).toList)[((m : Int)).toNat]? = some (.int .u32 ((Sha.K.getD m 0).toNat : Int)) := by
      have hk : m < Sha.K.length := hlt
      rw [Int.toNat_natCast]; simp [words, wordV, hk]
    have SW : ((ws b 64).map wordV)[((m : Int)).toNat]? = some (.int .u32 ((Sha.W b m).toNat : Int)) := by rw [Int.toNat_natCast]; exact ws_get b hlt
    refine (S4.ext XL).drew.idx1 (by omega) (by show (m : Int) < ((64 : Nat) : Int); omega) SK fun a1 c1 _ => ldT_cell _ c1 ?_
    refine (S.ext XL).drew.idx1 (by omega) (by omega) SW fun a2 c2 _ => ldT_cell _ c2 ?_
    refine (refTurn_does _ 6 (by omega) (by omega) _).mono ?_
    rintro _ _ ⟨rfl, rfl⟩
    refine ⟨_, rfl, c2, c1, ?_⟩
    refine (refTurn_does _ 11 (by omega) (by omega) _).mono ?_
    rintro _ _ ⟨rfl, rfl⟩
    refine ⟨_, rfl, c2, c1, ?_⟩
    refine (refTurn_does _ 25 (by omega) (by omega) _).mono ?_
    rintro _ _ ⟨rfl, rfl⟩
    refine ⟨_, rfl, c2, c1, ?_⟩
    refine (refTurn_does _ 2 (by omega) (by omega) _).mono ?_
    rintro _ _ ⟨rfl, rfl⟩
    refine ⟨_, rfl, ?_⟩
    refine (refTurn_does _ 13 (by omega) (by omega) _).mono ?_
    rintro _ _ ⟨rfl, rfl⟩
    refine ⟨_, rfl, ?_⟩
    refine (refTurn_does _ 22 (by omega) (by omega) _).mono ?_
    rintro _ _ ⟨rfl, rfl⟩
    refine ⟨_, rfl, ?_⟩
    simp only [not32', xor32, and32, or32, wr_add, Sha.ch_or, Sha.maj_or]
    rw [IntWalk.i64_in ((m : Int) + 1) (by omega)]
    have e1 : Sha.rounds b s (m + 1) = Sha.rnd b st m := by rw [← hst]; rfl
    refine ⟨⟨m + 1, by omega, by omega, XL.drew, ?_, ?_, ?_, ?_, ?_, ?_, ?_, ?_⟩, by show ((64 : Int) - ((m : Int) + 1)).toNat < ((64 : Int) - (m : Int)).toNat; omega⟩ <;> rw [e1] <;> rfl
  · obtain rfl : m = 64 := by omega
    rw [show decide (((64 : Nat) : Int) < 64) = false from rfl, cond_false]
    have hz' : z = s.add (Sha.rounds b s 64) := hz.symm
    generalize Sha.rounds b s 64 = st at *
    have D5 := B1.ext XL
    refine idxR_intro (by omega) (by omega) (ldT_blk D5 _ rfl (idxR_intro (by omega) (by omega) (ldT_blk D5 _ rfl (idxR_intro (by omega) (by omega) (ldT_blk D5 _ rfl (idxR_intro (by omega) (by omega) (ldT_blk D5 _ rfl ?_)))))))
    refine idxR_intro (by omega) (by omega) (ldT_blk D5 _ rfl (idxR_intro (by omega) (by omega) (ldT_blk D5 _ rfl (idxR_intro (by omega) (by omega) (ldT_blk D5 _ rfl (idxR_intro (by omega) (by omega) (ldT_blk D5 _ rfl ?_)))))))
    rw [wr_add, wr_add, wr_add, wr_add, wr_add, wr_add, wr_add, wr_add]
    have ez : z = ⟨s.a + st.a, s.b + st.b, s.c + st.c, s.d + st.d, s.e + st.e, s.f + st.f, s.g + st.g, s.h + st.h⟩ := hz'
    clear hz hz'
    generalize s.a + st.a = y1 at *
    generalize s.b + st.b = y2 at *
    generalize s.c + st.c = y3 at *
    generalize s.d + st.d = y4 at *
    generalize s.e + st.e = y5 at *
    generalize s.f + st.f = y6 at *
    generalize s.g + st.g = y7 at *
    generalize s.h + st.h = y8 at *
    subst ez
    refine stL_all (vs := [.int .u32 (y1.toNat : Int), .int .u32 (y2.toNat : Int), .int .u32 (y3.toNat : Int), .int .u32 (y4.toNat : Int), .int .u32 (y5.toNat : Int), .int .u32 (y6.toNat : Int), .int .u32 (y7.toNat : Int), .int .u32 (y8.toNat : Int)]) (B2.ext XL) (by simp) (by simp [oneC]) fun w7 B7 C7 z7 => ?_
    refine ldT_blk B7 _ rfl ?_
    refine ldT_blk B7 _ rfl ?_
    refine ldT_blk B7 _ rfl ?_
    refine ldT_blk B7 _ rfl ?_
    refine ldT_blk B7 _ rfl ?_
    refine ldT_blk B7 _ rfl ?_
    refine ldT_blk B7 _ rfl ?_
    refine ldT_blk B7 _ rfl ?_
    exact k w7 ((X.ext XL).step C7 fun i hi e => by omega)
end Go.Proofs.YtlbhilhfbbocfaaDoor.G

set_option linter.unusedVariables false
set_option linter.unusedSimpArgs false
namespace Go.Proofs.YtlbhilhfbbocfaaDoor.G
open Go Go.VC Go.RowKit Go.Proofs Go.Proofs.YtlbhilhfbbocfaaDoor
attribute [local irreducible] Tryd.prog
section
variable {F : Bs} {w w' : World} {l r : List SP} {s : Sl} {xs : List UInt8} {Q : Value → World → Prop}
theorem imm_sees (hs : Sees w s 1 (xs.map byteV)) : immL (PH.of w) s xs :=
  ⟨by have := hs.len; simpa using this, hs.cap, hs.max, hs.cells.imp id fun ⟨b, o, ha, hx⟩ => ⟨b, o, ha, fun i x hi => ⟨[Sc.enc x], rfl, fun j u hj => by
    cases j with
    | succ j => simp at hj
    | zero =>
      simp at hj; subst hj
      have := hx i (byteV x) (by simp [hi])
      simp only [World.cell?] at this
      simp only [roCell, PH.of, Rep.n, Nat.mul_one, Nat.add_zero]
      cases e : w.heap[b]? with
      | none => rw [e] at this; cases this
      | some O => rw [e] at this; cases O <;> simp_all [byteV, Sc.enc]⟩⟩⟩
theorem sees_imm (H : Heap F w l) (hT : Has l (imm s xs)) : Sees w s 1 (xs.map byteV) := by
  obtain ⟨ro, g, lro, _, h1, h2, h3, h4⟩ := H.get hT
  refine ⟨by simp [h1], h2, h3, h4.imp id fun ⟨b, o, ha, hx⟩ => ⟨b, o, ha, fun j u hj => ?_⟩⟩
  rw [List.getElem?_map] at hj
  cases e : xs[j]? with
  | none => rw [e] at hj; cases hj
  | some x =>
    rw [e] at hj
    obtain rfl : byteV x = u := by simpa using hj
    obtain ⟨cs, hr, hc⟩ := hx j x e
    have hr' : cs = [Sc.enc x] := hr
    subst hr'
    have := roCell.cell lro (hc 0 _ rfl)
    simpa [Rep.n, byteV, Sc.enc] using this
theorem sees_own {e : TypeId} (H : Heap F w l) (hT : Has l (own e s xs)) : Sees w s 1 (xs.map byteV) ∧ ∀ k, s.blk = some k → k < w.heap.size := by
  obtain ⟨ro, g, lro, lg, h1, h2⟩ := H.get hT
  rcases h2 with rfl | ⟨b, cur, ha, hb, h3, h4, h5, hx⟩
  · have : xs = [] := List.length_eq_zero_iff.1 h1
    subst this
    exact ⟨Sees.nil w 1, by simp [Sl.blk]⟩
  · have hw : w.heap[b]? = some (.cells cur e (0, 0)) := lg _ _ hb
    refine ⟨⟨by simp [h1], h3, h4, .inr ⟨b, 0, ha, fun j u hj => ?_⟩⟩, fun k hk => ?_⟩
    · rw [List.getElem?_map] at hj
      cases e1 : xs[j]? with
      | none => rw [e1] at hj; cases hj
      | some x =>
        rw [e1] at hj
        obtain rfl : byteV x = u := by simpa using hj
        obtain ⟨cs, hr, hc⟩ := hx j x e1
        have hr' : cs = [Sc.enc x] := hr
        subst hr'
        have := hc 0 _ rfl
        simp only [Rep.n, Nat.mul_one, Nat.add_zero] at this
        rw [cell_of_row w b _ cur e (0, 0) hw, Nat.zero_add]
        exact this
    · simp only [Sl.blk, ha, Option.map_some, Option.some.injEq] at hk
      subst hk
      exact PH.of_lt hw
theorem sees_rd (H : Heap F w l) (hR : Rd l s xs) : Sees w s 1 (xs.map byteV) := by
  cases hR with
  | i h => exact sees_imm H h
  | o h => exact (sees_own H h).1
theorem _root_.Go.VC.Heap.adopt (H : Heap F w l) (X : Go.VC.Ext w w') (hs : Sees w' s 1 (xs.map byteV)) (hb : ∀ k, s.blk = some k → w.heap.size ≤ k) : Heap F w' (imm s xs :: l) := by
  have hl : xs.length = s.len := by have := hs.len; simpa using this
  have hi := imm_sees hs
  rcases hs.cells with h0 | ⟨b, o, ha, hx⟩
  · exact (H.ext X).add0 fun ro => ⟨hl, hs.cap, hs.max, .inl h0⟩
  · have hbw := hb b (by simp [Sl.blk, ha])
    obtain ⟨ro, h, h1, h2, h3, h4, h5, h6, h7, h8⟩ := H
    have keep : ∀ (x : PH), PH.le x (PH.of w) → PH.le x (PH.of w') := fun x hx i o e => by
      have hi := hx i o e
      show w'.heap[i]? = _
      rw [X.block i (PH.of_lt hi) fun h => h]; exact hi
    have hz : ∀ (x : PH), PH.le x (PH.of w) → x b = none := fun x hx => by
      cases e : x b with
      | none => rfl
      | some o => have := PH.of_lt (hx b o e); omega
    let one : PH := fun k => if k = b then w'.heap[b]? else none
    have lo : PH.le one (PH.of w') := fun k o e => by
      simp only [one] at e
      split at e
      · rename_i hk; subst hk; exact e
      · cases e
    have d1 : PH.disj one h := fun k => by
      by_cases hk : k = b
      · right; rw [hk]; exact hz h h4
      · left; simp [one, hk]
    refine ⟨PH.join ro one, h, h1.trans (PH.le_join_left _ _), PH.disj_join h2 d1, PH.join_le (keep ro h3) lo, keep h h4, ⟨PH.emp, h, fun _ => .inl rfl, PH.emp_le _, PH.le.refl _, ?_, h5.mono (PH.le_join_left _ _) (PH.le.refl _)⟩, X.os.trans h6, X.tape.trans h7, X.output.trans h8⟩
    refine ⟨hl, hs.cap, hs.max, .inr ⟨b, o, ha, fun i x hi => ⟨[Sc.enc x], rfl, fun j u hj => ?_⟩⟩⟩
    cases j with
    | succ j => simp at hj
    | zero =>
      simp at hj; subst hj
      have := hx i (byteV x) (by simp [hi])
      simp only [World.cell?] at this
      simp only [roCell, PH.join, hz ro h3, one, if_pos rfl, Option.none_or, Rep.n, Nat.mul_one, Nat.add_zero]
      cases e : w'.heap[b]? with
      | none => rw [e] at this; cases this
      | some O => rw [e] at this; cases O <;> simp_all [byteV, Sc.enc]
theorem _root_.Go.VC.Heap.turn {b ty ty' : Nat} {cs cs' : List Value} (H : Heap F w l) (C : Ch (· = b) w w') (B : Go.VC.Blk w' b ty' cs'.toArray) (hT : Take l (blk b ty cs) r) : Heap F w' (blk b ty' cs' :: r) := by
  refine (H.take hT).upd C.os C.tape C.output fun ro h1 lro lh d hc => ?_
  have hc' : h1 b = some (.cells cs.toArray ty (0, 0)) := hc
  refine ⟨PH.one b (.cells cs'.toArray ty' (0, 0)), ?_, ?_, ?_, ?_⟩
  · show PH.one b _ b = _
    simp [PH.one]
  · intro k o e
    simp only [PH.one] at e
    split at e
    · rename_i hk; subst hk; cases e; exact B
    · cases e
  · intro k hk
    left
    simp only [PH.one] at hk
    split at hk
    · rename_i hk'; rw [hk', hc']; simp
    · exact absurd rfl hk
  · intro k hk hn
    refine C.block k hk fun e => ?_
    rw [show k = b from e, hc'] at hn; cases hn
@[reducible] def stc (s : Sha.St) : List Value := [.int .u32 (s.a.toNat : Int), .int .u32 (s.b.toNat : Int), .int .u32 (s.c.toNat : Int), .int .u32 (s.d.toNat : Int), .int .u32 (s.e.toNat : Int), .int .u32 (s.f.toNat : Int), .int .u32 (s.g.toNat : Int), .int .u32 (s.h.toNat : Int)]
theorem stA {b ty n : Nat} {cs : List Value} {arr : Array Value} {K : World → Prop} (H : Heap F w l) (hn : cs.length = n) (hv : arr.size = n) (h1 : ∀ v ∈ arr.toList, oneC v = true) (k : ∀ w', Heap F w' (blk b ty arr.toList :: r) → K w') (hT : Take l (blk b ty cs) r := by repeat (first | assumption | constructor)) : stArr w ⟨b, 0, none⟩ arr n K := by
  refine stArr_all (H.Blk hT.has) (by simpa using hn) hv h1 fun w2 B2 C2 z2 => k w2 (H.turn C2 (by simpa using B2) hT)
theorem out_eq' (s : Sha.St) (i : Nat) (hi : i < 32) :
    IntKind.wrap .u8 (Int.fdiv ((s.list.getD (i / 4) 0).toNat : Int) (2 ^ (min (Int.toNat ((IntKind.wrap .u64 (IntKind.wrap .i64 (24 - (IntKind.wrap .i64 (8 * (Int.tmod (i : Int) 4)))))))) (IntKind.bits .u32)))) = ((Sha.outB s i).toNat : Int) := by
  rw [← out_eq s i hi, show Int.tmod (i : Int) 4 = ((i % 4 : Nat) : Int) from tmod_nat i 4, IntWalk.i64_in (8 * ((i % 4 : Nat) : Int)) (by omega), IntWalk.i64_in (24 - 8 * ((i % 4 : Nat) : Int)) (by omega), IntWalk.u64_in _ (by omega)]
def outC (s : Sha.St) (m : Nat) : List UInt8 := (Sha.out s).take m ++ List.replicate (32 - m) 0
theorem outC_set (s : Sha.St) {m : Nat} (h : m < 32) : (outC s m).set m (Sha.outB s m) = outC s (m + 1) := by
  have hl : (Sha.out s).length = 32 := by simp [Sha.out]
  have hm : ((Sha.out s).take m).length = m := by rw [List.length_take]; omega
  rw [outC, outC, List.set_append_right _ _ (by omega), hm, Nat.sub_self, show 32 - m = (32 - (m + 1)) + 1 by omega, List.replicate_succ, List.set_cons_zero, List.take_succ_eq_append_getElem (by omega)]
  simp [Sha.out]
theorem refSum (H : Heap F w l) {b : Sl} (hI : Rd l b xs) (hl : xs.length ≤ 30000) (k : ∀ w', Heap F w' l → Q (.agg (bytes (Sha.sum xs))) w') : Does Tryd.prog 27 #[.slice b.a b.len b.cap] w Q := by
  refine F27_does _ _ _ ?_
  unfold F27
  refine al H (cs := List.replicate 32 (.int .u8 0)) (fun a1 w H => ?_) (by rw [zc24]; rfl)
  refine al H (cs := [.int .u32 0, .int .u32 0, .int .u32 0, .int .u32 0, .int .u32 0, .int .u32 0, .int .u32 0, .int .u32 0]) (fun a3 w H => ?_) (by rw [zc44]; rfl)
  refine st0 H fun w H => sta H fun w H => sta H fun w H => sta H fun w H => sta H fun w H => sta H fun w H => sta H fun w H => sta H fun w H => ?_
  refine padded_does xs b w (sees_rd H hI.t.t) hl fun s w' O => ⟨_, rfl, ?_⟩
  replace H := H.adopt O.1 (s := s) (xs := xs ++ Sha.pad xs.length) O.sees (fun k hk => (O.blk k hk).1)
  clear O
  have hp := Sha.pad_length xs
  have hsum := Sha.sum_fold xs
  have hplen : (xs ++ Sha.pad xs.length).length < 100000 := by simp [Sha.pad, Sha.size8, Sha.zeros]; omega
  generalize xs ++ Sha.pad xs.length = p at *
  have hsl := H.len (s := s) (xs := p)
  have H0 : Heap F w' (blk a3 88 (stc (Sha.fold Sha.init p 0)) :: imm s p :: blk a1 23 (List.replicate 32 (.int .u8 0)) :: l) := H.takes (cs := [blk a3 88 _]) (by repeat constructor)
  refine ⟨fun i w' => ∃ n : Nat, i = ((64 * n : Nat) : Int) ∧ n ≤ p.length / 64 ∧ Heap F w' (blk a3 88 (stc (Sha.fold Sha.init p n)) :: imm s p :: blk a1 23 (List.replicate 32 (.int .u8 0)) :: l), fun i _ => (100000 - i).toNat, ⟨0, rfl, by omega, H0⟩, ?_⟩
  clear H H0
  rintro i w1 ⟨n, rfl, hn, H⟩
  refine dBoth (fun hlt => ?_) (fun hge => ?_)
  · have hlt' : 64 * n < s.len := by omega
    have hfold : Sha.fold Sha.init p (n + 1) = Sha.block (Sha.fold Sha.init p n) ((p.drop (64 * n)).take 64) := rfl
    generalize Sha.fold Sha.init p n = st at *
    replace H := H.drew
    refine ld0 H (lda H (lda H (lda H (lda H (lda H (lda H (lda H ?_)))))))
    rw [i64_id (by omega)]
    refine slcI (xs := p) H (by omega) (by omega) (by omega) fun t H => ?_
    have e64 : (p.drop ((64 * n : Nat) : Int).toNat).take ((((64 * n : Nat) : Int) + 64).toNat - ((64 * n : Nat) : Int).toNat) = (p.drop (64 * n)).take 64 := by
      rw [show (((64 * n : Nat) : Int) + 64).toNat - ((64 * n : Nat) : Int).toNat = 64 by omega, Int.toNat_natCast]
    rw [e64] at H
    refine refBlock_does st _ (by rw [List.length_take, List.length_drop]; omega) t _ (sees_imm H .h) fun w2 X => ⟨_, _, _, _, _, _, _, _, rfl, ?_⟩
    replace H := (H.ext X).tl
    rw [← hfold]
    obtain ⟨st2, e2⟩ : ∃ z, z = Sha.fold Sha.init p (n + 1) := ⟨_, rfl⟩
    rw [← e2]
    refine st0 H fun w H => sta H fun w H => sta H fun w H => sta H fun w H => sta H fun w H => sta H fun w H => sta H fun w H => sta H fun w H => ?_
    refine ⟨⟨n + 1, by omega, by omega, ?_⟩, by dsimp only; omega⟩
    rw [← e2]
    exact H
  · obtain rfl : n = p.length / 64 := by omega
    generalize Sha.fold Sha.init p (p.length / 64) = st at *
    have hl32 : (Sha.out st).length = 32 := by simp [Sha.out]
    refine al H (cs := (outC st 0).map byteV) (fun a4 w H => ?_) (by rw [zc24]; rfl)
    refine ⟨fun i w' => ∃ m : Nat, i = (m : Int) ∧ m ≤ 32 ∧ Heap F w' (blk a4 23 ((outC st m).map byteV) :: blk a3 88 (stc st) :: imm s p :: blk a1 23 (List.replicate 32 (.int .u8 0)) :: l), fun i _ => (32 - i).toNat, ⟨0, rfl, by omega, H⟩, ?_⟩
    clear H
    rintro i w1 ⟨m, rfl, hm, H⟩
    refine dBoth (fun hlt => ?_) (fun hge => ?_)
    · have hm' : m < 32 := by omega
      have eD : IntKind.wrap .i64 (Int.tdiv (m : Int) 4) = ((m / 4 : Nat) : Int) := by
        rw [Int.tdiv_eq_ediv_of_nonneg (by omega), i64_id (by omega)]; omega
      rw [eD]
      refine ⟨by decide, by omega, by omega, ?_⟩
      simp only [Int.toNat_natCast, Nat.mul_one, add_mk, Nat.zero_add]
      refine ldn H (b := a3) (cs := stc st) (x := ((st.list.getD (m / 4) 0).toNat : Int)) ?_ ?_
      · have h8 : m / 4 < st.list.length := by show m / 4 < 8; omega
        show (st.list.map wordV)[m / 4]? = some (wordV (st.list.getD (m / 4) 0))
        rw [List.getElem?_map, List.getD_eq_getElem?_getD, List.getElem?_eq_getElem h8]; rfl
      refine ⟨by decide, by rw [IntKind.wrap_u64]; omega, by omega, by omega, ?_⟩
      rw [out_eq' st m hm']
      refine stn H (b := a4) (cs := (outC st m).map byteV) (by simp [outC, hl32]; omega) fun w H => ?_
      rw [show Value.int .u8 ((Sha.outB st m).toNat : Int) = byteV (Sha.outB st m) from rfl, ← List.map_set, outC_set st hm'] at H
      exact ⟨⟨m + 1, by rw [i64_id (by omega)]; omega, by omega, H⟩, by rw [i64_id (by omega)]; (try dsimp only); omega⟩
    · obtain rfl : m = 32 := by omega
      have e32 : outC st 32 = Sha.out st := by rw [outC, List.take_of_length_le (by omega)]; simp
      rw [e32] at H
      have eb : ((Sha.out st).map byteV).toArray = bytes (Sha.out st) := rfl
      refine ldArr_blk (H.Blk .h) (by simp [hl32]) ?_
      refine stA (b := a1) (cs := List.replicate 32 (.int .u8 0)) H (by simp) (by simp [hl32]) (fun v hv => ?_) fun w H => ?_
      · simp at hv; obtain ⟨x, _, rfl⟩ := hv; rfl
      refine ldArr_blk (H.Blk .h) (by simp [hl32]) ?_
      have := k w (H.tl.tl.tl.tl)
      rw [hsum] at this
      simpa [bytes] using this
theorem refSum_does (xs : List UInt8) (b : Sl) (w : World) (hs : Sees w b 1 (xs.map byteV)) (hl : xs.length ≤ 30000) {Q : Value → World → Prop} (k : ∀ w', Go.VC.Ext w w' → Q (.agg (bytes (Sha.sum xs))) w') : Does Tryd.prog 27 #[.slice b.a b.len b.cap] w Q := by
  have H : Heap (Bs.of w) w [imm b xs] := ⟨PH.of w, PH.emp, PH.le.refl _, PH.disj_emp _, PH.le.refl _, PH.emp_le _, ⟨PH.emp, PH.emp, PH.disj_emp _, PH.le.refl _, PH.le.refl _, imm_sees hs, trivial⟩, rfl, rfl, rfl⟩
  refine refSum H (.i .h) hl fun w' H => k w' ?_
  have B := H.below
  exact ⟨B.os, B.tape, B.output, B.size, fun k hk _ => B.block k hk⟩
end
end Go.Proofs.YtlbhilhfbbocfaaDoor.G

set_option linter.unusedVariables false
set_option linter.unusedSimpArgs false
namespace Go.Proofs.YtlbhilhfbbocfaaDoor.G
open Go Go.VC Go.RowKit Go.Proofs Go.Proofs.YtlbhilhfbbocfaaDoor
attribute [local irreducible] Tryd.prog
def Key : SP := ⟨fun ro _ => ∀ j, j < 64 → roCell ro 1 j = some (.int .u32 ((Sha.K.getD j 0).toNat : Int)), fun hr _ h j hj => roCell.mono hr (h j hj)⟩
def HashAt (b : Nat) (x : Sha.Hs) : SP := blk b 129 (hashV x).toList
section
variable {F : Bs} {w w' : World} {l r : List SP} {s : Sl} {xs : List UInt8} {Q : Value → World → Prop} {hb : Nat} {x : Sha.Hs}
theorem sl_key (H : Heap F w l) (hK : Has l Key) : KeyOk w := by
  obtain ⟨ro, g, lro, lg, h⟩ := H.get hK
  exact fun j hj => roCell.cell lro (h j hj)
theorem cell_ro {b o : Nat} {v : Value} (h : w.cell? ⟨b, o, none⟩ = some v) : roCell (PH.of w) b o = some v := by
  simp only [World.cell?] at h
  simp only [roCell, PH.of]
  cases e : w.heap[b]? with
  | none => rw [e] at h; cases h
  | some O => rw [e] at h; cases O <;> simp_all
theorem key_start (hk : KeyOk w) : Key.p (PH.of w) PH.emp := fun j hj => cell_ro (hk j hj)
theorem _root_.Go.VC.Heap.adoptB {b ty : Nat} {cs : List Value} (H : Heap F w l) (X : Go.VC.Ext w w') (B : Go.VC.Blk w' b ty cs.toArray) (hb : w.heap.size ≤ b) : Heap F w' (blk b ty cs :: l) := by
  have H' : Heap F w (pur True :: l) := H.add0 fun _ => trivial
  refine H'.upd X.os X.tape X.output fun ro h1 lro lh d hc => ?_
  refine ⟨PH.one b (.cells cs.toArray ty (0, 0)), ?_, ?_, ?_, ?_⟩
  · show PH.one b _ b = _
    simp [PH.one]
  · intro k o e
    simp only [PH.one] at e
    split at e
    · rename_i hk; subst hk; cases e; exact B
    · cases e
  · intro k hk
    right
    simp only [PH.one] at hk
    split at hk
    · rename_i hk'; omega
    · exact absurd rfl hk
  · intro k hk hn
    exact X.block k hk fun h => h
theorem ne_imm {b ty : Nat} {cs : List Value} (H : Heap F w (blk b ty cs :: r)) (hI : Has r (imm s xs)) (h0 : xs ≠ []) : s.blk ≠ some b := by
  intro e
  obtain ⟨ro, h, h1, h2, h3, h4, ⟨g1, g2, d, l1, l2, hc, hs⟩, h6⟩ := H
  obtain ⟨g3, l3, i1, i2, i3, i4⟩ := sep.has hI hs
  have hc' : g1 b = some (.cells cs.toArray ty (0, 0)) := hc
  have hlen : 0 < xs.length := List.length_pos_iff.2 h0
  rcases i4 with h | ⟨b', o, ha, hx⟩
  · omega
  · obtain ⟨c1, hr, hcc⟩ := hx 0 xs[0] (by simp [hlen])
    have hr' : c1 = [Sc.enc xs[0]] := hr
    subst hr'
    have := hcc 0 _ rfl
    obtain rfl : b' = b := by simpa [Sl.blk, ha] using e
    rcases h2 b' with h | h
    · simp [roCell, h] at this
    · rw [l1 _ _ hc'] at h; cases h
theorem ne_key {b ty : Nat} {cs : List Value} (H : Heap F w (blk b ty cs :: r)) (hK : Has r Key) : b ≠ 1 := by
  rintro rfl
  obtain ⟨ro, h, h1, h2, h3, h4, ⟨g1, g2, d, l1, l2, hc, hs⟩, h6⟩ := H
  obtain ⟨g3, l3, i⟩ := sep.has hK hs
  have hc' : g1 1 = some (.cells cs.toArray ty (0, 0)) := hc
  have := i 0 (by decide)
  rcases h2 1 with h | h
  · simp [roCell, h] at this
  · rw [l1 _ _ hc'] at h; cases h
theorem hashB (H : Heap F w l) (hT : Has l (HashAt hb x)) : Go.VC.Blk w hb 129 (hashV x) := by have := H.Blk hT; simpa using this
theorem sl_new (H : Heap F w l) (k : ∀ b w', Heap F w' (HashAt b Sha.Hs.new :: l) → Q (.pointer (some ⟨b, 0, none⟩)) w') : Does Tryd.prog 53 #[] w Q :=
  new_does w fun b w' hb X B => k b w' (H.adoptB X (by simpa using B) hb)
theorem sl_write (H : Heap F w l) {t : Sl} {ys : List UInt8} (hT : Take l (HashAt hb x) r) (hI : Has r (imm t ys)) (hK : Has r Key) (hr : x.rest.length = 64) (hn : x.n + ys.length < 9223372036854775807)
    (k : ∀ w', Heap F w' (HashAt hb (x.write ys) :: r) → Q (.tuple #[]) w') : Does Tryd.prog 54 #[.pointer (some ⟨hb, 0, none⟩), .slice t.a t.len t.cap] w Q := by
  replace H := H.take hT
  by_cases e : ys = []
  · subst e
    have hl := H.len (s := t) (xs := ([] : List UInt8)) (.t hI)
    refine F54_does _ _ _ _ ?_
    unfold F54
    refine ⟨fun b1 w' => b1 = t ∧ w' = w, fun _ _ => 0, ⟨rfl, rfl⟩, ?_⟩
    rintro b1 w1 ⟨rfl, rfl⟩
    refine dF (by rw [← hl]; decide) ?_
    exact k w1 H
  · refine (write_does x ys w hb t (hashB H .h) hr (sees_imm H (.t hI)) (ne_imm H hI e) hn (sl_key H (.t hK)) (ne_key H hK)).mono ?_
    rintro _ w' ⟨rfl, C, B⟩
    exact k w' (H.turn C (by simpa using B) .h)
theorem sl_sum (H : Heap F w l) (hT : Has l (HashAt hb x)) (hK : Has l Key) (hr : x.rest.length = 64) (hn : x.n + 1000 < 9223372036854775807) (k : ∀ w', Heap F w' l → Q (.agg (bytes x.sum)) w') : Does Tryd.prog 55 #[.pointer (some ⟨hb, 0, none⟩)] w Q :=
  sum_does x w hb (hashB H hT) hr hn (sl_key H hK) fun w' X => k w' (H.ext X)
end
end Go.Proofs.YtlbhilhfbbocfaaDoor.G
