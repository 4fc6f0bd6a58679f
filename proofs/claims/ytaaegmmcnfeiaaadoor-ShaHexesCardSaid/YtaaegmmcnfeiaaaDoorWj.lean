import Derived.Test.YtaaegmmcnfeiaaaDoorWi
set_option linter.unusedVariables false
set_option linter.unusedSimpArgs false
namespace Sha
/-- the digits of the first n bytes -/
def hexN (l : List UInt8) (n : Nat) : List UInt8 := (List.range (2 * n)).map (hexAt l)
theorem hexN_zero (l : List UInt8) : hexN l 0 = [] := rfl
theorem hexN_all (l : List UInt8) : hexN l 32 = hex l := rfl
theorem hexN_succ (l : List UInt8) (n : Nat) : hexN l (n + 1) = hexN l n ++ [dig ((l.getD n 0).toNat / 16), dig ((l.getD n 0).toNat % 16)] := by
  have h0 : hexAt l (2 * n) = dig ((l.getD n 0).toNat / 16) := by unfold hexAt; rw [if_pos (by omega), show 2 * n / 2 = n by omega]
  have h1 : hexAt l (2 * n + 1) = dig ((l.getD n 0).toNat % 16) := by unfold hexAt; rw [if_neg (by omega), show (2 * n + 1) / 2 = n by omega]
  unfold hexN
  rw [show 2 * (n + 1) = 2 * n + 1 + 1 by omega, List.range_succ, List.range_succ, List.map_append, List.map_append, List.append_assoc, List.map_singleton, List.map_singleton, h0, h1]
  rfl
end Sha
namespace Go.Proofs.YtaaegmmcnfeiaaaDoor.G
open Go Go.VC Go.RowKit Go.Proofs Go.Proofs.YtaaegmmcnfeiaaaDoor
theorem digits_cut : ∀ n : Nat, n < 16 → digits.extract n (n + 1) = ⟨#[Sha.dig n]⟩ := by decide
theorem slcS_dig {lo hi : Int} {n : Nat} (e1 : lo = n) (e2 : hi = n + 1) (h : n < 16) {K : ByteArray → Prop} (k : K ⟨#[Sha.dig n]⟩) : slcS digits lo hi K := by
  subst e1 e2
  refine ⟨by omega, ?_, by omega, by omega, ?_⟩
  · show (n : Int) + 1 ≤ 16; omega
  · rw [Int.toNat_natCast, show ((n : Int) + 1).toNat = n + 1 by omega, digits_cut n h]; exact k
theorem hi16 (c : UInt8) : Int.tdiv (c.toNat : Int) 16 = ((c.toNat / 16 : Nat) : Int) := rfl
theorem lo16 (c : UInt8) : Int.tmod (c.toNat : Int) 16 = ((c.toNat % 16 : Nat) : Int) := tmod_nat _ 16
theorem refHex_does (l : List UInt8) (hl : l.length = 32) (w : World) {Q : Value → World → Prop} (k : ∀ w', Ext w w' → Q (.string ⟨(Sha.hex l).toArray⟩) w') : Does Tryd.prog 20 #[.agg (bytes l)] w Q := by
  refine F20_does _ _ _ ?_
  unfold F20
  refine allocK_intro fun b1 w1 e1 B1 X1 z1 => ?_
  refine ⟨fun s i w' => ∃ m : Nat, i = m ∧ m ≤ 32 ∧ s = ⟨(Sha.hexN l m).toArray⟩ ∧ Ext w w' ∧ Blk w' b1 24 (bytes l), fun s i _ => (32 - i).toNat, ⟨0, rfl, by omega, rfl, X1, B1⟩, ?_⟩
  clear X1 B1 z1 e1 w1
  rintro s i w1 ⟨m, rfl, hm, rfl, X, B⟩
  by_cases hlt : m < 32
  · rw [show decide ((m : Int) < 32) = true from dlt hlt, cond_true]
    have hc := (l.getD m 0).toNat_lt
    have hsz : (ByteArray.mk (Sha.hexN l m).toArray).size = 2 * m := by show (Sha.hexN l m).toArray.size = _; simp [Sha.hexN]
    simp only [add_mk, Nat.zero_add, Nat.mul_one, Int.toNat_natCast]
    refine idxR_intro (by omega) (by omega) (ldT_blk B.drew _ (bytes_get (by omega)) ⟨by decide, idxR_intro (by omega) (by omega) (ldT_blk B.drew _ (bytes_get (by omega)) ⟨by decide, ?_⟩)⟩)
    rw [hi16]
    refine slcS_dig (n := (l.getD m 0).toNat / 16) (by rw [IntKind.wrap_u8]; omega) (by rw [IntKind.wrap_u8, IntKind.wrap_u8]; omega) (by omega) ?_
    refine idxR_intro (by omega) (by omega) (ldT_blk B.drew _ (bytes_get (by omega)) ⟨by decide, idxR_intro (by omega) (by omega) (ldT_blk B.drew _ (bytes_get (by omega)) ⟨by decide, ?_⟩)⟩)
    rw [lo16]
    refine slcS_dig (n := (l.getD m 0).toNat % 16) rfl (by rw [IntKind.wrap_u8]; omega) (by omega) ?_
    have happ : (ByteArray.mk (Sha.hexN l m).toArray) ++ ((ByteArray.mk #[Sha.dig ((l.getD m 0).toNat / 16)]) ++ (ByteArray.mk #[Sha.dig ((l.getD m 0).toNat % 16)])) = ByteArray.mk (Sha.hexN l (m + 1)).toArray := by
      rw [Sha.hexN_succ]
      apply ByteArray.ext
      simp
    refine ⟨by show (((1 + 1 : Nat)) : Int) ≤ _; omega, ?_, ?_, ?_⟩
    · rw [hsz]; show ((2 * m + (ByteArray.size _) : Nat) : Int) ≤ _
      rw [show ((ByteArray.mk #[Sha.dig ((l.getD m 0).toNat / 16)]) ++ (ByteArray.mk #[Sha.dig ((l.getD m 0).toNat % 16)])).size = 2 by rw [ByteArray.size_append]; rfl]
      omega
    · rw [happ, IntWalk.i64_in _ (by omega)]
      exact ⟨m + 1, by omega, by omega, rfl, X.drew, B.drew⟩
    · rw [IntWalk.i64_in _ (by omega)]
      show ((32 : Int) - ((m : Int) + 1)).toNat < ((32 : Int) - (m : Int)).toNat; omega
  · obtain rfl : m = 32 := by omega
    rw [show decide (((32 : Nat) : Int) < 32) = false from rfl, cond_false, Sha.hexN_all]
    exact k w1 X
theorem dig_eq_iff (c : UInt8) (k : Nat) (hk : k < 16) : (((Sha.dig k).toNat : Int) == (c.toNat : Int)) = decide (Sha.val c.toNat = k) := by
  by_cases h : Sha.val c.toNat = k
  · have : Sha.dig k = c := by rw [← h]; exact Sha.dig_val c (by omega)
    simp [h, this]
  · have : ¬ ((Sha.dig k).toNat : Int) = (c.toNat : Int) := by
      intro e
      have e2 : Sha.dig k = c := UInt8.toNat_inj.1 (by omega)
      apply h
      rw [← e2]; exact Sha.val_dig k hk
    simp [h]
    intro e; exact this (by omega)
theorem nibAdd (x n : Nat) (hx : x < 16) (hn : n < 16) : IntKind.wrap .u8 (IntKind.wrap .u8 ((x : Int) * 16) + IntKind.wrap .u8 (n : Int)) = ((UInt8.ofNat (16 * x + n)).toNat : Int) := by
  have : (UInt8.ofNat (16 * x + n)).toNat = 16 * x + n := by simp; omega
  rw [this, IntKind.wrap_u8, IntKind.wrap_u8, IntKind.wrap_u8]; omega
set_option maxHeartbeats 1000000 in
theorem refUnhex_does (s : ByteArray) (w : World) {Q : Value → World → Prop} (k : ∀ w', Ext w w' → Q (.tuple #[.agg (bytes (Sha.unhex s).1), .bool (Sha.unhex s).2]) w') : Does Tryd.prog 18 #[.string s] w Q := by
  refine F18_does _ _ _ ?_
  unfold F18
  refine allocK_intro fun b1 w1 e1 B1 X1 z1 => ?_
  refine allocK_intro fun b2 w2 e2 B2 X2 z2 => ?_
  rw [zc24] at B1 B2
  have X := X1.ext X2
  replace B1 := B1.ext X2
  have hb1 : w.heap.size ≤ b1 := by omega
  have hb2 : w.heap.size ≤ b2 := by omega
  have hb12 : b1 ≠ b2 := by omega
  clear X1 X2 e1 e2 z1 w1
  by_cases h64 : s.size = 64
  · rw [show ((s.size : Int) != 64) = false by simp; omega, cond_false]
    refine ⟨fun i w' => ∃ p : Nat, i = p ∧ p ≤ 64 ∧ (∀ i, i < p → Sha.vat s i ≤ 15) ∧ Ext w w' ∧ Blk w' b1 24 (bytes (List.replicate 32 0)) ∧ Blk w' b2 24 (bytes (Sha.nibs s p)), fun i _ => (64 - i).toNat,
      ⟨0, rfl, by omega, by omega, X, B1, by rw [Sha.nibs_zero]; exact B2⟩, ?_⟩
    clear X B1 B2 z2 w2
    rintro i w1 ⟨p, rfl, hp, hall, X, B1, B2⟩
    by_cases hlt : p < 64
    · rw [show decide ((p : Int) < 64) = true from dlt hlt, cond_true]
      have hps : p < s.size := by omega
      have hvat : Sha.vat s p = Sha.val (s[p]'hps).toNat := by
        have e : s[p]? = some (s[p]'hps) := getElem?_pos s p hps
        unfold Sha.vat; rw [e]
      have hidx : s[((p : Int)).toNat]? = some (s[p]'hps) := by rw [Int.toNat_natCast]; exact getElem?_pos s p hps
      generalize (s[p]'hps) = c at *
      refine ⟨fun n j w' => ∃ q : Nat, j = q ∧ q ≤ 16 ∧ n = (if Sha.val c.toNat < q then (Sha.val c.toNat : Int) else -1) ∧ Ext w w' ∧ Blk w' b1 24 (bytes (List.replicate 32 0)) ∧ Blk w' b2 24 (bytes (Sha.nibs s p)), fun n j _ => (16 - j).toNat,
        ⟨0, rfl, by omega, by rw [if_neg (by omega)], X, B1, B2⟩, ?_⟩
      clear X B1 B2
      rintro n j w1 ⟨q, rfl, hq, rfl, X, B1, B2⟩
      by_cases hq16 : q < 16
      · rw [show decide ((q : Int) < 16) = true from dlt hq16, cond_true]
        intro J hJ
        refine idxDig rfl hq16 ⟨by omega, c, hidx, ?_⟩
        dsimp only
        rw [dig_eq_iff c q hq16]
        by_cases hv : Sha.val c.toNat = q
        · rw [decide_eq_true hv, cond_true]
          refine hJ _ _ ⟨?_, ?_⟩
          · rw [IntWalk.i64_in _ (by omega)]
            exact ⟨q + 1, by omega, by omega, by rw [if_pos (by omega), hv], X.drew, B1.drew, B2.drew⟩
          · rw [IntWalk.i64_in _ (by omega)]; show ((16 : Int) - ((q : Int) + 1)).toNat < ((16 : Int) - (q : Int)).toNat; omega
        · rw [decide_eq_false hv, cond_false]
          refine hJ _ _ ⟨?_, ?_⟩
          · rw [IntWalk.i64_in _ (by omega)]
            refine ⟨q + 1, by omega, by omega, ?_, X.drew, B1.drew, B2.drew⟩
            by_cases h : Sha.val c.toNat < q
            · rw [if_pos h, if_pos (by omega)]
            · rw [if_neg h, if_neg (by omega)]
          · rw [IntWalk.i64_in _ (by omega)]; show ((16 : Int) - ((q : Int) + 1)).toNat < ((16 : Int) - (q : Int)).toNat; omega
      · obtain rfl : q = 16 := by omega
        rw [show decide (((16 : Nat) : Int) < 16) = false from rfl, cond_false]
        by_cases hv : Sha.val c.toNat < 16
        · rw [if_pos hv, show decide (((Sha.val c.toNat : Nat) : Int) < 0) = false by simp, cond_false]
          have ed : IntKind.wrap .i64 (Int.tdiv (p : Int) 2) = ((p / 2 : Nat) : Int) := by rw [show Int.tdiv (p : Int) 2 = ((p / 2 : Nat) : Int) from rfl, IntWalk.i64_in _ (by omega)]
          refine ⟨by decide, by decide, ?_⟩
          rw [ed, Int.toNat_natCast, Nat.mul_one, add_mk, Nat.zero_add]
          refine idxR_intro (by omega) (by omega) (ldT_blk B2 _ (bytes_get (by simp; omega)) (idxR_intro (by omega) (by omega) ?_))
          obtain ⟨hx, hset⟩ := Sha.nibs_set s hlt hall (by omega)
          rw [nibAdd _ _ hx hv]
          refine stC_blk B2 (by simp; omega) rfl fun w4 B4 C4 z4 => ?_
          rw [bytes_set, ← hvat, hset] at B4
          refine ⟨?_, ?_⟩
          · rw [IntWalk.i64_in _ (by omega)]
            refine ⟨p + 1, by omega, by omega, fun i hi => ?_, X.step C4 fun i hi e => by omega, B1.mono C4 hb12, B4⟩
            by_cases hi2 : i = p
            · subst hi2; omega
            · exact hall i (by omega)
          · rw [IntWalk.i64_in _ (by omega)]; show ((64 : Int) - ((p : Int) + 1)).toNat < ((64 : Int) - (p : Int)).toNat; omega
        · rw [if_neg hv, show decide ((-1 : Int) < 0) = true from rfl, cond_true]
          rw [z32]
          refine stArr_all B1 (by simp) (by simp) (by simpa [bytes] using oneC_byte (List.replicate 32 0)) fun w4 B4 C4 z4 => ?_
          refine ldArr_blk B4 (by simp) ?_
          have := k w4 (X.step C4 fun i hi e => by omega)
          rw [Sha.unhex_bad (fun hg => hv (by have := hg.2 p hlt; omega))] at this
          exact this
    · obtain rfl : p = 64 := by omega
      rw [show decide (((64 : Nat) : Int) < 64) = false from rfl, cond_false]
      have hu := Sha.unhex_good (s := s) ⟨h64, hall⟩
      refine ldArr_blk B2 (by simp) ?_
      refine stArr_all B1 (by simp) (by simp) (by simpa [bytes] using oneC_byte (Sha.nibs s 64)) fun w4 B4 C4 z4 => ?_
      refine ldArr_blk B4 (by simp) ?_
      have := k w4 (X.step C4 fun i hi e => by omega)
      rw [hu] at this
      exact this
  · rw [show ((s.size : Int) != 64) = true by simp; omega, cond_true]
    refine ldArr_blk B2 (by simp) ?_
    refine stArr_all B1 (by simp) (by simp) (by simpa [bytes] using oneC_byte (List.replicate 32 0)) fun w4 B4 C4 z4 => ?_
    refine ldArr_blk B4 (by simp) ?_
    have := k w4 (X.step C4 fun i hi e => by omega)
    rw [Sha.unhex_bad (fun hg => h64 hg.1)] at this
    exact this
theorem hexes_does (l : List UInt8) (hl : l.length = 32) (s : ByteArray) (w : World) (hk : KeyOk w) {Q : Value → World → Prop} (k : ∀ w', Ext w w' → Q (.bool true) w') : Does Tryd.prog 6 #[.agg (bytes l), .string s] w Q := by
  refine F6_does _ _ _ _ ?_
  unfold F6
  refine allocK_intro fun b1 w1 e1 B1 X1 z1 => ?_
  refine unhex_does s w1 fun w2 X2 => ?_
  refine ⟨_, _, rfl, ?_⟩
  refine fresh32 (Sha.unhex_length s) fun b2 w3 h2 X3 B2 => ?_
  refine refUnhex_does s w3 fun w4 X4 => ?_
  refine ⟨_, _, rfl, ?_⟩
  refine fresh32 (Sha.unhex_length s) fun b3 w5 h3 X5 B3 => ?_
  have X15 := ((X2.ext X3).ext X4).ext X5
  have B15 := (B1.ext X15).drew
  refine ldArr_blk B15 (bytes32 hl) ?_
  refine ldArr_blk B15 (bytes32 hl) ?_
  refine hex_does l hl _ fun w6 X6 => ?_
  refine ⟨_, rfl, ⟨bytes32 hl, fun j v hj => by rw [add_mk, (B15.ext X6).cell, Nat.zero_add]; exact hj⟩, ?_⟩
  refine refHex_does l hl w6 fun w7 X7 => ?_
  refine ⟨_, rfl, ?_⟩
  rw [beq_self_eq_true, cond_true]
  have X57 : Ext w5 w7 := ((Ch.drew' _ w5).ext X6).ext X7
  have X : Ext w w7 := (X1.ext X15).ext X57
  refine ldArr_blk ((B2.ext (X4.ext X5)).ext X57) (bytes32 (Sha.unhex_length s)) ?_
  refine ldArr_blk (B3.ext X57) (bytes32 (Sha.unhex_length s)) ?_
  refine eqArr _ _ (Sha.unhex_length s) (Sha.unhex_length s) ?_
  rw [beq_self_eq_true, cond_true]
  cases hu : (Sha.unhex s).2 with
  | true =>
    rw [show ((ercode true == 0) == true) = true from rfl, cond_true, cond_true]
    refine awake_does w7 (hk.ext X) fun w8 X8 => ?_
    exact ⟨_, rfl, k w8 (X.ext X8)⟩
  | false =>
    rw [show ((ercode false == 0) == false) = true from rfl, cond_true, cond_false, show (ercode false == 3) = true from rfl, cond_true]
    refine awake_does w7 (hk.ext X) fun w8 X8 => ?_
    exact ⟨_, rfl, k w8 (X.ext X8)⟩
end Go.Proofs.YtaaegmmcnfeiaaaDoor.G
