import Derived.Test.YtaaegmmcnfeiaaaDoorWe
import Derived.Stop.BytesEq
import Derived.Laws.IdiomStrings
set_option linter.unusedVariables false
set_option linter.unusedSimpArgs false
namespace Sha
def dig (n : Nat) : UInt8 := UInt8.ofNat (if n < 10 then 48 + n else 87 + n)
def hexAt (l : List UInt8) (j : Nat) : UInt8 := dig (if j % 2 = 0 then (l.getD (j / 2) 0).toNat / 16 else (l.getD (j / 2) 0).toNat % 16)
def hex (l : List UInt8) : List UInt8 := (List.range 64).map (hexAt l)
end Sha
namespace Go.Proofs.YtaaegmmcnfeiaaaDoor.G
open Go Go.VC Go.RowKit Go.Proofs Go.Proofs.YtaaegmmcnfeiaaaDoor
/-- equal arrays of 32 bytes -/
theorem eqArr {w : World} {x y : Operand} (xs ys : List UInt8) (hx : xs.length = 32) (hy : ys.length = 32) {K : Bool → World → Prop} (k : K (xs == ys) w) :
    runG .bool Tryd.prog w (do eqGuard .eql 24 x y (.agg (bytes xs)) (.agg (bytes ys)); binOp .eql 24 (.agg (bytes xs)) (.agg (bytes ys))) K := by
  refine ⟨.bool (xs == ys), w, ?_, _, rfl, k⟩
  rw [Sem.run_bind, run_eqGuard_agg w .eql 24 x y _ _ (by kernel_rfl)]
  simp only [Result.andThen_ok]
  exact run_eql_bytes w 24 5 32 (by kernel_rfl) (by kernel_rfl) (fun w => by
    have : (Tryd.prog.info? 5).map (·.size) = some 1 := by kernel_rfl
    cases h : Tryd.prog.info? 5 with
    | none => simp [h] at this
    | some i => simp [h] at this; simp [sizeOf, typeInfo, h, this]) xs ys hx hy
theorem nqArr {w : World} {x y : Operand} (xs ys : List UInt8) (hx : xs.length = 32) (hy : ys.length = 32) {K : Bool → World → Prop} (k : K (!(xs == ys)) w) :
    runG .bool Tryd.prog w (do eqGuard .neq 24 x y (.agg (bytes xs)) (.agg (bytes ys)); binOp .neq 24 (.agg (bytes xs)) (.agg (bytes ys))) K := by
  refine ⟨.bool (!(xs == ys)), w, ?_, _, rfl, k⟩
  rw [Sem.run_bind, run_eqGuard_agg w .neq 24 x y _ _ (by kernel_rfl)]
  simp only [Result.andThen_ok]
  rw [run_neq_struct, show (Op.equalIn 10000 24 (.agg (bytes xs)) (.agg (bytes ys))).run Tryd.prog w = .ok (xs == ys) w from run_equalIn_bytes w 9998 24 5 32 (by kernel_rfl) (by kernel_rfl) (fun w => by
    have : (Tryd.prog.info? 5).map (·.size) = some 1 := by kernel_rfl
    cases h : Tryd.prog.info? 5 with
    | none => simp [h] at this
    | some i => simp [h] at this; simp [sizeOf, typeInfo, h, this]) xs ys hx hy]
  rfl
theorem sum_length (x : Sha.Hs) : x.sum.length = 32 := by simp [Sha.Hs.sum, Sha.out]
theorem sumL (l : List UInt8) : (Sha.sum l).length = 32 := sum_length _
/-- Sum of bytes -/
theorem sumF_does (l : List UInt8) (b : Sl) (w : World) (hs : Sees w b 1 (l.map byteV)) (hbk : ∀ k, b.blk = some k → k < w.heap.size) (hn : l.length < 1000000) (hk : KeyOk w) {Q : Value → World → Prop} (k : ∀ w', Ext w w' → Q (.agg (bytes (Sha.sum l))) w') :
    Does Tryd.prog 9 #[.slice b.a b.len b.cap] w Q := by
  refine F9_does _ _ _ ?_
  unfold F9
  refine allocK_intro fun b1 w1 e1 B1 X1 z1 => ?_
  rw [zc24] at B1
  refine new_does w1 fun hb w2 h2 X2 B2 => ?_
  refine ⟨_, rfl, ?_⟩
  have h0 : 0 < w.heap.size := World.block_lt_of_cell? w _ (hk 0 (by decide))
  have hb1 := B1.lt
  have X02 := X1.ext X2
  have hne : b.blk ≠ some hb := fun e => by have := hbk hb e; omega
  refine (write_does Sha.Hs.new l w2 hb b B2 rfl (hs.ext X02) hne (by show 0 + _ < _; omega) (hk.ext X02) (by omega)).mono ?_
  rintro _ w3 ⟨rfl, C3, B3⟩
  refine ⟨rfl, ?_⟩
  have X3 : Ext w w3 := X02.step C3 fun i hi e => by omega
  refine sum_does _ w3 hb B3 (by rw [Sha.Hs.write_rest]; rfl) (by rw [Sha.Hs.write_n]; show 0 + _ + _ < _; omega) (hk.ext X3) fun w4 X4 => ?_
  refine ⟨_, rfl, ?_⟩
  have B14 : Blk w4 b1 24 (bytes (List.replicate 32 0)) := ((B1.ext X2).mono C3 (by omega)).ext X4
  refine stArr_all B14 (by simp) (by simp [sum_length]) (by simpa [bytes] using oneC_byte (Sha.Hs.sum _)) fun w5 B5 C5 z5 => ?_
  refine ldArr_blk B5 (by simp [sum_length]) ?_
  exact k w5 ((X3.ext X4).step C5 fun i hi e => by omega)
def digits : ByteArray := ⟨#[48, 49, 50, 51, 52, 53, 54, 55, 56, 57, 97, 98, 99, 100, 101, 102]⟩
theorem digits_get : ∀ n : Nat, n < 16 → digits[n]? = some (Sha.dig n) := by decide
theorem idxDig {i : Int} {n : Nat} (e : i = n) (h : n < 16) {K : Int → Prop} (k : K ((Sha.dig n).toNat : Int)) : idxS digits i K := by
  subst e
  exact ⟨by omega, _, digits_get n h, k⟩
theorem hi4 (c : UInt8) : Int.fdiv (c.toNat : Int) (2 ^ (min (Int.toNat (4)) (IntKind.bits .u8))) = ((c.toNat / 16 : Nat) : Int) := by
  rw [show ((2 : Int) ^ (min (Int.toNat (4)) (IntKind.bits .u8))) = ((16 : Nat) : Int) from rfl, Int.fdiv_eq_ediv_of_nonneg _ (Int.natCast_nonneg _)]; rfl
theorem lo4 (c : UInt8) : bits .and .u8 (c.toNat : Int) 15 = ((c.toNat % 16 : Nat) : Int) := by
  have := and8 c 15
  rw [show ((15 : UInt8).toNat : Int) = 15 from rfl] at this
  rw [this, UInt8.toNat_and, show (15 : UInt8).toNat = 2 ^ 4 - 1 from rfl, Nat.and_two_pow_sub_one_eq_mod]
theorem zc47 : zc Tryd.prog 47 = bytes (List.replicate 64 0) := by kernel_rfl
theorem idxA_bytes {l : List UInt8} {n i : Nat} (h : i < l.length) (hn : i < n) {K : Int → Prop} (k : K ((l.getD i 0).toNat : Int)) : idxA (.int .u8) (bytes l) n (i : Int) K := by
  refine ⟨by omega, by omega, _, ?_, k⟩
  rw [Int.toNat_natCast]; exact bytes_get h
theorem convBytes {w : World} {b n cap : Nat} {ty : TypeId} {l : List UInt8} (B : Blk w b ty (bytes l)) (hn : l.length = n) {K : ByteArray → Prop} (k : K ⟨l.toArray⟩) : lookS Tryd.prog w (convert 22 9 (.slice (some ⟨b, 0, none⟩) n cap)) K := by
  subst hn
  refine ⟨_, run_convert_bytes_back w 22 9 5 ⟨b, 0, none⟩ cap l (by kernel_rfl) (by kernel_rfl) (by kernel_rfl) (fun j hj => ?_), k⟩
  rw [add_mk, B.cell, Nat.zero_add, bytes_get hj]
  simp [List.getD_eq_getElem?_getD, hj]
set_option maxHeartbeats 1000000 in
theorem hex_does (l : List UInt8) (hl : l.length = 32) (w : World) {Q : Value → World → Prop} (k : ∀ w', Ext w w' → Q (.string ⟨(Sha.hex l).toArray⟩) w') : Does Tryd.prog 19 #[.agg (bytes l)] w Q := by
  refine F19_does _ _ _ ?_
  unfold F19
  refine allocK_intro fun b1 w1 e1 B1 X1 z1 => ?_
  refine allocK_intro fun b2 w2 e2 B2 X2 z2 => ?_
  rw [zc47] at B2
  refine ldArr_blk (B1.ext X2) (by simp [hl]) ?_
  have hb2 : w.heap.size ≤ b2 := by omega
  refine ⟨fun x w' => ∃ m : Nat, x = m ∧ m ≤ 32 ∧ Ext w w' ∧ Blk w' b2 47 (bytes (fill (Sha.hexAt l) 0 64 (2 * m))), fun x _ => (32 - x).toNat, ⟨0, rfl, by omega, X1.ext X2, by rw [fill_zero]; exact B2⟩, ?_⟩
  clear B1 X1 B2 X2 e1 e2 z1 z2 w1 w2
  rintro x w1 ⟨m, rfl, hm, X, B⟩
  by_cases hlt : m < 32
  · rw [show decide ((m : Int) < 32) = true from dlt hlt, cond_true]
    refine idxA_bytes (by omega) hlt ⟨by decide, ?_⟩
    rw [hi4, lo4]
    have hb := (l.getD m 0).toNat_lt
    refine idxDig rfl (by omega) (idxDig rfl (by omega) ?_)
    rw [IntWalk.i64_in (2 * (m : Int)) (by omega), IntWalk.i64_in (2 * (m : Int) + 1) (by omega), IntWalk.i64_in ((m : Int) + 1) (by omega)]
    rw [show (2 * (m : Int)).toNat = 2 * m by omega, show (2 * (m : Int) + 1).toNat = 2 * m + 1 by omega, add_mk, add_mk, Nat.mul_one, Nat.mul_one, Nat.zero_add, Nat.zero_add]
    refine idxR_intro (by omega) (by omega) (stC_blk B.drew (by simp; omega) rfl fun w2 B2 C2 z2 => ?_)
    have h0 : Sha.dig ((l.getD m 0).toNat / 16) = Sha.hexAt l (2 * m) := by unfold Sha.hexAt; rw [if_pos (by omega), show 2 * m / 2 = m by omega]
    have h1 : Sha.dig ((l.getD m 0).toNat % 16) = Sha.hexAt l (2 * m + 1) := by unfold Sha.hexAt; rw [if_neg (by omega), show (2 * m + 1) / 2 = m by omega]
    rw [bytes_set, h0, fill_set _ _ (by omega)] at B2
    refine idxR_intro (by omega) (by omega) (stC_blk B2 (by simp; omega) rfl fun w3 B3 C3 z3 => ?_)
    rw [bytes_set, h1, fill_set _ _ (by omega)] at B3
    exact ⟨⟨m + 1, by omega, by omega, (X.drew.step C2 fun i hi e => by omega).step C3 fun i hi e => by omega, B3⟩, by show ((32 : Int) - ((m : Int) + 1)).toNat < ((32 : Int) - (m : Int)).toNat; omega⟩
  · obtain rfl : m = 32 := by omega
    rw [show decide (((32 : Nat) : Int) < 32) = false from rfl, cond_false]
    rw [fill_all] at B
    refine slcA_intro (by omega) (by omega) (by omega) ?_
    dsimp only
    exact convBytes B (by simp) (k w1 X)
end Go.Proofs.YtaaegmmcnfeiaaaDoor.G
