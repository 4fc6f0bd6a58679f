import Derived.Test.YtaaegmmcnfeiaaaDoorWd
set_option linter.unusedVariables false
set_option linter.unusedSimpArgs false
namespace Go.Proofs.YtaaegmmcnfeiaaaDoor.G
open Go Go.VC Go.RowKit Go.Proofs Go.Proofs.YtaaegmmcnfeiaaaDoor
theorem zc49 : zc Tryd.prog 49 = hashV ⟨⟨0,0,0,0,0,0,0,0⟩, List.replicate 64 0, 0⟩ := by kernel_rfl
theorem new_does (w : World) {Q : Value → World → Prop} (k : ∀ (b : Nat) (w' : World), w.heap.size ≤ b → Ext w w' → Blk w' b 49 (hashV Sha.Hs.new) → Q (.pointer (some ⟨b, 0, none⟩)) w') : Does Tryd.prog 12 #[] w Q := by
  refine F12_does _ _ ?_
  unfold F12
  refine allocK_intro fun b w1 e B X z => ?_
  exact k b w1 (by omega) X B
theorem oneC_hash (x : Sha.Hs) : ∀ v ∈ (hashV x).toList, oneC v = true := by
  intro v hv
  simp only [hashV, hashL, List.mem_append, List.mem_map, List.mem_singleton] at hv
  rcases hv with (⟨_, _, rfl⟩ | ⟨_, _, rfl⟩) | rfl <;> rfl
theorem copy_does (x : Sha.Hs) (w : World) (hb : Nat) (B : Blk w hb 49 (hashV x)) (hr : x.rest.length = 64) {Q : Value → World → Prop}
    (k : ∀ (b : Nat) (w' : World), w.heap.size ≤ b → b ≠ hb → Ext w w' → Blk w' b 49 (hashV x) → Q (.pointer (some ⟨b, 0, none⟩)) w') : Does Tryd.prog 16 #[.pointer (some ⟨hb, 0, none⟩)] w Q := by
  refine F16_does _ _ _ ?_
  unfold F16
  simp only [nnil_some]
  refine ldArr_blk B (hashV_size x hr) ?_
  refine allocK_intro fun b w1 e B1 X z => ?_
  rw [zc49] at B1
  have := B.lt
  refine stArr_all B1 (hashV_size _ (by simp)) (hashV_size x hr) (oneC_hash x) fun w2 B2 C2 z2 => ?_
  exact k b w2 (by omega) (by omega) (X.step C2 fun i hi e => by omega) B2
theorem len_does (x : Sha.Hs) (w : World) (hb : Nat) (B : Blk w hb 49 (hashV x)) (hr : x.rest.length = 64) {Q : Value → World → Prop} (k : Q (.int .i64 (x.n : Int)) w) : Does Tryd.prog 14 #[.pointer (some ⟨hb, 0, none⟩)] w Q := by
  refine F14_does _ _ _ ?_
  unfold F14
  simp only [nnil_some, add_mk, Nat.zero_add]
  exact ldT_blk B _ (hashV_n x hr) k
/-- a slice of a block's bytes, from its begin on -/
theorem sees_blk {w : World} {b n : Nat} {ty : TypeId} {cs : Array Value} (B : Blk w b ty cs) (hn : cs.size = n) (hm : n ≤ maxLen) : Sees w ⟨some ⟨b, 0, none⟩, n, n⟩ 1 cs.toList :=
  ⟨by simp [hn], Nat.le_refl _, hm, .inr ⟨b, 0, rfl, fun j u hj => by rw [B.cell, Nat.zero_add]; simpa using hj⟩⟩
theorem size_eq (n i : Nat) (hn : n < 9223372036854775808) (hi : i < 8) :
    IntKind.wrap .u8 (Int.fdiv (IntKind.wrap .u64 ((IntKind.wrap .u64 (n : Int)) * 8)) (2 ^ (min (Int.toNat ((IntKind.wrap .i64 (56 - (IntKind.wrap .i64 (8 * (i : Int))))))) (IntKind.bits .u64)))) = ((Sha.sizeB n i).toNat : Int) := by
  rw [IntWalk.i64_in (8 * (i : Int)) (by omega), IntWalk.i64_in _ (by omega), IntWalk.u64_in (n : Int) (by omega), show (56 - 8 * (i : Int)).toNat = 56 - 8 * i by omega]
  rw [show min (56 - 8 * i) (IntKind.bits .u64) = 56 - 8 * i by simp [IntKind.bits]; omega]
  have e : IntKind.wrap .u64 ((n : Int) * 8) = ((n * 8 % 2 ^ 64 : Nat) : Int) := by simp [IntKind.wrap, IntKind.bits, IntKind.signed]
  rw [e, show ((2 : Int) ^ (56 - 8 * i)) = ((2 ^ (56 - 8 * i) : Nat) : Int) by simp, Int.fdiv_eq_ediv_of_nonneg _ (Int.natCast_nonneg _), ← Int.natCast_ediv]
  rw [IntKind.wrap_u8]
  simp [Sha.sizeB]
theorem out_eq (s : Sha.St) (i : Nat) (hi : i < 32) :
    IntKind.wrap .u8 (Int.fdiv ((s.list.getD (i / 4) 0).toNat : Int) (2 ^ (min (Int.toNat ((IntKind.wrap .i64 (24 - (IntKind.wrap .i64 (8 * (Int.tmod (i : Int) 4))))))) (IntKind.bits .u32)))) = ((Sha.outB s i).toNat : Int) := by
  rw [show Int.tmod (i : Int) 4 = ((i % 4 : Nat) : Int) from tmod_nat i 4, IntWalk.i64_in (8 * ((i % 4 : Nat) : Int)) (by omega), IntWalk.i64_in _ (by omega), shr32i _ _ (by omega) (by omega), wrap8_32,
    show (24 - 8 * ((i % 4 : Nat) : Int)).toNat = 24 - 8 * (i % 4) by omega]
  rfl
/-- a write of bytes that stand in a block of their own -/
theorem writeB (x : Sha.Hs) (l : List UInt8) (w : World) (hb b n : Nat) (ty : TypeId) (B : Blk w hb 49 (hashV x)) (hr : x.rest.length = 64) (Bb : Blk w b ty (bytes l)) (hl : l.length = n) (hm : n ≤ 1000) (hne : b ≠ hb)
    (hn : x.n + n < 9223372036854775807) (hk : KeyOk w) (h0 : hb ≠ 0) {Q : Value → World → Prop} (k : ∀ w', Ch (· = hb) w w' → Blk w' hb 49 (hashV (x.write l)) → Q (.tuple #[]) w') :
    Does Tryd.prog 13 #[.pointer (some ⟨hb, 0, none⟩), .slice (some ⟨b, 0, none⟩) n n] w Q := by
  refine (write_does x l w hb ⟨some ⟨b, 0, none⟩, n, n⟩ B hr (by have := sees_blk Bb (n := n) (by simpa using hl) (by simp [maxLen]; omega); simpa [bytes] using this) (by simp [Sl.blk]; exact hne) (by omega) hk h0).mono ?_
  rintro _ w' ⟨rfl, C, B'⟩
  exact k w' C B'
def left (b : Nat) (N : Nat) (w : World) : Nat := match w.cell? ⟨b, 72, none⟩ with
  | some (.int .i64 m) => ((N : Int) - m).toNat
  | _ => 0
theorem left_eq {b N : Nat} {w : World} {x : Sha.Hs} (B : Blk w b 49 (hashV x)) (hr : x.rest.length = 64) : left b N w = N - x.n := by
  unfold left
  rw [B.cell, hashV_n x hr]
  show ((N : Int) - (x.n : Int)).toNat = _
  omega
set_option maxHeartbeats 1000000 in
theorem sum_does (x : Sha.Hs) (w : World) (hb : Nat) (B : Blk w hb 49 (hashV x)) (hr : x.rest.length = 64) (hn : x.n + 1000 < 9223372036854775807) (hk : KeyOk w) {Q : Value → World → Prop}
    (k : ∀ w', Ext w w' → Q (.agg (bytes x.sum)) w') : Does Tryd.prog 15 #[.pointer (some ⟨hb, 0, none⟩)] w Q := by
  have h0 : 0 < w.heap.size := World.block_lt_of_cell? w _ (hk 0 (by decide))
  have hlt := B.lt
  refine F15_does _ _ _ ?_
  unfold F15
  refine allocK_intro fun b1 w1 e1 B1 X1 z1 => ?_
  rw [zc24] at B1
  refine copy_does x w1 hb (B.ext X1) hr fun b2 w2 e2 n2 X2 B2 => ?_
  refine ⟨_, rfl, ?_⟩
  refine allocK_intro fun b3 w3 e3 B3 X3 z3 => ?_
  have hb32 : b2 < b3 := by have := B2.lt; omega
  have X03 : Ext w w3 := (X1.ext X2).ext X3
  refine writeB x [128] w3 b2 b3 1 5 (B2.ext X3) hr B3 rfl (by omega) (by omega) (by omega) (hk.ext X03) (by omega) fun w4 C4 B4 => ?_
  refine ⟨rfl, ?_⟩
  have X04 : Ext w w4 := X03.step C4 fun i hi e => by omega
  have B14 : Blk w4 b1 24 (bytes (List.replicate 32 0)) := ((B1.ext X2).ext X3).mono C4 (by omega)
  have hyr : (x.write [128]).rest.length = 64 := by rw [Sha.Hs.write_rest, hr]
  have hyn := x.write_n [128]
  rw [List.length_singleton] at hyn
  have hxs : x.sum = Sha.out (((x.write [128]).write (List.replicate (Sha.zeros x.n) 0)).write (Sha.size8 x.n)).st := by
    rw [Sha.Hs.sum, Sha.pad, ← Sha.Hs.write_append, ← Sha.Hs.write_append]; rfl
  generalize x.write [128] = y at *
  have hb20 : w.heap.size ≤ b2 := by omega
  have hb12 : b1 ≠ b2 := by omega
  have hb10 : w.heap.size ≤ b1 := by omega
  clear B1 B2 B3 C4 X1 X2 X3 X03 e1 e2 e3 z1 z3 w1 w2 w3 hb32
  refine ⟨fun w' => ∃ j : Nat, j ≤ Sha.zeros x.n ∧ Ext w w' ∧ Blk w' b2 49 (hashV (y.write (List.replicate j 0))) ∧ Blk w' b1 24 (bytes (List.replicate 32 0)), left b2 (x.n + 1000), ⟨0, by omega, X04, B4, B14⟩, ?_⟩
  clear X04 B4 B14 w4
  rintro w1 ⟨j, hj, X, B2, B1⟩
  have hvr : (y.write (List.replicate j 0)).rest.length = 64 := by rw [Sha.Hs.write_rest, hyr]
  have hvn := y.write_n (List.replicate j 0)
  rw [List.length_replicate] at hvn
  simp only [nnil_some, add_mk, Nat.zero_add]
  refine ldT_blk B2 _ (hashV_n _ hvr) ⟨by decide, ?_⟩
  rw [show (64 : Int) = ((64 : Nat) : Int) from rfl, tmod_nat, hvn, hyn]
  have hz : Sha.zeros x.n < 64 := by unfold Sha.zeros; omega
  have hz2 : (x.n + 1 + Sha.zeros x.n) % 64 = 56 := by unfold Sha.zeros; omega
  by_cases hlt : j < Sha.zeros x.n
  · have hne : (x.n + 1 + j) % 64 ≠ 56 := by unfold Sha.zeros at hlt; omega
    rw [show ((((x.n + 1 + j) % 64 : Nat) : Int) != 56) = true by simp; omega, cond_true]
    refine allocK_intro fun b3 w2 e3 B3 X2 z3 => ?_
    have := B2.lt
    refine writeB _ [0] w2 b2 b3 1 5 (B2.ext X2) hvr B3 rfl (by omega) (by omega) (by omega) (hk.ext (X.ext X2)) (by omega) fun w3 C3 B3' => ?_
    rw [← Sha.Hs.write_append, ← List.replicate_succ'] at B3'
    refine ⟨rfl, ⟨j + 1, by omega, (X.ext X2).step C3 fun i hi e => by omega, B3', (B1.ext X2).mono C3 hb12⟩, ?_⟩
    rw [left_eq B3' (by rw [Sha.Hs.write_rest, hyr]), left_eq B2 hvr, Sha.Hs.write_n, Sha.Hs.write_n, List.length_replicate, List.length_replicate, hyn]
    omega
  · obtain rfl : j = Sha.zeros x.n := by omega
    rw [show ((((x.n + 1 + Sha.zeros x.n) % 64 : Nat) : Int) != 56) = false by rw [hz2]; rfl, cond_false]
    generalize hv : y.write (List.replicate (Sha.zeros x.n) 0) = v at *
    refine allocK_intro fun b3 w2 e3 B3 X2 z3 => ?_
    rw [zc51] at B3
    have hb2l := B2.lt
    have hb1l := B1.lt
    have hb3 : w.heap.size ≤ b3 := by have := X.size; omega
    have hb32 : b3 ≠ b2 := by omega
    have hb31 : b1 ≠ b3 := by omega
    refine ⟨fun i w' => ∃ m : Nat, i = m ∧ m ≤ 8 ∧ Ext w w' ∧ Blk w' b2 49 (hashV v) ∧ Blk w' b1 24 (bytes (List.replicate 32 0)) ∧ Blk w' b3 51 (bytes (fill (Sha.sizeB x.n) 0 8 m)), fun i _ => (8 - i).toNat,
      ⟨0, rfl, by omega, X.ext X2, B2.ext X2, B1.ext X2, by rw [fill_zero]; exact B3⟩, ?_⟩
    clear X B2 B1 X2 B3 e3 z3 hb1l hb2l w1 w2
    rintro i w1 ⟨m, rfl, hm, X, B2, B1, B3⟩
    by_cases hlt : m < 8
    · rw [show decide ((m : Int) < 8) = true from dlt hlt, cond_true]
      refine ldT_blk (B.ext X) _ (hashV_n _ hr) ⟨by rw [IntWalk.i64_in (8 * (m : Int)) (by omega), IntWalk.i64_in _ (by omega)]; omega, idxR_intro (by omega) (by omega) ?_⟩
      rw [size_eq x.n m (by omega) hlt, Int.toNat_natCast, Nat.mul_one, add_mk, Nat.zero_add]
      refine stC_blk B3 (by simp; omega) rfl fun w2 B3' C2 z2 => ?_
      rw [bytes_set, fill_set _ _ hlt] at B3'
      rw [IntWalk.i64_in _ (by omega)]
      exact ⟨⟨m + 1, by omega, by omega, X.step C2 fun i hi e => by omega, B2.mono C2 (fun e => hb32 e.symm), B1.mono C2 hb31, B3'⟩, by show ((8 : Int) - ((m : Int) + 1)).toNat < ((8 : Int) - (m : Int)).toNat; omega⟩
    · obtain rfl : m = 8 := by omega
      rw [show decide (((8 : Nat) : Int) < 8) = false from rfl, cond_false]
      rw [fill_all] at B3
      refine slcA_intro (by omega) (by omega) (by omega) ?_
      dsimp only
      refine writeB v (Sha.size8 x.n) w1 b2 b3 8 51 B2 hvr B3 rfl (by omega) hb32 (by omega) (hk.ext X) (by omega) fun w2 C2 B2' => ?_
      refine ⟨rfl, ?_⟩
      have X2 : Ext w w2 := X.step C2 fun i hi e => by omega
      have B12 := B1.mono C2 hb12
      have hur : (v.write (Sha.size8 x.n)).rest.length = 64 := by rw [Sha.Hs.write_rest, hvr]
      generalize v.write (Sha.size8 x.n) = u at *
      refine allocK_intro fun b4 w3 e4 B4 X3 z4 => ?_
      rw [zc24] at B4
      have hb2l := B2'.lt
      have hb1l := B12.lt
      have hb4 : w.heap.size ≤ b4 := by have := X2.size; omega
      have hb42 : b2 ≠ b4 := by omega
      have hb41 : b1 ≠ b4 := by omega
      refine ⟨fun i w' => ∃ m : Nat, i = m ∧ m ≤ 32 ∧ Ext w w' ∧ Blk w' b2 49 (hashV u) ∧ Blk w' b1 24 (bytes (List.replicate 32 0)) ∧ Blk w' b4 24 (bytes (fill (Sha.outB u.st) 0 32 m)), fun i _ => (32 - i).toNat,
        ⟨0, rfl, by omega, X2.ext X3, B2'.ext X3, B12.ext X3, by rw [fill_zero]; exact B4⟩, ?_⟩
      clear X B2 B1 X2 B3 e4 z4 hb1l hb2l w1 w2 w3 B2' B12 X3 B4 C2
      rintro i w1 ⟨m, rfl, hm, X, B2, B1, B4⟩
      by_cases hlt : m < 32
      · rw [show decide ((m : Int) < 32) = true from dlt hlt, cond_true]
        have ed : IntKind.wrap .i64 (Int.tdiv (m : Int) 4) = ((m / 4 : Nat) : Int) := by rw [show Int.tdiv (m : Int) 4 = ((m / 4 : Nat) : Int) from rfl, IntWalk.i64_in _ (by omega)]
        refine ⟨by decide, ?_⟩
        rw [ed]
        refine idxR_intro (by omega) (by omega) ?_
        rw [Int.toNat_natCast, Nat.mul_one]
        refine ldT_blk B2 _ (hashV_word u (by omega)) ⟨by decide, ?_, idxR_intro (by omega) (by omega) ?_⟩
        · rw [show Int.tmod (m : Int) 4 = ((m % 4 : Nat) : Int) from tmod_nat m 4, IntWalk.i64_in (8 * ((m % 4 : Nat) : Int)) (by omega), IntWalk.i64_in _ (by omega)]; omega
        · rw [out_eq u.st m hlt, Int.toNat_natCast, Nat.mul_one, add_mk, Nat.zero_add]
          refine stC_blk B4 (by simp; omega) rfl fun w2 B4' C2 z2 => ?_
          rw [bytes_set, fill_set _ _ hlt] at B4'
          rw [IntWalk.i64_in _ (by omega)]
          exact ⟨⟨m + 1, by omega, by omega, X.step C2 fun i hi e => by omega, B2.mono C2 hb42, B1.mono C2 hb41, B4'⟩, by show ((32 : Int) - ((m : Int) + 1)).toNat < ((32 : Int) - (m : Int)).toNat; omega⟩
      · obtain rfl : m = 32 := by omega
        rw [show decide (((32 : Nat) : Int) < 32) = false from rfl, cond_false]
        rw [fill_all, show (List.range 32).map (Sha.outB u.st) = x.sum from hxs.symm] at B4
        have hsl : (bytes x.sum).size = 32 := by rw [hxs]; simp [Sha.out]
        refine ldArr_blk B4 hsl ?_
        refine stArr_all B1 (by simp) hsl (by simpa [bytes] using oneC_byte x.sum) fun w2 B1' C2 z2 => ?_
        refine ldArr_blk B1' hsl ?_
        exact k w2 (X.step C2 fun i hi e => by omega)
end Go.Proofs.YtaaegmmcnfeiaaaDoor.G
