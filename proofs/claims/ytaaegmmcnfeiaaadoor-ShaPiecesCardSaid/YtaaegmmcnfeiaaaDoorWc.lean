import Derived.Test.YtaaegmmcnfeiaaaDoorWb
set_option linter.unusedVariables false
set_option linter.unusedSimpArgs false
namespace Go.Proofs.YtaaegmmcnfeiaaaDoor.G
open Go Go.VC Go.RowKit Go.Proofs Go.Proofs.YtaaegmmcnfeiaaaDoor
theorem sched_cell {w : World} {b4 : Nat} {b : List UInt8} {k j : Nat} (B : Blk w b4 58 (words (sched b k))) (hj : j < k) (hk : k ≤ 64) : w.cell? ⟨b4, j, none⟩ = some (.int .u32 ((Sha.W b j).toNat : Int)) := by
  rw [B.cell, words_get (by simp; omega), sched_get b hj hk]
/-- the rounds: as L1, the schedule whole, and the eight words of now -/
def L3 (w0 : World) (s : Sha.St) (b : List UInt8) (b1 : Nat) (b5 : Nat) (k : Nat) (w : World) : Prop :=
  L1 w0 s b b1 (b1 + 1) (b1 + 2) (b1 + 3) 64 w ∧ Blk w b5 44 (stV (Sha.rounds b s k)) ∧ b1 + 3 < b5
theorem wr_add (a b : UInt32) : IntKind.wrap .u32 ((a.toNat : Int) + (b.toNat : Int)) = ((a + b).toNat : Int) := add32 a b
def mixed8 (h v : List UInt32) (k : Nat) : List UInt32 := (List.range 8).map fun j => if j < k then h.getD j 0 + v.getD j 0 else h.getD j 0
theorem mixed8_set (h v : List UInt32) {k : Nat} (hk : k < 8) : (mixed8 h v k).set k (h.getD k 0 + v.getD k 0) = mixed8 h v (k + 1) := by
  apply List.ext_getElem?
  intro j
  by_cases hj : j = k
  · subst hj; simp [mixed8, hk]
  · rw [List.getElem?_set_ne (by omega)]
    by_cases h8 : j < 8
    · simp only [mixed8, List.getElem?_map, List.getElem?_range h8, Option.map_some]
      congr 1
      by_cases h : j < k
      · rw [if_pos h, if_pos (by omega)]
      · rw [if_neg h, if_neg (by omega)]
    · simp [mixed8, h8]
theorem mixed8_zero (s : Sha.St) (v : List UInt32) : mixed8 s.list v 0 = s.list := rfl
theorem mixed8_all (s v : Sha.St) : mixed8 s.list v.list 8 = (s.add v).list := rfl
theorem mixed8_get (h v : List UInt32) {k : Nat} (hk : k < 8) : (mixed8 h v k).getD k 0 = h.getD k 0 := by simp [mixed8, List.getD_eq_getElem?_getD, hk]
@[simp] theorem mixed8_length (h v : List UInt32) (k : Nat) : (mixed8 h v k).length = 8 := by simp [mixed8]
@[simp] theorem list_length (s : Sha.St) : s.list.length = 8 := rfl
theorem dlt {k n : Nat} (h : k < n) : decide ((k : Int) < (n : Int)) = true := by simp; omega
theorem dge {k n : Nat} (h : ¬ k < n) : decide ((k : Int) < (n : Int)) = false := by simp; omega
theorem block_tail (z : Sha.St) (b1 b3 : Nat) (w106 : World) (l : List UInt32) (hl : l.length = 8) (B1 : Blk w106 b1 44 (stV z)) (B3 : Blk w106 b3 44 (words l)) (Q : Value → World → Prop)
    (hQ : ∀ w', Ch (· = b3) w106 w' → Q (.agg (stV z)) w') (a1 a5 : Addr) (e1 : a1 = ⟨b1, 0, none⟩) (e5 : a5 = ⟨b3, 0, none⟩) :
  (ldT (.int .u32) w106 (a1) fun x112 => ldT (.int .u32) w106 ((a1).add 1) fun x113 => ldT (.int .u32) w106 ((a1).add 2) fun x114 => ldT (.int .u32) w106 ((a1).add 3) fun x115 => ldT (.int .u32) w106 ((a1).add 4) fun x116 => ldT (.int .u32) w106 ((a1).add 5) fun x117 => ldT (.int .u32) w106 ((a1).add 6) fun x118 => ldT (.int .u32) w106 ((a1).add 7) fun x119 =>
              stC w106 (a5) (.int .u32 (x112)) fun w121 => stC w121 ((a5).add 1) (.int .u32 (x113)) fun w122 => stC w122 ((a5).add 2) (.int .u32 (x114)) fun w123 => stC w123 ((a5).add 3) (.int .u32 (x115)) fun w124 => stC w124 ((a5).add 4) (.int .u32 (x116)) fun w125 => stC w125 ((a5).add 5) (.int .u32 (x117)) fun w126 => stC w126 ((a5).add 6) (.int .u32 (x118)) fun w127 => stC w127 ((a5).add 7) (.int .u32 (x119)) fun w128 =>
              ldT (.int .u32) w128 (a5) fun x129 => ldT (.int .u32) w128 ((a5).add 1) fun x130 => ldT (.int .u32) w128 ((a5).add 2) fun x131 => ldT (.int .u32) w128 ((a5).add 3) fun x132 => ldT (.int .u32) w128 ((a5).add 4) fun x133 => ldT (.int .u32) w128 ((a5).add 5) fun x134 => ldT (.int .u32) w128 ((a5).add 6) fun x135 => ldT (.int .u32) w128 ((a5).add 7) fun x136 =>
              Q (.agg #[.int .u32 (x129), .int .u32 (x130), .int .u32 (x131), .int .u32 (x132), .int .u32 (x133), .int .u32 (x134), .int .u32 (x135), .int .u32 (x136)]) w128) := by
  subst e1 e5
  simp only [add_mk, Nat.zero_add]
  refine ldT_blk B1 _ rfl ?_
  refine ldT_blk B1 _ rfl ?_
  refine ldT_blk B1 _ rfl ?_
  refine ldT_blk B1 _ rfl ?_
  refine ldT_blk B1 _ rfl ?_
  refine ldT_blk B1 _ rfl ?_
  refine ldT_blk B1 _ rfl ?_
  refine ldT_blk B1 _ rfl ?_
  refine stL_all (vs := [.int .u32 (z.a.toNat : Int), .int .u32 (z.b.toNat : Int), .int .u32 (z.c.toNat : Int), .int .u32 (z.d.toNat : Int), .int .u32 (z.e.toNat : Int), .int .u32 (z.f.toNat : Int), .int .u32 (z.g.toNat : Int), .int .u32 (z.h.toNat : Int)]) B3 (by simp [hl]) (by simp [oneC]) fun w7 B3' C7 z7 => ?_
  refine ldT_blk B3' _ rfl ?_
  refine ldT_blk B3' _ rfl ?_
  refine ldT_blk B3' _ rfl ?_
  refine ldT_blk B3' _ rfl ?_
  refine ldT_blk B3' _ rfl ?_
  refine ldT_blk B3' _ rfl ?_
  refine ldT_blk B3' _ rfl ?_
  refine ldT_blk B3' _ rfl ?_
  exact hQ _ C7
set_option maxHeartbeats 1000000 in
theorem block_does (s : Sha.St) (b : List UInt8) (hb : b.length = 64) (w : World) (hk : KeyOk w) :
    Does Tryd.prog 23 #[.agg #[.int .u32 (s.a.toNat : Int), .int .u32 (s.b.toNat : Int), .int .u32 (s.c.toNat : Int), .int .u32 (s.d.toNat : Int), .int .u32 (s.e.toNat : Int), .int .u32 (s.f.toNat : Int), .int .u32 (s.g.toNat : Int), .int .u32 (s.h.toNat : Int)], .agg (bytes b)] w
      fun v w' => v = .agg (stV (Sha.block s b)) ∧ Ext w w' := by
  generalize hz : Sha.block s b = z
  refine F23_does _ _ _ _ _ _ _ _ _ _ _ ?_
  unfold F23
  refine allocK_intro fun b1 w1 e1 B1 X1 z1 => ?_
  refine allocK_intro fun b2 w2 e2 B2 X2 z2 => ?_
  refine allocK_intro fun b3 w3 e3 B3 X3 z3 => ?_
  refine allocK_intro fun b4 w4 e4 B4 X4 z4 => ?_
  rw [zc44] at B3
  rw [zc58] at B4
  have X : Ext w w4 := ((X1.ext X2).ext X3).ext X4
  replace B1 : Blk w4 b1 44 (stV s) := (((show Blk w1 b1 44 (stV s) from B1).ext X2).ext X3).ext X4
  replace B2 := (B2.ext X3).ext X4
  replace B3 := B3.ext X4
  have hw0 : w.heap.size ≤ b1 := by omega
  clear X1 X2 X3 X4
  obtain rfl : b2 = b1 + 1 := by omega
  obtain rfl : b3 = b1 + 2 := by omega
  obtain rfl : b4 = b1 + 3 := by omega
  refine ⟨fun x w' => ∃ k : Nat, x = k ∧ k ≤ 16 ∧ L1 w s b b1 (b1 + 1) (b1 + 2) (b1 + 3) k w', fun x _ => (16 - x).toNat, ⟨0, rfl, by omega, X, B1, B2, B3, by rw [sched_zero]; exact B4⟩, ?_⟩
  clear X B1 B2 B3 B4 z1 z2 z3 z4 e1 e2 e3 e4 w1 w2 w3 w4
  rintro x w5 ⟨k, rfl, hk16, X, B1, B2, B3, B4⟩
  by_cases hlt : k < 16
  · rw [show decide ((k : Int) < 16) = true from dlt hlt, cond_true]
    simp (disch := omega) only [IntWalk.i64_in, add_mk, Nat.zero_add, Nat.mul_one]
    have t0 : Int.toNat (4 * (k : Int)) = 4 * k := by omega
    have t1 : Int.toNat (4 * (k : Int) + 1) = 4 * k + 1 := by omega
    have t2 : Int.toNat (4 * (k : Int) + 2) = 4 * k + 2 := by omega
    have t3 : Int.toNat (4 * (k : Int) + 3) = 4 * k + 3 := by omega
    simp only [t0, t1, t2, t3, Int.toNat_natCast]
    refine idxR_intro (by omega) (by omega) (ldT_blk B2.drew _ (bytes_get (by omega)) ⟨by omega, idxR_intro (by omega) (by omega) (ldT_blk B2.drew _ (bytes_get (by omega)) ⟨by omega,
      idxR_intro (by omega) (by omega) (ldT_blk B2.drew _ (bytes_get (by omega)) ⟨by omega, idxR_intro (by omega) (by omega) (ldT_blk B2.drew _ (bytes_get (by omega)) (idxR_intro (by omega) (by omega) ?_))⟩)⟩)⟩)
    rw [word_eq]
    refine stC_blk B4.drew (by simp; omega) rfl fun w6 B4' C6 z6 => ?_
    rw [words_set, ← Sha.W_low b hlt, sched_set b (by omega)] at B4'
    have X' : Ext w w6 := X.drew.step C6 fun i hi e => by omega
    refine ⟨⟨k + 1, by omega, by omega, X', B1.drew.mono C6 (by omega), B2.drew.mono C6 (by omega), B3.drew.mono C6 (by omega), B4'⟩, by omega⟩
  · rw [show decide ((k : Int) < 16) = false from dge hlt, cond_false]
    obtain rfl : k = 16 := by omega
    refine ⟨fun x w' => ∃ k : Nat, x = k ∧ 16 ≤ k ∧ k ≤ 64 ∧ L1 w s b b1 (b1 + 1) (b1 + 2) (b1 + 3) k w', fun x _ => (64 - x).toNat, ⟨16, rfl, by omega, by omega, X, B1, B2, B3, B4⟩, ?_⟩
    clear X B1 B2 B3 B4 w5 hlt hk16
    rintro x w5 ⟨k, rfl, hk16, hk64, X, B1, B2, B3, B4⟩
    by_cases hlt : k < 64
    · rw [show decide ((k : Int) < 64) = true from dlt hlt, cond_true]
      simp (disch := omega) only [IntWalk.i64_in, add_mk, Nat.zero_add, Nat.mul_one]
      have t0 : Int.toNat ((k : Int) - 15) = k - 15 := by omega
      have t1 : Int.toNat ((k : Int) - 2) = k - 2 := by omega
      have t2 : Int.toNat ((k : Int) - 16) = k - 16 := by omega
      have t3 : Int.toNat ((k : Int) - 7) = k - 7 := by omega
      simp only [t0, t1, t2, t3, Int.toNat_natCast]
      have c15 := sched_cell B4 (j := k - 15) (by omega) hk64
      have c2 := sched_cell B4 (j := k - 2) (by omega) hk64
      have c16 := sched_cell B4 (j := k - 16) (by omega) hk64
      have c7 := sched_cell B4 (j := k - 7) (by omega) hk64
      refine idxR_intro (by omega) (by omega) (ldT_cell _ c15 (idxR_intro (by omega) (by omega) (ldT_cell _ c2 (idxR_intro (by omega) (by omega) (ldT_cell _ c16 (idxR_intro (by omega) (by omega) (ldT_cell _ c7 ⟨by omega, by omega, ?_⟩)))))))
      refine (turn_does _ 7 (by omega) (by omega) _).mono ?_
      rintro _ _ ⟨rfl, rfl⟩
      refine ⟨_, rfl, c7, c16, ?_⟩
      refine (turn_does _ 18 (by omega) (by omega) _).mono ?_
      rintro _ _ ⟨rfl, rfl⟩
      refine ⟨_, rfl, c7, c16, ?_⟩
      refine (turn_does _ 17 (by omega) (by omega) _).mono ?_
      rintro _ _ ⟨rfl, rfl⟩
      refine ⟨_, rfl, c7, c16, ?_⟩
      refine (turn_does _ 19 (by omega) (by omega) _).mono ?_
      rintro _ _ ⟨rfl, rfl⟩
      refine ⟨_, rfl, c7, c16, ?_⟩
      refine idxR_intro (by omega) (by omega) ?_
      rw [xor32, xor32, shr32i _ 3 (by decide) (by decide), shr32i _ 10 (by decide) (by decide), xor32, xor32, wr_add, wr_add, wr_add]
      refine stC_blk (B4.drew.drew) (by simp; omega) rfl fun w6 B4' C6 z6 => ?_
      rw [words_set, show Sha.W b (k - 16) + Sha.W b (k - 7) + (Sha.rotr (Sha.W b (k - 15)) 7 ^^^ Sha.rotr (Sha.W b (k - 15)) 18 ^^^ Sha.W b (k - 15) >>> UInt32.ofNat (Int.toNat 3)) + (Sha.rotr (Sha.W b (k - 2)) 17 ^^^ Sha.rotr (Sha.W b (k - 2)) 19 ^^^ Sha.W b (k - 2) >>> UInt32.ofNat (Int.toNat 10)) = Sha.W b k from (Sha.W_high b hk16 hlt).symm, sched_set b (by omega)] at B4'
      have X' : Ext w w6 := X.drew.drew.step C6 fun i hi e => by omega
      exact ⟨⟨k + 1, by omega, by omega, by omega, X', B1.drew.drew.mono C6 (by omega), B2.drew.drew.mono C6 (by omega), B3.drew.drew.mono C6 (by omega), B4'⟩, by omega⟩
    · rw [show decide ((k : Int) < 64) = false from dge hlt, cond_false]
      obtain rfl : k = 64 := by omega
      refine ldT_blk B1 _ rfl ?_
      refine ldT_blk B1 _ rfl ?_
      refine ldT_blk B1 _ rfl ?_
      refine ldT_blk B1 _ rfl ?_
      refine ldT_blk B1 _ rfl ?_
      refine ldT_blk B1 _ rfl ?_
      refine ldT_blk B1 _ rfl ?_
      refine ldT_blk B1 _ rfl ?_
      refine allocK_intro fun b5 w6 e5 B5 X5 z5 => ?_
      rw [zc44] at B5
      have hb5 : b1 + 3 < b5 := by have := B4.lt; omega
      refine stL_all (vs := [.int .u32 (s.a.toNat : Int), .int .u32 (s.b.toNat : Int), .int .u32 (s.c.toNat : Int), .int .u32 (s.d.toNat : Int), .int .u32 (s.e.toNat : Int), .int .u32 (s.f.toNat : Int), .int .u32 (s.g.toNat : Int), .int .u32 (s.h.toNat : Int)]) B5 rfl (by simp [oneC]) fun w7 B5' C7 z7 => ?_
      have X' : Ext w w7 := (X.ext X5).step C7 fun i hi e => by omega
      refine ⟨fun x w' => ∃ k : Nat, x = k ∧ k ≤ 64 ∧ L3 w s b b1 b5 k w', fun x _ => (64 - x).toNat,
        ⟨0, rfl, by omega, ⟨X', (B1.ext X5).mono C7 (by omega), (B2.ext X5).mono C7 (by omega), (B3.ext X5).mono C7 (by omega), (B4.ext X5).mono C7 (by omega)⟩, B5', hb5⟩, ?_⟩
      clear X' B1 B2 B3 B4 B5 B5' C7 X5 z5 z7 X e5 w5 w6 w7 hlt hk16 hk64
      rintro x w5 ⟨k, rfl, hk64, ⟨X, B1, B2, B3, B4⟩, B5, _⟩
      by_cases hlt : k < 64
      · rw [show decide ((k : Int) < 64) = true from dlt hlt, cond_true]
        simp (disch := omega) only [IntWalk.i64_in, add_mk, Nat.zero_add, Nat.mul_one, Int.toNat_natCast]
        generalize hst : Sha.rounds b s k = st at B5
        have ck := (hk.ext X) k hlt
        have cw := sched_cell B4 (j := k) hlt (by omega)
        have c5 : w5.cell? ⟨b5, 5, none⟩ = some (wordV st.f) := B5.cell 5
        have c6 : w5.cell? ⟨b5, 6, none⟩ = some (wordV st.g) := B5.cell 6
        have c7 : w5.cell? ⟨b5, 7, none⟩ = some (wordV st.h) := B5.cell 7
        have c1 : w5.cell? ⟨b5, 1, none⟩ = some (wordV st.b) := B5.cell 1
        have c2 : w5.cell? ⟨b5, 2, none⟩ = some (wordV st.c) := B5.cell 2
        have c3 : w5.cell? ⟨b5, 3, none⟩ = some (wordV st.d) := B5.cell 3
        have c4 : w5.cell? ⟨b5, 4, none⟩ = some (wordV st.e) := B5.cell 4
        have c0 : w5.cell? ⟨b5, 0, none⟩ = some (wordV st.a) := B5.cell 0
        refine idxR_intro (by omega) (by omega) (ldT_cell _ c4 (idxR_intro (by omega) (by omega) (ldT_cell _ c0 ?_)))
        refine idxR_intro (by omega) (by omega) (ldT_cell _ c7 (idxR_intro (by omega) (by omega) (ldT_cell _ c5 (idxR_intro (by omega) (by omega) (ldT_cell _ c6 ?_)))))
        refine idxR_intro (by omega) (by omega) (ldT_cell _ ck (idxR_intro (by omega) (by omega) (ldT_cell _ cw ?_)))
        refine (turn_does _ 6 (by omega) (by omega) _).mono ?_
        rintro _ _ ⟨rfl, rfl⟩
        refine ⟨_, rfl, cw, ck, c6, c5, c7, ?_⟩
        refine (turn_does _ 11 (by omega) (by omega) _).mono ?_
        rintro _ _ ⟨rfl, rfl⟩
        refine ⟨_, rfl, cw, ck, c6, c5, c7, ?_⟩
        refine (turn_does _ 25 (by omega) (by omega) _).mono ?_
        rintro _ _ ⟨rfl, rfl⟩
        refine ⟨_, rfl, cw, ck, c6, c5, c7, ?_⟩
        refine idxR_intro (by omega) (by omega) (ldT_cell _ c1 (idxR_intro (by omega) (by omega) (ldT_cell _ c2 (idxR_intro (by omega) (by omega) (ldT_cell _ c1 (idxR_intro (by omega) (by omega) (ldT_cell _ c2 ?_)))))))
        refine (turn_does _ 2 (by omega) (by omega) _).mono ?_
        rintro _ _ ⟨rfl, rfl⟩
        refine ⟨_, rfl, c2, c1, c2, c1, ?_⟩
        refine (turn_does _ 13 (by omega) (by omega) _).mono ?_
        rintro _ _ ⟨rfl, rfl⟩
        refine ⟨_, rfl, c2, c1, c2, c1, ?_⟩
        refine (turn_does _ 22 (by omega) (by omega) _).mono ?_
        rintro _ _ ⟨rfl, rfl⟩
        refine ⟨_, rfl, c2, c1, c2, c1, ?_⟩
        refine idxR_intro (by omega) (by omega) (ldT_cell _ c1 (idxR_intro (by omega) (by omega) (ldT_cell _ c2 (idxR_intro (by omega) (by omega) (ldT_cell _ c3 ?_)))))
        refine idxR_intro (by omega) (by omega) (ldT_cell _ c5 (idxR_intro (by omega) (by omega) (ldT_cell _ c6 ?_)))
        simp only [xor32, and32, not32, wr_add]
        have h1 : st.h + (Sha.rotr st.e 6 ^^^ Sha.rotr st.e 11 ^^^ Sha.rotr st.e 25) + (st.e &&& st.f ^^^ ~~~st.e &&& st.g) + Sha.K.getD k 0 + Sha.W b k = Sha.T1 b st k := rfl
        have h2 : (Sha.rotr st.a 2 ^^^ Sha.rotr st.a 13 ^^^ Sha.rotr st.a 22) + (st.a &&& st.b ^^^ st.a &&& st.c ^^^ st.b &&& st.c) = Sha.T2 st := rfl
        rw [h1, h2]
        have h3 : Sha.rnd b st k = ⟨Sha.T1 b st k + Sha.T2 st, st.a, st.b, st.c, st.d + Sha.T1 b st k, st.e, st.f, st.g⟩ := rfl
        clear h1 h2
        generalize Sha.T1 b st k = t1 at *
        generalize Sha.T2 st = t2 at *
        refine stL_all (vs := [.int .u32 ((t1 + t2).toNat : Int), .int .u32 (st.a.toNat : Int), .int .u32 (st.b.toNat : Int), .int .u32 (st.c.toNat : Int), .int .u32 ((st.d + t1).toNat : Int), .int .u32 (st.e.toNat : Int), .int .u32 (st.f.toNat : Int), .int .u32 (st.g.toNat : Int)])
          (B5.drew.drew.drew) rfl (by simp [oneC]) fun w7 B5' C7 z7 => ?_
        have X' : Ext w w7 := X.drew.drew.drew.step C7 fun i hi e => by omega
        refine ⟨⟨k + 1, by omega, by omega, ⟨X', B1.drew.drew.drew.mono C7 (by omega), B2.drew.drew.drew.mono C7 (by omega), B3.drew.drew.drew.mono C7 (by omega), B4.drew.drew.drew.mono C7 (by omega)⟩, ?_, hb5⟩, by omega⟩
        rw [show Sha.rounds b s (k + 1) = Sha.rnd b st k by rw [← hst]; rfl, h3]
        exact B5'
      · rw [show decide ((k : Int) < 64) = false from dge hlt, cond_false]
        obtain rfl : k = 64 := by omega
        generalize hst : Sha.rounds b s 64 = st at B5
        have hr : s.add st = z := by rw [← hz, ← hst, Sha.block]
        clear hz hst
        refine ⟨fun x w' => ∃ k : Nat, x = k ∧ k ≤ 8 ∧ Ext w w' ∧ Blk w' b1 44 (words (mixed8 s.list st.list k)) ∧ Blk w' (b1 + 2) 44 (words (List.replicate 8 0)) ∧ Blk w' b5 44 (stV st), fun x _ => (8 - x).toNat,
          ⟨0, rfl, by omega, X, B1, B3, B5⟩, ?_⟩
        clear X B1 B2 B3 B4 B5 w5 hlt hk64
        rintro x w5 ⟨k, rfl, hk8, X, B1, B3, B5⟩
        by_cases hlt : k < 8
        · rw [show decide ((k : Int) < 8) = true from dlt hlt, cond_true]
          simp (disch := omega) only [IntWalk.i64_in, add_mk, Nat.zero_add, Nat.mul_one, Int.toNat_natCast]
          refine idxR_intro (by omega) (by omega) (ldT_blk B1.drew _ (words_get (by simp; omega)) (idxR_intro (by omega) (by omega) (ldT_blk B5.drew _ (words_get (by simp; omega)) (idxR_intro (by omega) (by omega) ?_))))
          rw [wr_add, mixed8_get _ _ hlt]
          refine stC_blk B1.drew (by simp; omega) rfl fun w7 B1' C7 z7 => ?_
          rw [words_set, mixed8_set _ _ hlt] at B1'
          have X' : Ext w w7 := X.drew.step C7 fun i hi e => by omega
          exact ⟨⟨k + 1, by omega, by omega, X', B1', B3.drew.mono C7 (by omega), B5.drew.mono C7 (by omega)⟩, by omega⟩
        · rw [show decide ((k : Int) < 8) = false from dge hlt, cond_false]
          obtain rfl : k = 8 := by omega
          rw [mixed8_all, hr] at B1
          have ht := block_tail z b1 (b1 + 2) w5 (List.replicate 8 0) (by simp) B1 B3 (fun v w' => v = .agg (stV z) ∧ Ext w w') (fun w' C => ⟨rfl, X.step C fun i hi e => by omega⟩) ⟨b1, 0, none⟩ ⟨b1 + 2, 0, none⟩ rfl rfl
          exact ht
end Go.Proofs.YtaaegmmcnfeiaaaDoor.G
