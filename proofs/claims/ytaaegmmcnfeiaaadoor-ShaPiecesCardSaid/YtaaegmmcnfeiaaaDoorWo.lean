import Derived.Test.YtaaegmmcnfeiaaaDoorWm
set_option linter.unusedVariables false
set_option linter.unusedSimpArgs false
namespace Sha
theorem ch_or (e f g : UInt32) : (e &&& f) ||| (~~~ e &&& g) = ch e f g := by
  unfold ch
  apply UInt32.toBitVec_inj.1
  simp only [UInt32.toBitVec_or, UInt32.toBitVec_xor, UInt32.toBitVec_and, UInt32.toBitVec_not]
  apply BitVec.eq_of_getLsbD_eq
  intro i hi
  simp only [BitVec.getLsbD_or, BitVec.getLsbD_xor, BitVec.getLsbD_and, BitVec.getLsbD_not, hi, decide_true, Bool.true_and]
  cases e.toBitVec.getLsbD i <;> cases f.toBitVec.getLsbD i <;> cases g.toBitVec.getLsbD i <;> rfl
theorem maj_or (a b c : UInt32) : (a &&& b) ||| (a &&& c) ||| (b &&& c) = maj a b c := by
  unfold maj
  apply UInt32.toBitVec_inj.1
  simp only [UInt32.toBitVec_or, UInt32.toBitVec_xor, UInt32.toBitVec_and]
  apply BitVec.eq_of_getLsbD_eq
  intro i hi
  simp only [BitVec.getLsbD_or, BitVec.getLsbD_xor, BitVec.getLsbD_and]
  cases a.toBitVec.getLsbD i <;> cases b.toBitVec.getLsbD i <;> cases c.toBitVec.getLsbD i <;> rfl
end Sha
namespace Go.Proofs.YtaaegmmcnfeiaaaDoor.G
open Go Go.VC Go.RowKit Go.Proofs Go.Proofs.YtaaegmmcnfeiaaaDoor
theorem not32' (a : UInt32) : IntKind.wrap .u32 (4294967295 - (a.toNat : Int)) = ((~~~ a).toNat : Int) := by
  have := u32_lt a
  rw [IntKind.wrap_u32, UInt32.toNat_not]
  simp only [UInt32.size]
  omega
set_option maxHeartbeats 1000000 in
theorem refBlock_does (s : Sha.St) (b : List UInt8) (hb : b.length = 64) (t : Sl) (w : World) (hs : Sees w t 1 (b.map byteV)) {Q : Value → World → Prop} (k : ∀ w', Ext w w' → Q (.agg (stV (Sha.block s b))) w') :
    Does Tryd.prog 22 #[.agg #[.int .u32 (s.a.toNat : Int), .int .u32 (s.b.toNat : Int), .int .u32 (s.c.toNat : Int), .int .u32 (s.d.toNat : Int), .int .u32 (s.e.toNat : Int), .int .u32 (s.f.toNat : Int), .int .u32 (s.g.toNat : Int), .int .u32 (s.h.toNat : Int)], .slice t.a t.len t.cap] w Q := by
  generalize hz : Sha.block s b = z at k
  refine F22_does _ _ _ _ _ _ _ _ _ _ _ ?_
  unfold F22
  refine allocK_intro fun b1 w1 e1 B1 X1 z1 => ?_
  refine allocK_intro fun b2 w2 e2 B2 X2 z2 => ?_
  rw [zc44] at B2
  have X12 := X1.ext X2
  refine words_does b hb t w2 (hs.ext X12) fun t7 w3 O => ?_
  refine ⟨_, rfl, ?_⟩
  refine keys_does w3 fun b4 w4 e4 X4 B4 => ?_
  refine ⟨⟨some ⟨b4, 0, none⟩, 64, 64⟩, rfl, ?_⟩
  have X24 : Ext w2 w4 := O.1.ext X4
  have X := X12.ext X24
  replace B1 : Blk w4 b1 44 (stV s) := ((show Blk w1 b1 44 (stV s) from B1).ext X2).ext X24
  replace B2 := B2.ext X24
  have S := (O.ext X4).sees
  have hl7 : t7.len = 64 := by rw [O.len]; simp
  have S4 := sees_blk B4 (n := 64) rfl (by decide)
  have hb2 : w.heap.size ≤ b2 := by omega
  clear O X1 X2 X12 X24 X4 B4 e1 e2 e4 z1 z2 hs w1 w2 w3
  simp only [add_mk, Nat.zero_add]
  have D1 := B1.drew
  refine idxR_intro (by omega) (by omega) (ldT_blk D1 _ rfl (idxR_intro (by omega) (by omega) (ldT_blk D1 _ rfl (idxR_intro (by omega) (by omega) (ldT_blk D1 _ rfl (idxR_intro (by omega) (by omega) (ldT_blk D1 _ rfl ?_)))))))
  refine idxR_intro (by omega) (by omega) (ldT_blk D1 _ rfl (idxR_intro (by omega) (by omega) (ldT_blk D1 _ rfl (idxR_intro (by omega) (by omega) (ldT_blk D1 _ rfl (idxR_intro (by omega) (by omega) (ldT_blk D1 _ rfl ?_)))))))
  refine ⟨fun x1 x2 x3 x4 x5 x6 x7 x8 y w' => ∃ m : Nat, y = m ∧ m ≤ 64 ∧ Ext w4 w' ∧ x1 = ((Sha.rounds b s m).a.toNat : Int) ∧ x2 = ((Sha.rounds b s m).b.toNat : Int) ∧ x3 = ((Sha.rounds b s m).c.toNat : Int) ∧ x4 = ((Sha.rounds b s m).d.toNat : Int) ∧
      x5 = ((Sha.rounds b s m).e.toNat : Int) ∧ x6 = ((Sha.rounds b s m).f.toNat : Int) ∧ x7 = ((Sha.rounds b s m).g.toNat : Int) ∧ x8 = ((Sha.rounds b s m).h.toNat : Int), fun _ _ _ _ _ _ _ _ y _ => (64 - y).toNat,
    ⟨0, rfl, by omega, Ch.drew' _ w4, rfl, rfl, rfl, rfl, rfl, rfl, rfl, rfl⟩, ?_⟩
  rintro x1 x2 x3 x4 x5 x6 x7 x8 y w5 ⟨m, rfl, hm, XL, rfl, rfl, rfl, rfl, rfl, rfl, rfl, rfl⟩
  by_cases hlt : m < 64
  · rw [show decide ((m : Int) < 64) = true from dlt hlt, cond_true]
    generalize hst : Sha.rounds b s m = st
    have SK : ((words Sha.K).toList)[((m : Int)).toNat]? = some (.int .u32 ((Sha.K.getD m 0).toNat : Int)) := by
      have hk : m < Sha.K.length := hlt
      rw [Int.toNat_natCast]; simp [words, wordV, hk]
    have SW : ((ws b 64).map wordV)[((m : Int)).toNat]? = some (.int .u32 ((Sha.W b m).toNat : Int)) := by rw [Int.toNat_natCast]; exact ws_get b hlt
    refine (S4.ext XL).drew.idx1 (by omega) (by show (m : Int) < ((64 : Nat) : Int); omega) SK fun a1 c1 _ => ldT_cell _ c1 ?_
    refine (S.ext XL).drew.idx1 (by omega) (by omega) SW fun a2 c2 _ => ldT_cell _ c2 ?_
    refine (refTurn_does _ 6 (by omega) (by omega) _).mono ?_
    rintro _ _ ⟨rfl, rfl⟩
    refine ⟨_, rfl, c2, c1, ?_⟩
    refine (refTurn_does _ 11 (by omega) (by omega) _).mono ?_
    rintro _ _ ⟨rfl, rfl⟩
    refine ⟨_, rfl, c2, c1, ?_⟩
    refine (refTurn_does _ 25 (by omega) (by omega) _).mono ?_
    rintro _ _ ⟨rfl, rfl⟩
    refine ⟨_, rfl, c2, c1, ?_⟩
    refine (refTurn_does _ 2 (by omega) (by omega) _).mono ?_
    rintro _ _ ⟨rfl, rfl⟩
    refine ⟨_, rfl, ?_⟩
    refine (refTurn_does _ 13 (by omega) (by omega) _).mono ?_
    rintro _ _ ⟨rfl, rfl⟩
    refine ⟨_, rfl, ?_⟩
    refine (refTurn_does _ 22 (by omega) (by omega) _).mono ?_
    rintro _ _ ⟨rfl, rfl⟩
    refine ⟨_, rfl, ?_⟩
    simp only [not32', xor32, and32, or32, wr_add, Sha.ch_or, Sha.maj_or]
    rw [IntWalk.i64_in ((m : Int) + 1) (by omega)]
    have e1 : Sha.rounds b s (m + 1) = Sha.rnd b st m := by rw [← hst]; rfl
    refine ⟨⟨m + 1, by omega, by omega, XL.drew, ?_, ?_, ?_, ?_, ?_, ?_, ?_, ?_⟩, by show ((64 : Int) - ((m : Int) + 1)).toNat < ((64 : Int) - (m : Int)).toNat; omega⟩ <;> rw [e1] <;> rfl
  · obtain rfl : m = 64 := by omega
    rw [show decide (((64 : Nat) : Int) < 64) = false from rfl, cond_false]
    have hz' : z = s.add (Sha.rounds b s 64) := hz.symm
    generalize Sha.rounds b s 64 = st at *
    have D5 := B1.ext XL
    refine idxR_intro (by omega) (by omega) (ldT_blk D5 _ rfl (idxR_intro (by omega) (by omega) (ldT_blk D5 _ rfl (idxR_intro (by omega) (by omega) (ldT_blk D5 _ rfl (idxR_intro (by omega) (by omega) (ldT_blk D5 _ rfl ?_)))))))
    refine idxR_intro (by omega) (by omega) (ldT_blk D5 _ rfl (idxR_intro (by omega) (by omega) (ldT_blk D5 _ rfl (idxR_intro (by omega) (by omega) (ldT_blk D5 _ rfl (idxR_intro (by omega) (by omega) (ldT_blk D5 _ rfl ?_)))))))
    rw [wr_add, wr_add, wr_add, wr_add, wr_add, wr_add, wr_add, wr_add]
    have ez : z = ⟨s.a + st.a, s.b + st.b, s.c + st.c, s.d + st.d, s.e + st.e, s.f + st.f, s.g + st.g, s.h + st.h⟩ := hz'
    clear hz hz'
    generalize s.a + st.a = y1 at *
    generalize s.b + st.b = y2 at *
    generalize s.c + st.c = y3 at *
    generalize s.d + st.d = y4 at *
    generalize s.e + st.e = y5 at *
    generalize s.f + st.f = y6 at *
    generalize s.g + st.g = y7 at *
    generalize s.h + st.h = y8 at *
    subst ez
    refine stL_all (vs := [.int .u32 (y1.toNat : Int), .int .u32 (y2.toNat : Int), .int .u32 (y3.toNat : Int), .int .u32 (y4.toNat : Int), .int .u32 (y5.toNat : Int), .int .u32 (y6.toNat : Int), .int .u32 (y7.toNat : Int), .int .u32 (y8.toNat : Int)]) (B2.ext XL) (by simp) (by simp [oneC]) fun w7 B7 C7 z7 => ?_
    refine ldT_blk B7 _ rfl ?_
    refine ldT_blk B7 _ rfl ?_
    refine ldT_blk B7 _ rfl ?_
    refine ldT_blk B7 _ rfl ?_
    refine ldT_blk B7 _ rfl ?_
    refine ldT_blk B7 _ rfl ?_
    refine ldT_blk B7 _ rfl ?_
    refine ldT_blk B7 _ rfl ?_
    exact k w7 ((X.ext XL).step C7 fun i hi e => by omega)
end Go.Proofs.YtaaegmmcnfeiaaaDoor.G
