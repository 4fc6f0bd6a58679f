import Derived.Test.YtaaegmmcnfeiaaaDoorWl
set_option linter.unusedVariables false
set_option linter.unusedSimpArgs false
namespace Sha
theorem or8n (a b : Nat) (h : b < 256) : a <<< 8 ||| b = a * 256 + b := by
  rw [← Nat.shiftLeft_add_eq_or_of_lt (by simpa using h : b < 2 ^ 8), Nat.shiftLeft_eq]
theorem wordNat (a b c d : Nat) (hb : b < 256) (hc : c < 256) (hd : d < 256) : a <<< 24 ||| b <<< 16 ||| c <<< 8 ||| d = ((a * 256 + b) * 256 + c) * 256 + d := by
  have e1 : a <<< 24 ||| b <<< 16 = (a * 256 + b) <<< 16 := by
    rw [← or8n a b hb, Nat.shiftLeft_or_distrib, ← Nat.shiftLeft_add]
  have e2 : (a * 256 + b) <<< 16 ||| c <<< 8 = ((a * 256 + b) * 256 + c) <<< 8 := by
    rw [← or8n _ c hc, Nat.shiftLeft_or_distrib, ← Nat.shiftLeft_add]
  rw [e1, e2, or8n _ d hd]
/-- a word, byte for byte -/
def acc (b : List UInt8) (t : Nat) : Nat → UInt32
  | 0 => 0
  | k + 1 => acc b t k * 256 + byteAt b (4 * t + k)
theorem acc_word (b : List UInt8) (t : Nat) : acc b t 4 = word b t := by
  apply UInt32.toNat_inj.1
  have hb : ∀ i, (byteAt b i).toNat < 256 := fun i => by
    have := (b.getD i 0).toNat_lt
    show ((b.getD i 0).toUInt32).toNat < 256
    rw [UInt8.toNat_toUInt32]; omega
  have h0 := hb (4 * t)
  have h1 := hb (4 * t + 1)
  have h2 := hb (4 * t + 2)
  have h3 := hb (4 * t + 3)
  simp only [acc, word, Nat.add_zero]
  generalize byteAt b (4 * t) = x0 at *
  generalize byteAt b (4 * t + 1) = x1 at *
  generalize byteAt b (4 * t + 2) = x2 at *
  generalize byteAt b (4 * t + 3) = x3 at *
  simp only [UInt32.toNat_or, UInt32.toNat_shiftLeft, UInt32.toNat_add, UInt32.toNat_mul]
  have e24 : (24 : UInt32).toNat % 32 = 24 := rfl
  have e16 : (16 : UInt32).toNat % 32 = 16 := rfl
  have e8 : (8 : UInt32).toNat % 32 = 8 := rfl
  have e256 : (256 : UInt32).toNat = 256 := rfl
  have e0 : (0 : UInt32).toNat = 0 := rfl
  rw [e24, e16, e8, e256, e0]
  rw [show x0.toNat <<< 24 % 2 ^ 32 = x0.toNat <<< 24 by rw [Nat.shiftLeft_eq]; omega, show x1.toNat <<< 16 % 2 ^ 32 = x1.toNat <<< 16 by rw [Nat.shiftLeft_eq]; omega,
    show x2.toNat <<< 8 % 2 ^ 32 = x2.toNat <<< 8 by rw [Nat.shiftLeft_eq]; omega, wordNat _ _ _ _ h1 h2 h3]
  omega
end Sha
namespace Go.Proofs.YtaaegmmcnfeiaaaDoor.G
open Go Go.VC Go.RowKit Go.Proofs Go.Proofs.YtaaegmmcnfeiaaaDoor
/-- the document's turn -/
theorem refTurn_does (x : UInt32) (n : Nat) (h1 : 1 ≤ n) (h2 : n ≤ 31) (w : World) : Does Tryd.prog 27 #[.int .u32 (x.toNat : Int), .int .u64 (n : Int)] w fun v w' => v = wordV (Sha.rotr x n) ∧ w' = w := by
  refine F27_does _ _ _ _ ?_
  unfold F27
  have e : IntKind.wrap .u64 (32 - (n : Int)) = ((32 - n : Nat) : Int) := by rw [IntWalk.u64_in _ (by omega)]; omega
  rw [e, shr32 _ _ (by omega), shl32 _ _ (by omega), or32]
  refine ⟨by omega, by omega, ?_, rfl⟩
  rw [UInt32.or_comm]
  rfl
/-- the document's keys -/
theorem keys_does (w : World) {Q : Value → World → Prop} (k : ∀ (b : Nat) (w' : World), b = w.heap.size → Ext w w' → Blk w' b 43 (words Sha.K) → Q (.slice (some ⟨b, 0, none⟩) 64 64) w') : Does Tryd.prog 26 #[] w Q := by
  refine F26_does _ _ ?_
  unfold F26
  refine allocK_intro fun b w1 e B X z => ?_
  exact k b w1 e X (by exact B)
theorem add4 (a b c d : UInt32) : a + b + c + d = d + b + c + a := by ac_rfl
theorem slT54 : SlT Tryd.prog 54 43 1 4 := ⟨by kernel_rfl, by kernel_rfl, by decide⟩
theorem oneC_word (l : List UInt32) : ∀ u ∈ l.map wordV, oneC u = true := by
  intro u hu
  obtain ⟨c, _, rfl⟩ := List.mem_map.1 hu
  rfl
/-- a row of words of the call's own, made behind the world w0 -/
def OwnW (w0 w : World) (s : Sl) (bs : List UInt32) : Prop := Ext w0 w ∧ w.ownsRow w0.heap.size 43 1 s.v bs.length (bs.map wordV)
theorem OwnW.nil (w : World) : OwnW w w ⟨none, 0, 0⟩ [] := ⟨Ch.refl _ w, by simp, .inl ⟨rfl, rfl⟩⟩
theorem OwnW.len {w0 w : World} {s : Sl} {bs : List UInt32} (h : OwnW w0 w s bs) : s.len = bs.length := (sees_of_own h.2).2.1
theorem OwnW.sees {w0 w : World} {s : Sl} {bs : List UInt32} (h : OwnW w0 w s bs) : Sees w s 1 (bs.map wordV) := (sees_of_own h.2).1
theorem OwnW.ext {w0 w w' : World} {s : Sl} {bs : List UInt32} (h : OwnW w0 w s bs) (X : Ext w w') : OwnW w0 w' s bs := ⟨h.1.ext X, own_ch h.2 X fun _ _ h => h⟩
theorem OwnW.push {w0 w : World} {s : Sl} {bs : List UInt32} (h : OwnW w0 w s bs) (c : UInt32) (hn : bs.length ≤ 1000000) {K : Sl → World → Prop} (k : ∀ (s' : Sl) (w' : World), OwnW w0 w' s' (bs ++ [c]) → K s' w') :
    allocK w #[.int .u32 (c.toNat : Int)] 43 fun a w1 => runG .sl Tryd.prog w1 (Builtin.append_ #[54, 54] 54 #[.slice s.a s.len s.cap, .slice (some a) 1 1]) K := by
  obtain ⟨X, ho⟩ := h
  refine allocK_intro fun b w1 e B X1 z => ?_
  have ho1 : w1.ownsRow w0.heap.size 43 1 s.v bs.length (bs.map wordV) := own_ch ho X1 fun _ _ h => h
  have hx : Sees w1 ⟨some ⟨b, 0, none⟩, 1, 1⟩ 1 ([c].map wordV) := by
    have := sees_blk B (n := 1) rfl (by decide)
    exact this
  have X1' := X.ext X1
  refine app_own (s := s) slT54 ho1 hx (oneC_word [c]) (by show (bs.length + 1) * 4 ≤ _; omega) (Nat.le_trans (by show bs.length + 1 ≤ 2000000; omega) (by decide)) X1'.size fun s2 w2 ho2 hg2 => ?_
  refine k s2 w2 ⟨X1'.grown hg2 fun k e2 hk => by have := (ho1.lt k e2).1; omega, ?_⟩
  rw [List.map_append, List.length_append]; exact ho2
def ws (b : List UInt8) (m : Nat) : List UInt32 := (List.range m).map (Sha.W b)
@[simp] theorem ws_length (b : List UInt8) (m : Nat) : (ws b m).length = m := by simp [ws]
theorem ws_succ (b : List UInt8) (m : Nat) : ws b m ++ [Sha.W b m] = ws b (m + 1) := by simp [ws, List.range_succ]
theorem ws_get (b : List UInt8) {m j : Nat} (h : j < m) : ((ws b m).map wordV)[j]? = some (.int .u32 ((Sha.W b j).toNat : Int)) := by simp [ws, h, wordV]
theorem accStep (b : List UInt8) (m q : Nat) : IntKind.wrap .u32 (IntKind.wrap .u32 (((Sha.acc b m q).toNat : Int) * 256) + IntKind.wrap .u32 ((b.getD (4 * m + q) 0).toNat : Int)) = ((Sha.acc b m (q + 1)).toNat : Int) := by
  have := mul32 (Sha.acc b m q) 256
  rw [show ((256 : UInt32).toNat : Int) = 256 from rfl] at this
  rw [this, wrap32_8, add32]
  rfl
set_option maxHeartbeats 1000000 in
theorem words_does (b : List UInt8) (hb : b.length = 64) (s : Sl) (w : World) (hs : Sees w s 1 (b.map byteV)) {Q : Value → World → Prop}
    (k : ∀ (t : Sl) (w' : World), OwnW w w' t (ws b 64) → Q (.slice t.a t.len t.cap) w') : Does Tryd.prog 25 #[.slice s.a s.len s.cap] w Q := by
  refine F25_does _ _ _ ?_
  unfold F25
  have hbl := hs.len
  simp only [List.length_map, Nat.mul_one] at hbl
  refine ⟨fun t x w' => ∃ m : Nat, x = m ∧ m ≤ 16 ∧ OwnW w w' t (ws b m), fun t x _ => (16 - x).toNat, ⟨0, rfl, by omega, OwnW.nil w⟩, ?_⟩
  rintro t x w1 ⟨m, rfl, hm, O⟩
  by_cases h16 : m < 16
  · rw [show decide ((m : Int) < 16) = true from dlt h16, cond_true]
    refine ⟨fun x q w' => ∃ j : Nat, q = j ∧ j ≤ 4 ∧ x = ((Sha.acc b m j).toNat : Int) ∧ w' = w1, fun x q _ => (4 - q).toNat, ⟨0, rfl, by omega, rfl, rfl⟩, ?_⟩
    rintro x q w2 ⟨j, rfl, hj, rfl, rfl⟩
    by_cases h4 : j < 4
    · rw [show decide ((j : Int) < 4) = true from dlt h4, cond_true]
      rw [IntWalk.i64_in (4 * (m : Int)) (by omega), IntWalk.i64_in (4 * (m : Int) + (j : Int)) (by omega), IntWalk.i64_in ((j : Int) + 1) (by omega)]
      have hg : (b.map byteV)[(4 * (m : Int) + (j : Int)).toNat]? = some (.int .u8 ((b.getD (4 * m + j) 0).toNat : Int)) := by
        have h1 : 4 * m + j < b.length := by omega
        rw [show (4 * (m : Int) + (j : Int)).toNat = 4 * m + j by omega]
        simp [byteV, h1]
      refine (hs.ext O.1).idx1 (by omega) (by omega) hg fun a ha _ => ?_
      refine ldT_cell _ ha ?_
      rw [accStep]
      exact ⟨⟨j + 1, by omega, by omega, rfl, rfl⟩, by show ((4 : Int) - ((j : Int) + 1)).toNat < ((4 : Int) - (j : Int)).toNat; omega⟩
    · obtain rfl : j = 4 := by omega
      rw [show decide (((4 : Nat) : Int) < 4) = false from rfl, cond_false]
      rw [Sha.acc_word, ← Sha.W_low b h16]
      refine OwnW.push O (Sha.W b m) (by simp; omega) fun t' w3 O3 => ?_
      rw [ws_succ] at O3
      rw [IntWalk.i64_in _ (by omega)]
      exact ⟨⟨m + 1, by omega, by omega, O3⟩, by show ((16 : Int) - ((m : Int) + 1)).toNat < ((16 : Int) - (m : Int)).toNat; omega⟩
  · obtain rfl : m = 16 := by omega
    rw [show decide (((16 : Nat) : Int) < 16) = false from rfl, cond_false]
    refine ⟨fun t x w' => ∃ m : Nat, x = m ∧ 16 ≤ m ∧ m ≤ 64 ∧ OwnW w w' t (ws b m), fun t x _ => (64 - x).toNat, ⟨16, rfl, by omega, by omega, O⟩, ?_⟩
    clear O h16 hm w1 t
    rintro t x w1 ⟨m, rfl, hm, hm2, O⟩
    by_cases h64 : m < 64
    · rw [show decide ((m : Int) < 64) = true from dlt h64, cond_true]
      have hl : t.len = m := by rw [O.len]; simp
      have S := O.sees.drew
      rw [IntWalk.i64_in ((m : Int) - 15) (by omega), IntWalk.i64_in ((m : Int) - 2) (by omega), IntWalk.i64_in ((m : Int) - 7) (by omega), IntWalk.i64_in ((m : Int) - 16) (by omega), IntWalk.i64_in ((m : Int) + 1) (by omega)]
      have g15 : ((ws b m).map wordV)[((m : Int) - 15).toNat]? = some (.int .u32 ((Sha.W b (m - 15)).toNat : Int)) := by rw [show ((m : Int) - 15).toNat = m - 15 by omega]; exact ws_get b (by omega)
      have g2 : ((ws b m).map wordV)[((m : Int) - 2).toNat]? = some (.int .u32 ((Sha.W b (m - 2)).toNat : Int)) := by rw [show ((m : Int) - 2).toNat = m - 2 by omega]; exact ws_get b (by omega)
      have g7 : ((ws b m).map wordV)[((m : Int) - 7).toNat]? = some (.int .u32 ((Sha.W b (m - 7)).toNat : Int)) := by rw [show ((m : Int) - 7).toNat = m - 7 by omega]; exact ws_get b (by omega)
      have g16 : ((ws b m).map wordV)[((m : Int) - 16).toNat]? = some (.int .u32 ((Sha.W b (m - 16)).toNat : Int)) := by rw [show ((m : Int) - 16).toNat = m - 16 by omega]; exact ws_get b (by omega)
      refine S.idx1 (by omega) (by omega) g15 fun a1 c1 _ => ldT_cell _ c1 ?_
      refine S.idx1 (by omega) (by omega) g15 fun a2 c2 _ => ldT_cell _ c2 ?_
      refine S.idx1 (by omega) (by omega) g15 fun a3 c3 _ => ldT_cell _ c3 ⟨by decide, ?_⟩
      refine (refTurn_does _ 7 (by omega) (by omega) _).mono ?_
      rintro _ _ ⟨rfl, rfl⟩
      refine ⟨_, rfl, c3, c2, ?_⟩
      refine (refTurn_does _ 18 (by omega) (by omega) _).mono ?_
      rintro _ _ ⟨rfl, rfl⟩
      refine ⟨_, rfl, c3, ?_⟩
      refine S.drew.idx1 (by omega) (by omega) g2 fun a4 c4 _ => ldT_cell _ c4 ?_
      refine S.drew.idx1 (by omega) (by omega) g2 fun a5 c5 _ => ldT_cell _ c5 ?_
      refine S.drew.idx1 (by omega) (by omega) g2 fun a6 c6 _ => ldT_cell _ c6 ⟨by decide, ?_⟩
      refine (refTurn_does _ 17 (by omega) (by omega) _).mono ?_
      rintro _ _ ⟨rfl, rfl⟩
      refine ⟨_, rfl, c6, c5, ?_⟩
      refine (refTurn_does _ 19 (by omega) (by omega) _).mono ?_
      rintro _ _ ⟨rfl, rfl⟩
      refine ⟨_, rfl, c6, ?_⟩
      refine S.drew.drew.idx1 (by omega) (by omega) g7 fun a7 c7 _ => ldT_cell _ c7 ?_
      refine S.drew.drew.idx1 (by omega) (by omega) g16 fun a8 c8 _ => ldT_cell _ c8 ?_
      rw [xor32, xor32, shr32i _ 3 (by decide) (by decide), shr32i _ 10 (by decide) (by decide), xor32, xor32, wr_add, wr_add, wr_add]
      have eW : Sha.s1 (Sha.W b (m - 2)) + Sha.W b (m - 7) + Sha.s0 (Sha.W b (m - 15)) + Sha.W b (m - 16) = Sha.W b m := by rw [Sha.W_high b hm h64]; exact add4 _ _ _ _
      rw [show (Sha.rotr (Sha.W b (m - 2)) 17 ^^^ Sha.rotr (Sha.W b (m - 2)) 19 ^^^ Sha.W b (m - 2) >>> UInt32.ofNat (Int.toNat 10)) + Sha.W b (m - 7) + (Sha.rotr (Sha.W b (m - 15)) 7 ^^^ Sha.rotr (Sha.W b (m - 15)) 18 ^^^ Sha.W b (m - 15) >>> UInt32.ofNat (Int.toNat 3)) + Sha.W b (m - 16) = Sha.W b m from eW]
      refine OwnW.push (O.ext (((Ch.drew' _ _).drew).drew)) (Sha.W b m) (by simp; omega) fun t' w3 O3 => ?_
      rw [ws_succ] at O3
      exact ⟨⟨m + 1, by omega, by omega, by omega, O3⟩, by show ((64 : Int) - ((m : Int) + 1)).toNat < ((64 : Int) - (m : Int)).toNat; omega⟩
    · obtain rfl : m = 64 := by omega
      rw [show decide (((64 : Nat) : Int) < 64) = false from rfl, cond_false]
      exact k t w1 O
end Go.Proofs.YtaaegmmcnfeiaaaDoor.G
