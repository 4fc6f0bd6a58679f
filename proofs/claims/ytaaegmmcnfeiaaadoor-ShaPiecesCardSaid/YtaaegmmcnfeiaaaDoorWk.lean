import Derived.Test.YtaaegmmcnfeiaaaDoorWi
set_option linter.unusedVariables false
set_option linter.unusedSimpArgs false
namespace Go.Proofs.YtaaegmmcnfeiaaaDoor.G
open Go Go.VC Go.RowKit Go.Proofs Go.Proofs.YtaaegmmcnfeiaaaDoor
/-- what is looked at of a slice -/
theorem few_does (l : List UInt8) (b : Sl) (w : World) (hs : Sees w b 1 (l.map byteV)) {Q : Value → World → Prop}
    (k : ∀ t : Sl, Sees w t 1 ((l.take 2000).map byteV) → t.blk = b.blk → t.len = (l.take 2000).length → Q (.slice t.a t.len t.cap) w) : Does Tryd.prog 8 #[.slice b.a b.len b.cap] w Q := by
  refine F8_does _ _ _ ?_
  unfold F8
  have hlen := hs.len
  simp only [List.length_map, Nat.mul_one] at hlen
  by_cases h : 2000 < b.len
  · rw [show decide ((b.len : Int) > 2000) = true by simp; omega, cond_true]
    refine Sees.slc (s := ⟨b.a, b.len, b.cap⟩) hs (by omega) (by omega) (by show (2000 : Int) ≤ (b.len : Int); omega) fun t ht hl hb hc => ?_
    rw [show ((0 : Int).toNat * 1) = 0 from rfl, List.drop_zero, show ((2000 : Int).toNat - (0 : Int).toNat) * 1 = 2000 from rfl, ← List.map_take] at ht
    exact k t ht hb (by rw [hl, List.length_take]; show 2000 = _; omega)
  · rw [show decide ((b.len : Int) > 2000) = false by simp; omega, cond_false]
    have e : l.take 2000 = l := List.take_of_length_le (by omega)
    exact k b (by rw [e]; exact hs) rfl (by rw [e]; omega)
/-- two rows of bytes, one behind the other, in a row of the call's own -/
theorem cat_does {w : World} {x y : Sl} {lx ly : List UInt8} (hx : Sees w x 1 (lx.map byteV)) (hy : Sees w y 1 (ly.map byteV)) (h1 : lx.length ≤ 2000000) (h2 : ly.length ≤ 2000000) {K : Sl → World → Prop}
    (k : ∀ (s : Sl) (w' : World), Ext w w' → Sees w' s 1 ((lx ++ ly).map byteV) → (∀ g, s.blk = some g → g < w'.heap.size) → K s w') :
    allocK w #[] 5 fun a w1 => runG .sl Tryd.prog w1 (Builtin.append_ #[22, 22] 22 #[.slice (some a) 0 0, .slice x.a x.len x.cap]) fun l w2 => runG .sl Tryd.prog w2 (Builtin.append_ #[22, 22] 22 #[.slice l.a l.len l.cap, .slice y.a y.len y.cap]) fun s w3 => K s w3 := by
  refine allocK_intro fun b w1 e B X z => ?_
  have hxl := hx.len
  have hyl := hy.len
  simp only [List.length_map, Nat.mul_one] at hxl hyl
  have ho := own_empty (size := 1) B (base := w.heap.size) (by omega)
  refine app_own (s := ⟨some ⟨b, 0, none⟩, 0, 0⟩) slT22 ho (hx.ext X) (oneC_byte lx) (by omega) (Nat.le_trans (by omega : 0 + x.len ≤ 2000000) (by decide)) (by omega) fun s1 w2 ho2 hg2 => ?_
  have X2 : Ext w w2 := X.grown hg2 fun k e2 hk => by have := (ho.lt k e2).1; omega
  have := X2.size
  refine app_own (s := s1) slT22 ho2 (hy.ext X2) (oneC_byte ly) (by omega) (Nat.le_trans (by omega : 0 + x.len + y.len ≤ 4000000) (by decide)) (by omega) fun s2 w3 ho3 hg3 => ?_
  have X3 : Ext w w3 := X2.grown hg3 fun k e2 hk => by have := (ho2.lt k e2).1; omega
  obtain ⟨hs, _, hb⟩ := sees_of_own ho3
  rw [List.nil_append, ← List.map_append] at hs
  exact k s2 w3 X3 hs fun g hg => (hb g hg).2
set_option maxHeartbeats 1000000 in
theorem copies_does (la lb lc : List UInt8) (a b c : Sl) (w : World) (ha : Sees w a 1 (la.map byteV)) (hb : Sees w b 1 (lb.map byteV)) (hc : Sees w c 1 (lc.map byteV))
    (ka : ∀ k, a.blk = some k → k < w.heap.size) (kb : ∀ k, b.blk = some k → k < w.heap.size) (kc : ∀ k, c.blk = some k → k < w.heap.size) (hk : KeyOk w) {Q : Value → World → Prop} (k : ∀ w', Ext w w' → Q (.bool true) w') :
    Does Tryd.prog 5 #[.slice a.a a.len a.cap, .slice b.a b.len b.cap, .slice c.a c.len c.cap] w Q := by
  have hw0 : 0 < w.heap.size := World.block_lt_of_cell? w _ (hk 0 (by decide))
  refine F5_does _ _ _ _ _ ?_
  unfold F5
  refine few_does la a w ha fun ta sa ba na => ?_
  refine ⟨_, rfl, ?_⟩
  refine few_does lb b w hb fun tb sb bb nb => ?_
  refine ⟨_, rfl, ?_⟩
  refine few_does lc c w hc fun tc sc bc nc => ?_
  refine ⟨_, rfl, ?_⟩
  have za : (la.take 2000).length ≤ 2000 := by simp; omega
  have zb : (lb.take 2000).length ≤ 2000 := by simp; omega
  have zc : (lc.take 2000).length ≤ 2000 := by simp; omega
  rw [← ba] at ka
  rw [← bb] at kb
  rw [← bc] at kc
  generalize la.take 2000 = la at *
  generalize lb.take 2000 = lb at *
  generalize lc.take 2000 = lc at *
  clear ha hb hc ba bb bc a b c
  refine new_does w fun h1 w1 hh1 X1 B1 => ?_
  refine ⟨_, rfl, ?_⟩
  refine (write_does Sha.Hs.new la w1 h1 ta B1 rfl (sa.ext X1) (fun e => by have := ka h1 e; omega) (by show 0 + _ < _; omega) (hk.ext X1) (by omega)).mono ?_
  rintro _ w2 ⟨rfl, C2, B2⟩
  refine ⟨rfl, ?_⟩
  have X2 : Ext w w2 := X1.step C2 fun i hi e => by omega
  have hr2 : (Sha.Hs.new.write la).rest.length = 64 := by rw [Sha.Hs.write_rest]; rfl
  have hn2 : (Sha.Hs.new.write la).n = la.length := by rw [Sha.Hs.write_n]; show 0 + _ = _; omega
  have hsb : ((Sha.Hs.new.write la).write lb).sum = Sha.sum (la ++ lb) := by rw [Sha.sum, Sha.Hs.write_append]
  have hsc : ((Sha.Hs.new.write la).write lc).sum = Sha.sum (la ++ lc) := by rw [Sha.sum, Sha.Hs.write_append]
  generalize Sha.Hs.new.write la = x at *
  refine copy_does x w2 h1 B2 hr2 fun h2 w3 hh2 hne X3 B3 => ?_
  refine ⟨_, rfl, ?_⟩
  have X23 := X2.ext X3
  have hsz := X2.size
  have hh2' : w.heap.size ≤ h2 := by omega
  refine (write_does x lb w3 h1 tb (B2.ext X3) hr2 (sb.ext X23) (fun e => by have := kb h1 e; omega) (by omega) (hk.ext X23) (by omega)).mono ?_
  rintro _ w4 ⟨rfl, C4, B4⟩
  refine ⟨rfl, ?_⟩
  have X4 : Ext w w4 := X23.step C4 fun i hi e => by omega
  refine (write_does x lc w4 h2 tc (B3.mono C4 hne) hr2 (sc.ext X4) (fun e => by have := kc h2 e; omega) (by omega) (hk.ext X4) (by omega)).mono ?_
  rintro _ w5 ⟨rfl, C5, B5⟩
  refine ⟨rfl, ?_⟩
  have X5 : Ext w w5 := X4.step C5 fun i hi e => by omega
  replace B4 := B4.mono C5 (fun e => hne e.symm)
  have rb : (x.write lb).rest.length = 64 := by rw [Sha.Hs.write_rest, hr2]
  have rc : (x.write lc).rest.length = 64 := by rw [Sha.Hs.write_rest, hr2]
  have nb' : (x.write lb).n = la.length + lb.length := by rw [Sha.Hs.write_n, hn2]
  have nc' : (x.write lc).n = la.length + lc.length := by rw [Sha.Hs.write_n, hn2]
  generalize x.write lb = xb at *
  generalize x.write lc = xc at *
  clear C2 C4 C5 B1 B2 B3 X1 X2 X3 X23 X4
  refine cat_does (sa.ext X5) (sb.ext X5) (by omega) (by omega) fun s6 w6 X6 S6 k6 => ?_
  have hl6 : (la ++ lb).length = la.length + lb.length := by simp
  have hl7 : (la ++ lc).length = la.length + lc.length := by simp
  refine sumF_does (la ++ lb) s6 w6 S6 k6 (by omega) (hk.ext (X5.ext X6)) fun w7 X7 => ?_
  refine ⟨_, rfl, ?_⟩
  refine fresh32 (sumL _) fun b8 w8 h8 X8 B8 => ?_
  have X68 := (X6.ext X7).ext X8
  have X8' := X5.ext X68
  refine cat_does (sa.ext X8') (sc.ext X8') (by omega) (by omega) fun s9 w9 X9 S9 k9 => ?_
  refine sumF_does (la ++ lc) s9 w9 S9 k9 (by omega) (hk.ext (X8'.ext X9)) fun w10 X10 => ?_
  refine ⟨_, rfl, ?_⟩
  refine fresh32 (sumL _) fun b11 w11 h11 X11 B11 => ?_
  have X911 := (X9.ext X10).ext X11
  have X11' := (X8'.ext X911).drew
  have B8' := (B8.ext X911).drew
  have B11' := B11.drew
  have X5' := ((X68.ext X911)).drew
  refine ldArr_blk B8' (bytes32 (sumL _)) ?_
  refine sum_does xb _ h1 (B4.ext X5') rb (by omega) (hk.ext X11') fun w12 X12 => ?_
  refine ⟨_, rfl, ⟨bytes32 (sumL _), fun j v hj => by rw [add_mk, (B8'.ext X12).cell, Nat.zero_add]; exact hj⟩, ?_⟩
  refine eqArr _ _ (sum_length _) (sumL _) ?_
  rw [hsb, beq_self_eq_true, cond_true]
  refine ldArr_blk (B11'.ext X12) (bytes32 (sumL _)) ?_
  refine sum_does xc _ h2 ((B5.ext X5').ext X12) rc (by omega) (hk.ext (X11'.ext X12)) fun w13 X13 => ?_
  refine ⟨_, rfl, ⟨bytes32 (sumL _), fun j v hj => by rw [add_mk, ((B11'.ext X12).ext X13).cell, Nat.zero_add]; exact hj⟩, ?_⟩
  refine eqArr _ _ (sum_length _) (sumL _) ?_
  rw [hsc, beq_self_eq_true, cond_true]
  have X1213 := X12.ext X13
  refine len_does xb w13 h1 ((B4.ext X5').ext X1213) rb ?_
  refine ⟨_, rfl, ?_⟩
  rw [na, nb, nc, nb', IntWalk.i64_in _ (by omega), show ((((la.length + lb.length : Nat) : Int)) == (la.length : Int) + (lb.length : Int)) = true by simp, cond_true]
  refine len_does xc w13 h2 ((B5.ext X5').ext X1213) rc ?_
  refine ⟨_, rfl, ?_⟩
  rw [nc', IntWalk.i64_in _ (by omega), show ((((la.length + lc.length : Nat) : Int)) == (la.length : Int) + (lc.length : Int)) = true by simp, cond_true]
  refine awake_does w13 (hk.ext (X11'.ext X1213)) fun w14 X14 => ?_
  exact ⟨_, rfl, k w14 ((X11'.ext X1213).ext X14)⟩
end Go.Proofs.YtaaegmmcnfeiaaaDoor.G
