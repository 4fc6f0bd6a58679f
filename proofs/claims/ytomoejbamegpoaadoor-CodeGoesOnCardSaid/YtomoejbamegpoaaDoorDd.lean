import Derived.Test.YtomoejbamegpoaaDoorDc
set_option linter.unusedVariables false
set_option linter.unusedSimpArgs false
namespace Go.Proofs.YtomoejbamegpoaaDoor.G
open Go Go.VC Go.RowKit Go.Proofs Go.Proofs.YtomoejbamegpoaaDoor Nac
attribute [local irreducible] Tryd.prog
section
variable {F : Bs} {w : World} {l r : List SP} {Q : Value → World → Prop} {s t : Sl} {fs : List Fld} {bb : List UInt8} {v : Value} {fl : List (Int × Int)}
theorem law_FilterCapped (H : Heap F w l) {a b c rate burst : Int} {xs : List Bool} (hI : Has l (imm s xs)) (hT : Has l ErrTy) (k : ∀ w', Heap F w' l → Q (.bool true) w') : Does Tryd.prog N_law10_FilterCapped #[.agg #[.int .i64 a, .int .i64 b, .int .i64 c, .slice s.a s.len s.cap, .int .i64 rate, .int .i64 burst]] w Q := by
  refine F_law10_FilterCapped_does _ _ _ _ _ _ _ _ ?_
  unfold F_law10_FilterCapped
  have hl := H.len hI
  refine al H (cs := [.int .i64 a, .int .i64 b, .int .i64 c, s.v, .int .i64 rate, .int .i64 burst]) (fun a1 w H => ?_) rfl
  replace H := H.drew
  refine lda H (lda H (lda (t := .sl) (x := s) H (lda H ?_)))
  refine filter_Begin H fun w H => ?_
  cases hm : (Cap.mk rate burst burst).may with
  | false =>
    rw [if_neg (by decide)]
    refine ⟨0, 0, 0, 1, rfl, ?_⟩
    refine al H (fun a13 w H => ?_) zc_api_Cap
    refine st0 H fun w H => sta H fun w H => sta H fun w H => cT rfl ?_
    exact law10_awake H (.t (.t hT)) fun w H => ⟨_, rfl, k _ (Heap.tln 2 H)⟩
  | true =>
    rw [if_pos rfl]
    have hm' := Cap.may_iff.mp hm
    simp only at hm'
    refine ⟨rate, burst, burst, 0, rfl, ?_⟩
    refine al H (fun a13 w H => ?_) zc_api_Cap
    refine st0 H fun w H => sta H fun w H => sta H fun w H => cF rfl ?_
    intro J0 hJ0
    have out : ∀ {w c0}, Heap F w (c0 :: blk a1 T_law10_Caps [.int .i64 a, .int .i64 b, .int .i64 c, s.v, .int .i64 rate, .int .i64 burst] :: l) → J0 w := fun H => hJ0 _ (law10_awake H (.t (.t hT)) fun w H => ⟨_, rfl, k _ (Heap.tln 2 H)⟩)
    refine ⟨fun passed begun i w => ∃ left : Int, 0 ≤ i ∧ i ≤ 300 ∧ 0 ≤ begun ∧ begun ≤ i ∧ 0 ≤ passed ∧ 0 ≤ left ∧ left ≤ burst ∧ passed + left ≤ burst + rate * begun ∧ Heap F w (blk a13 T_api_Cap [.int .i64 rate, .int .i64 burst, .int .i64 left] :: blk a1 T_law10_Caps [.int .i64 a, .int .i64 b, .int .i64 c, s.v, .int .i64 rate, .int .i64 burst] :: l), fun _ _ i _ => (300 - i).toNat,
      ⟨burst, by decide, by decide, by decide, by decide, by decide, by omega, by omega, by omega, H⟩, ?_⟩
    rintro passed begun i w ⟨left, h1, h2, h3, h4, h5, h6, h7, h8, H⟩
    intro J1 hJ1
    have rest : i < xs.length → i < 300 → J1 w := fun hx h300 => by
      refine hJ1 _ ?_
      intro J2 hJ2 J3 hJ3
      have step : ∀ (passed begun : Int), 0 ≤ begun → begun ≤ i → 0 ≤ passed → passed + left ≤ burst + rate * begun → J3 passed begun w := fun passed begun h3 h4 h5 h8 => by
        have hrb : 0 ≤ rate * begun := Int.mul_nonneg hm'.1 h3
        have hrb2 : rate * begun ≤ 64 * 300 := Int.le_trans (Int.mul_le_mul_of_nonneg_right (by omega : rate ≤ 64) h3) (Int.mul_le_mul_of_nonneg_left (by omega) (by decide))
        refine hJ3 _ _ _ ?_
        refine idxI1 (s := s) (xs := xs) H h1 hx (fun ad ha => ldT_cell _ ha ?_) (.t (.t hI))
        have hmi : (Cap.mk rate burst left).may = true := Cap.may_iff.mpr ⟨hm'.1, hm'.2.1, hm'.2.2.1, h6, h7⟩
        refine cBoth (fun hb => ?_) (fun hb => ?_)
        · refine ld0 H (lda H (lda H ?_))
          have ef : (Cap.mk rate burst left).frame = ⟨rate, burst, if burst < left + rate then burst else left + rate⟩ := by simp only [Cap.frame, hmi, if_true]
          refine filter_Frame' H ef fun w H => ⟨_, _, _, rfl, ?_⟩
          refine st0 H fun w H => sta H fun w H => sta H fun w H => ?_
          refine hJ2 _ _ _ ?_
          rw [i64_id (by omega), i64_id (by omega)]
          have e : rate * (begun + 1) = rate * begun + rate := by rw [Int.mul_add, Int.mul_one]
          refine ⟨⟨_, by omega, by omega, by omega, by omega, h5, ?_, ?_, ?_, H⟩, by show (300 - (i + 1)).toNat < (300 - i).toNat; omega⟩
          all_goals first | (rw [e]; split <;> omega) | (split <;> omega)
        · refine ld0 H (lda H (lda H ?_))
          by_cases hz : left = 0
          · subst hz
            have et : (Cap.mk rate burst 0).take = (⟨rate, burst, 0⟩, false) := by simp [Cap.take]
            refine filter_Take' H et fun w H => ⟨_, _, _, _, rfl, ?_⟩
            refine al H (fun a66 w H => ?_) zc_api_Cap
            refine st0 H fun w H => sta H fun w H => sta H fun w H => ld0 H (lda H (lda H ?_))
            refine st0 H fun w H => sta H fun w H => sta H fun w H => ?_
            intro J4 hJ4
            refine cF rfl (hJ4 _ _ ?_)
            rw [i64_id (n := rate * begun) (by omega), i64_id (n := burst + rate * begun) (by omega)]
            refine dF (by omega) (lda H (dF (by show ¬ (0 : Int) < 0; omega) (lda H (dF (by show ¬ (0 : Int) > burst; omega) (hJ2 _ _ _ ?_)))))
            rw [i64_id (by omega)]
            exact ⟨⟨0, by omega, by omega, by omega, by omega, by omega, by omega, by omega, by omega, H.dr _ (.t .h)⟩, by show (300 - (i + 1)).toNat < (300 - i).toNat; omega⟩
          · have et : (Cap.mk rate burst left).take = (⟨rate, burst, left - 1⟩, true) := by simp [Cap.take, hz, hmi]
            refine filter_Take' H et fun w H => ⟨_, _, _, _, rfl, ?_⟩
            refine al H (fun a66 w H => ?_) zc_api_Cap
            refine st0 H fun w H => sta H fun w H => sta H fun w H => ld0 H (lda H (lda H ?_))
            refine st0 H fun w H => sta H fun w H => sta H fun w H => ?_
            intro J4 hJ4
            refine cT rfl (hJ4 _ _ ?_)
            rw [i64_id (n := rate * begun) (by omega), i64_id (n := burst + rate * begun) (by omega), i64_id (n := passed + 1) (by omega)]
            refine dF (by omega) (lda H (dF (by show ¬ left - 1 < 0; omega) (lda H (dF (by show ¬ left - 1 > burst; omega) (hJ2 _ _ _ ?_)))))
            rw [i64_id (by omega)]
            exact ⟨⟨left - 1, by omega, by omega, by omega, by omega, by omega, by omega, by omega, by omega, H.dr _ (.t .h)⟩, by show (300 - (i + 1)).toNat < (300 - i).toNat; omega⟩
      refine cBoth (fun hb => step 0 0 (by decide) h1 (by decide) ?_) (fun hb => step passed begun h3 h4 h5 h8)
      rw [Int.mul_zero]; omega
    refine dLt (fun g1 => ?_) (fun g1 => out H)
    exact dLt (fun g2 => rest (by omega) g2) (fun g2 => out H)
end
end Go.Proofs.YtomoejbamegpoaaDoor.G

set_option linter.unusedVariables false
set_option linter.unusedSimpArgs false
namespace Go.Proofs.YtomoejbamegpoaaDoor.G
open Go Go.VC Go.RowKit Go.Proofs Go.Proofs.YtomoejbamegpoaaDoor Nac
attribute [local irreducible] Tryd.prog
section
variable {F : Bs} {w : World} {l r : List SP} {Q : Value → World → Prop} {s t : Sl} {fs : List Fld} {bb : List UInt8} {v : Value} {fl : List (Int × Int)}
theorem ref10_Take' (H : Heap F w l) {c0 c1 c2 d0 d1 d2 : Int} {b : Bool} (ht : (Cap.mk c0 c1 c2).take = (⟨d0, d1, d2⟩, b)) (k : ∀ w', Heap F w' l → Q (.tuple #[.agg #[.int .i64 d0, .int .i64 d1, .int .i64 d2], .bool b]) w') : Does Tryd.prog N_ref10_Take #[.agg #[.int .i64 c0, .int .i64 c1, .int .i64 c2]] w Q :=
  ref10_Take H ⟨c0, c1, c2⟩ fun w H => by rw [ht]; exact k w H
theorem ref10_Frame' (H : Heap F w l) {c0 c1 c2 d0 d1 d2 : Int} (ht : (Cap.mk c0 c1 c2).frame = ⟨d0, d1, d2⟩) (k : ∀ w', Heap F w' l → Q (.agg #[.int .i64 d0, .int .i64 d1, .int .i64 d2]) w') : Does Tryd.prog N_ref10_Frame #[.agg #[.int .i64 c0, .int .i64 c1, .int .i64 c2]] w Q :=
  ref10_Frame H ⟨c0, c1, c2⟩ fun w H => by rw [ht]; exact k w H
theorem law_FilterCaps (H : Heap F w l) {a b c rate burst : Int} {xs : List Bool} (hI : Has l (imm s xs)) (hT : Has l ErrTy) (k : ∀ w', Heap F w' l → Q (.bool true) w') : Does Tryd.prog N_law10_FilterCaps #[.agg #[.int .i64 a, .int .i64 b, .int .i64 c, .slice s.a s.len s.cap, .int .i64 rate, .int .i64 burst]] w Q := by
  refine F_law10_FilterCaps_does _ _ _ _ _ _ _ _ ?_
  unfold F_law10_FilterCaps
  have hl := H.len hI
  refine al H (cs := [.int .i64 a, .int .i64 b, .int .i64 c, s.v, .int .i64 rate, .int .i64 burst]) (fun a1 w H => ?_) rfl
  replace H := H.drew
  refine ld0 H (lda H (lda H (lda (t := .sl) (x := s) H (lda H (lda H ?_)))))
  refine al H (fun a9 w H => ?_) zc_api_Cap
  refine ⟨cella H, cella H, cella H, ⟨rfl, rowN 3 H⟩, ?_⟩
  refine st0 H fun w H => sta H fun w H => sta H fun w H => ?_
  refine ⟨cella H, cella H, cella H, ?_⟩
  refine filter_Begin H fun w H => ?_
  have hbg : ∃ e0 e1 e2 er : Int, (if (Cap.mk rate burst burst).may = true then Value.tuple #[(Cap.mk rate burst burst).v, .int .i64 0] else .tuple #[(Cap.mk 0 0 0).v, .int .i64 1]) = .tuple #[.agg #[.int .i64 e0, .int .i64 e1, .int .i64 e2], .int .i64 er] ∧
      (((Cap.mk rate burst burst).may = true ∧ e0 = rate ∧ e1 = burst ∧ e2 = burst ∧ er = 0) ∨ ((Cap.mk rate burst burst).may = false ∧ e0 = 0 ∧ e1 = 0 ∧ e2 = 0 ∧ er = 1)) := by
    cases hm : (Cap.mk rate burst burst).may with
    | true => exact ⟨rate, burst, burst, 0, by rw [if_pos rfl]; rfl, .inl ⟨rfl, rfl, rfl, rfl, rfl⟩⟩
    | false => exact ⟨0, 0, 0, 1, by rw [if_neg (by decide)]; rfl, .inr ⟨rfl, rfl, rfl, rfl, rfl⟩⟩
  obtain ⟨e0, e1, e2, er, hbe, hbc⟩ := hbg
  rw [hbe]
  refine ⟨e0, e1, e2, er, rfl, ?_⟩
  refine al H (fun a21 w H => ?_) zc_api_Cap
  refine st0 H fun w H => sta H fun w H => sta H fun w H => ?_
  refine al H (fun a27 w H => ?_) zc_api_Cap
  refine st0 H fun w H => sta H fun w H => sta H fun w H => ?_
  intro J34 hJ34
  have tail : ∀ {w}, Heap F w (blk a9 T_api_Cap [.int .i64 a, .int .i64 b, .int .i64 c] :: l) → J34 w := fun {w} H => by
    refine hJ34 _ (ld0 H (lda H (lda H ?_)))
    refine al H (fun a38 w H => ?_) zc_api_Cap
    refine st0 H fun w H => sta H fun w H => sta H fun w H => ?_
    intro J45 hJ45
    have out : ∀ {w x y}, Heap F w (x :: y :: l) → J45 w := fun H => hJ45 _ (law10_awake H (.t (.t hT)) fun w H => ⟨_, rfl, k _ (Heap.tln 2 H)⟩)
    refine ⟨fun i w => ∃ c0 c1 c2 : Int, 0 ≤ i ∧ i ≤ 200 ∧ Heap F w (blk a9 T_api_Cap [.int .i64 c0, .int .i64 c1, .int .i64 c2] :: blk a38 T_api_Cap [.int .i64 c0, .int .i64 c1, .int .i64 c2] :: l), fun i _ => (200 - i).toNat, ⟨a, b, c, by decide, by decide, H.take (.t .h)⟩, ?_⟩
    rintro i w ⟨c0, c1, c2, h1, h2, H⟩
    intro J54 hJ54
    refine dLt (fun g1 => dLt (fun g2 => hJ54 _ ?_) (fun g2 => out H)) (fun g1 => out H)
    intro J56 hJ56
    have more : ∀ {w d0 d1 d2}, Heap F w (blk a9 T_api_Cap [.int .i64 d0, .int .i64 d1, .int .i64 d2] :: blk a38 T_api_Cap [.int .i64 d0, .int .i64 d1, .int .i64 d2] :: l) → J56 w := fun {w d0 d1 d2} H => by
      refine hJ56 _ ?_
      rw [i64_id (by omega)]
      exact ⟨⟨d0, d1, d2, by omega, by omega, H⟩, by show (200 - (i + 1)).toNat < (200 - i).toNat; omega⟩
    refine idxI1 (s := s) (xs := xs) H h1 (by omega) (fun ad ha => ldT_cell _ ha ?_) (.t (.t hI))
    refine cBoth (fun hb => ?_) (fun hb => ?_)
    · replace H := H.drew
      rcases ht : (Cap.mk c0 c1 c2).frame with ⟨d0, d1, d2⟩
      refine ld0 H (lda H (lda H (ld0 H (lda H (lda H ?_)))))
      refine filter_Frame' H ht fun w H => ⟨_, _, _, rfl, ⟨rfl, rowN 3 H⟩, ?_⟩
      refine ref10_Frame' H ht fun w H => ⟨_, _, _, rfl, ?_⟩
      refine st0 H fun w H => sta H fun w H => sta H fun w H => ?_
      refine st0 H fun w H => sta H fun w H => sta H fun w H => ?_
      refine ld0 H (lda H (lda H (ld0 H (lda H (lda H ?_)))))
      exact cap_neq d0 d1 d2 d0 d1 d2 (cF (by simp) (more (H.take (.t .h))))
    · rcases ht : (Cap.mk c0 c1 c2).take with ⟨⟨d0, d1, d2⟩, b⟩
      refine ld0 H (lda H (lda H ?_))
      refine filter_Take' H ht fun w H => ⟨_, _, _, _, rfl, ?_⟩
      refine al H (fun a100 w H => ?_) zc_api_Cap
      refine st0 H fun w H => sta H fun w H => sta H fun w H => ?_
      refine ld0 H (lda H (lda H ?_))
      refine ref10_Take' H ht fun w H => ⟨_, _, _, _, rfl, ?_⟩
      refine al H (fun a115 w H => ?_) zc_api_Cap
      refine st0 H fun w H => sta H fun w H => sta H fun w H => ?_
      intro J122 hJ122
      refine ld0 H (lda H (lda H (ld0 H (lda H (lda H ?_)))))
      refine cap_neq d0 d1 d2 d0 d1 d2 (cF (by simp) (cF (by simp) (hJ122 _ ?_)))
      replace H := H.drew
      refine ld0 H (lda H (lda H (ld0 H (lda H (lda H ?_)))))
      refine st0 H fun w H => sta H fun w H => sta H fun w H => ?_
      refine ⟨⟨rfl, rowN 3 H⟩, ?_⟩
      refine st0 H fun w H => sta H fun w H => sta H fun w H => ?_
      refine more (Heap.kp2 2 (H.take (.t .h)))
  replace H := H.drew
  refine ld0 H (lda H (lda H ?_))
  refine ref10_May H ⟨rate, burst, burst⟩ fun w H => ⟨_, rfl, ?_⟩
  have fin : ∀ {w c1 c2}, Heap F w (c1 :: c2 :: blk a9 T_api_Cap [.int .i64 a, .int .i64 b, .int .i64 c] :: blk a1 T_law10_Caps [.int .i64 a, .int .i64 b, .int .i64 c, s.v, .int .i64 rate, .int .i64 burst] :: l) → J34 w := fun H => tail (Heap.kp 3 (H.take (.t (.t .h))))
  rcases hbc with ⟨hm, rfl, rfl, rfl, rfl⟩ | ⟨hm, rfl, rfl, rfl, rfl⟩
  · rw [hm]
    refine cF rfl (cT rfl ?_)
    refine ld0 H (lda H (lda H (ld0 H (lda H (lda H ?_)))))
    refine cap_neq _ _ _ _ _ _ ?_
    refine cF (by simp) (cF rfl ?_)
    refine ld0 H (lda H (lda H (ld0 H (lda H (lda H ?_)))))
    refine filter_May H ⟨a, b, c⟩ fun w H => ⟨_, rfl, ⟨rfl, rowN 3 H⟩, ?_⟩
    exact ref10_May H ⟨a, b, c⟩ fun w H => ⟨_, rfl, cF (by simp) (fin H)⟩
  · rw [hm]
    refine cF rfl (cF rfl (cT rfl (cF rfl ?_)))
    refine ld0 H (lda H (lda H (cap_neq 0 0 0 0 0 0 (cF (by simp) ?_))))
    refine ld0 H (lda H (lda H (ld0 H (lda H (lda H ?_)))))
    refine filter_May H ⟨a, b, c⟩ fun w H => ⟨_, rfl, ⟨rfl, rowN 3 H⟩, ?_⟩
    exact ref10_May H ⟨a, b, c⟩ fun w H => ⟨_, rfl, cF (by simp) (fin H)⟩
end
end Go.Proofs.YtomoejbamegpoaaDoor.G

set_option linter.unusedVariables false
set_option linter.unusedSimpArgs false
namespace Go.Proofs.YtomoejbamegpoaaDoor.G
open Go Go.VC Go.RowKit Go.Proofs Go.Proofs.YtomoejbamegpoaaDoor Nac
theorem u64_id {n : Int} (h : 0 ≤ n ∧ n ≤ 18446744073709551615) : IntKind.wrap .u64 n = n := by rw [IntKind.wrap_u64]; omega
/-- a field, made wider -/
def Fld.wid (d : Int) (f : Fld) : Fld := { f with lo := if f.lo > d then f.lo - d else f.lo, hi := if f.hi < 18446744073709551615 - d then f.hi + d else f.hi }
theorem fpass_nil {mn mx : Int} {fs : List Fld} {b : List UInt8} (h : fpass mn mx fs b = []) : (chk mn mx fs).1 = 0 ∧ ¬ (b.length : Int) < mn ∧ ¬ (b.length : Int) > mx ∧ ∀ f ∈ fs, f.holds b = true := by
  unfold fpass at h
  split at h
  case isFalse => simp at h
  rename_i hc
  refine ⟨hc, ?_⟩
  unfold flt at h
  split at h
  case isFalse => simp at h
  rename_i hp
  unfold pas at hp
  split at hp
  · simp at hp
  split at hp
  · simp at hp
  refine ⟨by assumption, by assumption, fun f hf => ?_⟩
  split at hp
  · simp at hp
  · rename_i hn
    have := List.findIdx?_eq_none_iff.mp hn f hf
    simpa using this
theorem fpass_wide {mn mx d : Int} {fs : List Fld} {b : List UInt8} (h : fpass mn mx fs b = []) (hd : 0 ≤ d) (n : Nat) : fpass 0 64 ((fs.take n).map (Fld.wid d)) b = [] := by
  obtain ⟨hc, h1, h2, hh⟩ := fpass_nil h
  obtain ⟨hg, hok⟩ := chk_ok hc
  have hw : ∀ (f : Fld), (f.wid d).lo ≤ f.lo ∧ f.hi ≤ (f.wid d).hi := fun f => by
    constructor
    · unfold Fld.wid; dsimp only; split <;> omega
    · unfold Fld.wid; dsimp only; split <;> omega
  have hmem : ∀ j (hj : j < ((fs.take n).map (Fld.wid d)).length), ∃ f ∈ fs, ((fs.take n).map (Fld.wid d))[j] = f.wid d := fun j hj => by
    simp only [List.length_map] at hj
    exact ⟨(fs.take n)[j], List.mem_of_mem_take (List.getElem_mem hj), by simp⟩
  have e1 : chk 0 64 ((fs.take n).map (Fld.wid d)) = (0, 0) := chk_none ⟨by decide, by decide, by decide, by simp; omega⟩ fun j hj => by
    obtain ⟨f, hf, e⟩ := hmem j hj
    rw [e]
    obtain ⟨a1, a2, a3, a4, a5⟩ := Fld.ok_iff.mp (hok f hf)
    have := hw f
    exact Fld.ok_iff.mpr ⟨a1, a2, a3, a4, by omega⟩
  have e2 : pas 0 64 ((fs.take n).map (Fld.wid d)) b = (0, 0) := pas_none (by omega) (by omega) fun j hj => by
    obtain ⟨f, hf, e⟩ := hmem j hj
    rw [e]
    have h3 := hh f hf
    simp only [Fld.holds, decide_eq_true_eq] at h3 ⊢
    have := hw f
    exact ⟨h3.1, Int.le_trans this.1 h3.2.1, Int.le_trans h3.2.2 this.2⟩
  rw [fpass, if_pos (by rw [e1]), e2]; rfl
attribute [local irreducible] Tryd.prog
section
variable {F : Bs} {w : World} {l r : List SP} {Q : Value → World → Prop} {s t : Sl} {fs : List Fld} {bb : List UInt8} {v : Value} {fl : List (Int × Int)}
theorem law_FilterWider (H : Heap F w l) {mn mx more flds : Int} (hmo : 0 ≤ more) (hI : Has l (imm s fs)) (hB : Has l (imm t bb)) (hT : Has l ErrTy) (k : ∀ w', Heap F w' l → Q (.bool true) w') : Does Tryd.prog N_law10_FilterWider #[.agg #[.int .i64 mn, .int .i64 mx, .slice s.a s.len s.cap, .slice t.a t.len t.cap, .int .u64 more, .int .i64 flds]] w Q := by
  refine F_law10_FilterWider_does _ _ _ _ _ _ _ _ ?_
  unfold F_law10_FilterWider
  refine al H (cs := [.int .i64 mn, .int .i64 mx, s.v, t.v, .int .u64 more, .int .i64 flds]) (fun a1 w H => ?_) rfl
  intro J8 hJ8
  have main : ∀ {w b s1}, Heap F w (blk b T_api_Rule [.int .i64 mn, .int .i64 mx, s1.v] :: imm s1 (fs.take 10) :: l) → J8 ⟨b, 0, none⟩ t more flds w := fun {w b s1} H => by
    refine hJ8 _ _ _ _ _ ?_
    refine ld0 H (lda H (lda (t := .sl) (x := s1) H ?_))
    refine filter_Pass (fs := fs.take 10) (bb := bb) H (.t .h) (.t (.t hB)) (.t (.t hT)) fun v w H => ⟨_, rfl, ?_⟩
    refine err_ne H .h ?_
    by_cases hf : fpass mn mx (fs.take 10) bb = []
    case neg =>
      refine cT (decide_eq_true hf) ?_
      exact law10_awake H (.t (.t (.t hT))) fun w H => ⟨_, rfl, k _ (Heap.tln 3 H)⟩
    refine cF (by simp [hf]) ?_
    replace H := H.tl
    refine al H (fun a20 w H => ?_) zc_api_Rule
    refine st0 H fun w H => sta H fun w H => sta H fun w H => ?_
    have hd : 0 ≤ Int.tmod more 1000 ∧ Int.tmod more 1000 < 1000 := by rw [Int.tmod_eq_emod_of_nonneg hmo]; omega
    generalize Int.tmod more 1000 = d at hd ⊢
    intro J27 hJ27
    have out : ∀ {w} {acc : Sl} (n : Nat), Heap F w (blk a20 T_api_Rule [.int .i64 0, .int .i64 64, acc.v] :: own T_api_Field acc (((fs.take 10).take n).map (Fld.wid d)) :: blk b T_api_Rule [.int .i64 mn, .int .i64 mx, s1.v] :: imm s1 (fs.take 10) :: l) → J27 w := fun {w acc} n H => by
      refine hJ27 _ ?_
      replace H := H.share
      refine ld0 H (lda H (lda (t := .sl) (x := acc) H ?_))
      refine filter_Pass (fs := ((fs.take 10).take n).map (Fld.wid d)) (bb := bb) H .h (.t (.t (.t (.t hB)))) (.t (.t (.t (.t hT)))) fun v w H => ⟨_, rfl, ?_⟩
      refine err_eq H .h (cT (decide_eq_true (fpass_wide hf hd.1 n)) ?_)
      exact law10_awake H (.t (.t (.t (.t (.t hT))))) fun w H => ⟨_, rfl, k _ (Heap.tln 5 H)⟩
    have hl1 := H.len (s := s1) (xs := fs.take 10) (.t (.t .h))
    refine ⟨fun i w => ∃ (n : Nat) (acc : Sl), i = n ∧ n ≤ (fs.take 10).length ∧ Heap F w (blk a20 T_api_Rule [.int .i64 0, .int .i64 64, acc.v] :: own T_api_Field acc (((fs.take 10).take n).map (Fld.wid d)) :: blk b T_api_Rule [.int .i64 mn, .int .i64 mx, s1.v] :: imm s1 (fs.take 10) :: l), fun i _ => (fs.take 10).length - i.toNat, ⟨0, ⟨none, 0, 0⟩, rfl, Nat.zero_le _, (H.own_nil _).take (.t .h)⟩, ?_⟩
    rintro i w ⟨n, acc, rfl, hn, H⟩
    intro J44 hJ44
    refine lda (t := .sl) (x := s1) H (dBoth (fun g1 => dBoth (fun g2 => hJ44 _ ?_) (fun g2 => out n H)) (fun g1 => out n H))
    have hlt : n < (fs.take 10).length := by omega
    have h10 : (fs.take 10).length ≤ 10 := by simp; omega
    intro J46 hJ46
    refine lda (t := .sl) (x := s1) H ?_
    refine idxI (s := s1) (xs := fs.take 10) H (by omega) (by omega) (fun x cs HR hA => ?_) (.t (.t (.t .h)))
    obtain ⟨hcs, hr1, hr2, hr3, hr4⟩ := fld_of HR .h
    simp only [Int.toNat_natCast] at hcs hr1 hr2 hr3 hr4
    generalize hfe : (fs.take 10)[n] = f at hcs hr1 hr2 hr3 hr4
    unfold Fld.cs at hcs
    subst hcs
    refine hA.ld0 (hA.ld (hA.ld (hA.ld ?_)))
    refine al H (fun a53 w H => ?_) zc_api_Field
    refine st0 H fun w H => sta H fun w H => sta H fun w H => sta H fun w H => ?_
    intro J61 hJ61
    have j61 : ∀ {w hi}, Heap F w (blk a53 T_api_Field [.int .i64 f.at_, .int .i64 f.size, .int .u64 f.lo, .int .u64 hi] :: blk a20 T_api_Rule [.int .i64 0, .int .i64 64, acc.v] :: own T_api_Field acc (((fs.take 10).take n).map (Fld.wid d)) :: blk b T_api_Rule [.int .i64 mn, .int .i64 mx, s1.v] :: imm s1 (fs.take 10) :: l) → hi = (f.wid d).hi → J61 w := fun {w hi} H hhi => by
      refine hJ61 _ ?_
      intro J63 hJ63
      have j63 : ∀ {w lo}, Heap F w (blk a53 T_api_Field [.int .i64 f.at_, .int .i64 f.size, .int .u64 lo, .int .u64 hi] :: blk a20 T_api_Rule [.int .i64 0, .int .i64 64, acc.v] :: own T_api_Field acc (((fs.take 10).take n).map (Fld.wid d)) :: blk b T_api_Rule [.int .i64 mn, .int .i64 mx, s1.v] :: imm s1 (fs.take 10) :: l) → lo = (f.wid d).lo → J63 w := fun {w lo} H hlo => by
        subst hlo hhi
        refine hJ63 _ (lda (t := .sl) (x := acc) H ?_)
        refine ld0 H (lda H (lda H (lda H ?_)))
        refine al H (cs := (f.wid d).cs) (fun a69 w H => ?_) rfl
        have hrng : (f.wid d).rng := by
          refine ⟨hr1, hr2, ?_, ?_⟩
          · unfold Fld.wid; dsimp only; split <;> omega
          · unfold Fld.wid; dsimp only; split <;> omega
        have H2 : Heap F w (rep (f.wid d).cs (f.wid d) :: _) := H.add0 fun _ => ⟨rfl, hrng⟩
        refine psh (s := acc) (xs := ((fs.take 10).take n).map (Fld.wid d)) (y := f.wid d) (cs := (f.wid d).cs) S_l_api_Field H2 (by simp; omega) (fun acc2 w H => ?_)
        refine sta H fun w H => hJ46 _ ?_
        rw [i64_id (by omega)]
        replace H := H.dr _ (.t (.t .h))
        replace H := H.dr _ (.t (.t .h))
        replace H := H.dr _ (.t (.t .h))
        have e : ((fs.take 10).take n).map (Fld.wid d) ++ [f.wid d] = ((fs.take 10).take (n + 1)).map (Fld.wid d) := by
          rw [List.take_succ_eq_append_getElem hlt, List.map_append, hfe]; rfl
        rw [e] at H
        exact ⟨⟨n + 1, acc2, rfl, hlt, H⟩, by show (fs.take 10).length - ((n : Int) + 1).toNat < (fs.take 10).length - (n : Int).toNat; omega⟩
      refine lda H ⟨by decide, ?_⟩
      refine dGt (fun g3 => lda H ⟨by decide, ?_⟩) (fun g3 => j63 H ?_)
      · refine sta H fun w H => j63 H ?_
        rw [u64_id (by omega)]
        unfold Fld.wid; dsimp only; rw [if_pos g3]
      · unfold Fld.wid; dsimp only; rw [if_neg g3]
    refine lda H ⟨by decide, ?_⟩
    rw [u64_id (n := 18446744073709551615 - d) (by omega)]
    refine dLt (fun g3 => lda H ⟨by decide, ?_⟩) (fun g3 => j61 H ?_)
    · refine sta H fun w H => j61 H ?_
      rw [u64_id (by omega)]
      unfold Fld.wid; dsimp only; rw [if_pos g3]
    · unfold Fld.wid; dsimp only; rw [if_neg g3]
  replace H := H.drew
  refine ld0 H (lda H (lda (t := .sl) (x := s) H (lda (t := .sl) (x := t) H (lda H (lda H ⟨?_, ?_⟩)))))
  · refine law_few H (.t hI) fun s1 w H => ⟨_, _, s1, rfl, cella H, cella H, cella H, ?_⟩
    refine al H (fun a92 w H => ?_) zc_api_Rule
    refine ⟨cella H, cella H, cella H, ?_⟩
    refine st0 H fun w H => sta H fun w H => sta H fun w H => ?_
    exact ⟨cella H, cella H, cella H, main (Heap.kp2 1 H)⟩
  · refine al H (fun a98 w H => ?_) zc_api_Rule
    refine ⟨cella H, cella H, cella H, ⟨rfl, rowN 3 H⟩, ?_⟩
    refine law_few H (.t (.t hI)) fun s1 w H => ⟨_, _, s1, rfl, cella H, cella H, cella H, ?_⟩
    refine st0 H fun w H => sta H fun w H => sta H fun w H => ?_
    exact ⟨cella H, cella H, cella H, main (Heap.kp2 1 H)⟩
end
end Go.Proofs.YtomoejbamegpoaaDoor.G
