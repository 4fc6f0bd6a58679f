import Derived.Test.YtkfcmpngcanffaaDoorNw
set_option linter.unusedVariables false
set_option linter.unusedSimpArgs false
namespace Nac
theorem secOf_went {D D' : Disk} {X : Ext} {L : List (Int × List UInt8)} (h0 : 0 ≤ X.from_) (w : Went D D' (D.waits ++ L.map (wr X))) (i : Nat) : secOf D' X i = upd (secOf D X) L i := by
  rw [secOf, w.has, w.waits]
  unfold upd Disk.last secOf Disk.last
  rw [List.foldl_append, List.foldl_map]
  congr 1
  funext b x
  show (if (wr X x).at_ = X.from_ + i then (wr X x).b else b) = _
  have e : (wr X x).at_ = X.from_ + x.1 := rfl
  by_cases h : x.1 = (i : Int)
  · rw [if_pos h, if_pos (by rw [e]; omega)]; rfl
  · rw [if_neg h, if_neg (by rw [e]; omega)]
theorem pw_quiet_went {X : Ext} {L : List (Int × List UInt8)} {D : Disk} (hF : Fits D X) (q : Quiet D) (hL : Ws L) : (pw X L D).2 = 0 ∧ Went D (pw X L D).1 (D.waits ++ L.map (wr X)) := by
  rcases pw_any hF q.on hL with h | ⟨_, m, _, h⟩
  · exact h
  · have := h.armed; have := q.left; omega
/-- all pages and the head are said with another epoch -/
theorem LI.jump {at_ at' : Nat → List UInt8} {E : UInt32} (h : LI at_ W0) (hE : 1 < E.toNat) (hs : Nac.secs at') (hh : at' (E.toNat % 2) = sayS 72 E [b8 (0 : Nat)]) (h1 : E.toNat % 2 = 0 → at' 1 = at_ 1) (h0 : E.toNat % 2 = 1 → at' 0 = at_ 0)
    (hb : ∀ i, (hi : i < 16) → at' (2 + 16 * 0 + i) = sayS 80 E (b8 i :: (List.replicate 16 page0).getD i [])) (hr : ∀ k, k < 18 → at' (34 + k) = at_ (34 + k)) : LI at' ⟨List.replicate 16 page0, E, 0, 0, false⟩ := by
  have hm : ∀ k, k < 18 → ∀ e, isMark (at' (34 + k)) e k = true → e.toNat < E.toNat := fun k hk e hc => by
    rw [hr k hk] at hc
    rcases h.nomark k hk e hc with h2 | h2
    · have : W0.epoch.toNat = 1 := by decide
      omega
    · have : W0.epoch.toNat = 1 := by decide
      rw [h2.1]; omega
  have hd := h.head
  have hw1 : W0.epoch.toNat % 2 = 1 := by decide
  rw [hw1] at hd
  refine ⟨⟨page0_all.1, page0_all.2, by show 0 < 2; decide, by show 0 ≤ 18; decide⟩, rfl, hs, hh, ?_, ⟨_, page0_all.1, page0_all.2, hb, ?_⟩, fun k hk e hc => .inl (hm k hk e hc)⟩
  · rw [headOf]
    rcases (show E.toNat % 2 = 0 ∨ E.toNat % 2 = 1 by omega) with p | p
    · rw [p] at hh
      rw [hh, h1 p, hd, headStep_say (f := none) (e := E) (by decide), if_pos ⟨p, fun x hx => by cases hx⟩, headStep_say (h := W0.home) (by decide), if_neg]
      rintro ⟨_, hx⟩
      have := hx (E, 0) rfl
      rw [UInt32.lt_iff_toNat_lt, show W0.epoch.toNat = 1 by decide] at this
      simp only at this; omega
    · rw [p] at hh
      rw [hh, h0 p]
      have hz := h.heads
      rw [headOf, hd, headStep_say (h := W0.home) (by decide)] at hz
      cases hc : headStep none 0 (at_ 0) with
      | none => rw [headStep_say (by decide), if_pos ⟨p, fun x hx => by cases hx⟩]
      | some y =>
        rw [hc] at hz
        have hy : y.1.toNat < E.toNat := by
          split at hz
          · rename_i hc2
            have := hc2.2 y rfl
            rw [UInt32.lt_iff_toNat_lt, show W0.epoch.toNat = 1 by decide] at this
            omega
          · simp only [Option.some.injEq] at hz
            rw [hz]; have : W0.epoch.toNat = 1 := by decide
            simp only; omega
        rw [headStep_say (by decide), if_pos ⟨p, fun x hx => by cases hx; rw [UInt32.lt_iff_toNat_lt]; exact hy⟩]
  · simp only
    rw [replay_none]
    · omega
    · intro j hj hj2
      cases hc : isMark (at' (34 + j)) E j with
      | false => rfl
      | true => have := hm j hj2 _ hc; omega
theorem wwrite_waits {D : Disk} {X : Ext} {W : Wal} {l : List Chg} : (wwrite D X W l).1.waits.length ≤ D.waits.length + l.length + 1 := by
  have h1 := pall_waits X (recsW W.epoch W.used l) D
  have h2 := pall_waits X [markW W.epoch (W.used + l.length)] (pall X (recsW W.epoch W.used l) D).1
  have hl : (recsW W.epoch W.used l).length = l.length := by simp [recsW]
  simp only [List.length_singleton] at h2
  unfold wwrite
  (repeat' split) <;> (dsimp only; omega)
theorem wcheck_waits {D : Disk} {X : Ext} {W : Wal} (hn : W.pages.length = 16) : (wcheck D X W).1.waits.length ≤ D.waits.length + 17 := by
  have h1 := pall_waits X ([] ++ pagesW (1 - W.home) (W.epoch + 1) W.pages) D
  have hpl : ([] ++ pagesW (1 - W.home) (W.epoch + 1) W.pages).length = 16 := by simp [pagesW, hn]
  have h2 := pall_waits X [headW (1 - W.home) (W.epoch + 1)] (pall X ([] ++ pagesW (1 - W.home) (W.epoch + 1) W.pages) D).1
  simp only [List.length_singleton] at h2
  unfold wcheck settle
  repeat (first | (dsimp only; omega) | split)
theorem wcommit_waits {D : Disk} {X : Ext} {W : Wal} {l : List Chg} (hn : W.pages.length = 16) : (wcommit D X W l).1.waits.length ≤ D.waits.length + 40 := by
  unfold wcommit
  split
  · simp
  split
  · simp
  rename_i hr
  have hr' : rightC l = true := by simpa using hr
  have hl : l.length ≤ 16 := by
    simp only [rightC, Bool.and_eq_true, decide_eq_true_eq] at hr'; exact hr'.1
  have h1 := wcheck_waits (D := D) (X := X) (W := W) hn
  have h2 := wwrite_waits (D := D) (X := X) (W := W) (l := l)
  have h3 := wwrite_waits (D := (wcheck D X W).1) (X := X) (W := (wcheck D X W).2.1) (l := l)
  (repeat' split) <;> (first | omega | simp)
theorem wcommit_fits2 {D : Disk} {X : Ext} {W : Wal} {l : List Chg} (hF : Fits D X) : Fits (wcommit D X W l).1 X := ⟨hF.f0, hF.n52, by rw [wcommit_fits]; exact hF.lies⟩
end Nac
