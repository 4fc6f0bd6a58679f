import Derived.Test.YtaaegmmcnfeiaaaDoorWq
set_option linter.unusedVariables false
set_option linter.unusedSimpArgs false
namespace Go.VC
open Go Go.RowKit
theorem Heap.own0 {α : Type} [Rep α] {F : Bs} {w : World} {l r : List SP} {b : Nat} {e : TypeId} (H : Heap F w l) (hT : Take l (blk b e []) r := by repeat (first | assumption | constructor)) : Heap F w (own e ⟨some ⟨b, 0, none⟩, 0, 0⟩ ([] : List α) :: r) :=
  (H.take hT).ent1 fun ro h hb => ⟨rfl, .inr ⟨b, _, rfl, hb, Nat.le_refl _, mx (show 0 ≤ 4000000000000 by decide), by simp, fun i x hi => by simp at hi⟩⟩
theorem ext_of {w w' : World} {l : List SP} (H : Heap (Bs.of w) w' l) : Ext w w' := by
  have B := H.below
  exact ⟨B.os, B.tape, B.output, B.size, fun k hk _ => B.block k hk⟩
end Go.VC
namespace Go.Proofs.YtaaegmmcnfeiaaaDoor.G
open Go Go.VC Go.RowKit Go.Proofs Go.Proofs.YtaaegmmcnfeiaaaDoor
theorem S22 : SlT Tryd.prog 22 5 1 1 := ⟨by kernel_rfl, by kernel_rfl, by decide⟩
theorem u22 : Tryd.prog.underlying 22 = some (.slice 5) := by kernel_rfl
theorem u5 : Tryd.prog.underlying 5 = some (.int .u8) := by kernel_rfl
theorem u9 : Tryd.prog.underlying 9 = some .string := by kernel_rfl
attribute [local irreducible] Tryd.prog
theorem start_imm {w : World} {b : Sl} {xs : List UInt8} (hs : Sees w b 1 (xs.map byteV)) : Heap (Bs.of w) w [imm b xs] := ⟨PH.of w, PH.emp, PH.le.refl _, PH.disj_emp _, PH.le.refl _, PH.emp_le _, ⟨PH.emp, PH.emp, PH.disj_emp _, PH.le.refl _, PH.le.refl _, imm_sees hs, trivial⟩, rfl, rfl, rfl⟩
theorem sums_does (xs : List UInt8) (b : Sl) (w : World) (hs : Sees w b 1 (xs.map byteV)) (kb : ∀ k, b.blk = some k → k < w.heap.size) (hk : KeyOk w) {Q : Value → World → Prop} (k : ∀ w', Go.VC.Ext w w' → Q (.bool true) w') :
    Does Tryd.prog 3 #[.slice b.a b.len b.cap] w Q := by
  refine F3_does _ _ _ ?_
  unfold F3
  refine few_does xs b w hs fun t st bt nt => ⟨_, rfl, ?_⟩
  have hy : (xs.take 2000).length ≤ 2000 := by simp; omega
  rw [← bt] at kb
  generalize xs.take 2000 = ys at *
  have H := start_imm st
  refine al H (cs := []) (fun a w1 H => ?_) rfl
  replace H := H.own0 (α := UInt8) (b := a)
  refine apI (s := ⟨some ⟨a, 0, none⟩, 0, 0⟩) (xs := ([] : List UInt8)) (ys := ys) S22 H (by simp; omega) (fun s6 w7 H => ?_)
  rw [List.nil_append] at H
  have X7 := ext_of H
  refine sumF_does ys t w7 (st.ext X7) (fun k hk => Nat.lt_of_lt_of_le (kb k hk) X7.size) (by omega) (hk.ext X7) fun w9 X9 => ⟨_, rfl, ?_⟩
  replace H := (H.ext X9).share
  refine refSum H (.i .h) (by omega) fun w12 H => ⟨_, rfl, ?_⟩
  refine eqArr _ _ (sumL _) (sumL _) ?_
  rw [beq_self_eq_true, cond_true]
  have X12 := ext_of H
  refine ⟨_, cvI (s := s6) (xs := ys) H u22 u5 u9, _, cvI (s := t) (xs := ys) H u22 u5 u9, cT (by simp) ?_⟩
  exact awake_does w12 (hk.ext X12) fun w' X => ⟨_, rfl, k w' (X12.ext X)⟩
end Go.Proofs.YtaaegmmcnfeiaaaDoor.G
