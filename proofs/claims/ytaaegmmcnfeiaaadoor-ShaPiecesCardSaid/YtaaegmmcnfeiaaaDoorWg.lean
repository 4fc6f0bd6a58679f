import Derived.Test.YtaaegmmcnfeiaaaDoorWf
import Derived.Lib.SlBytesConst
set_option linter.unusedVariables false
set_option linter.unusedSimpArgs false
namespace Go.Proofs.YtaaegmmcnfeiaaaDoor.G
open Go Go.VC Go.RowKit Go.Proofs Go.Proofs.YtaaegmmcnfeiaaaDoor
set_option maxRecDepth 100000
theorem abc_eq : (⟨(Sha.hex (Sha.sum [97, 98, 99])).toArray⟩ : ByteArray) = ⟨#[98, 97, 55, 56, 49, 54, 98, 102, 56, 102, 48, 49, 99, 102, 101, 97, 52, 49, 52, 49, 52, 48, 100, 101, 53, 100, 97, 101, 50, 50, 50, 51, 98, 48, 48, 51, 54, 49, 97, 51, 57, 54, 49, 55, 55, 97, 57, 99, 98, 52, 49, 48, 102, 102, 54, 49, 102, 50, 48, 48, 49, 53, 97, 100]⟩ := by kernel_rfl
theorem nil_eq : (⟨(Sha.hex (Sha.sum [])).toArray⟩ : ByteArray) = ⟨#[101, 51, 98, 48, 99, 52, 52, 50, 57, 56, 102, 99, 49, 99, 49, 52, 57, 97, 102, 98, 102, 52, 99, 56, 57, 57, 54, 102, 98, 57, 50, 52, 50, 55, 97, 101, 52, 49, 101, 52, 54, 52, 57, 98, 57, 51, 52, 99, 97, 52, 57, 53, 57, 57, 49, 98, 55, 56, 53, 50, 98, 56, 53, 53]⟩ := by kernel_rfl
theorem awake_does (w : World) (hk : KeyOk w) {Q : Value → World → Prop} (k : ∀ w', Ext w w' → Q (.bool true) w') : Does Tryd.prog 11 #[] w Q := by
  refine F11_does _ _ ?_
  unfold F11
  show runG (.sl) Tryd.prog (w.alloc (.cells #[.int .u8 97, .int .u8 98, .int .u8 99] 5)) (convert 22 22 (.slice (some ⟨w.heap.size, 0, none⟩) 3 3)) _
  refine ⟨_, _, Go.Lib.run_convert_bytes_const w 22 5 _ 3 3 (by kernel_rfl) (by kernel_rfl), ⟨some ⟨w.heap.size, 0, none⟩, 3, 3⟩, rfl, ?_⟩
  have X1 : Ext w (w.alloc (.cells #[.int .u8 97, .int .u8 98, .int .u8 99] 5 (3, 4))) := (Ch.refl _ w).alloc _
  have hs : Sees (w.alloc (.cells #[.int .u8 97, .int .u8 98, .int .u8 99] 5 (3, 4))) ⟨some ⟨w.heap.size, 0, none⟩, 3, 3⟩ 1 ([97, 98, 99].map byteV) := by
    refine ⟨rfl, Nat.le_refl _, (by decide : 3 ≤ maxLen), .inr ⟨w.heap.size, 0, rfl, fun j u hj => ?_⟩⟩
    rw [Nat.zero_add, cell_of_row _ _ j #[.int .u8 97, .int .u8 98, .int .u8 99] 5 (3, 4) (heap_alloc_new w _)]
    simpa [byteV] using hj
  have hz : (w.alloc (.cells #[.int .u8 97, .int .u8 98, .int .u8 99] 5 (3, 4))).heap.size = w.heap.size + 1 := by simp
  show Does Tryd.prog 9 _ (w.alloc (.cells #[.int .u8 97, .int .u8 98, .int .u8 99] 5 (3, 4))) _
  generalize w.alloc (.cells #[.int .u8 97, .int .u8 98, .int .u8 99] 5 (3, 4)) = w1 at *
  refine sumF_does [97, 98, 99] ⟨some ⟨w.heap.size, 0, none⟩, 3, 3⟩ w1 hs (by simp [Sl.blk]; omega) (by decide) (hk.ext X1) fun w2 X2 => ?_
  refine ⟨_, rfl, ?_⟩
  refine hex_does _ (sumL _) w2 fun w3 X3 => ?_
  refine ⟨_, rfl, ?_⟩
  rw [abc_eq, beq_self_eq_true, cond_true]
  have X : Ext w w3 := (X1.ext X2).ext X3
  refine sumF_does [] ⟨none, 0, 0⟩ w3 (Sees.nil _ _) (by simp [Sl.blk]) (by decide) (hk.ext X) fun w4 X4 => ?_
  refine ⟨_, rfl, ?_⟩
  refine hex_does _ (sumL _) w4 fun w5 X5 => ?_
  refine ⟨_, rfl, ?_⟩
  rw [nil_eq, beq_self_eq_true]
  exact k w5 ((X.ext X4).ext X5)
end Go.Proofs.YtaaegmmcnfeiaaaDoor.G
