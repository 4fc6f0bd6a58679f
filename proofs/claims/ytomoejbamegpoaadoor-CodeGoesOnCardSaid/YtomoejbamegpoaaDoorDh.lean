import Derived.Test.YtomoejbamegpoaaDoorDe
import Derived.Test.YtomoejbamegpoaaDoorNb
set_option linter.unusedVariables false
set_option linter.unusedSimpArgs false
namespace Go.Proofs.YtomoejbamegpoaaDoor.G
open Go Go.VC Go.RowKit Go.Proofs Go.Proofs.YtomoejbamegpoaaDoor Nac
theorem openIns : OpenT Tryd.prog T_api_Instr (fun x : Ins => True) := by
  intro H enc w fuel cs d ps h hw
  have u8 : Tryd.prog.underlying T_uint8 = some (.int .u8) := by kernel_rfl
  have c1 : Tryd.prog.cellsOf T_uint8 = 1 := by kernel_rfl
  have c7 : Tryd.prog.cellsOf T_api_Instr = 4 := by kernel_rfl
  obtain ⟨hl, y0, r0, g0⟩ := openField h hw (i := 0) (u := T_uint8) (o := 0) (by kernel_rfl) (openU8 u8)
  obtain ⟨_, y1, r1, g1⟩ := openField h hw (i := 1) (u := T_uint8) (o := 1) (by kernel_rfl) (openU8 u8)
  obtain ⟨_, y2, r2, g2⟩ := openField h hw (i := 2) (u := T_uint8) (o := 2) (by kernel_rfl) (openU8 u8)
  obtain ⟨_, y3, r3, g3⟩ := openField h hw (i := 3) (u := T_uint8) (o := 3) (by kernel_rfl) (openU8 u8)
  rw [c7] at hl
  rw [c1] at r0 r1 r2 r3
  match cs, hl with
  | [a0, a1, a2, a3], _ =>
    have e0 : [a0] = [Sc.enc y0] := r0
    have e1 : [a1] = [Sc.enc y1] := r1
    have e2 : [a2] = [Sc.enc y2] := r2
    have e3 : [a3] = [Sc.enc y3] := r3
    cases e0; cases e1; cases e2; cases e3
    exact ⟨⟨y0, y1, y2, y3⟩, rfl, trivial⟩
end Go.Proofs.YtomoejbamegpoaaDoor.G
