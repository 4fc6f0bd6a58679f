import Derived.Test.YtomoejbamegpoaaDoorDd
import Derived.Test.YtomoejbamegpoaaDoorSm
import Derived.Test.YtomoejbamegpoaaDoorRows
import Derived.ProofKit
import Derived.OpenShut
import Derived.ShutString
import Derived.ChangeOld
import Derived.Below
import Derived.LaidMore
import Derived.LaidLaws
import Derived.LaidHandle
import Derived.LaidSub
import Derived.SevenTiedAt
import Derived.Stop.Joined
import Derived.Lay
set_option linter.unusedVariables false
set_option linter.unusedSimpArgs false
namespace Go.Proofs.YtomoejbamegpoaaDoor.G
open Go Go.VC Go.RowKit Go.Proofs Go.Proofs.YtomoejbamegpoaaDoor Nac
open Go.Proofs.YtomoejbamegpoaaDoor
open Go.ChangeShapes Go.WideShapes Go.ChangeAt Go.RowKit
theorem ownK : ownKnob Tryd.prog.godebug = none := by kernel_rfl
theorem laidOut : laidOutB Tryd.prog = true := by kernel_rfl
abbrev laidL : List (String × DataW Unit) := [("math/bits.deBruijn32tab", Rows.laid_math_bits_deBruijn32tab), ("math/bits.deBruijn64tab", Rows.laid_math_bits_deBruijn64tab), ("internal/strconv.uint64pow10", Rows.laid_internal_strconv_uint64pow10), ("errors.errorType", Rows.laid_errors_errorType)]
theorem et_num : Tryd.prog.globalNamed "errors.errorType" = some 0 := by kernel_rfl
theorem rt_num : (Tryd.prog.cutTypes.find? (·.1 == "internal/reflectlite.rtype")).map (·.2) = some 110 := by kernel_rfl
theorem err_row : ((List.range 167).filter fun t => Tryd.prog.rowNamed t [101, 114, 114, 111, 114]) = [31] := by kernel_rfl
theorem ty_size : Tryd.prog.types.size = 167 := by kernel_rfl
theorem handle_of_laid {W : World} (h : laidMetH Tryd.prog laidL W) : W.cell? ⟨0, 0, none⟩ = some (.iface 110 (.agg #[.pointer (some ⟨4, 31, none⟩)])) := by
  have h' := (laidMetH_iff.1 h).2
  obtain ⟨name, u, ty, e1, e2, e3, e4, e5⟩ := h' ("errors.errorType", Rows.laid_errors_errorType) (List.mem_filter.2 ⟨by simp [laidL], by kernel_rfl⟩)
  have en : name = [101, 114, 114, 111, 114] := (Option.some.inj e1).symm
  subst en
  obtain rfl := Option.some.inj (rt_num.symm.trans e2)
  have hm : ty ∈ (List.range 167).filter fun t => Tryd.prog.rowNamed t [101, 114, 114, 111, 114] := List.mem_filter.2 ⟨List.mem_range.2 (by rw [← ty_size]; exact e3), e4⟩
  rw [err_row] at hm
  obtain rfl := List.mem_singleton.1 hm
  have hh : typeHandle Tryd.prog 31 = .pointer (some ⟨4, 31, none⟩) := by kernel_rfl
  rw [hh] at e5
  simpa using World.var?_cell et_num e5 0
theorem errTy_ok {W : World} (h : laidMetH Tryd.prog laidL W) : ErrTy.p (Bs.of W).h PH.emp := (roCell_of (handle_of_laid h)).2
abbrev dataL : List (String × DataW Unit) := [("math/bits.deBruijn32tab", Rows.laid_math_bits_deBruijn32tab), ("math/bits.deBruijn64tab", Rows.laid_math_bits_deBruijn64tab), ("internal/strconv.uint64pow10", Rows.laid_internal_strconv_uint64pow10)]
noncomputable def w1 (os : Os) : World :=
  let w0 := World.holding Tryd.prog os ⟨#[], #[], []⟩
  { w0 with heap := w0.heap.modify 0 fun
      | .cells _ t frozen => .cells #[.iface 110 (.agg #[.pointer (some ⟨4, 31, none⟩)])] t frozen
      | o => o }
noncomputable def laidW (os : Os) : World := (w1 os).layVars Tryd.prog dataL
theorem laidW_os (os : Os) : (laidW os).os = os := World.layVars_os _ _ _
theorem laidMet_lay {P : Program} {w0 : World} {laid : List (String × DataW Unit)} (args : Array Value) (hf : w0.layFits P laid [] = true) (hi : w0.layIfaces P laid (w0.layVars P laid) = true) :
    laidMet P laid ((w0.layVars P laid).forCall (fun _ _ => 0) ⟨#[], args, []⟩).memory := by
  have e1 : (laid.filter fun x => (laid.map (·.1)).contains x.1) = laid := List.filter_eq_self.2 fun x hx => List.contains_iff_mem.2 (List.mem_map.2 ⟨x, hx, rfl⟩)
  have e2 : (laid.filter fun x => !(laid.map (·.1)).contains x.1) = [] := List.filter_eq_nil_iff.2 fun x hx => by rw [List.contains_iff_mem.2 (List.mem_map.2 ⟨x, hx, rfl⟩)]; simp
  have h : laidMet P laid (w0.layVars P laid) := laidMet_layVars (w0 := w0) (laid.map (·.1)) [] (by rw [e1]) (by rw [e1]; exact hf) (by rw [e1]; exact hi) (by rw [e2]; exact LaidIn.none)
  exact h.of_heap (by simp [World.memory, World.forCall, Input.heap])
theorem laidW_met (os : Os) (args : Array Value) : laidMetH Tryd.prog laidL ((laidW os).forCall (fun _ _ => 0) ⟨#[], args, []⟩).memory :=
  laidMetH_of_parts (show laidMet Tryd.prog dataL _ from laidMet_lay (w0 := w1 os) args (by kernel_rfl) (by kernel_rfl)) (by kernel_rfl)
end Go.Proofs.YtomoejbamegpoaaDoor.G

set_option linter.unusedVariables false
set_option linter.unusedSimpArgs false
namespace Go.Proofs.YtomoejbamegpoaaDoor.G
open Go Go.VC Go.RowKit Go.Proofs Go.Proofs.YtomoejbamegpoaaDoor Nac
open Go.Proofs.YtomoejbamegpoaaDoor
open Go.ChangeShapes Go.WideShapes Go.ChangeAt Go.RowKit
instance : Rep Cap where
  n := 3
  r := fun ro cs x => cs = x.cs
  mono := fun h e => e
  len := fun e => by rw [e]; rfl
  one := fun e u hu => by rw [e] at hu; simp [Cap.cs] at hu; rcases hu with rfl | rfl | rfl <;> rfl
theorem openCap : OpenT Tryd.prog T_api_Cap (fun x : Cap => True) := by
  intro H enc w fuel cs d ps h hw
  have ui : Tryd.prog.underlying T_int = some (.int .i64) := by kernel_rfl
  have c1 : Tryd.prog.cellsOf T_int = 1 := by kernel_rfl
  have c7 : Tryd.prog.cellsOf T_api_Cap = 3 := by kernel_rfl
  obtain ⟨hl, y0, r0, g0⟩ := openField h hw (i := 0) (u := T_int) (o := 0) (by kernel_rfl) (openInt ui)
  obtain ⟨_, y1, r1, g1⟩ := openField h hw (i := 1) (u := T_int) (o := 1) (by kernel_rfl) (openInt ui)
  obtain ⟨_, y2, r2, g2⟩ := openField h hw (i := 2) (u := T_int) (o := 2) (by kernel_rfl) (openInt ui)
  rw [c7] at hl
  rw [c1] at r0 r1 r2
  match cs, hl with
  | [a0, a1, a2], _ =>
    have e0 : [a0] = [Sc.enc y0] := r0
    have e1 : [a1] = [Sc.enc y1] := r1
    have e2 : [a2] = [Sc.enc y2] := r2
    cases e0; cases e1; cases e2
    exact ⟨⟨y0, y1, y2⟩, rfl, trivial⟩
end Go.Proofs.YtomoejbamegpoaaDoor.G
