import Derived.Test.YtomoejbamegpoaaDoorDd
import Derived.Test.YtomoejbamegpoaaDoorSm
import Derived.Test.YtomoejbamegpoaaDoorRows
import Derived.ProofKit
import Derived.OpenShut
import Derived.ShutString
import Derived.ChangeOld
import Derived.Below
import Derived.LaidMore
import Derived.LaidLaws
import Derived.LaidHandle
import Derived.LaidSub
import Derived.SevenTiedAt
import Derived.Stop.Joined
import Derived.Lay
set_option linter.unusedVariables false
set_option linter.unusedSimpArgs false
namespace Go.Proofs.YtomoejbamegpoaaDoor.G
open Go Go.VC Go.RowKit Go.Proofs Go.Proofs.YtomoejbamegpoaaDoor Nac
open Go.Proofs.YtomoejbamegpoaaDoor
open Go.ChangeShapes Go.WideShapes Go.ChangeAt Go.RowKit
theorem ownK : ownKnob Tryd.prog.godebug = none := by kernel_rfl
theorem laidOut : laidOutB Tryd.prog = true := by kernel_rfl
abbrev laidL : List (String × DataW Unit) := [("math/bits.deBruijn32tab", Rows.laid_math_bits_deBruijn32tab), ("math/bits.deBruijn64tab", Rows.laid_math_bits_deBruijn64tab), ("internal/strconv.uint64pow10", Rows.laid_internal_strconv_uint64pow10), ("errors.errorType", Rows.laid_errors_errorType)]
theorem et_num : Tryd.prog.globalNamed "errors.errorType" = some 0 := by kernel_rfl
theorem rt_num : (Tryd.prog.cutTypes.find? (·.1 == "internal/reflectlite.rtype")).map (·.2) = some 110 := by kernel_rfl
theorem err_row : ((List.range 167).filter fun t => Tryd.prog.rowNamed t [101, 114, 114, 111, 114]) = [31] := by kernel_rfl
theorem ty_size : Tryd.prog.types.size = 167 := by kernel_rfl
theorem handle_of_laid {W : World} (h : laidMetH Tryd.prog laidL W) : W.cell? ⟨0, 0, none⟩ = some (.iface 110 (.agg #[.pointer (some ⟨4, 31, none⟩)])) := by
  have h' := (laidMetH_iff.1 h).2
  obtain ⟨name, u, ty, e1, e2, e3, e4, e5⟩ := h' ("errors.errorType", Rows.laid_errors_errorType) (List.mem_filter.2 ⟨by simp [laidL], by kernel_rfl⟩)
  have en : name = [101, 114, 114, 111, 114] := (Option.some.inj e1).symm
  subst en
  obtain rfl := Option.some.inj (rt_num.symm.trans e2)
  have hm : ty ∈ (List.range 167).filter fun t => Tryd.prog.rowNamed t [101, 114, 114, 111, 114] := List.mem_filter.2 ⟨List.mem_range.2 (by rw [← ty_size]; exact e3), e4⟩
  rw [err_row] at hm
  obtain rfl := List.mem_singleton.1 hm
  have hh : typeHandle Tryd.prog 31 = .pointer (some ⟨4, 31, none⟩) := by kernel_rfl
  rw [hh] at e5
  simpa using World.var?_cell et_num e5 0
theorem errTy_ok {W : World} (h : laidMetH Tryd.prog laidL W) : ErrTy.p (Bs.of W).h PH.emp := (roCell_of (handle_of_laid h)).2
abbrev dataL : List (String × DataW Unit) := [("math/bits.deBruijn32tab", Rows.laid_math_bits_deBruijn32tab), ("math/bits.deBruijn64tab", Rows.laid_math_bits_deBruijn64tab), ("internal/strconv.uint64pow10", Rows.laid_internal_strconv_uint64pow10)]
noncomputable def w1 (os : Os) : World :=
  let w0 := World.holding Tryd.prog os ⟨#[], #[], []⟩
  { w0 with heap := w0.heap.modify 0 fun
      | .cells _ t frozen => .cells #[.iface 110 (.agg #[.pointer (some ⟨4, 31, none⟩)])] t frozen
      | o => o }
noncomputable def laidW (os : Os) : World := (w1 os).layVars Tryd.prog dataL
theorem laidW_os (os : Os) : (laidW os).os = os := World.layVars_os _ _ _
theorem laidMet_lay {P : Program} {w0 : World} {laid : List (String × DataW Unit)} (args : Array Value) (hf : w0.layFits P laid [] = true) (hi : w0.layIfaces P laid (w0.layVars P laid) = true) :
    laidMet P laid ((w0.layVars P laid).forCall (fun _ _ => 0) ⟨#[], args, []⟩).memory := by
  have e1 : (laid.filter fun x => (laid.map (·.1)).contains x.1) = laid := List.filter_eq_self.2 fun x hx => List.contains_iff_mem.2 (List.mem_map.2 ⟨x, hx, rfl⟩)
  have e2 : (laid.filter fun x => !(laid.map (·.1)).contains x.1) = [] := List.filter_eq_nil_iff.2 fun x hx => by rw [List.contains_iff_mem.2 (List.mem_map.2 ⟨x, hx, rfl⟩)]; simp
  have h : laidMet P laid (w0.layVars P laid) := laidMet_layVars (w0 := w0) (laid.map (·.1)) [] (by rw [e1]) (by rw [e1]; exact hf) (by rw [e1]; exact hi) (by rw [e2]; exact LaidIn.none)
  exact h.of_heap (by simp [World.memory, World.forCall, Input.heap])
theorem laidW_met (os : Os) (args : Array Value) : laidMetH Tryd.prog laidL ((laidW os).forCall (fun _ _ => 0) ⟨#[], args, []⟩).memory :=
  laidMetH_of_parts (show laidMet Tryd.prog dataL _ from laidMet_lay (w0 := w1 os) args (by kernel_rfl) (by kernel_rfl)) (by kernel_rfl)
end Go.Proofs.YtomoejbamegpoaaDoor.G

set_option linter.unusedVariables false
set_option linter.unusedSimpArgs false
namespace Go.Proofs.YtomoejbamegpoaaDoor.G
open Go Go.VC Go.RowKit Go.Proofs Go.Proofs.YtomoejbamegpoaaDoor Nac
open Go.Proofs.YtomoejbamegpoaaDoor
open Go.ChangeShapes Go.WideShapes Go.ChangeAt Go.RowKit
instance : Rep Cap where
  n := 3
  r := fun ro cs x => cs = x.cs
  mono := fun h e => e
  len := fun e => by rw [e]; rfl
  one := fun e u hu => by rw [e] at hu; simp [Cap.cs] at hu; rcases hu with rfl | rfl | rfl <;> rfl
theorem openCap : OpenT Tryd.prog T_api_Cap (fun x : Cap => True) := by
  intro H enc w fuel cs d ps h hw
  have ui : Tryd.prog.underlying T_int = some (.int .i64) := by kernel_rfl
  have c1 : Tryd.prog.cellsOf T_int = 1 := by kernel_rfl
  have c7 : Tryd.prog.cellsOf T_api_Cap = 3 := by kernel_rfl
  obtain ⟨hl, y0, r0, g0⟩ := openField h hw (i := 0) (u := T_int) (o := 0) (by kernel_rfl) (openInt ui)
  obtain ⟨_, y1, r1, g1⟩ := openField h hw (i := 1) (u := T_int) (o := 1) (by kernel_rfl) (openInt ui)
  obtain ⟨_, y2, r2, g2⟩ := openField h hw (i := 2) (u := T_int) (o := 2) (by kernel_rfl) (openInt ui)
  rw [c7] at hl
  rw [c1] at r0 r1 r2
  match cs, hl with
  | [a0, a1, a2], _ =>
    have e0 : [a0] = [Sc.enc y0] := r0
    have e1 : [a1] = [Sc.enc y1] := r1
    have e2 : [a2] = [Sc.enc y2] := r2
    cases e0; cases e1; cases e2
    exact ⟨⟨y0, y1, y2⟩, rfl, trivial⟩
end Go.Proofs.YtomoejbamegpoaaDoor.G

set_option linter.unusedVariables false
set_option linter.unusedSimpArgs false
namespace Go.VC
open Go Go.RowKit
/-- a number of 64 bits without a sign, as a whole number -/
structure N64 where
  n : Int
instance : Rep N64 where
  n := 1
  r := fun ro cs x => cs = [.int .u64 x.n]
  mono := fun h e => e
  len := fun e => by rw [e]; rfl
  one := fun e u hu => by rw [e] at hu; simp at hu; rcases hu with rfl; rfl
theorem openU64 {P : Program} {t : TypeId} (ht : P.underlying t = some (.int .u64)) : OpenT P t (fun x : N64 => 0 ≤ x.n ∧ x.n ≤ 18446744073709551615) := by
  intro H enc w fuel cs d ps h hwt
  clear hwt
  cases fuel with
  | zero => cases h
  | succ fuel =>
    simp only [DataW.trod, ht] at h
    split at h <;> simp_all
    rename_i k k' n hk
    subst hk
    obtain ⟨⟨rfl, hw⟩, _⟩ := h
    simp [Lit.wf, IntKind.min, IntKind.max, IntKind.bits, IntKind.signed] at hw
    refine ⟨⟨n⟩, rfl, ?_⟩
    dsimp only
    omega
end Go.VC
namespace Go.Proofs.YtomoejbamegpoaaDoor.G
open Go Go.VC Go.RowKit Go.Proofs Go.Proofs.YtomoejbamegpoaaDoor Nac
structure RuleA where
  mn : Int
  mx : Int
  fs : List Fld
structure WiderA where
  mn : Int
  mx : Int
  fs : List Fld
  bb : List UInt8
  more : Int
  flds : Int
structure CapsA where
  a : Int
  b : Int
  c : Int
  xs : List Bool
  rate : Int
  burst : Int
instance : Rep RuleA where
  n := 3
  r := fun ro cs x => ∃ s : Sl, cs = [.int .i64 x.mn, .int .i64 x.mx, s.v] ∧ immL ro s x.fs
  mono := fun h ⟨s, e, h1⟩ => ⟨s, e, h1.mono h⟩
  len := fun ⟨s, e, _⟩ => by rw [e]; rfl
  one := fun ⟨s, e, _⟩ u hu => by rw [e] at hu; simp at hu; rcases hu with rfl | rfl | rfl <;> rfl
instance : Rep WiderA where
  n := 6
  r := fun ro cs x => ∃ s t : Sl, cs = [.int .i64 x.mn, .int .i64 x.mx, s.v, t.v, .int .u64 x.more, .int .i64 x.flds] ∧ immL ro s x.fs ∧ immL ro t x.bb
  mono := fun h ⟨s, t, e, h1, h2⟩ => ⟨s, t, e, h1.mono h, h2.mono h⟩
  len := fun ⟨s, t, e, _⟩ => by rw [e]; rfl
  one := fun ⟨s, t, e, _⟩ u hu => by rw [e] at hu; simp at hu; rcases hu with rfl | rfl | rfl | rfl | rfl | rfl <;> rfl
instance : Rep CapsA where
  n := 6
  r := fun ro cs x => ∃ s : Sl, cs = [.int .i64 x.a, .int .i64 x.b, .int .i64 x.c, s.v, .int .i64 x.rate, .int .i64 x.burst] ∧ immL ro s x.xs
  mono := fun h ⟨s, e, h1⟩ => ⟨s, e, h1.mono h⟩
  len := fun ⟨s, e, _⟩ => by rw [e]; rfl
  one := fun ⟨s, e, _⟩ u hu => by rw [e] at hu; simp at hu; rcases hu with rfl | rfl | rfl | rfl | rfl | rfl <;> rfl
theorem openFld : OpenT Tryd.prog T_api_Field (fun x : Fld => True) := by
  intro H enc w fuel cs d ps h hw
  have ui : Tryd.prog.underlying T_int = some (.int .i64) := by kernel_rfl
  have uu : Tryd.prog.underlying T_uint64 = some (.int .u64) := by kernel_rfl
  have c1 : Tryd.prog.cellsOf T_int = 1 := by kernel_rfl
  have c2 : Tryd.prog.cellsOf T_uint64 = 1 := by kernel_rfl
  have c7 : Tryd.prog.cellsOf T_api_Field = 4 := by kernel_rfl
  obtain ⟨hl, y0, r0, g0⟩ := openField h hw (i := 0) (u := T_int) (o := 0) (by kernel_rfl) (openInt ui)
  obtain ⟨_, y1, r1, g1⟩ := openField h hw (i := 1) (u := T_int) (o := 1) (by kernel_rfl) (openInt ui)
  obtain ⟨_, y2, r2, g2⟩ := openField h hw (i := 2) (u := T_uint64) (o := 2) (by kernel_rfl) (openU64 uu)
  obtain ⟨_, y3, r3, g3⟩ := openField h hw (i := 3) (u := T_uint64) (o := 3) (by kernel_rfl) (openU64 uu)
  rw [c7] at hl
  rw [c1] at r0 r1
  rw [c2] at r2 r3
  match cs, hl with
  | [a0, a1, a2, a3], _ =>
    have e0 : [a0] = [Sc.enc y0] := r0
    have e1 : [a1] = [Sc.enc y1] := r1
    have e2 : [a2] = [.int .u64 y2.n] := r2
    have e3 : [a3] = [.int .u64 y3.n] := r3
    cases e0; cases e1; cases e2; cases e3
    exact ⟨⟨y0, y1, y2.n, y3.n⟩, ⟨rfl, g0, g1, g2, g3⟩, trivial⟩
theorem openRule : OpenT Tryd.prog T_api_Rule (fun x : RuleA => True) := by
  intro H enc w fuel cs d ps h hw
  have ui : Tryd.prog.underlying T_int = some (.int .i64) := by kernel_rfl
  have c1 : Tryd.prog.cellsOf T_int = 1 := by kernel_rfl
  have c2 : Tryd.prog.cellsOf T_l_api_Field = 1 := by kernel_rfl
  have c7 : Tryd.prog.cellsOf T_api_Rule = 3 := by kernel_rfl
  obtain ⟨hl, y0, r0, g0⟩ := openField h hw (i := 0) (u := T_int) (o := 0) (by kernel_rfl) (openInt ui)
  obtain ⟨_, y1, r1, g1⟩ := openField h hw (i := 1) (u := T_int) (o := 1) (by kernel_rfl) (openInt ui)
  obtain ⟨_, y2, r2, g2⟩ := openField h hw (i := 2) (u := T_l_api_Field) (o := 2) (by kernel_rfl) (openList (e := T_api_Field) (k := 32) (by kernel_rfl) (by kernel_rfl) (by decide) (by kernel_rfl) openFld)
  rw [c7] at hl
  rw [c1] at r0 r1
  rw [c2] at r2
  match cs, hl with
  | [a0, a1, a2], _ =>
    have e0 : [a0] = [Sc.enc y0] := r0
    have e1 : [a1] = [Sc.enc y1] := r1
    obtain ⟨s, e2, i2⟩ : ∃ s : Sl, [a2] = [s.v] ∧ immL (PH.of w) s y2 := r2
    cases e0; cases e1; cases e2
    exact ⟨⟨y0, y1, y2⟩, ⟨s, rfl, i2⟩, trivial⟩
theorem openWider : OpenT Tryd.prog 28 (fun x : WiderA => 0 ≤ x.more) := by
  intro H enc w fuel cs d ps h hw
  have ui : Tryd.prog.underlying T_int = some (.int .i64) := by kernel_rfl
  have uu : Tryd.prog.underlying T_uint64 = some (.int .u64) := by kernel_rfl
  have u8 : Tryd.prog.underlying T_uint8 = some (.int .u8) := by kernel_rfl
  have c1 : Tryd.prog.cellsOf T_int = 1 := by kernel_rfl
  have c2 : Tryd.prog.cellsOf T_api_Rule = 3 := by kernel_rfl
  have c3 : Tryd.prog.cellsOf T_l_uint8 = 1 := by kernel_rfl
  have c4 : Tryd.prog.cellsOf T_uint64 = 1 := by kernel_rfl
  have c7 : Tryd.prog.cellsOf 28 = 6 := by kernel_rfl
  obtain ⟨hl, y0, r0, g0⟩ := openField h hw (i := 0) (u := T_api_Rule) (o := 0) (by kernel_rfl) openRule
  obtain ⟨_, y1, r1, g1⟩ := openField h hw (i := 1) (u := T_l_uint8) (o := 3) (by kernel_rfl) (openList (e := T_uint8) (k := 1) (by kernel_rfl) (by kernel_rfl) (by decide) (by kernel_rfl) (openU8 u8))
  obtain ⟨_, y2, r2, g2⟩ := openField h hw (i := 2) (u := T_uint64) (o := 4) (by kernel_rfl) (openU64 uu)
  obtain ⟨_, y3, r3, g3⟩ := openField h hw (i := 3) (u := T_int) (o := 5) (by kernel_rfl) (openInt ui)
  rw [c7] at hl
  rw [c2] at r0
  rw [c3] at r1
  rw [c4] at r2
  rw [c1] at r3
  match cs, hl with
  | [a0, a1, a2, a3, a4, a5], _ =>
    obtain ⟨s, e0, i0⟩ : ∃ s : Sl, [a0, a1, a2] = [.int .i64 y0.mn, .int .i64 y0.mx, s.v] ∧ immL (PH.of w) s y0.fs := r0
    obtain ⟨t, e1, i1⟩ : ∃ t : Sl, [a3] = [t.v] ∧ immL (PH.of w) t y1 := r1
    have e2 : [a4] = [.int .u64 y2.n] := r2
    have e3 : [a5] = [Sc.enc y3] := r3
    cases e0; cases e1; cases e2; cases e3
    exact ⟨⟨y0.mn, y0.mx, y0.fs, y1, y2.n, y3⟩, ⟨s, t, rfl, i0, i1⟩, g2.1⟩
theorem openCaps : OpenT Tryd.prog 41 (fun x : CapsA => True) := by
  intro H enc w fuel cs d ps h hw
  have ui : Tryd.prog.underlying T_int = some (.int .i64) := by kernel_rfl
  have c1 : Tryd.prog.cellsOf T_int = 1 := by kernel_rfl
  have c2 : Tryd.prog.cellsOf T_api_Cap = 3 := by kernel_rfl
  have c3 : Tryd.prog.cellsOf 39 = 1 := by kernel_rfl
  have c7 : Tryd.prog.cellsOf 41 = 6 := by kernel_rfl
  obtain ⟨hl, y0, r0, g0⟩ := openField h hw (i := 0) (u := T_api_Cap) (o := 0) (by kernel_rfl) openCap
  obtain ⟨_, y1, r1, g1⟩ := openField h hw (i := 1) (u := 39) (o := 3) (by kernel_rfl) (openList (e := T_bool) (k := 1) (by kernel_rfl) (by kernel_rfl) (by decide) (by kernel_rfl) (openBool (by kernel_rfl)))
  obtain ⟨_, y2, r2, g2⟩ := openField h hw (i := 2) (u := T_int) (o := 4) (by kernel_rfl) (openInt ui)
  obtain ⟨_, y3, r3, g3⟩ := openField h hw (i := 3) (u := T_int) (o := 5) (by kernel_rfl) (openInt ui)
  rw [c7] at hl
  rw [c2] at r0
  rw [c3] at r1
  rw [c1] at r2 r3
  match cs, hl with
  | [a0, a1, a2, a3, a4, a5], _ =>
    have e0 : [a0, a1, a2] = y0.cs := r0
    obtain ⟨t, e1, i1⟩ : ∃ t : Sl, [a3] = [t.v] ∧ immL (PH.of w) t y1 := r1
    have e2 : [a4] = [Sc.enc y2] := r2
    have e3 : [a5] = [Sc.enc y3] := r3
    obtain ⟨q1, q2, q3⟩ := y0
    cases e0; cases e1; cases e2; cases e3
    exact ⟨⟨q1, q2, q3, y1, y2, y3⟩, ⟨t, rfl, i1⟩, trivial⟩
end Go.Proofs.YtomoejbamegpoaaDoor.G
