import Derived.Test.YtlbhilhfbbocfaaDoorJe
import Derived.Test.YtlbhilhfbbocfaaDoorSm
import Derived.Test.YtlbhilhfbbocfaaDoorRows
import Derived.ProofKit
import Derived.OpenShut
import Derived.ShutString
import Derived.ChangeOld
import Derived.Below
import Derived.LaidMore
import Derived.LaidLaws
import Derived.LaidHandle
import Derived.LaidSub
import Derived.SevenTiedAt
import Derived.Stop.Joined
import Derived.Lay
set_option linter.unusedVariables false
set_option linter.unusedSimpArgs false
namespace Go.Proofs.YtlbhilhfbbocfaaDoor.G
open Go Go.VC Go.RowKit Go.Proofs Go.Proofs.YtlbhilhfbbocfaaDoor Nac
open Go.Proofs.YtlbhilhfbbocfaaDoor
open Go.ChangeShapes Go.WideShapes Go.ChangeAt Go.RowKit
theorem ownK : ownKnob Tryd.prog.godebug = none := by kernel_rfl
theorem laidOut : laidOutB Tryd.prog = true := by kernel_rfl
abbrev laidL : List (String × DataW Unit) := [("math/bits.deBruijn32tab", Rows.laid_math_bits_deBruijn32tab), ("math/bits.deBruijn64tab", Rows.laid_math_bits_deBruijn64tab), ("internal/strconv.uint64pow10", Rows.laid_internal_strconv_uint64pow10), ("nacelle/sha.key", Rows.laid_nacelle_sha_key), ("errors.errorType", Rows.laid_errors_errorType)]
theorem et_num : Tryd.prog.globalNamed "errors.errorType" = some 0 := by kernel_rfl
theorem rt_num : (Tryd.prog.cutTypes.find? (·.1 == "internal/reflectlite.rtype")).map (·.2) = some 133 := by kernel_rfl
theorem err_row : ((List.range 187).filter fun t => Tryd.prog.rowNamed t [101, 114, 114, 111, 114]) = [43] := by kernel_rfl
theorem ty_size : Tryd.prog.types.size = 187 := by kernel_rfl
theorem handle_of_laid {W : World} (h : laidMetH Tryd.prog laidL W) : W.cell? ⟨0, 0, none⟩ = some (.iface 133 (.agg #[.pointer (some ⟨5, 43, none⟩)])) := by
  have h' := (laidMetH_iff.1 h).2
  obtain ⟨name, u, ty, e1, e2, e3, e4, e5⟩ := h' ("errors.errorType", Rows.laid_errors_errorType) (List.mem_filter.2 ⟨by simp [laidL], by kernel_rfl⟩)
  have en : name = [101, 114, 114, 111, 114] := (Option.some.inj e1).symm
  subst en
  obtain rfl := Option.some.inj (rt_num.symm.trans e2)
  have hm : ty ∈ (List.range 187).filter fun t => Tryd.prog.rowNamed t [101, 114, 114, 111, 114] := List.mem_filter.2 ⟨List.mem_range.2 (by rw [← ty_size]; exact e3), e4⟩
  rw [err_row] at hm
  obtain rfl := List.mem_singleton.1 hm
  have hh : typeHandle Tryd.prog 43 = .pointer (some ⟨5, 43, none⟩) := by kernel_rfl
  rw [hh] at e5
  simpa using World.var?_cell et_num e5 0
theorem errTy_ok {W : World} (h : laidMetH Tryd.prog laidL W) : ErrTy.p (Bs.of W).h PH.emp := (roCell_of (handle_of_laid h)).2
def keyZ : List Int := Sha.K.map fun x => (x.toNat : Int)
theorem key_ok {W : World} (h0 : laidMetH Tryd.prog laidL W) : KeyOk W := by
  have h := ((laidMetH_iff.1 h0).1).filter (fun x => x.1 == "nacelle/sha.key")
  rw [show ((laidL.filter fun x => x.2.handleName?.isNone).filter fun x => x.1 == "nacelle/sha.key") = [("nacelle/sha.key", Rows.laid_nacelle_sha_key)] by kernel_rfl] at h
  intro r hr
  obtain ⟨ps, ⟨g, t, cs, fuel, p, q, hg, ht, hv, hd, _, _⟩, _, _⟩ := h
  obtain rfl := Option.some.inj ((show Tryd.prog.globalNamed "nacelle/sha.key" = some 1 by kernel_rfl).symm.trans hg)
  obtain rfl := Option.some.inj ((show (Tryd.prog.globals[1]?).map (·.type) = some 146 by kernel_rfl).symm.trans ht)
  obtain ⟨xs, m, _, ex, _, hl, hel⟩ := DataW.trod_array (show Tryd.prog.underlying 146 = some (.array 64 22) by kernel_rfl) hd
  have c5 : Tryd.prog.cellsOf 22 = 1 := by kernel_rfl
  have hE := hel r hr
  rw [c5, Nat.mul_one, List.getElem?_eq_getElem (by omega)] at hE
  obtain ⟨z, e1, e2, _⟩ := DataW.trod_int (show Tryd.prog.underlying 22 = some (.int .u32) by kernel_rfl) hE
  have hlen : keyZ.length = 64 := by kernel_rfl
  have hlaid : (Rows.laid_nacelle_sha_key : DataW Unit) = .agg (keyZ.map fun n => .lit (.int .u32 n)) := by kernel_rfl
  have e3 : (xs.map (·.1)) = keyZ.map fun n => .lit (.int .u32 n) := (DataW.agg.inj (hlaid.symm.trans (Prod.mk.inj ex).1)).symm
  have e4 : (xs.map (·.1))[r]? = (keyZ.map fun n => (DataW.lit (.int .u32 n) : DataW Unit))[r]? := by rw [e3]
  rw [List.getElem?_map, List.getElem?_map, List.getElem?_eq_getElem (by omega : r < xs.length), List.getElem?_eq_getElem (by omega : r < keyZ.length), e2] at e4
  have hz : z = ((Sha.K.getD r 0).toNat : Int) := by
    simp only [Option.map_some, Option.some.injEq, DataW.lit.injEq, Lit.int.injEq, true_and] at e4
    have hk : r < Sha.K.length := hr
    rw [e4, List.getD_eq_getElem?_getD, List.getElem?_eq_getElem hk]
    simp [keyZ]
  rw [World.var?_cell hg hv r, ← hz]
  have : cs.toList[r]? = some (.int .u32 z) := by
    have h0 : ((cs.toList.drop r).take 1)[0]? = some (.int .u32 z) := by rw [e1]; rfl
    simpa using h0
  simpa using this
theorem keyP_ok {W : World} (h : laidMetH Tryd.prog laidL W) : Key.p (Bs.of W).h PH.emp := key_start (key_ok h)
abbrev dataL : List (String × DataW Unit) := [("math/bits.deBruijn32tab", Rows.laid_math_bits_deBruijn32tab), ("math/bits.deBruijn64tab", Rows.laid_math_bits_deBruijn64tab), ("internal/strconv.uint64pow10", Rows.laid_internal_strconv_uint64pow10), ("nacelle/sha.key", Rows.laid_nacelle_sha_key)]
noncomputable def w1 (os : Os) : World :=
  let w0 := World.holding Tryd.prog os ⟨#[], #[], []⟩
  { w0 with heap := w0.heap.modify 0 fun
      | .cells _ t frozen => .cells #[.iface 133 (.agg #[.pointer (some ⟨5, 43, none⟩)])] t frozen
      | o => o }
noncomputable def laidW (os : Os) : World := (w1 os).layVars Tryd.prog dataL
theorem laidW_os (os : Os) : (laidW os).os = os := World.layVars_os _ _ _
theorem laidMet_lay {P : Program} {w0 : World} {laid : List (String × DataW Unit)} (args : Array Value) (hf : w0.layFits P laid [] = true) (hi : w0.layIfaces P laid (w0.layVars P laid) = true) :
    laidMet P laid ((w0.layVars P laid).forCall (fun _ _ => 0) ⟨#[], args, []⟩).memory := by
  have e1 : (laid.filter fun x => (laid.map (·.1)).contains x.1) = laid := List.filter_eq_self.2 fun x hx => List.contains_iff_mem.2 (List.mem_map.2 ⟨x, hx, rfl⟩)
  have e2 : (laid.filter fun x => !(laid.map (·.1)).contains x.1) = [] := List.filter_eq_nil_iff.2 fun x hx => by rw [List.contains_iff_mem.2 (List.mem_map.2 ⟨x, hx, rfl⟩)]; simp
  have h : laidMet P laid (w0.layVars P laid) := laidMet_layVars (w0 := w0) (laid.map (·.1)) [] (by rw [e1]) (by rw [e1]; exact hf) (by rw [e1]; exact hi) (by rw [e2]; exact LaidIn.none)
  exact h.of_heap (by simp [World.memory, World.forCall, Input.heap])
theorem laidW_met (os : Os) (args : Array Value) : laidMetH Tryd.prog laidL ((laidW os).forCall (fun _ _ => 0) ⟨#[], args, []⟩).memory :=
  laidMetH_of_parts (show laidMet Tryd.prog dataL _ from laidMet_lay (w0 := w1 os) args (by kernel_rfl) (by kernel_rfl)) (by kernel_rfl)
end Go.Proofs.YtlbhilhfbbocfaaDoor.G

set_option linter.unusedVariables false
set_option linter.unusedSimpArgs false
namespace Nac
open Go Go.VC Go.RowKit
structure B32 where
  l : List UInt8
  h : l.length = 32
instance : Rep B32 where
  n := 32
  r := fun ro cs x => cs = x.l.map fun c => .int .u8 (c.toNat : Int)
  mono := fun h e => e
  len := fun {ro cs x} e => by rw [e, List.length_map, x.h]
  one := fun {ro cs x} e u hu => by
    rw [e] at hu
    obtain ⟨c, _, rfl⟩ := List.mem_map.1 hu
    rfl
instance : Rep Man where
  n := 35
  r := fun ro cs x => cs = x.cs ∧ x.ok
  mono := fun h e => e
  len := fun {ro cs x} e => by rw [e.1, Man.cs35 e.2.2.2.2]
  one := fun {ro cs x} e u hu => by
    rw [e.1] at hu
    simp only [Man.cs, List.mem_cons, List.mem_map] at hu
    rcases hu with rfl | rfl | rfl | ⟨c, _, rfl⟩ <;> rfl
instance : Rep Stg where
  n := 36
  r := fun ro cs x => ∃ t : Sl, cs = x.cs t ∧ x.man.ok ∧ immL ro t x.got
  mono := fun h ⟨t, e, e2, h1⟩ => ⟨t, e, e2, h1.mono h⟩
  len := fun {ro cs x} ⟨t, e, e2, h1⟩ => by rw [e, Stg.cs_length e2.2.2.2]
  one := fun {ro cs x} ⟨t, e, e2, h1⟩ u hu => by rw [e] at hu; exact Stg.cs_one t u (by simpa using hu)
structure CutA where
  is : List Ins
  part : Int
  ver : Int
  cuts : List Int
instance : Rep CutA where
  n := 4
  r := fun ro cs x => ∃ s t : Sl, cs = [s.v, .int .i64 x.part, .int .u32 x.ver, t.v] ∧ immL ro s x.is ∧ immL ro t x.cuts
  mono := fun h ⟨s, t, e, h1, h2⟩ => ⟨s, t, e, h1.mono h, h2.mono h⟩
  len := fun ⟨s, t, e, _⟩ => by rw [e]; rfl
  one := fun ⟨s, t, e, _⟩ u hu => by rw [e] at hu; simp at hu; rcases hu with rfl | rfl | rfl | rfl <;> rfl
structure PieceA where
  x : Int
  b : List UInt8
instance : Rep PieceA where
  n := 2
  r := fun ro cs x => ∃ t : Sl, cs = [.int .i64 x.x, t.v] ∧ immL ro t x.b
  mono := fun h ⟨t, e, h1⟩ => ⟨t, e, h1.mono h⟩
  len := fun ⟨t, e, _⟩ => by rw [e]; rfl
  one := fun ⟨t, e, _⟩ u hu => by rw [e] at hu; simp at hu; rcases hu with rfl | rfl <;> rfl
end Nac
namespace Go.Proofs.YtlbhilhfbbocfaaDoor.G
open Go Go.VC Go.RowKit Go.Proofs Go.Proofs.YtlbhilhfbbocfaaDoor Nac
open Go.ChangeShapes Go.WideShapes Go.ChangeAt Go.RowKit
theorem openIns : OpenT Tryd.prog T_api_Instr (fun x : Ins => True) := by
  intro H enc w fuel cs d ps h hw
  have u8 : Tryd.prog.underlying T_uint8 = some (.int .u8) := by kernel_rfl
  have c1 : Tryd.prog.cellsOf T_uint8 = 1 := by kernel_rfl
  have c7 : Tryd.prog.cellsOf T_api_Instr = 4 := by kernel_rfl
  obtain ⟨hl, y0, r0, g0⟩ := openField h hw (i := 0) (u := T_uint8) (o := 0) (by kernel_rfl) (openU8 u8)
  obtain ⟨_, y1, r1, g1⟩ := openField h hw (i := 1) (u := T_uint8) (o := 1) (by kernel_rfl) (openU8 u8)
  obtain ⟨_, y2, r2, g2⟩ := openField h hw (i := 2) (u := T_uint8) (o := 2) (by kernel_rfl) (openU8 u8)
  obtain ⟨_, y3, r3, g3⟩ := openField h hw (i := 3) (u := T_uint8) (o := 3) (by kernel_rfl) (openU8 u8)
  rw [c7] at hl
  rw [c1] at r0 r1 r2 r3
  match cs, hl with
  | [a0, a1, a2, a3], _ =>
    have e0 : [a0] = [Sc.enc y0] := r0
    have e1 : [a1] = [Sc.enc y1] := r1
    have e2 : [a2] = [Sc.enc y2] := r2
    have e3 : [a3] = [Sc.enc y3] := r3
    cases e0; cases e1; cases e2; cases e3
    exact ⟨⟨y0, y1, y2, y3⟩, rfl, trivial⟩
theorem openB32 : OpenT Tryd.prog 23 (fun x : B32 => True) := by
  intro H enc w fuel cs d ps h hw
  obtain ⟨xs, m, _, ex, hcl, hl, hel⟩ := DataW.trod_array (show Tryd.prog.underlying 23 = some (.array 32 5) by kernel_rfl) h
  have c5 : Tryd.prog.cellsOf 5 = 1 := by kernel_rfl
  have c23 : Tryd.prog.cellsOf 23 = 32 := by kernel_rfl
  rw [c23] at hcl
  obtain ⟨ys, hyl, hys⟩ := exists_list (P := fun i (y : UInt8) => cs[i]? = some (.int .u8 (y.toNat : Int))) (n := 32) fun i hi => by
    have hE := hel i hi
    rw [c5, Nat.mul_one, List.getElem?_eq_getElem (by omega)] at hE
    obtain ⟨z, e1, e2, hwf⟩ := DataW.trod_int (show Tryd.prog.underlying 5 = some (.int .u8) by kernel_rfl) hE
    simp [Lit.wf, IntKind.min, IntKind.max, IntKind.bits, IntKind.signed] at hwf
    refine ⟨UInt8.ofNat z.toNat, ?_⟩
    have h0 : ((cs.drop i).take 1)[0]? = some (.int .u8 z) := by rw [e1]; rfl
    have h1 : cs[i]? = some (.int .u8 z) := by simpa using h0
    rw [h1]
    simp; omega
  refine ⟨⟨ys, hyl⟩, ?_, trivial⟩
  show cs = ys.map _
  apply List.ext_getElem?
  intro i
  by_cases hi : i < 32
  · rw [List.getElem?_map, List.getElem?_eq_getElem (by omega : i < ys.length), hys i _ (List.getElem?_eq_getElem (by omega))]; rfl
  · rw [List.getElem?_eq_none (by omega), List.getElem?_eq_none (by simp; omega)]
theorem openMan : OpenT Tryd.prog T_api_Manifest (fun x : Man => True) := by
  intro H enc w fuel cs d ps h hw
  have ui : Tryd.prog.underlying T_int = some (.int .i64) := by kernel_rfl
  have uu : Tryd.prog.underlying T_uint32 = some (.int .u32) := by kernel_rfl
  have c1 : Tryd.prog.cellsOf T_int = 1 := by kernel_rfl
  have c2 : Tryd.prog.cellsOf T_uint32 = 1 := by kernel_rfl
  have c3 : Tryd.prog.cellsOf 23 = 32 := by kernel_rfl
  have c7 : Tryd.prog.cellsOf T_api_Manifest = 35 := by kernel_rfl
  obtain ⟨hl, y0, r0, g0⟩ := openField h hw (i := 0) (u := T_int) (o := 0) (by kernel_rfl) (openInt ui)
  obtain ⟨_, y1, r1, g1⟩ := openField h hw (i := 1) (u := T_uint32) (o := 1) (by kernel_rfl) (openU32 uu)
  obtain ⟨_, y2, r2, g2⟩ := openField h hw (i := 2) (u := T_int) (o := 2) (by kernel_rfl) (openInt ui)
  obtain ⟨_, y3, r3, g3⟩ := openField h hw (i := 3) (u := 23) (o := 3) (by kernel_rfl) openB32
  rw [c7] at hl
  rw [c1] at r0 r2
  rw [c2] at r1
  rw [c3] at r3
  match cs, hl with
  | a0 :: a1 :: a2 :: rest, hl =>
    have e0 : [a0] = [Sc.enc y0] := r0
    have e1 : [a1] = [Sc.enc y1] := r1
    have e2 : [a2] = [Sc.enc y2] := r2
    have e3 : rest.take 32 = y3.l.map fun c => .int .u8 (c.toNat : Int) := r3
    rw [List.take_of_length_le (by simp at hl; omega)] at e3
    cases e0; cases e1; cases e2
    subst e3
    have hy := y1.toNat_lt
    exact ⟨⟨y0, (y1.toNat : Int), y2, y3.l⟩, ⟨rfl, g0, ⟨by dsimp only; omega, by dsimp only; omega⟩, g2, y3.h⟩, trivial⟩
theorem openStg : OpenT Tryd.prog T_api_Staging (fun x : Stg => True) := by
  intro H enc w fuel cs d ps h hw
  have u8 : Tryd.prog.underlying T_uint8 = some (.int .u8) := by kernel_rfl
  have c1 : Tryd.prog.cellsOf T_api_Manifest = 35 := by kernel_rfl
  have c3 : Tryd.prog.cellsOf T_l_uint8 = 1 := by kernel_rfl
  have c7 : Tryd.prog.cellsOf T_api_Staging = 36 := by kernel_rfl
  obtain ⟨hl, y0, r0, g0⟩ := openField h hw (i := 0) (u := T_api_Manifest) (o := 0) (by kernel_rfl) openMan
  obtain ⟨_, y1, r1, g1⟩ := openField h hw (i := 1) (u := T_l_uint8) (o := 35) (by kernel_rfl) (openList (e := T_uint8) (k := 1) (by kernel_rfl) (by kernel_rfl) (by decide) (by kernel_rfl) (openU8 u8))
  rw [c7] at hl
  rw [c1] at r0
  rw [c3] at r1
  obtain ⟨e0, hok⟩ : (cs.drop 0).take 35 = y0.cs ∧ y0.ok := r0
  obtain ⟨t, e1, i1⟩ : ∃ t : Sl, (cs.drop 35).take 1 = [t.v] ∧ immL (PH.of w) t y1 := r1
  refine ⟨⟨y0, y1⟩, ⟨t, ?_, hok, i1⟩, trivial⟩
  show cs = y0.cs ++ [t.v]
  rw [← e0, ← e1, List.drop_zero, List.take_of_length_le (l := cs.drop 35) (by rw [List.length_drop]; omega), List.take_append_drop]
theorem openCut : OpenT Tryd.prog T_law19_Cut (fun x : CutA => (-9223372036854775808 ≤ x.part ∧ x.part ≤ 9223372036854775807) ∧ (0 ≤ x.ver ∧ x.ver < 4294967296) ∧ ∀ y ∈ x.cuts, -9223372036854775808 ≤ y ∧ y ≤ 9223372036854775807) := by
  intro H enc w fuel cs d ps h hw
  have ui : Tryd.prog.underlying T_int = some (.int .i64) := by kernel_rfl
  have uu : Tryd.prog.underlying T_uint32 = some (.int .u32) := by kernel_rfl
  have c1 : Tryd.prog.cellsOf T_int = 1 := by kernel_rfl
  have c2 : Tryd.prog.cellsOf T_uint32 = 1 := by kernel_rfl
  have c3 : Tryd.prog.cellsOf T_l_api_Instr = 1 := by kernel_rfl
  have c4 : Tryd.prog.cellsOf T_l_int = 1 := by kernel_rfl
  have c7 : Tryd.prog.cellsOf T_law19_Cut = 4 := by kernel_rfl
  obtain ⟨hl, y0, r0, g0⟩ := openField h hw (i := 0) (u := T_l_api_Instr) (o := 0) (by kernel_rfl) (openList (e := T_api_Instr) (k := 4) (by kernel_rfl) (by kernel_rfl) (by decide) (by kernel_rfl) openIns)
  obtain ⟨_, y1, r1, g1⟩ := openField h hw (i := 1) (u := T_int) (o := 1) (by kernel_rfl) (openInt ui)
  obtain ⟨_, y2, r2, g2⟩ := openField h hw (i := 2) (u := T_uint32) (o := 2) (by kernel_rfl) (openU32 uu)
  obtain ⟨_, y3, r3, g3⟩ := openField h hw (i := 3) (u := T_l_int) (o := 3) (by kernel_rfl) (openList (e := T_int) (k := 8) (by kernel_rfl) (by kernel_rfl) (by decide) (by kernel_rfl) (openInt ui))
  rw [c7] at hl
  rw [c3] at r0
  rw [c1] at r1
  rw [c2] at r2
  rw [c4] at r3
  match cs, hl with
  | [a0, a1, a2, a3], _ =>
    obtain ⟨s, e0, i0⟩ : ∃ t : Sl, [a0] = [t.v] ∧ immL (PH.of w) t y0 := r0
    have e1 : [a1] = [Sc.enc y1] := r1
    have e2 : [a2] = [Sc.enc y2] := r2
    obtain ⟨t, e3, i3⟩ : ∃ t : Sl, [a3] = [t.v] ∧ immL (PH.of w) t y3 := r3
    cases e0; cases e1; cases e2; cases e3
    have hy := y2.toNat_lt
    exact ⟨⟨y0, y1, (y2.toNat : Int), y3⟩, ⟨s, t, rfl, i0, i3⟩, g1, ⟨by dsimp only; omega, by dsimp only; omega⟩, g3.2⟩
theorem openPiece : OpenT Tryd.prog 37 (fun x : PieceA => True) := by
  intro H enc w fuel cs d ps h hw
  have ui : Tryd.prog.underlying T_int = some (.int .i64) := by kernel_rfl
  have u8 : Tryd.prog.underlying T_uint8 = some (.int .u8) := by kernel_rfl
  have c1 : Tryd.prog.cellsOf T_int = 1 := by kernel_rfl
  have c3 : Tryd.prog.cellsOf T_l_uint8 = 1 := by kernel_rfl
  have c7 : Tryd.prog.cellsOf 37 = 2 := by kernel_rfl
  obtain ⟨hl, y0, r0, g0⟩ := openField h hw (i := 0) (u := T_int) (o := 0) (by kernel_rfl) (openInt ui)
  obtain ⟨_, y1, r1, g1⟩ := openField h hw (i := 1) (u := T_l_uint8) (o := 1) (by kernel_rfl) (openList (e := T_uint8) (k := 1) (by kernel_rfl) (by kernel_rfl) (by decide) (by kernel_rfl) (openU8 u8))
  rw [c7] at hl
  rw [c1] at r0
  rw [c3] at r1
  match cs, hl with
  | [a0, a1], _ =>
    have e0 : [a0] = [Sc.enc y0] := r0
    obtain ⟨t, e1, i1⟩ : ∃ t : Sl, [a1] = [t.v] ∧ immL (PH.of w) t y1 := r1
    cases e0; cases e1
    exact ⟨⟨y0, y1⟩, ⟨t, rfl, i1⟩, trivial⟩
end Go.Proofs.YtlbhilhfbbocfaaDoor.G
