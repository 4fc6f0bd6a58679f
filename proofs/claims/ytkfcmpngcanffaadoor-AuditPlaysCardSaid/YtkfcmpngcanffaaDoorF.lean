import Derived.Test.YtkfcmpngcanffaaDoorDc
import Derived.Test.YtkfcmpngcanffaaDoorSh
import Derived.Test.YtkfcmpngcanffaaDoorRows
import Derived.ProofKit
import Derived.OpenShut
import Derived.ShutString
import Derived.ChangeOld
import Derived.Below
import Derived.LaidMore
import Derived.SevenTiedAt
import Derived.Stop.Joined
import Derived.Lay
set_option linter.unusedVariables false
set_option linter.unusedSimpArgs false
namespace Go.Proofs.YtkfcmpngcanffaaDoor.G
open Go Go.VC Go.RowKit Go.Proofs Go.Proofs.YtkfcmpngcanffaaDoor Nac
open Go.Proofs.YtkfcmpngcanffaaDoor
open Go.ChangeShapes Go.WideShapes Go.ChangeAt Go.RowKit
theorem ownK : ownKnob Tryd.prog.godebug = none := by kernel_rfl
theorem laidOut : laidOutB Tryd.prog = true := by kernel_rfl
def halfZ : List Int := half.map fun x => (x.toNat : Int)
abbrev laidL : List (String × DataW Unit) := [("nacelle/crc.half", Rows.laid_nacelle_crc_half)]
theorem half_ok {W : World} (h : laidMet Tryd.prog laidL W) : Half.p (Bs.of W).h PH.emp := by
  intro r x hx
  obtain ⟨hr, rfl⟩ := List.getElem?_eq_some_iff.1 hx
  obtain ⟨ps, ⟨g, t, cs, fuel, p, q, hg, ht, hv, hd, _, _⟩, _, _⟩ := h
  obtain rfl := Option.some.inj ((show Tryd.prog.globalNamed "nacelle/crc.half" = some 0 by kernel_rfl).symm.trans hg)
  obtain rfl := Option.some.inj ((show (Tryd.prog.globals[0]?).map (·.type) = some 179 by kernel_rfl).symm.trans ht)
  obtain ⟨xs, m, _, ex, _, hl, hel⟩ := DataW.trod_array (show Tryd.prog.underlying 179 = some (.array 16 T_uint32) by kernel_rfl) hd
  have c5 : Tryd.prog.cellsOf T_uint32 = 1 := by kernel_rfl
  have hr' : r < 16 := hr
  have hE := hel r hr'
  rw [c5, Nat.mul_one, List.getElem?_eq_getElem (by omega)] at hE
  obtain ⟨z, e1, e2, _⟩ := DataW.trod_int (show Tryd.prog.underlying T_uint32 = some (.int .u32) by kernel_rfl) hE
  have hlen : halfZ.length = 16 := by kernel_rfl
  have hlaid : (Rows.laid_nacelle_crc_half : DataW Unit) = .agg (halfZ.map fun n => .lit (.int .u32 n)) := by kernel_rfl
  have e3 : (xs.map (·.1)) = halfZ.map fun n => .lit (.int .u32 n) := (DataW.agg.inj (hlaid.symm.trans (Prod.mk.inj ex).1)).symm
  have e4 : (xs.map (·.1))[r]? = (halfZ.map fun n => (DataW.lit (.int .u32 n) : DataW Unit))[r]? := by rw [e3]
  rw [List.getElem?_map, List.getElem?_map, List.getElem?_eq_getElem (by omega : r < xs.length), List.getElem?_eq_getElem (by omega : r < halfZ.length), e2] at e4
  have hz : z = ((half[r]'hr).toNat : Int) := by
    simp only [Option.map_some, Option.some.injEq, DataW.lit.injEq, Lit.int.injEq, true_and] at e4
    rw [e4]
    simp [halfZ]
  have hc : W.cell? ⟨0, r, none⟩ = some (.int .u32 z) := by
    rw [World.var?_cell hg hv r]
    have : cs.toList[r]? = some (.int .u32 z) := by
      have h0 : ((cs.toList.drop r).take 1)[0]? = some (.int .u32 z) := by rw [e1]; rfl
      simpa using h0
    simpa using this
  rw [← hz]
  exact (roCell_of hc).2
theorem openEntry : OpenT Tryd.prog T_api_Entry (fun x : Entry => -9223372036854775808 ≤ x.kind ∧ x.kind ≤ 9223372036854775807 ∧ -9223372036854775808 ≤ x.part ∧ x.part ≤ 9223372036854775807 ∧ -9223372036854775808 ≤ x.code ∧ x.code ≤ 9223372036854775807) := by
  intro H enc w fuel cs d ps h hw
  have ui : Tryd.prog.underlying T_int = some (.int .i64) := by kernel_rfl
  have c1 : Tryd.prog.cellsOf T_int = 1 := by kernel_rfl
  have c2 : Tryd.prog.cellsOf T_uint32 = 1 := by kernel_rfl
  have c4 : Tryd.prog.cellsOf T_api_Entry = 4 := by kernel_rfl
  obtain ⟨hl, y0, r0, g0⟩ := openField h hw (i := 0) (u := T_int) (o := 0) (by kernel_rfl) (openInt ui)
  obtain ⟨_, y1, r1, g1⟩ := openField h hw (i := 1) (u := T_int) (o := 1) (by kernel_rfl) (openInt ui)
  obtain ⟨_, y2, r2, g2⟩ := openField h hw (i := 2) (u := T_uint32) (o := 2) (by kernel_rfl) (openU32 (by kernel_rfl))
  obtain ⟨_, y3, r3, g3⟩ := openField h hw (i := 3) (u := T_int) (o := 3) (by kernel_rfl) (openInt ui)
  rw [c4] at hl
  rw [c1] at r0 r1 r3
  rw [c2] at r2
  match cs, hl with
  | [a0, a1, a2, a3], _ =>
    have e0 : [a0] = [Sc.enc y0] := r0
    have e1 : [a1] = [Sc.enc y1] := r1
    have e2 : [a2] = [Sc.enc y2] := r2
    have e3 : [a3] = [Sc.enc y3] := r3
    cases e0; cases e1; cases e2; cases e3
    exact ⟨⟨y0, y1, y2, y3⟩, rfl, g0.1, g0.2, g1.1, g1.2, g3.1, g3.2⟩
end Go.Proofs.YtkfcmpngcanffaaDoor.G
