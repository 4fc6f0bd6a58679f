/- ImageBack (card, tied): a manifest that may be comes back out of its bytes, and bytes that are read are its. Conditions: the package variables that the card names hold, when the call begins, what the program's text lays there; the seat's pruned copy of the project. -/
import Derived.Test.YtlbhilhfbbocfaaDoorKa
import Derived.Test.YtlbhilhfbbocfaaDoorRows
import Derived.Test.YtlbhilhfbbocfaaDoorCards
import Derived.Test.YtlbhilhfbbocfaaDoorTie
import Derived.ProofKit
import Derived.OpenShut
import Derived.ShutString
import Derived.ChangeOld
import Derived.Below
import Derived.LaidMore
import Derived.Lay
import Derived.SevenTiedAt
import Derived.Stop.Joined
set_option linter.unusedVariables false
set_option linter.unusedSimpArgs false
namespace Go.Proofs.YtlbhilhfbbocfaaDoor.G
open Go Go.VC Go.RowKit Go.Proofs Go.Proofs.YtlbhilhfbbocfaaDoor Nac
open Go.Proofs.YtlbhilhfbbocfaaDoor
open Go.ChangeShapes Go.WideShapes Go.ChangeAt Go.RowKit
open Go.ChangeMaps (open_string shut_string)
set_option maxRecDepth 100000 in
theorem ImageBack_lifted (os : Os) (started : os.Started) (H : Type) (enc : TypeId × Value → H) :
    ReturnsInHanded {} Tryd.checked os 7 .any (fun w args => (Rows.imageBackSpec.pre enc Tryd.prog Tryd.f7 Rows.imageBackRow.domain false w args ∧ laidMetH Tryd.prog laidL w) ∧ sizedMet enc Tryd.prog Tryd.f7 (OpenSpec.ofChange Rows.imageBackSpec) false w args)
      (Rows.imageBackSpec.post enc Tryd.prog Tryd.f7 false true false false) := by
  refine returnsInHanded_of_change_and (C := Tryd.checked) (X := fun w _ => laidMetH Tryd.prog laidL w) (fun _ _ _ hh h => h.of_heap hh) ownK started (by kernel_rfl) Tryd.func7
    (ChangeSpec.witness_shaped (enc := enc) (C := Tryd.checked) (os := os) (X := fun w _ => laidMetH Tryd.prog laidL w) false (laidW os) #[.agg Man.zero.cs.toArray, .slice none 0 0] 8 (laidW_os _)
      (World.shaped_of_ZipB (by kernel_rfl) (by kernel_rfl)) (by kernel_rfl) (by kernel_rfl) (by kernel_rfl)
      (laidW_met os _)) ?_
  intro W base args ds gs before hval0 hW hc hwt hL _
  have hval : ∀ (j : Nat) t v, Tryd.f7.params[j]? = some t → args[j]? = some v → Value.okWide Tryd.prog W .any base t v := hval0
  have hW' := hW
  obtain ⟨p, q, hA0, hV, rfl, _, _⟩ := hW
  have hA : DataW.TrodAll enc Tryd.prog W 0 (fun _ => true) true Tryd.f7.params.toList args.toList ds p := hA0
  have hwt' : (DataW.weightsEach Tryd.prog (Tryd.f7.params.toList ++ []) (ds ++ gs)).all (· ≤ reachBytes) = true := hwt
  rw [Tryd.params7] at hA hval hwt'
  obtain ⟨v0, vs0, d0, ds0, p0, q0, hargs, rfl, rfl, h0, r0⟩ := trodAll_cons hA
  obtain ⟨v1, vs1, d1, ds1, p1, q1, rfl, rfl, rfl, h1, r1⟩ := trodAll_cons r0
  obtain ⟨rfl, rfl, rfl⟩ := trodAll_nil r1
  obtain rfl : args = #[v0, v1] := by cases args; simp_all
  obtain ⟨rfl, rfl⟩ := trodVars_none hV
  have lt0 : ∀ x ∈ p0, x.block < W.heap.size := by obtain ⟨m, hm⟩ := h0; exact DataW.trod_lt m _ _ _ hm
  have lt1 : ∀ x ∈ p1, x.block < W.heap.size := by obtain ⟨m, hm⟩ := h1; exact DataW.trod_lt m _ _ _ hm
  have wt0 : (d0.weights Tryd.prog 25).all (· ≤ reachBytes) = true := by
    rw [List.all_eq_true] at hwt' ⊢
    exact fun n hn => hwt' n (weightsEach_mem (i := 0) rfl rfl hn)
  have wt1 : (d1.weights Tryd.prog 26).all (· ≤ reachBytes) = true := by
    rw [List.all_eq_true] at hwt' ⊢
    exact fun n hn => hwt' n (weightsEach_mem (i := 1) rfl rfl hn)
  have k0 := h0
  have k1 := h1
  have HH := ((Heap.start W).addR Key (keyP_ok hL)).addR ErrTy (errTy_ok hL)
  obtain ⟨c0, x0, rfl, r0x, g0⟩ := par_agg (fs := Tryd.prog.fieldsOf T_api_Manifest) (by kernel_rfl) openMan (hval 0 25 v0 rfl rfl) h0 wt0
  obtain ⟨rfl, ok0⟩ := r0x
  obtain ⟨s1, x1, rfl, i1, g1⟩ := par_slice (e := T_uint8) (by kernel_rfl) (openList (e := T_uint8) (k := 1) (by kernel_rfl) (by kernel_rfl) (by decide) (by kernel_rfl) (openU8 (by kernel_rfl))) (hval 1 26 v1 rfl rfl) h1 wt1
  replace HH := HH.addRo i1
  clear hA0 hval0
  have hw : Does Tryd.prog 7 #[.agg x0.cs.toArray, .slice s1.a s1.len s1.cap] W fun v w' => v = .bool true ∧ Below W.heap.size W w' := law_ImageBack HH ok0 (by have := g1.1; simp only [reachBytes] at this; omega) .h (.t .h) (.t (.t .h)) fun w' H => ⟨rfl, H.below⟩
  refine Calls.mono hw fun e W' ⟨v, he, hv, bel⟩ => ?_
  subst he; subst hv
  exact ⟨_, rfl, _, _, _, [], _, [], hW', trodAll_mk1 (shut_bool (show Tryd.prog.underlying 4 = some .bool by kernel_rfl) _), (trodAll_cons_mk (Below.trod laidOut (by kernel_rfl) (of_decide_eq_true (by kernel_rfl)) k0 bel lt0) (trodAll_cons_mk (Below.trod laidOut (by kernel_rfl) (of_decide_eq_true (by kernel_rfl)) k1 bel lt1) trodAll_mk0)), rfl, bel.frame _, fun h => by cases h⟩
theorem ImageBack_holds : Rows.ImageBackSaid :=
  OpenClaim.holds_of_wide 7 Tryd.f7 rfl rfl rfl rfl rfl rfl rfl ⟨rfl, rfl, rfl, rfl, rfl⟩ rfl rfl rfl rfl rfl (by kernel_rfl) Tryd.func7 (by kernel_rfl)
    (of_decide_eq_true (by kernel_rfl)) (by unfold Func.isWrapper; first | (rw [if_pos (by decide +kernel)]; kernel_rfl) | (rw [if_neg (by decide +kernel)]; exact ⟨rfl, rfl⟩))
    (fun os started H enc _ => ImageBack_lifted os started H enc)
theorem ImageBack_card : Rows.ImageBackCardSaid :=
  Claim7.holds_tied_plain_at .later [] [.data, .data, .data, .data, .handle] true (true, "456b0b712aceb804fed8f89521cb5d4b2f6322ca146a1b4a114f7a104056d91a") true ImageBack_holds (fun _ h => by cases h) (by kernel_rfl) (fun _ h => by cases h) imageBack_row_tie rfl ⟨rfl, rfl⟩ (by kernel_rfl) rfl
    (fun f fn hf hfn => by
      obtain rfl : f = 7 := Option.some.inj ((show Tryd.prog.funcNamed "nacelle/nacellelaw19.ImageBack" = some 7 by kernel_rfl).symm.trans hf) |>.symm
      obtain rfl : fn = Tryd.f7 := (Option.some.inj (Tryd.func7.symm.trans hfn)).symm
      exact ⟨by kernel_rfl, fun j t ht => by
        rw [Tryd.params7] at ht
        have hm : t ∈ ([25, 26] : List Nat) := by
          have := Array.mem_of_getElem? ht
          simp at this
          simp [this]
        have hall : (([25, 26] : List Nat).all fun u => !Tryd.prog.wantsStandIn u) = true := by kernel_rfl
        exact (show Tryd.prog.wantsStandIn t = false by simpa using List.all_eq_true.1 hall t hm)⟩)
    (by kernel_rfl)
#print axioms ImageBack_card
end Go.Proofs.YtlbhilhfbbocfaaDoor.G
