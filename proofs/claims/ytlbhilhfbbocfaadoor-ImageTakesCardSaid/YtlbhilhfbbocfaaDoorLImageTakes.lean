/- ImageTakes (card, tied): whatever pieces come, of whatever is staged, what is staged then, and what it comes to in the end, is the document's. Conditions: the package variables that the card names hold, when the call begins, what the program's text lays there; the seat's pruned copy of the project. -/
import Derived.Test.YtlbhilhfbbocfaaDoorKa
import Derived.Test.YtlbhilhfbbocfaaDoorJh
import Derived.Test.YtlbhilhfbbocfaaDoorRows
import Derived.Test.YtlbhilhfbbocfaaDoorCards
import Derived.Test.YtlbhilhfbbocfaaDoorTie
import Derived.ProofKit
import Derived.OpenShut
import Derived.ShutString
import Derived.ChangeOld
import Derived.Below
import Derived.LaidMore
import Derived.Lay
import Derived.SevenTiedAt
import Derived.Stop.Joined
set_option linter.unusedVariables false
set_option linter.unusedSimpArgs false
namespace Go.Proofs.YtlbhilhfbbocfaaDoor.G
open Go Go.VC Go.RowKit Go.Proofs Go.Proofs.YtlbhilhfbbocfaaDoor Nac
open Go.Proofs.YtlbhilhfbbocfaaDoor
open Go.ChangeShapes Go.WideShapes Go.ChangeAt Go.RowKit
open Go.ChangeMaps (open_string shut_string)
set_option maxRecDepth 100000 in
theorem ImageTakes_lifted (os : Os) (started : os.Started) (H : Type) (enc : TypeId × Value → H) :
    ReturnsInHanded {} Tryd.checked os 3 .any (fun w args => (Rows.imageTakesSpec.pre enc Tryd.prog Tryd.f3 Rows.imageTakesRow.domain false w args ∧ laidMetH Tryd.prog laidL w) ∧ sizedMet enc Tryd.prog Tryd.f3 (OpenSpec.ofChange Rows.imageTakesSpec) false w args)
      (Rows.imageTakesSpec.post enc Tryd.prog Tryd.f3 false true false false) := by
  refine returnsInHanded_of_change_and (C := Tryd.checked) (X := fun w _ => laidMetH Tryd.prog laidL w) (fun _ _ _ hh h => h.of_heap hh) ownK started (by kernel_rfl) Tryd.func3
    (ChangeSpec.witness_shaped (enc := enc) (C := Tryd.checked) (os := os) (X := fun w _ => laidMetH Tryd.prog laidL w) false (laidW os) #[.agg (Stg.zero.cs ⟨none, 0, 0⟩).toArray, .slice none 0 0] 8 (laidW_os _)
      (World.shaped_of_ZipB (by kernel_rfl) (by kernel_rfl)) (by kernel_rfl) (by kernel_rfl) (by kernel_rfl)
      (laidW_met os _)) ?_
  intro W base args ds gs before hval0 hW hc hwt hL _
  have hval : ∀ (j : Nat) t v, Tryd.f3.params[j]? = some t → args[j]? = some v → Value.okWide Tryd.prog W .any base t v := hval0
  have hW' := hW
  obtain ⟨p, q, hA0, hV, rfl, _, _⟩ := hW
  have hA : DataW.TrodAll enc Tryd.prog W 0 (fun _ => true) true Tryd.f3.params.toList args.toList ds p := hA0
  have hwt' : (DataW.weightsEach Tryd.prog (Tryd.f3.params.toList ++ []) (ds ++ gs)).all (· ≤ reachBytes) = true := hwt
  rw [Tryd.params3] at hA hval hwt'
  obtain ⟨v0, vs0, d0, ds0, p0, q0, hargs, rfl, rfl, h0, r0⟩ := trodAll_cons hA
  obtain ⟨v1, vs1, d1, ds1, p1, q1, rfl, rfl, rfl, h1, r1⟩ := trodAll_cons r0
  obtain ⟨rfl, rfl, rfl⟩ := trodAll_nil r1
  obtain rfl : args = #[v0, v1] := by cases args; simp_all
  obtain ⟨rfl, rfl⟩ := trodVars_none hV
  have lt0 : ∀ x ∈ p0, x.block < W.heap.size := by obtain ⟨m, hm⟩ := h0; exact DataW.trod_lt m _ _ _ hm
  have lt1 : ∀ x ∈ p1, x.block < W.heap.size := by obtain ⟨m, hm⟩ := h1; exact DataW.trod_lt m _ _ _ hm
  have wt0 : (d0.weights Tryd.prog 28).all (· ≤ reachBytes) = true := by
    rw [List.all_eq_true] at hwt' ⊢
    exact fun n hn => hwt' n (weightsEach_mem (i := 0) rfl rfl hn)
  have wt1 : (d1.weights Tryd.prog 29).all (· ≤ reachBytes) = true := by
    rw [List.all_eq_true] at hwt' ⊢
    exact fun n hn => hwt' n (weightsEach_mem (i := 1) rfl rfl hn)
  have k0 := h0
  have k1 := h1
  have HH := ((Heap.start W).addR Key (keyP_ok hL)).addR ErrTy (errTy_ok hL)
  obtain ⟨c0, x0, rfl, r0x, g0⟩ := par_agg (fs := Tryd.prog.fieldsOf T_api_Staging) (by kernel_rfl) openStg (hval 0 28 v0 rfl rfl) h0 wt0
  obtain ⟨sa, rfl, ok0, ia⟩ := r0x
  replace HH := HH.addRo ia
  obtain ⟨s1, x1, rfl, i1, g1⟩ := par_slice (e := 37) (by kernel_rfl) (openList (e := 37) (k := 32) (by kernel_rfl) (by kernel_rfl) (by decide) (by kernel_rfl) openPiece) (hval 1 29 v1 rfl rfl) h1 wt1
  replace HH := HH.addRo i1
  clear hA0 hval0
  have hw : Does Tryd.prog 3 #[.agg (x0.cs sa).toArray, .slice s1.a s1.len s1.cap] W fun v w' => v = .bool true ∧ Below W.heap.size W w' := law_ImageTakes HH ok0 (.t .h) .h (.t (.t .h)) (.t (.t (.t .h))) fun w' H => ⟨rfl, H.below⟩
  refine Calls.mono hw fun e W' ⟨v, he, hv, bel⟩ => ?_
  subst he; subst hv
  exact ⟨_, rfl, _, _, _, [], _, [], hW', trodAll_mk1 (shut_bool (show Tryd.prog.underlying 4 = some .bool by kernel_rfl) _), (trodAll_cons_mk (Below.trod laidOut (by kernel_rfl) (of_decide_eq_true (by kernel_rfl)) k0 bel lt0) (trodAll_cons_mk (Below.trod laidOut (by kernel_rfl) (of_decide_eq_true (by kernel_rfl)) k1 bel lt1) trodAll_mk0)), rfl, bel.frame _, fun h => by cases h⟩
theorem ImageTakes_holds : Rows.ImageTakesSaid :=
  OpenClaim.holds_of_wide 3 Tryd.f3 rfl rfl rfl rfl rfl rfl rfl ⟨rfl, rfl, rfl, rfl, rfl⟩ rfl rfl rfl rfl rfl (by kernel_rfl) Tryd.func3 (by kernel_rfl)
    (of_decide_eq_true (by kernel_rfl)) (by unfold Func.isWrapper; first | (rw [if_pos (by decide +kernel)]; kernel_rfl) | (rw [if_neg (by decide +kernel)]; exact ⟨rfl, rfl⟩))
    (fun os started H enc _ => ImageTakes_lifted os started H enc)
theorem ImageTakes_card : Rows.ImageTakesCardSaid :=
  Claim7.holds_tied_plain_at .later [] [.data, .data, .data, .data, .handle] true (true, "456b0b712aceb804fed8f89521cb5d4b2f6322ca146a1b4a114f7a104056d91a") true ImageTakes_holds (fun _ h => by cases h) (by kernel_rfl) (fun _ h => by cases h) imageTakes_row_tie rfl ⟨rfl, rfl⟩ (by kernel_rfl) rfl
    (fun f fn hf hfn => by
      obtain rfl : f = 3 := Option.some.inj ((show Tryd.prog.funcNamed "nacelle/nacellelaw19.ImageTakes" = some 3 by kernel_rfl).symm.trans hf) |>.symm
      obtain rfl : fn = Tryd.f3 := (Option.some.inj (Tryd.func3.symm.trans hfn)).symm
      exact ⟨by kernel_rfl, fun j t ht => by
        rw [Tryd.params3] at ht
        have hm : t ∈ ([28, 29] : List Nat) := by
          have := Array.mem_of_getElem? ht
          simp at this
          simp [this]
        have hall : (([28, 29] : List Nat).all fun u => !Tryd.prog.wantsStandIn u) = true := by kernel_rfl
        exact (show Tryd.prog.wantsStandIn t = false by simpa using List.all_eq_true.1 hall t hm)⟩)
    (by kernel_rfl)
#print axioms ImageTakes_card
end Go.Proofs.YtlbhilhfbbocfaaDoor.G
