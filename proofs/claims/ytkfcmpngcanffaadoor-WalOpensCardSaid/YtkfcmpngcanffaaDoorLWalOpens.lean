/- WalOpens (card, tied): whatever stands in a part's sectors, it is the document's log, or refused with its error; what came in stays as it is. Conditions: the package variable crc.half holds, when the call begins, what the program's text lays there (the card ties it to the text); the seat's pruned copy of the project. -/
import Derived.Test.YtkfcmpngcanffaaDoorDb
import Derived.Test.YtkfcmpngcanffaaDoorDm
import Derived.Test.YtkfcmpngcanffaaDoorRows
import Derived.Test.YtkfcmpngcanffaaDoorCards
import Derived.Test.YtkfcmpngcanffaaDoorTie
import Derived.ProofKit
import Derived.OpenShut
import Derived.ShutString
import Derived.ChangeOld
import Derived.Below
import Derived.LaidMore
import Derived.Lay
import Derived.SevenTiedAt
import Derived.Stop.Joined
set_option linter.unusedVariables false
set_option linter.unusedSimpArgs false
namespace Go.Proofs.YtkfcmpngcanffaaDoor.G
open Go Go.VC Go.RowKit Go.Proofs Go.Proofs.YtkfcmpngcanffaaDoor Nac
open Go.Proofs.YtkfcmpngcanffaaDoor
open Go.ChangeShapes Go.WideShapes Go.ChangeAt Go.RowKit
open Go.ChangeMaps (open_string shut_string)
set_option maxRecDepth 100000 in
theorem WalOpens_lifted (os : Os) (started : os.Started) (H : Type) (enc : TypeId × Value → H) :
    ReturnsInHanded {} Tryd.checked os 8 .any (fun w args => (Rows.walOpensSpec.pre enc Tryd.prog Tryd.f8 Rows.walOpensRow.domain false w args ∧ laidMet Tryd.prog laidL w) ∧ sizedMet enc Tryd.prog Tryd.f8 (OpenSpec.ofChange Rows.walOpensSpec) false w args)
      (Rows.walOpensSpec.post enc Tryd.prog Tryd.f8 false true false false) := by
  refine returnsInHanded_of_change_and (C := Tryd.checked) (X := fun w _ => laidMet Tryd.prog laidL w) (fun _ _ _ hh h => h.of_heap hh) ownK started (by kernel_rfl) Tryd.func8
    (ChangeSpec.witness_shaped (enc := enc) (C := Tryd.checked) (os := os) (X := fun w _ => laidMet Tryd.prog laidL w) false (World.laidAll Tryd.prog os laidL) #[.agg #[.slice none 0 0, .int .i64 0, .slice none 0 0, .slice none 0 0]] 8 (World.laidAll_os _ _ _)
      (World.shaped_of_ZipB (by kernel_rfl) (by kernel_rfl)) (by kernel_rfl) (by kernel_rfl) (by kernel_rfl)
      (laidMet_laidAll _ (by kernel_rfl) (by kernel_rfl))) ?_
  intro W base args ds gs before hval0 hW hc hwt hL _
  have hval : ∀ (j : Nat) t v, Tryd.f8.params[j]? = some t → args[j]? = some v → Value.okWide Tryd.prog W .any base t v := hval0
  have hW' := hW
  obtain ⟨p, q, hA0, hV, rfl, _, _⟩ := hW
  have hA : DataW.TrodAll enc Tryd.prog W 0 (fun _ => true) true Tryd.f8.params.toList args.toList ds p := hA0
  have hwt' : (DataW.weightsEach Tryd.prog (Tryd.f8.params.toList ++ []) (ds ++ gs)).all (· ≤ reachBytes) = true := hwt
  rw [Tryd.params8] at hA hval hwt'
  obtain ⟨v0, vs0, d0, ds0, p0, q0, hargs, rfl, rfl, h0, r0⟩ := trodAll_cons hA
  obtain ⟨rfl, rfl, rfl⟩ := trodAll_nil r0
  obtain rfl : args = #[v0] := by cases args; simp_all
  obtain ⟨rfl, rfl⟩ := trodVars_none hV
  have lt0 : ∀ x ∈ p0, x.block < W.heap.size := by obtain ⟨m, hm⟩ := h0; exact DataW.trod_lt m _ _ _ hm
  have wt0 : (d0.weights Tryd.prog 81).all (· ≤ reachBytes) = true := by
    rw [List.all_eq_true] at hwt' ⊢
    exact fun n hn => hwt' n (weightsEach_mem (i := 0) rfl rfl hn)
  have k0 := h0
  have HH := (Heap.start W).addR Half (half_ok hL)
  obtain ⟨c0, x0, rfl, r0x, g0⟩ := par_agg (fs := Tryd.prog.fieldsOf T_law16_Forged) (by kernel_rfl) openForged (hval 0 81 v0 rfl rfl) h0 wt0
  obtain ⟨sa, ss, sm, rfl, ia, iss, im⟩ := r0x
  replace HH := ((HH.addRo ia).addRo iss).addRo im
  clear hA0 hval0
  have hw : Does Tryd.prog 8 #[.agg #[.slice sa.a sa.len sa.cap, .int .i64 x0.at_, .slice ss.a ss.len ss.cap, .slice sm.a sm.len sm.cap]] W fun v w' => v = .bool true ∧ Below W.heap.size W w' := law_Opens16 HH (.t (.t .h)) (.t .h) .h (.t (.t (.t .h))) g0 fun w' H => ⟨rfl, H.below⟩
  refine Calls.mono hw fun e W' ⟨v, he, hv, bel⟩ => ?_
  subst he; subst hv
  exact ⟨_, rfl, _, _, _, [], _, [], hW', trodAll_mk1 (shut_bool (show Tryd.prog.underlying 4 = some .bool by kernel_rfl) _), (trodAll_cons_mk (Below.trod laidOut (by kernel_rfl) (of_decide_eq_true (by kernel_rfl)) k0 bel lt0) trodAll_mk0), rfl, bel.frame _, fun h => by cases h⟩
theorem WalOpens_holds : Rows.WalOpensSaid :=
  OpenClaim.holds_of_wide 8 Tryd.f8 rfl rfl rfl rfl rfl rfl rfl ⟨rfl, rfl, rfl, rfl, rfl⟩ rfl rfl rfl rfl rfl (by kernel_rfl) Tryd.func8 (by kernel_rfl)
    (of_decide_eq_true (by kernel_rfl)) (by unfold Func.isWrapper; first | (rw [if_pos (by decide +kernel)]; kernel_rfl) | (rw [if_neg (by decide +kernel)]; exact ⟨rfl, rfl⟩))
    (fun os started H enc _ => WalOpens_lifted os started H enc)
theorem WalOpens_card : Rows.WalOpensCardSaid :=
  Claim7.holds_tied_plain_at .later [] [.data] true (true, "cb927ab0ca92c40d4c9e695e82d744d2a078aa9bd67d3086345d2f1af7b77de6") false WalOpens_holds (fun _ h => by cases h) (by kernel_rfl) (fun _ h => by cases h) walOpens_row_tie rfl ⟨rfl, rfl⟩ (by kernel_rfl) rfl
    (fun f fn hf hfn => by
      obtain rfl : f = 8 := Option.some.inj ((show Tryd.prog.funcNamed "nacelle/nacellelaw16.WalOpens" = some 8 by kernel_rfl).symm.trans hf) |>.symm
      obtain rfl : fn = Tryd.f8 := (Option.some.inj (Tryd.func8.symm.trans hfn)).symm
      exact ⟨by kernel_rfl, fun j t ht => by
        rw [Tryd.params8] at ht
        have hm : t ∈ ([81] : List Nat) := by
          have := Array.mem_of_getElem? ht
          simp at this
          simp [this]
        have hall : (([81] : List Nat).all fun u => !Tryd.prog.wantsStandIn u) = true := by kernel_rfl
        exact (show Tryd.prog.wantsStandIn t = false by simpa using List.all_eq_true.1 hall t hm)⟩)
    (by kernel_rfl)
#print axioms WalOpens_card
end Go.Proofs.YtkfcmpngcanffaaDoor.G
