/- ShaBack (card, tied): for every array of 32 bytes and every text, the digits of the sum are read as it, and digits that are read are told again; both arguments stay as they are.
   Conditions: the package variable sha.key holds, when the call begins, what the program's text lays there (the card ties it to the text); the seat's pruned copy of the project. -/
import Derived.Test.YtaaegmmcnfeiaaaDoorWi
import Derived.Test.YtaaegmmcnfeiaaaDoorRows
import Derived.Test.YtaaegmmcnfeiaaaDoorCards
import Derived.Test.YtaaegmmcnfeiaaaDoorTie
import Derived.ProofKit
import Derived.OpenShut
import Derived.ShutString
import Derived.ChangeOld
import Derived.Below
import Derived.LaidMore
import Derived.Lay
import Derived.SevenTiedAt
import Derived.Stop.Joined
set_option linter.unusedVariables false
set_option linter.unusedSimpArgs false
namespace Go.Proofs.YtaaegmmcnfeiaaaDoor.G
open Go Go.VC Go.RowKit Go.Proofs Go.Proofs.YtaaegmmcnfeiaaaDoor
open Go.Proofs.YtaaegmmcnfeiaaaDoor
open Go.ChangeShapes Go.WideShapes Go.ChangeAt Go.RowKit
open Go.ChangeMaps (open_string shut_string)
theorem own : ownKnob Tryd.prog.godebug = none := by kernel_rfl
theorem laidOut : laidOutB Tryd.prog = true := by kernel_rfl
def keyZ : List Int := Sha.K.map fun x => (x.toNat : Int)
abbrev laidL : List (String × DataW Unit) := [("nacelle/sha.key", Rows.laid_nacelle_sha_key)]
theorem key_ok {W : World} (h : laidMet Tryd.prog laidL W) : KeyOk W := by
  intro r hr
  obtain ⟨ps, ⟨g, t, cs, fuel, p, q, hg, ht, hv, hd, _, _⟩, _, _⟩ := h
  obtain rfl := Option.some.inj ((show Tryd.prog.globalNamed "nacelle/sha.key" = some 0 by kernel_rfl).symm.trans hg)
  obtain rfl := Option.some.inj ((show (Tryd.prog.globals[0]?).map (·.type) = some 58 by kernel_rfl).symm.trans ht)
  obtain ⟨xs, m, _, ex, _, hl, hel⟩ := DataW.trod_array (show Tryd.prog.underlying 58 = some (.array 64 43) by kernel_rfl) hd
  have c5 : Tryd.prog.cellsOf 43 = 1 := by kernel_rfl
  have hE := hel r hr
  rw [c5, Nat.mul_one, List.getElem?_eq_getElem (by omega)] at hE
  obtain ⟨z, e1, e2, _⟩ := DataW.trod_int (show Tryd.prog.underlying 43 = some (.int .u32) by kernel_rfl) hE
  have hlen : keyZ.length = 64 := by kernel_rfl
  have hlaid : (Rows.laid_nacelle_sha_key : DataW Unit) = .agg (keyZ.map fun n => .lit (.int .u32 n)) := by kernel_rfl
  have e3 : (xs.map (·.1)) = keyZ.map fun n => .lit (.int .u32 n) := (DataW.agg.inj (hlaid.symm.trans (Prod.mk.inj ex).1)).symm
  have e4 : (xs.map (·.1))[r]? = (keyZ.map fun n => (DataW.lit (.int .u32 n) : DataW Unit))[r]? := by rw [e3]
  rw [List.getElem?_map, List.getElem?_map, List.getElem?_eq_getElem (by omega : r < xs.length), List.getElem?_eq_getElem (by omega : r < keyZ.length), e2] at e4
  have hz : z = ((Sha.K.getD r 0).toNat : Int) := by
    simp only [Option.map_some, Option.some.injEq, DataW.lit.injEq, Lit.int.injEq, true_and] at e4
    have hk : r < Sha.K.length := hr
    rw [e4, List.getD_eq_getElem?_getD, List.getElem?_eq_getElem hk]
    simp [keyZ]
  rw [World.var?_cell hg hv r, ← hz]
  have : cs.toList[r]? = some (.int .u32 z) := by
    have h0 : ((cs.toList.drop r).take 1)[0]? = some (.int .u32 z) := by rw [e1]; rfl
    simpa using h0
  simpa using this
/-- an array of 32 bytes that came in -/
theorem open_arr {H : Type} {enc : TypeId × Value → H} {W : World} {base b0 : Nat} {sp : Nat → Bool} {held : Bool} {v : Value} {d : DataW H} {ps : List MemPlace}
    (hv : Value.okWide Tryd.prog W .any b0 24 v) (h : DataW.Trod enc Tryd.prog W base sp held 24 v d ps) : ∃ l : List UInt8, l.length = 32 ∧ v = .agg (bytes l) := by
  unfold Value.okWide at hv
  rw [show Tryd.prog.underlying 24 = some (.array 32 5) by kernel_rfl] at hv
  obtain ⟨cs, rfl, hsz, _⟩ := hv
  rw [show Tryd.prog.cellsOf 24 = 32 by kernel_rfl] at hsz
  obtain ⟨fuel, hd⟩ := h
  obtain ⟨xs, m, _, ex, hcl, hl, hel⟩ := DataW.trod_array (show Tryd.prog.underlying 24 = some (.array 32 5) by kernel_rfl) hd
  have c5 : Tryd.prog.cellsOf 5 = 1 := by kernel_rfl
  have key : ∀ r, r < 32 → ∃ x : UInt8, cs[r]? = some (byteV x) := by
    intro r hr
    have hE := hel r hr
    rw [c5, Nat.mul_one, List.getElem?_eq_getElem (by omega)] at hE
    obtain ⟨z, e1, e2, hwf⟩ := DataW.trod_int (show Tryd.prog.underlying 5 = some (.int .u8) by kernel_rfl) hE
    have h0 : cs.toList[r]? = some (.int .u8 z) := by
      have e1' : (cs.toList.drop r).take 1 = [.int .u8 z] := e1
      have h0 : ((cs.toList.drop r).take 1)[0]? = some (.int .u8 z) := by rw [e1']; rfl
      simpa using h0
    have hz : 0 ≤ z ∧ z < 256 := by simp [Lit.wf, IntKind.min, IntKind.max, IntKind.bits, IntKind.signed] at hwf; omega
    refine ⟨UInt8.ofNat z.toNat, ?_⟩
    have : (UInt8.ofNat z.toNat).toNat = z.toNat := by simp; omega
    unfold byteV
    rw [this, show ((z.toNat : Nat) : Int) = z by omega]
    simpa using h0
  refine ⟨(List.range 32).map fun r => if h : r < 32 then (key r h).choose else 0, by simp, ?_⟩
  congr 1
  apply Array.ext_getElem?
  intro r
  by_cases hr : r < 32
  · have := (key r hr).choose_spec
    rw [this]
    simp [bytes, hr]
  · simp [bytes, hr]; omega
set_option maxRecDepth 100000 in
theorem back_lifted (os : Os) (started : os.Started) (H : Type) (enc : TypeId × Value → H) :
    ReturnsInHanded {} Tryd.checked os 7 .any (fun w args => (Rows.shaBackSpec.pre enc Tryd.prog Tryd.f7 Rows.shaBackRow.domain false w args ∧ laidMet Tryd.prog laidL w) ∧ sizedMet enc Tryd.prog Tryd.f7 (OpenSpec.ofChange Rows.shaBackSpec) false w args)
      (Rows.shaBackSpec.post enc Tryd.prog Tryd.f7 false true false false) := by
  refine returnsInHanded_of_change_and (C := Tryd.checked) (X := fun w _ => laidMet Tryd.prog laidL w) (fun _ _ _ hh h => h.of_heap hh) own started (by kernel_rfl) Tryd.func7
    (ChangeSpec.witness_shaped (enc := enc) (C := Tryd.checked) (os := os) (X := fun w _ => laidMet Tryd.prog laidL w) false (World.laidAll Tryd.prog os laidL) #[.agg (bytes (List.replicate 32 0)), .string ByteArray.empty] 8 (World.laidAll_os _ _ _)
      (World.shaped_of_ZipB (by kernel_rfl) (by kernel_rfl)) (by kernel_rfl) (by kernel_rfl) (by kernel_rfl)
      (laidMet_laidAll _ (by kernel_rfl) (by kernel_rfl))) ?_
  intro W base args ds gs before hval0 hW hc _ hL _
  have hval : ∀ (j : Nat) t v, Tryd.f7.params[j]? = some t → args[j]? = some v → Value.okWide Tryd.prog W .any base t v := hval0
  have hW' := hW
  obtain ⟨p, q, hA0, hV, rfl, _, _⟩ := hW
  have hA : DataW.TrodAll enc Tryd.prog W 0 (fun _ => true) true Tryd.f7.params.toList args.toList ds p := hA0
  rw [Tryd.params7] at hA hval
  obtain ⟨v0, vs0, d0, ds0, p0, q0, hargs, rfl, rfl, h0, r0⟩ := trodAll_cons hA
  obtain ⟨v1, vs1, d1, ds1, p1, q1, rfl, rfl, rfl, h1, r1⟩ := trodAll_cons r0
  obtain ⟨rfl, rfl, rfl⟩ := trodAll_nil r1
  obtain rfl : args = #[v0, v1] := by cases args; simp_all
  obtain ⟨rfl, rfl⟩ := trodVars_none hV
  have lt0 : ∀ x ∈ p0, x.block < W.heap.size := by obtain ⟨m, hm⟩ := h0; exact DataW.trod_lt m _ _ _ hm
  have lt1 : ∀ x ∈ p1, x.block < W.heap.size := by obtain ⟨m, hm⟩ := h1; exact DataW.trod_lt m _ _ _ hm
  have k0 := h0
  have k1 := h1
  obtain ⟨l, hl, rfl⟩ := open_arr (hval 0 24 v0 rfl rfl) h0
  obtain ⟨s, rfl, rfl, hp1, hsm⟩ := open_string (show Tryd.prog.underlying 9 = some .string by kernel_rfl) (hval 1 9 v1 rfl rfl) h1
  clear hA0 hval0
  have hw : Does Tryd.prog 7 #[.agg (bytes l), .string s] W fun v w' => v = .bool true ∧ Below W.heap.size W w' := back_does l hl s W (key_ok hL) fun w' X => ⟨rfl, X.below⟩
  refine Calls.mono hw fun e W' ⟨v, he, hv, bel⟩ => ?_
  subst he; subst hv
  exact ⟨_, rfl, _, _, _, [], _, [], hW', trodAll_mk1 (shut_bool (show Tryd.prog.underlying 4 = some .bool by kernel_rfl) _), (trodAll_cons_mk (Below.trod laidOut (by kernel_rfl) (of_decide_eq_true (by kernel_rfl)) k0 bel lt0) (trodAll_cons_mk (Below.trod laidOut (by kernel_rfl) (of_decide_eq_true (by kernel_rfl)) k1 bel lt1) trodAll_mk0)), rfl, bel.frame _, fun h => by cases h⟩
theorem back_holds : Rows.ShaBackSaid :=
  OpenClaim.holds_of_wide 7 Tryd.f7 rfl rfl rfl rfl rfl rfl rfl ⟨rfl, rfl, rfl, rfl, rfl⟩ rfl rfl rfl rfl rfl (by kernel_rfl) Tryd.func7 (by kernel_rfl)
    (of_decide_eq_true (by kernel_rfl)) (by unfold Func.isWrapper; first | (rw [if_pos (by decide +kernel)]; kernel_rfl) | (rw [if_neg (by decide +kernel)]; exact ⟨rfl, rfl⟩))
    (fun os started H enc _ => back_lifted os started H enc)
theorem back_card : Rows.ShaBackCardSaid :=
  Claim7.holds_tied_plain_at .later [] [.data] true (true, "96681e02f3cdb85a50f98c727b7f2f2c6e48595bf11fa66aeb6ca1a2d58cb19a") false back_holds (fun _ h => by cases h) (by kernel_rfl) (fun _ h => by cases h) shaBack_row_tie rfl ⟨rfl, rfl⟩ (by kernel_rfl) rfl
    (fun f fn hf hfn => by
      obtain rfl : f = 7 := Option.some.inj ((show Tryd.prog.funcNamed "nacelle/nacellelaw04.ShaBack" = some 7 by kernel_rfl).symm.trans hf) |>.symm
      obtain rfl : fn = Tryd.f7 := (Option.some.inj (Tryd.func7.symm.trans hfn)).symm
      exact ⟨by kernel_rfl, fun j t ht => by
        rw [Tryd.params7] at ht
        have hm : t ∈ [24, 9] := by simpa using Array.mem_of_getElem? ht
        have hall : ([24, 9].all fun u => !Tryd.prog.wantsStandIn u) = true := by kernel_rfl
        exact (show Tryd.prog.wantsStandIn t = false by simpa using List.all_eq_true.1 hall t hm)⟩)
    (by kernel_rfl)
#print axioms back_card
end Go.Proofs.YtaaegmmcnfeiaaaDoor.G
