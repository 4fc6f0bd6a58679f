import Derived.Test.YtomoejbamegpoaaDoorDg
set_option linter.unusedVariables false
set_option linter.unusedSimpArgs false
namespace Go.Proofs.YtomoejbamegpoaaDoor.G
open Go Go.VC Go.RowKit Go.Proofs Go.Proofs.YtomoejbamegpoaaDoor Nac
attribute [local irreducible] Tryd.prog
section
variable {F : Bs} {w : World} {l r : List SP} {Q : Value → World → Prop} {s t : Sl} {is js : List Ins} {bb : List UInt8} {v : Value} {fl : List (Int × Int)}
theorem cenc_beq (is js : List Ins) : (((bs (cenc is)).toList == (bs (cenc js)).toList) == decide (is = js)) = true := by
  have e : ((bs (cenc is)).toList == (bs (cenc js)).toList) = (cenc is == cenc js) := by simp
  rw [e]
  by_cases h : is = js
  · subst h; simp
  · have : ¬ cenc is = cenc js := fun g => h (cenc_inj g)
    simp [h, this]
theorem law_CodeBack (H : Heap F w l) (hI : Has l (imm s is)) (hJ : Has l (imm t js)) (hT : Has l ErrTy) (k : ∀ w', Heap F w' l → Q (.bool true) w') : Does Tryd.prog N_law07_CodeBack #[.slice s.a s.len s.cap, .slice t.a t.len t.cap] w Q := by
  refine F_law07_CodeBack_does _ _ _ _ ?_
  unfold F_law07_CodeBack
  refine law07_few H hI fun l3 H => ⟨_, rfl, ?_⟩
  refine law07_few H (.t hJ) fun l6 H => ⟨_, rfl, ?_⟩
  have h1 : (is.take 140).length ≤ 140 := by rw [List.length_take]; omega
  have h2 : (js.take 140).length ≤ 140 := by rw [List.length_take]; omega
  generalize is.take 140 = is at *
  generalize js.take 140 = js at *
  refine code_Encode (s := l3) (is := is) H (by omega) (.i (.t .h)) fun l9 w H => ⟨_, rfl, ?_⟩
  replace H := H.share
  have hl9 := H.len (s := l9) .h
  have hl3 := H.len (s := l3) (xs := is) (.t (.t .h))
  refine code_Decode (s := l9) (bb := cenc is) H (by rw [cenc_length]; omega) .h (by repeat (first | exact hT | apply Has.t)) fun l12 v13 w H => ⟨l12, _, rfl, ?_⟩
  have hd : dcd (cenc is) = if (cchk is).1 = 0 then [] else [((cchk is).1, 4 * (cchk is).2), cchk is] := by
    rw [dcd, if_neg (by rw [cenc_length]; omega), clst_enc]
  rw [clst_enc] at H
  have hf : flt (cchk is) = if (cchk is).1 = 0 then [] else [cchk is] := rfl
  intro J15 hJ15
  have fin : ∀ {a b : SP} w, Heap F w (a :: b :: imm l9 (cenc is) :: imm l6 js :: imm l3 is :: l) → J15 w := fun {a b} w H => by
    refine hJ15 _ ?_
    replace H := H.drew
    refine ⟨_, cvI (s := l9) (xs := cenc is) H und_l8 und_8 und_s (by repeat (first | assumption | constructor)), ?_⟩
    refine code_Encode (s := l6) (is := js) H (by omega) (.i (by repeat (first | assumption | constructor))) fun l19 w H => ⟨_, rfl, ?_⟩
    refine ⟨cvI (s := l9) (xs := cenc is) H und_l8 und_8 und_s (by repeat (first | assumption | constructor)), _, cvO (s := l19) (xs := cenc js) H und_l8 und_8 und_s .h, ?_⟩
    refine law07_same (s := l3) (t := l6) (is := is) (js := js) H (by repeat (first | assumption | constructor)) (by repeat (first | assumption | constructor)) fun w H => ⟨_, rfl, ?_⟩
    refine ⟨cvO (s := l19) (xs := cenc js) H und_l8 und_8 und_s .h, cvI (s := l9) (xs := cenc is) H und_l8 und_8 und_s (by repeat (first | assumption | constructor)), cT (cenc_beq is js) ?_⟩
    exact law07_awake H (by repeat (first | exact hT | apply Has.t)) fun w H => ⟨_, rfl, k w (H.tln 6)⟩
  clear hJ15
  replace H := H.drew
  by_cases hz : (cchk is).1 = 0
  · rw [if_pos hz] at hd hf
    rw [hd, if_pos rfl] at H
    refine ⟨?_, ?_⟩
    · refine err_eq H (by repeat (first | assumption | constructor)) ?_
      refine code_Check (s := l3) (is := is) H (by repeat (first | assumption | constructor)) fun v31 w H => ⟨_, rfl, ?_⟩
      rw [hf] at H
      refine err_eq H .h (cF rfl (err_eq H (.t (.t .h)) (cT rfl ?_)))
      refine law07_same (s := l12) (t := l3) (is := is) (js := is) H (by repeat (first | assumption | constructor)) (by repeat (first | assumption | constructor)) fun w H => ⟨_, rfl, ?_⟩; rw [decide_eq_true rfl]; refine cF rfl ?_; rw [← hl9, ← hl3, cenc_length, i64_id (by omega)]; exact dNe (fun h => absurd h (by omega)) (fun _ => fin w H.tl)
    · refine code_Check (s := l3) (is := is) H (by repeat (first | assumption | constructor)) fun v31 w H => ⟨_, rfl, ?_⟩
      rw [hf] at H
      refine ⟨?_, ?_⟩
      · refine err_eq H (.t (.t .h)) (err_eq H .h (cF rfl (err_eq H (.t (.t .h)) (cT rfl ?_))))
        refine law07_same (s := l12) (t := l3) (is := is) (js := is) H (by repeat (first | assumption | constructor)) (by repeat (first | assumption | constructor)) fun w H => ⟨_, rfl, ?_⟩; rw [decide_eq_true rfl]; refine cF rfl ?_; rw [← hl9, ← hl3, cenc_length, i64_id (by omega)]; exact dNe (fun h => absurd h (by omega)) (fun _ => fin w H.tl)
      · refine err_eq H .h (err_eq H (.t (.t .h)) (cF rfl (err_eq H (.t (.t .h)) (cT rfl ?_))))
        refine law07_same (s := l12) (t := l3) (is := is) (js := is) H (by repeat (first | assumption | constructor)) (by repeat (first | assumption | constructor)) fun w H => ⟨_, rfl, ?_⟩; rw [decide_eq_true rfl]; refine cF rfl ?_; rw [← hl9, ← hl3, cenc_length, i64_id (by omega)]; exact dNe (fun h => absurd h (by omega)) (fun _ => fin w H.tl)
  · rw [if_neg hz] at hd hf
    rw [hd, if_neg (by simp)] at H
    refine ⟨?_, ?_⟩
    · refine err_eq H (.t .h) ?_
      refine code_Check (s := l3) (is := is) H (by repeat (first | assumption | constructor)) fun v31 w H => ⟨_, rfl, ?_⟩
      rw [hf] at H
      refine err_eq H .h (cF rfl (err_eq H (.t (.t .h)) (cF rfl ?_)))
      rw [← hl9, ← hl3, cenc_length, i64_id (by omega)]; exact dNe (fun h => absurd h (by omega)) (fun _ => fin w H.tl)
    · refine code_Check (s := l3) (is := is) H (by repeat (first | assumption | constructor)) fun v31 w H => ⟨_, rfl, ?_⟩
      rw [hf] at H
      refine ⟨?_, ?_⟩
      · refine err_eq H (.t (.t .h)) (err_eq H .h (cF rfl (err_eq H (.t (.t .h)) (cF rfl ?_))))
        rw [← hl9, ← hl3, cenc_length, i64_id (by omega)]; exact dNe (fun h => absurd h (by omega)) (fun _ => fin w H.tl)
      · refine err_eq H .h (err_eq H (.t (.t .h)) (cF rfl (err_eq H (.t (.t .h)) (cF rfl ?_))))
        rw [← hl9, ← hl3, cenc_length, i64_id (by omega)]; exact dNe (fun h => absurd h (by omega)) (fun _ => fin w H.tl)
end
end Go.Proofs.YtomoejbamegpoaaDoor.G
