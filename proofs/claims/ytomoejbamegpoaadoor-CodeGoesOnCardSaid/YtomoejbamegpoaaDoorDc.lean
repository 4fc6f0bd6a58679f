import Derived.Test.YtomoejbamegpoaaDoorDb
set_option linter.unusedVariables false
set_option linter.unusedSimpArgs false
namespace Go.Proofs.YtomoejbamegpoaaDoor.G
open Go Go.VC Go.RowKit Go.Proofs Go.Proofs.YtomoejbamegpoaaDoor Nac
theorem if_run_ne {P : Program} {w : World} {t x s : Nat} {u : Value} (h : isIf P t = true) : (do eqGuard .neq t (.tmp x) (.const (.nilIface)) (.iface s u) (.nilIface); binOp .neq t (.iface s u) (.nilIface) : Sem Value).run P w = .ok (.bool true) w := by
  rw [eqGuard_at_iface]
  have e := if_eqIn (P := P) (w := w) (s := s) (u := u) 9999 h
  simp only [pure_bind, binOp]
  show ((Op.equalIn 10000 t (.iface s u) .nilIface) >>= fun a => pure (Value.bool (!a)) : Sem Value).run P w = _
  rw [Sem.run_bind, e]; rfl
theorem nil_run_ne {P : Program} {w : World} {t x : Nat} (h : isIf P t = true) : (do eqGuard .neq t (.tmp x) (.const (.nilIface)) (.nilIface) (.nilIface); binOp .neq t (.nilIface) (.nilIface) : Sem Value).run P w = .ok (.bool false) w := by
  rw [eqGuard_nil_constR]
  have e := nil_eqIn (P := P) (w := w) 9999 h
  simp only [pure_bind, binOp]
  show ((Op.equalIn 10000 t .nilIface .nilIface) >>= fun a => pure (Value.bool (!a)) : Sem Value).run P w = _
  rw [Sem.run_bind, e]; rfl
theorem nil_ne {w : World} {K : Bool → World → Prop} {x : Nat} (k : K false w) : runG (.bool) Tryd.prog w (do eqGuard .neq T_error (.tmp x) (.const (.nilIface)) (.nilIface) (.nilIface); binOp .neq T_error (.nilIface) (.nilIface)) K :=
  ⟨.bool false, w, nil_run_ne if_err, _, rfl, k⟩
theorem iface_nen {w : World} {t : Nat} {u : Value} {K : Bool → World → Prop} {x : Nat} (k : K true w) : runG (.bool) Tryd.prog w (do eqGuard .neq T_error (.tmp x) (.const (.nilIface)) (.iface t u) (.nilIface); binOp .neq T_error (.iface t u) (.nilIface)) K :=
  ⟨.bool true, w, if_run_ne if_err, _, rfl, k⟩
attribute [local irreducible] Tryd.prog
section
variable {F : Bs} {w : World} {l r : List SP} {Q : Value → World → Prop} {s t : Sl} {fs : List Fld} {bb : List UInt8} {v : Value} {fl : List (Int × Int)}
/-- is an error nil -/
theorem err_eq (H : Heap F w l) (hE : Has l (Err v fl)) {x : Nat} {K : Bool → World → Prop} (k : K (decide (fl = [])) w) : runG (.bool) Tryd.prog w (do eqGuard .eql T_error (.tmp x) (.const (.nilIface)) v (.nilIface); binOp .eql T_error v (.nilIface)) K := by
  rcases err_val H hE with ⟨rfl, rfl⟩ | ⟨c, a, t, b, u, rfl, rfl, H⟩
  · exact nil_eq k
  · exact iface_ne k
theorem err_ne (H : Heap F w l) (hE : Has l (Err v fl)) {x : Nat} {K : Bool → World → Prop} (k : K (decide (fl ≠ [])) w) : runG (.bool) Tryd.prog w (do eqGuard .neq T_error (.tmp x) (.const (.nilIface)) v (.nilIface); binOp .neq T_error v (.nilIface)) K := by
  rcases err_val H hE with ⟨rfl, rfl⟩ | ⟨c, a, t, b, u, rfl, rfl, H⟩
  · exact nil_ne k
  · exact iface_nen k
theorem law_few (H : Heap F w l) {mn mx : Int} (hI : Has l (imm s fs)) (k : ∀ t w', Heap F w' (imm t (fs.take 10) :: l) → Q (.agg #[.int .i64 mn, .int .i64 mx, .slice t.a t.len t.cap]) w') : Does Tryd.prog N_law10_few #[.agg #[.int .i64 mn, .int .i64 mx, .slice s.a s.len s.cap]] w Q := by
  refine F_law10_few_does _ _ _ _ _ ?_
  unfold F_law10_few
  have hl := H.len hI
  refine al H (cs := [.int .i64 mn, .int .i64 mx, s.v]) (fun a w H => ?_) rfl
  refine al H (fun a3 w H => ?_) zc_api_Rule
  intro J hJ
  have fin : ∀ (t : Sl) w', Heap F w' (imm t (fs.take 10) :: blk a T_api_Rule [.int .i64 mn, .int .i64 mx, t.v] :: blk a3 T_api_Rule [.int .i64 0, .int .i64 0, (Sl.v ⟨none, 0, 0⟩)] :: l) → J w' := fun t w H => by
    refine hJ _ (ld0 H (lda H (lda (t := .sl) (x := t) H (st0 H fun w H => sta H fun w H => sta H fun w H => ld0 H (lda H (lda (t := .sl) (x := t) H ?_))))))
    refine k t _ ?_
    replace H := H.take (.t .h)
    exact Heap.kp 2 H
  refine lda (t := .sl) (x := s) H ?_
  refine dGt (fun h => lda (t := .sl) (x := s) H ?_) (fun h => ?_)
  · refine slcI (s := s) (xs := fs) H (by omega) (by omega) (by omega) (fun t H => ?_) (.t (.t hI))
    simp only [show (10 : Int).toNat - (0 : Int).toNat = 10 from rfl, show (0 : Int).toNat = 0 from rfl, List.drop_zero] at H
    exact sta H fun w H => fin t _ (H.take (.t .h))
  · refine fin s _ ?_
    rw [List.take_of_length_le (by omega)]
    exact (H.take (.t .h)).immDup (.t (.t hI))
theorem law_told (H : Heap F w l) {x : Int × Int} (hE : Has l (Err v (flt x))) (hT : Has l ErrTy) (k : ∀ w', Heap F w' l → Q (.bool true) w') : Does Tryd.prog N_law10_told #[v, .int .i64 x.1, .int .i64 x.2] w Q := by
  refine F_law10_told_does _ _ _ _ _ ?_
  unfold F_law10_told
  refine cBoth (fun h => ?_) (fun h => ?_)
  · have h0 : x.1 = 0 := by simpa using h
    have e : flt x = [] := by simp [flt, h0]
    refine err_eq H hE ?_
    rw [e]
    exact k _ H
  · have h0 : ¬ x.1 = 0 := by simpa using h
    have e : flt x = [x] := by simp [flt, h0]
    rw [e] at hE
    refine fault_Path H (by simp) hE hT fun s w H => ⟨s, rfl, ?_⟩
    refine fault_Code H (.t hE) (.t hT) fun w H => ⟨_, rfl, ?_⟩
    replace H := H.share
    have hl := H.len .h
    simp at hl
    refine cT (by simp [fcode]) (cT (by simp [← hl]) ?_)
    refine idxI1 (xs := [x.2]) H (by decide) (by simp) (fun a ha => ldT_cell _ ha ?_) .h
    have e2 : (x.2 == x.2) = true := by simp
    show Q (.bool ([x.2][0] == x.2)) w
    simp only [List.getElem_cons_zero, e2]
    exact k _ H.tl
/-- what the lookup over the fields says -/
def pas (mn mx : Int) (fs : List Fld) (b : List UInt8) : Int × Int :=
  if (b.length : Int) < mn then (2, (b.length : Int)) else if (b.length : Int) > mx then (7, mx) else (match fs.findIdx? (fun f => !f.holds b) with | some i => (3, (i : Int)) | none => (0, 0))
theorem pas_at {mn mx : Int} {fs : List Fld} {b : List UInt8} (h1 : ¬ (b.length : Int) < mn) (h2 : ¬ (b.length : Int) > mx) {i : Nat} (hi : i < fs.length) (hb : fs[i].holds b = false) (hp : ∀ j (hj : j < i), (fs[j]'(by omega)).holds b = true) : pas mn mx fs b = (3, (i : Int)) := by
  have : fs.findIdx? (fun f => !f.holds b) = some i := List.findIdx?_eq_some_iff_getElem.mpr ⟨hi, by simp [hb], fun j hj => by simp [hp j hj]⟩
  rw [pas, if_neg h1, if_neg h2, this]
theorem pas_none {mn mx : Int} {fs : List Fld} {b : List UInt8} (h1 : ¬ (b.length : Int) < mn) (h2 : ¬ (b.length : Int) > mx) (hp : ∀ j (hj : j < fs.length), fs[j].holds b = true) : pas mn mx fs b = (0, 0) := by
  have : fs.findIdx? (fun f => !f.holds b) = none := List.findIdx?_eq_none_iff.mpr fun x hx => by
    obtain ⟨j, hj, rfl⟩ := List.getElem_of_mem hx
    simp [hp j hj]
  rw [pas, if_neg h1, if_neg h2, this]
theorem chk_ok {mn mx : Int} {fs : List Fld} (h : (chk mn mx fs).1 = 0) : (0 ≤ mn ∧ mn ≤ mx ∧ mx ≤ 64 ∧ fs.length ≤ 8) ∧ ∀ f ∈ fs, f.ok = true := by
  unfold chk at h
  split at h
  · refine ⟨by assumption, fun f hf => ?_⟩
    split at h
    · simp at h
    · rename_i hn
      have := List.findIdx?_eq_none_iff.mp hn f hf
      simpa using this
  · simp at h
theorem ref10_Pass (H : Heap F w l) {mn mx : Int} (hc : (chk mn mx fs).1 = 0) (hI : Has l (imm s fs)) (hB : Has l (imm t bb)) (k : ∀ w', Heap F w' l → Q (.tuple #[.int .i64 (pas mn mx fs bb).1, .int .i64 (pas mn mx fs bb).2]) w') : Does Tryd.prog N_ref10_Pass #[.agg #[.int .i64 mn, .int .i64 mx, .slice s.a s.len s.cap], .slice t.a t.len t.cap] w Q := by
  refine F_ref10_Pass_does _ _ _ _ _ _ ?_
  unfold F_ref10_Pass
  obtain ⟨hg, hok⟩ := chk_ok hc
  have hl := H.len hI
  have hlb := H.len hB
  refine al H (cs := [.int .i64 mn, .int .i64 mx, s.v]) (fun a w H => ?_) rfl
  refine ld0 H ?_
  refine dLt (fun e1 => ?_) (fun e1 => lda H ?_)
  · have := k w H.tl
    rw [pas, if_pos (by omega), hlb] at this
    exact this
  refine dGt (fun e2 => ?_) (fun e2 => ?_)
  · have := k w.drew H.drew.tl
    rw [pas, if_neg (by omega), if_pos (by omega)] at this
    exact lda H.drew this
  refine ⟨fun i w => ∃ n : Nat, i = n ∧ n ≤ fs.length ∧ (∀ j (hj : j < n) (hj' : j < fs.length), fs[j].holds bb = true) ∧ Heap F w (blk a T_api_Rule [.int .i64 mn, .int .i64 mx, s.v] :: l), fun i _ => fs.length - i.toNat, ⟨0, rfl, Nat.zero_le _, fun j hj => by omega, H⟩, ?_⟩
  rintro i w ⟨n, rfl, hn, hhs, H⟩
  refine lda (t := .sl) (x := s) H (dBoth (fun hlt => ?_) (fun hge => ?_))
  · have hlt' : n < fs.length := by omega
    intro J3 hJ3
    refine lda (t := .sl) (x := s) H ?_
    refine idxI (xs := fs) H (by omega) (by omega) (fun x cs HR hA => ?_) (.t hI)
    obtain ⟨hcs, hr1, hr2, hr3, hr4⟩ := fld_of HR .h
    simp only [Int.toNat_natCast] at hcs hr1 hr2 hr3 hr4
    unfold Fld.cs at hcs
    subst hcs
    obtain ⟨h1, h2, h3, h4, h5⟩ := Fld.ok_iff.mp (hok fs[n] (List.getElem_mem hlt'))
    refine hA.ld0 (hA.ld (hA.ld (hA.ld ?_)))
    refine al H (fun a2 w H => ?_) zc_api_Field
    refine st0 H fun w H => sta H fun w H => sta H fun w H => sta H fun w H => ?_
    have bad : ¬ (fs[n].at_ + fs[n].size ≤ bb.length ∧ fs[n].lo ≤ fs[n].num bb ∧ fs[n].num bb ≤ fs[n].hi) → ∀ {w}, Heap F w l → Q (.tuple #[.int .i64 3, .int .i64 n]) w := fun h w H => by
      have := k w H
      rw [pas_at (by omega) (by omega) hlt' (decide_eq_false h) (fun j hj => hhs j hj (by omega))] at this
      exact this
    refine ld0 H (lda H ?_)
    rw [i64_id (by omega)]
    refine dGt (fun g1 => bad (by omega) H.tl.tl) (fun g1 => ld0 H (ld0 H (lda H ?_)))
    rw [i64_id (by omega)]
    refine slcI (s := t) (xs := bb) H (by omega) (by omega) (by omega) (fun s2 H => ?_) (.t (.t hB))
    have e : ((bb.drop fs[n].at_.toNat).take ((fs[n].at_ + fs[n].size).toNat - fs[n].at_.toNat)) = ((bb.drop fs[n].at_.toNat).take fs[n].size.toNat) := by congr 1; omega
    rw [e] at H
    refine ref_Number H (s := s2) (bb := (bb.drop fs[n].at_.toNat).take fs[n].size.toNat) ⟨_, rfl, ?_⟩ .h
    have H2 := H.tl
    refine lda H2 ?_
    refine dLt (b := fs[n].lo) (fun g2 => bad (fun x => ?_) H2.tl.tl) (fun g2 => lda H2 ?_)
    · have : fs[n].num bb < fs[n].lo := g2
      omega
    refine dGt (b := fs[n].hi) (fun g3 => bad (fun x => ?_) H2.tl.tl) (fun g3 => hJ3 _ ?_)
    · have : fs[n].num bb > fs[n].hi := g3
      omega
    rw [i64_id (by omega)]
    refine ⟨⟨n + 1, rfl, hlt', fun j hj hj' => ?_, H2.tl⟩, by show fs.length - ((n : Int) + 1).toNat < fs.length - (n : Int).toNat; omega⟩
    rcases Nat.lt_or_ge j n with q | q
    · exact hhs j q hj'
    · obtain rfl : j = n := by omega
      have g2' : ¬ fs[j].num bb < fs[j].lo := g2
      have g3' : ¬ fs[j].num bb > fs[j].hi := g3
      exact decide_eq_true ⟨by omega, by omega, by omega⟩
  · have := k w H.tl
    rw [pas_none (by omega) (by omega) (fun j hj => hhs j (by omega) hj)] at this
    exact this
/-- what the filter answers -/
def fpass (mn mx : Int) (fs : List Fld) (b : List UInt8) : List (Int × Int) :=
  if (chk mn mx fs).1 = 0 then flt (pas mn mx fs b) else [((chk mn mx fs).1, -1), chk mn mx fs]
theorem filter_Pass (H : Heap F w l) {mn mx : Int} (hI : Has l (imm s fs)) (hB : Has l (imm t bb)) (hT : Has l ErrTy) (k : ∀ v w', Heap F w' (Err v (fpass mn mx fs bb) :: l) → Q v w') : Does Tryd.prog N_filter_Pass #[.agg #[.int .i64 mn, .int .i64 mx, .slice s.a s.len s.cap], .slice t.a t.len t.cap] w Q := by
  refine F_filter_Pass_does _ _ _ _ _ _ ?_
  unfold F_filter_Pass
  have hl := H.len hI
  have hlb := H.len hB
  refine al H (cs := [.int .i64 mn, .int .i64 mx, s.v]) (fun a w H => ?_) rfl
  refine ld0 H (lda H (lda (t := .sl) (x := s) H ?_))
  refine filter_Check H (.t hI) fun v w H => ⟨_, rfl, ?_⟩
  refine err_ne H .h ?_
  by_cases hc : (chk mn mx fs).1 = 0
  case neg =>
    have e : flt (chk mn mx fs) = [chk mn mx fs] := if_neg hc
    rw [e] at H ⊢
    refine cT rfl ?_
    rcases err_val H .h with ⟨h, _⟩ | ⟨c, a', t', b, u, h, rfl, _⟩
    · cases h
    refine fault_In H .h (.t (.t hT)) fun v w H => ⟨_, rfl, k _ _ ?_⟩
    rw [fpass, if_neg hc]
    exact Heap.kp 2 H
  have e : flt (chk mn mx fs) = [] := if_pos hc
  rw [e] at H ⊢
  replace H := H.tl
  obtain ⟨hg, hok⟩ := chk_ok hc
  have ans : ∀ (x : Int × Int) {v w n}, pas mn mx fs bb = x → Heap F w (Err v (if x.1 = 0 then [] else [(x.1, x.2)]) :: n :: l) → Q v w := fun x v w n hx H => by
    refine k _ _ ?_
    rw [fpass, if_pos hc, hx]
    exact Heap.kp 1 H
  refine cF rfl (ld0 H ?_)
  refine dLt (fun e1 => ?_) (fun e1 => lda H ?_)
  · exact fault_New H fun v w H => ⟨_, rfl, ans (2, (t.len : Int)) (by rw [pas, if_pos (by omega), hlb]) H⟩
  refine dGt (fun e2 => lda H ?_) (fun e2 => lda (t := .sl) (x := s) H ?_)
  · exact fault_New H fun v w H => ⟨_, rfl, ans (7, mx) (by rw [pas, if_neg (by omega), if_pos (by omega)]) H⟩
  refine ⟨fun i w => ∃ n : Nat, i = n ∧ n ≤ fs.length ∧ (∀ j (hj : j < n) (hj' : j < fs.length), fs[j].holds bb = true) ∧ Heap F w (blk a T_api_Rule [.int .i64 mn, .int .i64 mx, s.v] :: l), fun i _ => fs.length - i.toNat, ⟨0, rfl, Nat.zero_le _, fun j hj => by omega, H⟩, ?_⟩
  rintro i w ⟨n, rfl, hn, hhs, H⟩
  refine dBoth (fun hlt => ?_) (fun hge => ?_)
  · have hlt' : n < fs.length := by omega
    refine idxI (xs := fs) H (by omega) (by omega) (fun x cs HR hA => ?_) (.t hI)
    obtain ⟨hcs, hr1, hr2, hr3, hr4⟩ := fld_of HR .h
    simp only [Int.toNat_natCast] at hcs hr1 hr2 hr3 hr4
    unfold Fld.cs at hcs
    subst hcs
    have hok1 := hok fs[n] (List.getElem_mem hlt')
    refine hA.ld0 (hA.ld (hA.ld (hA.ld ?_)))
    refine al H (fun a2 w H => ?_) zc_api_Field
    refine st0 H fun w H => sta H fun w H => sta H fun w H => sta H fun w H => ?_
    refine ld0 H (lda H (lda H (lda H ?_)))
    refine filter_holds H fs[n] hok1 (.t (.t hB)) fun w H => ⟨_, rfl, ?_⟩
    replace H := H.tl
    cases hh : fs[n].holds bb with
    | false =>
      refine cT rfl ?_
      exact fault_New H fun v w H => ⟨_, rfl, ans (3, (n : Int)) (pas_at (by omega) (by omega) hlt' hh (fun j hj => hhs j hj (by omega))) H⟩
    | true =>
      refine cF rfl ?_
      rw [i64_id (by omega)]
      refine ⟨⟨n + 1, rfl, hlt', fun j hj hj' => ?_, H⟩, by show fs.length - ((n : Int) + 1).toNat < fs.length - (n : Int).toNat; omega⟩
      rcases Nat.lt_or_ge j n with q | q
      · exact hhs j q hj'
      · obtain rfl : j = n := by omega
        exact hh
  · refine ans (0, 0) (pas_none (by omega) (by omega) (fun j hj => hhs j (by omega) hj)) (n := blk a T_api_Rule [.int .i64 mn, .int .i64 mx, s.v]) ?_
    exact err_nil H
end
end Go.Proofs.YtomoejbamegpoaaDoor.G

set_option linter.unusedVariables false
set_option linter.unusedSimpArgs false
namespace Go.Proofs.YtomoejbamegpoaaDoor.G
open Go Go.VC Go.RowKit Go.Proofs Go.Proofs.YtomoejbamegpoaaDoor Nac
attribute [local irreducible] Tryd.prog
def dig (i : Int) : ByteArray := (⟨#[48, 49, 50, 51, 52, 53, 54, 55, 56, 57, 97, 98, 99, 100, 101, 102, 103, 104, 105, 106, 107, 108, 109, 110, 111, 112, 113, 114, 115, 116, 117, 118, 119, 120, 121, 122]⟩ : ByteArray).extract i.toNat (i + 1).toNat
theorem dig_size {i : Int} (h0 : 0 ≤ i) (h9 : i < 10) : (dig i).size = 1 := by
  rcases (show i = 0 ∨ i = 1 ∨ i = 2 ∨ i = 3 ∨ i = 4 ∨ i = 5 ∨ i = 6 ∨ i = 7 ∨ i = 8 ∨ i = 9 by omega) with rfl | rfl | rfl | rfl | rfl | rfl | rfl | rfl | rfl | rfl <;> rfl
section
variable {F : Bs} {w : World} {l r : List SP} {Q : Value → World → Prop} {s t : Sl} {fs : List Fld} {bb : List UInt8} {v : Value} {fl : List (Int × Int)}
theorem small_does {i : Int} (h0 : 0 ≤ i) (h9 : i < 10) (k : Q (.string (dig i)) w) : Does Tryd.prog N_internal_strconv_small #[.int .i64 i] w Q := by
  refine F_internal_strconv_small_does _ _ _ ?_
  unfold F_internal_strconv_small
  refine dT (by omega) ?_
  rw [i64_id (by omega)]
  refine ⟨by omega, ?_, h0, by omega, k⟩
  show (i + 1) ≤ ((36 : Nat) : Int)
  omega
theorem itoa_does {i : Int} (h0 : 0 ≤ i) (h9 : i < 10) (k : Q (.string (dig i)) w) : Does Tryd.prog N_strconv_Itoa #[.int .i64 i] w Q := by
  refine F_strconv_Itoa_does _ _ _ ?_
  unfold F_strconv_Itoa
  refine F_internal_strconv_Itoa_does _ _ _ ?_
  unfold F_internal_strconv_Itoa
  refine F_internal_strconv_FormatInt_does _ _ _ _ ?_
  unfold F_internal_strconv_FormatInt
  refine cT rfl ?_
  intro J hJ J2 hJ2
  refine dT h0 (hJ2 _ _ (dT (by omega) ?_))
  exact small_does h0 h9 ⟨_, rfl, _, rfl, _, rfl, k⟩
def txt (c a : Int) : ByteArray := (⟨#[]⟩ : ByteArray) ++ ((dig c ++ (⟨#[64]⟩ : ByteArray)) ++ dig a)
theorem fault_Text1 (H : Heap F w l) {c a : Int} (c0 : 0 ≤ c) (c9 : c < 10) (a0 : 0 ≤ a) (a9 : a < 10) (hE : Has l (Err v [(c, a)])) (hT : Has l ErrTy) (k : ∀ w', Heap F w' l → Q (.string (txt c a)) w') : Does Tryd.prog N_fault_Text #[v] w Q := by
  refine F_fault_Text_does _ _ _ ?_
  unfold F_fault_Text
  refine fault_row H (by simp) hE hT fun s0 ps w H => ⟨s0, rfl, ?_⟩
  replace H := H.share
  have hs0 := H.len (xs := ps) .h
  have hps := FR_len H (.t .h)
  simp only [List.length_singleton] at hps
  refine ⟨fun s x w' => ((x = 0 ∧ s = ⟨#[]⟩) ∨ (x = 1 ∧ s = txt c a)) ∧ Heap F w' (imm s0 ps :: FR ps [(c, a)] :: l), fun _ x _ => (1 - x).toNat, ⟨.inl ⟨rfl, rfl⟩, H⟩, ?_⟩
  rintro s x w ⟨⟨rfl, rfl⟩ | ⟨rfl, rfl⟩, H⟩
  · refine dT (by omega) ?_
    intro J hJ
    refine idxI1w (s := s0) (xs := ps) H (by omega) (by omega) (fun ad ha => ?_) .h
    obtain ⟨b, hb, HB⟩ := FR_ptr H (i := 0) (.t .h) (by simp) (by omega)
    change Heap F w (atc b 0 [.int .i64 c, .int .i64 a] :: _) at HB
    refine ⟨some ⟨b, 0, none⟩, (ha H .h).trans (by simp only [Int.toNat_zero, hb]; rfl), ?_⟩
    intro J2 hJ2
    refine dF (by omega) (hJ2 _ _ ?_)
    have HA := HB.drew.atc (b := b) (o := 0) .h
    refine nn (HA.ld0 (nn (HA.ld ?_)))
    refine itoa_does c0 c9 ⟨_, rfl, ?_⟩
    have e1 := dig_size c0 c9
    have e2 := dig_size a0 a9
    refine ⟨by have := HA 1 _ rfl; exact this, by rw [e1]; decide, ?_⟩
    refine itoa_does a0 a9 ⟨_, rfl, ?_⟩
    have e3 : (dig c ++ (⟨#[64]⟩ : ByteArray)).size = 2 := by rw [ByteArray.size_append, e1]; rfl
    have e4 : ((dig c ++ (⟨#[64]⟩ : ByteArray)) ++ dig a).size = 3 := by rw [ByteArray.size_append, e3, e2]
    refine ⟨by rw [e3, e2]; decide, by rw [e4]; decide, hJ _ _ ?_⟩
    exact ⟨⟨.inr ⟨rfl, rfl⟩, HB.drew.tl⟩, by show (1 - IntKind.wrap .i64 (0 + 1)).toNat < (1 - (0 : Int)).toNat; decide⟩
  · exact dF (by omega) (k _ H.tl.tl)
theorem filter_Begin (H : Heap F w l) {rate burst : Int} (k : ∀ w', Heap F w' l → Q (if (Cap.mk rate burst burst).may = true then .tuple #[(Cap.mk rate burst burst).v, .int .i64 0] else .tuple #[(Cap.mk 0 0 0).v, .int .i64 1]) w') : Does Tryd.prog N_filter_Begin #[.int .i64 rate, .int .i64 burst] w Q := by
  refine F_filter_Begin_does _ _ _ _ ?_
  unfold F_filter_Begin
  refine al H (fun a1 w H => ?_) zc_api_Cap
  refine al H (fun a3 w H => ?_) zc_api_Cap
  refine st0 H fun w H => sta H fun w H => sta H fun w H => ld0 H (lda H (lda H ?_))
  refine filter_May H ⟨rate, burst, burst⟩ fun w H => ⟨_, rfl, ?_⟩
  cases hm : (Cap.mk rate burst burst).may with
  | false =>
    rw [if_neg (by rw [hm]; decide)] at k
    refine cT rfl ?_
    exact st0 H fun w H => sta H fun w H => sta H fun w H => ld0 H (lda H (lda H (k w H.tl.tl)))
  | true =>
    rw [if_pos hm] at k
    refine cF rfl (ld0 H (lda H (lda H ?_)))
    exact st0 H fun w H => sta H fun w H => sta H fun w H => ld0 H (lda H (lda H (k w H.tl.tl)))
theorem filter_Take' (H : Heap F w l) {c0 c1 c2 d0 d1 d2 : Int} {b : Bool} (ht : (Cap.mk c0 c1 c2).take = (⟨d0, d1, d2⟩, b)) (k : ∀ w', Heap F w' l → Q (.tuple #[.agg #[.int .i64 d0, .int .i64 d1, .int .i64 d2], .bool b]) w') : Does Tryd.prog N_filter_Take #[.agg #[.int .i64 c0, .int .i64 c1, .int .i64 c2]] w Q :=
  filter_Take H ⟨c0, c1, c2⟩ fun w H => by rw [ht]; exact k w H
theorem law10_awake (H : Heap F w l) (hT : Has l ErrTy) (k : ∀ w', Heap F w' l → Q (.bool true) w') : Does Tryd.prog N_law10_awake #[] w Q := by
  refine F_law10_awake_does _ _ ?_
  unfold F_law10_awake
  refine al H (cs := [.int .i64 0, .int .i64 2, .int .u64 10, .int .u64 20]) (fun a1 w H => ?_) rfl
  have hr : ∀ ro, Rep.r (α := Fld) ro [.int .i64 0, .int .i64 2, .int .u64 10, .int .u64 20] ⟨0, 2, 10, 20⟩ := fun ro => ⟨rfl, by simp [Fld.rng]⟩
  replace H := (H.blk_own1 (α := Fld) ⟨0, 2, 10, 20⟩ hr).share
  refine al H (fun a3 w H => ?_) zc_api_Rule
  refine st0 H fun w H => sta H fun w H => sta H fun w H => ?_
  refine filter_Begin H fun w H => ?_
  rw [if_pos (by decide)]
  refine ⟨1, 2, 2, 0, rfl, ?_⟩
  refine al H (fun a15 w H => ?_) zc_api_Cap
  refine st0 H fun w H => sta H fun w H => sta H fun w H => ld0 H (lda H (lda H ?_))
  refine filter_Take' H (d0 := 1) (d1 := 2) (d2 := 1) (b := true) (by simp [Cap.take, Cap.may]) fun w H => ⟨_, _, _, _, rfl, ?_⟩
  refine st0 H fun w H => sta H fun w H => sta H fun w H => ld0 H (lda H (lda H ?_))
  refine filter_Take' H (d0 := 1) (d1 := 2) (d2 := 0) (b := true) (by simp [Cap.take, Cap.may]) fun w H => ⟨_, _, _, _, rfl, ?_⟩
  refine st0 H fun w H => sta H fun w H => sta H fun w H => ld0 H (lda H (lda H ?_))
  refine filter_Take' H (d0 := 1) (d1 := 2) (d2 := 0) (b := false) (by simp [Cap.take, Cap.may]) fun w H => ⟨_, _, _, _, rfl, ?_⟩
  refine st0 H fun w H => sta H fun w H => sta H fun w H => ld0 H (lda H (lda H ?_))
  refine filter_Frame H ⟨1, 2, 0⟩ fun w H => ?_
  rw [show (Cap.mk 1 2 0).frame = ⟨1, 2, 1⟩ by simp [Cap.frame, Cap.may]]
  refine ⟨1, 2, 1, rfl, ?_⟩
  refine filter_Take' H (d0 := 1) (d1 := 2) (d2 := 0) (b := true) (by simp [Cap.take, Cap.may]) fun w H => ⟨_, _, _, _, rfl, ?_⟩
  refine al H (fun a74 w H => ?_) zc_api_Cap
  refine st0 H fun w H => sta H fun w H => sta H fun w H => ?_
  refine ld0 H (lda H (lda (t := .sl) (x := ⟨some ⟨a1, 0, none⟩, 1, 1⟩) H ?_))
  refine al H (cs := [.int .u8 15, .int .u8 0]) (fun a83 w H => ?_) rfl
  replace H := (H.blk_own (n := 2) ([15, 0] : List UInt8) rfl (by decide) rfl).share
  refine filter_Pass (s := ⟨some ⟨a1, 0, none⟩, 1, 1⟩) (t := ⟨some ⟨a83, 0, none⟩, 2, 2⟩) (fs := [⟨0, 2, 10, 20⟩]) (bb := [15, 0]) H (by repeat (first | assumption | constructor)) .h (by repeat (first | assumption | constructor)) fun v w H => ⟨_, rfl, ?_⟩
  rw [show fpass 1 4 [⟨0, 2, 10, 20⟩] [15, 0] = [] by decide] at H
  refine err_eq H .h (cT rfl ?_)
  refine ld0 H (lda H (lda (t := .sl) (x := ⟨some ⟨a1, 0, none⟩, 1, 1⟩) H ?_))
  refine al H (cs := [.int .u8 21, .int .u8 0]) (fun a93 w H => ?_) rfl
  replace H := (H.blk_own (n := 2) ([21, 0] : List UInt8) rfl (by decide) rfl).share
  refine filter_Pass (s := ⟨some ⟨a1, 0, none⟩, 1, 1⟩) (t := ⟨some ⟨a93, 0, none⟩, 2, 2⟩) (fs := [⟨0, 2, 10, 20⟩]) (bb := [21, 0]) H (by repeat (first | assumption | constructor)) .h (by repeat (first | assumption | constructor)) fun v w H => ⟨_, rfl, ?_⟩
  rw [show fpass 1 4 [⟨0, 2, 10, 20⟩] [21, 0] = [(3, 0)] by decide] at H
  refine fault_Text1 H (by decide) (by decide) (by decide) (by decide) .h (by repeat (first | assumption | constructor)) fun w H => ⟨_, rfl, cT (by rw [show txt 3 0 = ⟨#[51, 64, 48]⟩ by rfl]; exact beq_self_eq_true _) ?_⟩
  refine ld0 H (lda H (lda (t := .sl) (x := ⟨some ⟨a1, 0, none⟩, 1, 1⟩) H ?_))
  replace H := Heap.imm_nil (α := UInt8) H
  refine filter_Pass (s := ⟨some ⟨a1, 0, none⟩, 1, 1⟩) (t := ⟨none, 0, 0⟩) (fs := [⟨0, 2, 10, 20⟩]) (bb := []) H (by repeat (first | assumption | constructor)) .h (by repeat (first | assumption | constructor)) fun v w H => ⟨_, rfl, ?_⟩
  rw [show fpass 1 4 [⟨0, 2, 10, 20⟩] [] = [(2, 0)] by decide] at H
  refine fault_Text1 H (by decide) (by decide) (by decide) (by decide) .h (by repeat (first | assumption | constructor)) fun w H => ⟨_, rfl, cT (by rw [show txt 2 0 = ⟨#[50, 64, 48]⟩ by rfl]; exact beq_self_eq_true _) ?_⟩
  refine cT rfl (cT rfl (cT rfl (cT rfl (k w (Heap.tln 10 H)))))
end
end Go.Proofs.YtomoejbamegpoaaDoor.G

set_option linter.unusedVariables false
set_option linter.unusedSimpArgs false
namespace Go.Proofs.YtomoejbamegpoaaDoor.G
open Go Go.VC Go.RowKit Go.Proofs Go.Proofs.YtomoejbamegpoaaDoor Nac
deriving instance DecidableEq for Cap
theorem flatC : FlatT Tryd.prog T_api_Cap := ⟨by kernel_rfl, by kernel_rfl, by kernel_rfl⟩
theorem flatC_eq (a1 a2 a3 b1 b2 b3 : Int) : eqFlat Tryd.prog #[.int .i64 a1, .int .i64 a2, .int .i64 a3] #[.int .i64 b1, .int .i64 b2, .int .i64 b3] (Tryd.prog.fieldsOf T_api_Cap).toList =
    some (cond (a1 == b1) (cond (a2 == b2) (cond (a3 == b3) true false) false) false) := by kernel_rfl
theorem capEq (a1 a2 a3 b1 b2 b3 : Int) : eqFlat Tryd.prog #[.int .i64 a1, .int .i64 a2, .int .i64 a3] #[.int .i64 b1, .int .i64 b2, .int .i64 b3] (Tryd.prog.fieldsOf T_api_Cap).toList = some (decide (Cap.mk a1 a2 a3 = Cap.mk b1 b2 b3)) := by
  refine (flatC_eq _ _ _ _ _ _).trans ?_
  congr 1
  simp only [Cap.mk.injEq]
  by_cases h1 : a1 = b1 <;> by_cases h2 : a2 = b2 <;> by_cases h3 : a3 = b3 <;> simp [h1, h2, h3]
attribute [local irreducible] Tryd.prog
section
variable {F : Bs} {w : World} {l r : List SP} {Q : Value → World → Prop} {s t : Sl} {fs : List Fld} {bb : List UInt8} {v : Value} {fl : List (Int × Int)}
theorem law_FilterChecks (H : Heap F w l) {mn mx : Int} (hI : Has l (imm s fs)) (hT : Has l ErrTy) (k : ∀ w', Heap F w' l → Q (.bool true) w') : Does Tryd.prog N_law10_FilterChecks #[.agg #[.int .i64 mn, .int .i64 mx, .slice s.a s.len s.cap]] w Q := by
  refine F_law10_FilterChecks_does _ _ _ _ _ ?_
  unfold F_law10_FilterChecks
  refine al H (cs := [.int .i64 mn, .int .i64 mx, s.v]) (fun a w H => ?_) rfl
  refine ld0 H (lda H (lda (t := .sl) (x := s) H ?_))
  refine law_few H (.t hI) fun t w H => ⟨_, _, t, rfl, ?_⟩
  refine st0 H fun w H => sta H fun w H => sta H fun w H => ?_
  refine ld0 H (lda H (lda (t := .sl) (x := t) H ?_))
  refine ref10_Check (fs := fs.take 10) H (.t .h) fun w H => ⟨_, _, rfl, ?_⟩
  refine ld0 H (lda H (lda (t := .sl) (x := t) H ?_))
  refine filter_Check (fs := fs.take 10) H (.t .h) fun v w H => ⟨_, rfl, ?_⟩
  refine law_told H .h (.t (.t (.t hT))) fun w H => ⟨_, rfl, cT rfl ?_⟩
  refine law10_awake H (.t (.t (.t hT))) fun w H => ⟨_, rfl, k _ (Heap.tln 3 H)⟩
theorem law_FilterPasses (H : Heap F w l) {mn mx : Int} (hI : Has l (imm s fs)) (hB : Has l (imm t bb)) (hT : Has l ErrTy) (k : ∀ w', Heap F w' l → Q (.bool true) w') : Does Tryd.prog N_law10_FilterPasses #[.agg #[.int .i64 mn, .int .i64 mx, .slice s.a s.len s.cap], .slice t.a t.len t.cap] w Q := by
  refine F_law10_FilterPasses_does _ _ _ _ _ _ ?_
  unfold F_law10_FilterPasses
  have hlb := H.len hB
  refine al H (cs := [.int .i64 mn, .int .i64 mx, s.v]) (fun a w H => ?_) rfl
  refine ld0 H (lda H (lda (t := .sl) (x := s) H ?_))
  refine law_few H (.t hI) fun s1 w H => ⟨_, _, s1, rfl, ?_⟩
  refine st0 H fun w H => sta H fun w H => sta H fun w H => ?_
  intro J hJ
  have main : ∀ (t1 : Sl) (b1 : List UInt8) w, b1.length ≤ 80 → Heap F w (imm t1 b1 :: blk a T_api_Rule [.int .i64 mn, .int .i64 mx, s1.v] :: imm s1 (fs.take 10) :: l) → J t1 w := fun t1 b1 w hb1 H => by
    refine hJ _ _ ?_
    refine al H (cs := []) (fun a18 w H => ?_) rfl
    replace H := H.blk_own0 (α := UInt8)
    refine apI (s := ⟨some ⟨a18, 0, none⟩, 0, 0⟩) (xs := ([] : List UInt8)) (ys := b1) S_l_uint8 H (by simp; omega) (fun l20 w H => ?_) (hI := .t .h)
    rw [List.nil_append] at H
    replace H := H.share
    refine ld0 H (lda H (lda (t := .sl) (x := s1) H ?_))
    refine filter_Pass (fs := fs.take 10) (bb := b1) H (.t (.t (.t .h))) (.t .h) (.t (.t (.t (.t hT)))) fun v w H => ⟨_, rfl, ?_⟩
    refine ld0 H (lda H (lda (t := .sl) (x := s1) H ?_))
    refine ref10_Check (fs := fs.take 10) H (.t (.t (.t (.t .h)))) fun w H => ⟨_, _, rfl, ?_⟩
    by_cases hc : (chk mn mx (fs.take 10)).1 = 0
    · refine cF (by simp [hc]) ?_
      have e : fpass mn mx (fs.take 10) b1 = flt (pas mn mx (fs.take 10) b1) := if_pos hc
      rw [e] at H
      refine ld0 H (lda H (lda (t := .sl) (x := s1) H ?_))
      refine ref10_Pass (fs := fs.take 10) (bb := b1) H hc (.t (.t (.t (.t .h)))) (.t .h) fun w H => ⟨_, _, rfl, ?_⟩
      refine law_told H .h (.t (.t (.t (.t (.t hT))))) fun w H => ⟨_, rfl, cT rfl ?_⟩
      refine ⟨_, cvI H (xs := b1) und_l8 und_8 und_s (.t .h), _, cvI H (xs := b1) und_l8 und_8 und_s (.t (.t .h)), cT (beq_self_eq_true _) ?_⟩
      exact law10_awake H (.t (.t (.t (.t (.t hT))))) fun w H => ⟨_, rfl, k _ (Heap.tln 5 H)⟩
    · refine cT (by simp [hc]) ?_
      have e : fpass mn mx (fs.take 10) b1 = [((chk mn mx (fs.take 10)).1, -1), chk mn mx (fs.take 10)] := if_neg hc
      rw [e] at H
      refine fault_Path H (by simp) .h (.t (.t (.t (.t (.t hT))))) fun s9 w H => ⟨s9, rfl, ?_⟩
      refine fault_Code H (.t .h) (.t (.t (.t (.t (.t (.t hT)))))) fun w H => ⟨_, rfl, ?_⟩
      replace H := H.share
      have hl := H.len .h
      simp at hl
      refine cT (by simp [fcode]) (cT (by simp [← hl]) ?_)
      refine idxI1 (xs := [-1, (chk mn mx (fs.take 10)).2]) H (by decide) (by simp) (fun a ha => ldT_cell _ ha ?_) .h
      refine cT rfl ?_
      refine idxI1 (xs := [-1, (chk mn mx (fs.take 10)).2]) H (by decide) (by simp) (fun a ha => ldT_cell _ ha ?_) .h
      refine cT (by simp) ?_
      exact law10_awake H (.t (.t (.t (.t (.t (.t hT)))))) fun w H => ⟨_, rfl, k _ (Heap.tln 6 H)⟩
  refine dGt (fun h => ?_) (fun h => ?_)
  · refine slcI (s := t) (xs := bb) H (by omega) (by omega) (by omega) (fun t1 H => ?_) (.t (.t hB))
    exact main t1 _ w (by simp; omega) H
  · exact main t bb w (by omega) (H.immDup (.t (.t hB)))
theorem cap_eql (c0 c1 c2 d0 d1 d2 : Int) {x y : Operand} {K : Bool → World → Prop} (k : K (decide (Cap.mk c0 c1 c2 = Cap.mk d0 d1 d2)) w) :
    runG (.bool) Tryd.prog w (do eqGuard .eql T_api_Cap x y (.agg #[.int .i64 c0, .int .i64 c1, .int .i64 c2]) (.agg #[.int .i64 d0, .int .i64 d1, .int .i64 d2]); binOp .eql T_api_Cap (.agg #[.int .i64 c0, .int .i64 c1, .int .i64 c2]) (.agg #[.int .i64 d0, .int .i64 d1, .int .i64 d2])) K := flat_eql flatC (capEq c0 c1 c2 d0 d1 d2) k
theorem cap_neq (c0 c1 c2 d0 d1 d2 : Int) {x y : Operand} {K : Bool → World → Prop} (k : K (!decide (Cap.mk c0 c1 c2 = Cap.mk d0 d1 d2)) w) :
    runG (.bool) Tryd.prog w (do eqGuard .neq T_api_Cap x y (.agg #[.int .i64 c0, .int .i64 c1, .int .i64 c2]) (.agg #[.int .i64 d0, .int .i64 d1, .int .i64 d2]); binOp .neq T_api_Cap (.agg #[.int .i64 c0, .int .i64 c1, .int .i64 c2]) (.agg #[.int .i64 d0, .int .i64 d1, .int .i64 d2])) K := flat_neq flatC (capEq c0 c1 c2 d0 d1 d2) k
theorem filter_Frame' (H : Heap F w l) {c0 c1 c2 d0 d1 d2 : Int} (ht : (Cap.mk c0 c1 c2).frame = ⟨d0, d1, d2⟩) (k : ∀ w', Heap F w' l → Q (.agg #[.int .i64 d0, .int .i64 d1, .int .i64 d2]) w') : Does Tryd.prog N_filter_Frame #[.agg #[.int .i64 c0, .int .i64 c1, .int .i64 c2]] w Q :=
  filter_Frame H ⟨c0, c1, c2⟩ fun w H => by rw [ht]; exact k w H
theorem law_FilterAll (H : Heap F w l) {rate burst left : Int} (hT : Has l ErrTy) (k : ∀ w', Heap F w' l → Q (.bool true) w') : Does Tryd.prog N_law10_FilterAll #[.agg #[.int .i64 rate, .int .i64 burst, .int .i64 left]] w Q := by
  refine F_law10_FilterAll_does _ _ _ _ _ ?_
  unfold F_law10_FilterAll
  refine al H (cs := [.int .i64 rate, .int .i64 burst, .int .i64 left]) (fun a w H => ?_) rfl
  refine ld0 H (lda H (lda H ?_))
  refine filter_May H ⟨rate, burst, left⟩ fun w H => ⟨_, rfl, ?_⟩
  cases hm : (Cap.mk rate burst left).may with
  | false =>
    refine cT rfl (ld0 H (lda H (lda H ?_)))
    have e1 : (Cap.mk rate burst left).take = (⟨rate, burst, left⟩, false) := by simp [Cap.take, hm]
    have e2 : (Cap.mk rate burst left).frame = ⟨rate, burst, left⟩ := by simp [Cap.frame, hm]
    refine filter_Take' H e1 fun w H => ⟨_, _, _, _, rfl, ?_⟩
    refine al H (fun a18 w H => ?_) zc_api_Cap
    refine st0 H fun w H => sta H fun w H => sta H fun w H => ?_
    refine cT rfl ?_
    replace H := H.drew
    refine ld0 H (lda H (lda H (ld0 H (lda H (lda H ?_)))))
    refine cap_eql _ _ _ _ _ _ (cT (by simp) ?_)
    refine ld0 H (lda H (lda H (ld0 H (lda H (lda H ?_)))))
    refine filter_Frame' H e2 fun w H => ⟨_, _, _, rfl, ⟨rfl, rowN 3 H⟩, ?_⟩
    refine cap_eql _ _ _ _ _ _ (cT (by simp) ?_)
    exact law10_awake H (.t (.t hT)) fun w H => ⟨_, rfl, k _ (Heap.tln 2 H)⟩
  | true =>
    have hm' := Cap.may_iff.mp hm
    simp only at hm'
    refine cF rfl (ld0 H (lda H (lda H ?_)))
    refine al H (fun a51 w H => ?_) zc_api_Cap
    refine st0 H fun w H => sta H fun w H => sta H fun w H => ?_
    refine ⟨fun n i w => 0 ≤ i ∧ i ≤ 70 ∧ ((i ≤ left ∧ n = i) ∨ (left < i ∧ n = left)) ∧ Heap F w (blk a51 T_api_Cap [.int .i64 rate, .int .i64 burst, .int .i64 (left - n)] :: blk a T_api_Cap [.int .i64 rate, .int .i64 burst, .int .i64 left] :: l), fun _ i _ => (70 - i).toNat, ⟨Int.le_refl _, by decide, .inl ⟨by omega, rfl⟩, by rw [Int.sub_zero]; exact H⟩, ?_⟩
    rintro n i w ⟨h0, h70, hn, H⟩
    refine dLt (fun hlt => ?_) (fun hge => ?_)
    · intro J hJ
      refine ld0 H (lda H (lda H ?_))
      have hmi : (Cap.mk rate burst (left - n)).may = true := Cap.may_iff.mpr ⟨hm'.1, hm'.2.1, hm'.2.2.1, by show 0 ≤ left - n; omega, by show left - n ≤ burst; omega⟩
      by_cases hz : left - n = 0
      · have et : (Cap.mk rate burst (left - n)).take = (⟨rate, burst, left - n⟩, false) := by simp [Cap.take, hz]
        refine filter_Take' H et fun w H => ⟨_, _, _, _, rfl, ?_⟩
        refine al H (fun a74 w H => ?_) zc_api_Cap
        refine st0 H fun w H => sta H fun w H => sta H fun w H => ld0 H (lda H (lda H ?_))
        refine st0 H fun w H => sta H fun w H => sta H fun w H => cF rfl (hJ _ _ ?_)
        rw [i64_id (by omega)]
        exact ⟨⟨by omega, by omega, .inr ⟨by omega, by omega⟩, H.dr _ (.t .h)⟩, by show (70 - (i + 1)).toNat < (70 - i).toNat; omega⟩
      · have et : (Cap.mk rate burst (left - n)).take = (⟨rate, burst, left - n - 1⟩, true) := by simp [Cap.take, hz, hmi]
        refine filter_Take' H et fun w H => ⟨_, _, _, _, rfl, ?_⟩
        refine al H (fun a74 w H => ?_) zc_api_Cap
        refine st0 H fun w H => sta H fun w H => sta H fun w H => ld0 H (lda H (lda H ?_))
        refine st0 H fun w H => sta H fun w H => sta H fun w H => cT rfl (hJ _ _ ?_)
        rw [i64_id (by omega), i64_id (by omega)]
        refine ⟨⟨by omega, by omega, .inl ⟨by omega, by omega⟩, ?_⟩, by show (70 - (i + 1)).toNat < (70 - i).toNat; omega⟩
        rw [show left - (n + 1) = left - n - 1 by omega]
        exact H.dr _ (.t .h)
    · have hn' : n = left := by omega
      subst hn'
      rw [Int.sub_self] at H
      refine ld0 H (lda H (lda H ?_))
      have ef : (Cap.mk rate burst 0).frame = ⟨rate, burst, rate⟩ := by
        have : (Cap.mk rate burst 0).may = true := Cap.may_iff.mpr ⟨hm'.1, hm'.2.1, hm'.2.2.1, Int.le_refl _, by show 0 ≤ burst; omega⟩
        simp only [Cap.frame, this, if_true]
        rw [if_neg (by omega), Int.zero_add]
      refine filter_Frame' H ef fun w H => ⟨_, _, _, rfl, ?_⟩
      refine al H (fun a95 w H => ?_) zc_api_Cap
      refine st0 H fun w H => sta H fun w H => sta H fun w H => ?_
      refine lda H ?_
      refine cT (by simp) (lda H (cT rfl (ld0 H (ld0 H ?_))))
      refine cT (by simp) (lda H (ld0 H ?_))
      refine cT (by simp) ?_
      exact law10_awake H (.t (.t (.t hT))) fun w H => ⟨_, rfl, k _ (Heap.tln 3 H)⟩
end
end Go.Proofs.YtomoejbamegpoaaDoor.G
