import Derived.Test.YtomoejbamegpoaaDoorDf
set_option linter.unusedVariables false
set_option linter.unusedSimpArgs false
namespace Go.VC
open Go Go.RowKit
theorem flatMap_get {α β : Type} {f : α → List β} {N : Nat} : ∀ {xs : List α} (hN : ∀ x ∈ xs, (f x).length = N) {i : Nat} {x : α}, xs[i]? = some x → ∀ {j : Nat} {u : β}, (f x)[j]? = some u → (xs.flatMap f)[i * N + j]? = some u
  | [], _, i, x, h, _, _, _ => by simp at h
  | y :: ys, hN, 0, x, h, j, u, hj => by
    simp at h; subst h
    rw [List.flatMap_cons, Nat.zero_mul, Nat.zero_add, List.getElem?_append_left (List.getElem?_eq_some_iff.1 hj).1]; exact hj
  | y :: ys, hN, i + 1, x, h, j, u, hj => by
    rw [List.flatMap_cons, List.getElem?_append_right (by rw [hN y (by simp), Nat.succ_mul]; omega), hN y (by simp), show (i + 1) * N + j - N = i * N + j by rw [Nat.succ_mul]; omega]
    exact flatMap_get (fun x hx => hN x (by simp [hx])) (by simpa using h) hj
/-- a literal row of structs -/
theorem Heap.blk_ownL {α : Type} [Rep α] {F : Bs} {w : World} {l r : List SP} {b n : Nat} {e : TypeId} {cs : List Value} (H : Heap F w l) (xs : List α) (f : α → List Value) (hr : ∀ ro x, x ∈ xs → Rep.r ro (f x) x) (hc : cs = xs.flatMap f) (hn : xs.length = n) (hm : n ≤ 1000) (hT : Take l (blk b e cs) r := by repeat (first | assumption | constructor)) : Heap F w (own e ⟨some ⟨b, 0, none⟩, n, n⟩ xs :: r) :=
  (H.take hT).ent1 fun ro h hb => by
    have hN : ∀ x ∈ xs, (f x).length = Rep.n α := fun x hx => Rep.len (hr ro x hx)
    have hlen : cs.length = n * Rep.n α := by
      rw [hc, ← hn]
      clear hc hn hb hT H hm hr
      induction xs with
      | nil => simp
      | cons x xs ih => rw [List.flatMap_cons, List.length_append, hN x (by simp), ih fun y hy => hN y (by simp [hy]), List.length_cons, Nat.succ_mul]; omega
    exact ⟨hn, .inr ⟨b, _, rfl, hb, Nat.le_refl _, mx (show n ≤ 4000000000000 by omega), by rw [List.size_toArray, hlen], fun i x hi => ⟨f x, hr ro x (List.mem_of_getElem? hi), fun j u hj => by
      have := flatMap_get hN hi hj
      rw [← hc] at this
      simpa using this⟩⟩⟩
end Go.VC
namespace Go.Proofs.YtomoejbamegpoaaDoor.G
open Go Go.VC Go.RowKit Go.Proofs Go.Proofs.YtomoejbamegpoaaDoor Nac
attribute [local irreducible] Tryd.prog
def smalls : ByteArray := ⟨#[48, 48, 48, 49, 48, 50, 48, 51, 48, 52, 48, 53, 48, 54, 48, 55, 48, 56, 48, 57, 49, 48, 49, 49, 49, 50, 49, 51, 49, 52, 49, 53, 49, 54, 49, 55, 49, 56, 49, 57, 50, 48, 50, 49, 50, 50, 50, 51, 50, 52, 50, 53, 50, 54, 50, 55, 50, 56, 50, 57, 51, 48, 51, 49, 51, 50, 51, 51, 51, 52, 51, 53, 51, 54, 51, 55, 51, 56, 51, 57, 52, 48, 52, 49, 52, 50, 52, 51, 52, 52, 52, 53, 52, 54, 52, 55, 52, 56, 52, 57, 53, 48, 53, 49, 53, 50, 53, 51, 53, 52, 53, 53, 53, 54, 53, 55, 53, 56, 53, 57, 54, 48, 54, 49, 54, 50, 54, 51, 54, 52, 54, 53, 54, 54, 54, 55, 54, 56, 54, 57, 55, 48, 55, 49, 55, 50, 55, 51, 55, 52, 55, 53, 55, 54, 55, 55, 55, 56, 55, 57, 56, 48, 56, 49, 56, 50, 56, 51, 56, 52, 56, 53, 56, 54, 56, 55, 56, 56, 56, 57, 57, 48, 57, 49, 57, 50, 57, 51, 57, 52, 57, 53, 57, 54, 57, 55, 57, 56, 57, 57]⟩
/-- a number below 100, told -/
def dc (i : Int) : ByteArray := if i < 10 then dig i else smalls.extract (i * 2).toNat (i * 2 + 2).toNat
theorem dc_size {i : Int} (h0 : 0 ≤ i) (h9 : i < 100) : (dc i).size ≤ 2 := by
  unfold dc
  split
  · rw [dig_size h0 (by assumption)]; decide
  · rw [ByteArray.size_extract]; omega
section
variable {F : Bs} {w : World} {l r : List SP} {Q : Value → World → Prop} {s t : Sl} {is js : List Ins} {bb : List UInt8} {v : Value} {fl : List (Int × Int)}
theorem small2_does {i : Int} (h0 : 0 ≤ i) (h9 : i < 100) (k : Q (.string (dc i)) w) : Does Tryd.prog N_internal_strconv_small #[.int .i64 i] w Q := by
  by_cases h : i < 10
  · rw [dc, if_pos h] at k
    exact small_does h0 h k
  · rw [dc, if_neg h] at k
    refine F_internal_strconv_small_does _ _ _ ?_
    unfold F_internal_strconv_small
    refine dF (by omega) ?_
    rw [i64_id (n := i * 2) (by omega), i64_id (by omega)]
    refine ⟨by omega, ?_, by omega, by omega, k⟩
    show i * 2 + 2 ≤ ((200 : Nat) : Int)
    omega
theorem itoa2_does {i : Int} (h0 : 0 ≤ i) (h9 : i < 100) (k : Q (.string (dc i)) w) : Does Tryd.prog N_strconv_Itoa #[.int .i64 i] w Q := by
  refine F_strconv_Itoa_does _ _ _ ?_
  unfold F_strconv_Itoa
  refine F_internal_strconv_Itoa_does _ _ _ ?_
  unfold F_internal_strconv_Itoa
  refine F_internal_strconv_FormatInt_does _ _ _ _ ?_
  unfold F_internal_strconv_FormatInt
  refine cT rfl ?_
  intro J hJ J2 hJ2
  refine dT h0 (hJ2 _ _ (dT (by omega) ?_))
  exact small2_does h0 h9 ⟨_, rfl, _, rfl, _, rfl, k⟩
/-- the text of the first n faults -/
def txtN (fl : List (Int × Int)) : Nat → ByteArray
  | 0 => ⟨#[]⟩
  | n + 1 => (if n = 0 then txtN fl n else txtN fl n ++ (⟨#[60]⟩ : ByteArray)) ++ ((dc (fl.getD n (0, 0)).1 ++ (⟨#[64]⟩ : ByteArray)) ++ dc (fl.getD n (0, 0)).2)
theorem txtN_size (h : ∀ x ∈ fl, (0 ≤ x.1 ∧ x.1 < 100) ∧ 0 ≤ x.2 ∧ x.2 < 100) : ∀ n, n ≤ fl.length → (txtN fl n).size ≤ 6 * n
  | 0, _ => Nat.le_refl _
  | n + 1, hn => by
    have ih := txtN_size h n (by omega)
    have hx := h fl[n] (List.getElem_mem _)
    have e : fl.getD n (0, 0) = fl[n] := by rw [List.getD_eq_getElem?_getD, List.getElem?_eq_getElem (by omega)]; rfl
    have h1 := dc_size hx.1.1 hx.1.2
    have h2 := dc_size hx.2.1 hx.2.2
    have e1 : (⟨#[60]⟩ : ByteArray).size = 1 := rfl
    have e2 : (⟨#[64]⟩ : ByteArray).size = 1 := rfl
    rw [txtN, e]
    split
    · simp only [ByteArray.size_append, e2]; omega
    · simp only [ByteArray.size_append, e1, e2]; omega
theorem fault_Text (H : Heap F w l) (hn : fl.length ≤ 1000) (h : ∀ x ∈ fl, (0 ≤ x.1 ∧ x.1 < 100) ∧ 0 ≤ x.2 ∧ x.2 < 100) (hE : Has l (Err v fl)) (hT : Has l ErrTy) (k : ∀ w', Heap F w' l → Q (.string (txtN fl fl.length)) w') : Does Tryd.prog N_fault_Text #[v] w Q := by
  refine F_fault_Text_does _ _ _ ?_
  unfold F_fault_Text
  refine fault_row H hn hE hT fun s0 ps w H => ⟨s0, rfl, ?_⟩
  replace H := H.share
  have hs0 := H.len (xs := ps) .h
  have hps := FR_len H (.t .h)
  refine ⟨fun s x w' => ∃ n : Nat, x = (n : Int) ∧ n ≤ fl.length ∧ s = txtN fl n ∧ Heap F w' (imm s0 ps :: FR ps fl :: l), fun _ x _ => fl.length - x.toNat, ⟨0, rfl, Nat.zero_le _, rfl, H⟩, ?_⟩
  rintro s x w ⟨n, rfl, hnl, rfl, H⟩
  refine dBoth (fun hlt => ?_) (fun hge => ?_)
  · have hlt' : n < fl.length := by omega
    intro J hJ
    have hsz := txtN_size h n (by omega)
    have e : fl.getD n (0, 0) = fl[n] := by rw [List.getD_eq_getElem?_getD, List.getElem?_eq_getElem (by omega)]; rfl
    have ht : txtN fl (n + 1) = (if n = 0 then txtN fl n else txtN fl n ++ (⟨#[60]⟩ : ByteArray)) ++ ((dc fl[n].1 ++ (⟨#[64]⟩ : ByteArray)) ++ dc fl[n].2) := by rw [txtN, e]
    have hx := h fl[n] (List.getElem_mem _)
    refine idxI1w (s := s0) (xs := ps) H (by omega) (by omega) (fun ad ha => ?_) .h
    obtain ⟨b, hb, HB⟩ := FR_ptr H (i := n) (.t .h) hlt' (by omega)
    refine ⟨some ⟨b, 0, none⟩, (ha H .h).trans (by simp only [Int.toNat_natCast, hb]; rfl), ?_⟩
    generalize fl[n] = y at ht hx HB
    intro J2 hJ2
    have e1 := dc_size hx.1.1 hx.1.2
    have e2 := dc_size hx.2.1 hx.2.2
    have q1 : (⟨#[60]⟩ : ByteArray).size = 1 := rfl
    have q2 : (⟨#[64]⟩ : ByteArray).size = 1 := rfl
    have go : ∀ s : ByteArray, s.size ≤ 6 * n + 1 → s ++ ((dc y.1 ++ (⟨#[64]⟩ : ByteArray)) ++ dc y.2) = txtN fl (n + 1) → J2 s w := fun s hs hst => by
      refine hJ2 _ _ ?_
      have HA := HB.drew.atc (b := b) (o := 0) .h
      refine nn (HA.ld0 (nn (HA.ld ?_)))
      refine itoa2_does hx.1.1 hx.1.2 ⟨_, rfl, ?_⟩
      refine ⟨by have := HA 1 _ rfl; exact this, by rw [q2]; omega, ?_⟩
      refine itoa2_does hx.2.1 hx.2.2 ⟨_, rfl, ?_⟩
      refine ⟨by rw [ByteArray.size_append, q2]; omega, by simp only [ByteArray.size_append, q2]; omega, hJ _ _ ?_⟩
      rw [i64_id (by omega)]
      refine ⟨⟨n + 1, by omega, by omega, hst, HB.drew.tl⟩, by show fl.length - ((n : Int) + 1).toNat < fl.length - (n : Int).toNat; omega⟩
    refine dGt (fun g => ⟨by rw [q1]; omega, ?_⟩) (fun g => ?_)
    · refine go _ (by rw [ByteArray.size_append, q1]; omega) ?_
      rw [ht, if_neg (by omega)]
    · refine go _ (by omega) ?_
      rw [ht, if_pos (by omega)]
  · obtain rfl : n = fl.length := by omega
    exact k _ H.tl.tl
theorem txtEq {a b : ByteArray} (h : a = b) : (a.toList == b.toList) = true := by rw [h]; exact beq_self_eq_true _
theorem txt_a : txtN [(4, 0)] 1 = ⟨#[52, 64, 48]⟩ := by kernel_rfl
theorem txt_b : txtN [(4, 0), (4, 0)] 2 = ⟨#[52, 64, 48, 60, 52, 64, 48]⟩ := by kernel_rfl
set_option maxHeartbeats 1000000 in
theorem law07_awake (H : Heap F w l) (hT : Has l ErrTy) (k : ∀ w', Heap F w' l → Q (.bool true) w') : Does Tryd.prog N_law07_awake #[] w Q := by
  refine F_law07_awake_does _ _ ?_
  unfold F_law07_awake
  refine al H (cs := [.int .u8 15, .int .u8 0, .int .u8 1, .int .u8 0]) (fun a1 w H => ?_) rfl
  replace H := (H.blk_own1 (α := Ins) ⟨15, 0, 1, 0⟩ (fun ro => rfl)).share
  refine code_Check (is := [⟨15, 0, 1, 0⟩]) H .h fun v5 w H => ⟨_, rfl, ?_⟩
  rw [show flt (cchk [⟨15, 0, 1, 0⟩]) = [(4, 0)] by decide] at H
  refine al H (cs := [.int .u8 15, .int .u8 0, .int .u8 1, .int .u8 0]) (fun a6 w H => ?_) rfl
  replace H := (H.blk_own (n := 4) ([15, 0, 1, 0] : List UInt8) rfl (by decide) rfl).share
  refine code_Decode (bb := [15, 0, 1, 0]) H (by decide) .h (.t (.t (.t hT))) fun l10 v11 w H => ⟨l10, _, rfl, ?_⟩
  rw [show dcd [15, 0, 1, 0] = [(4, 0), (4, 0)] by decide, if_neg (by simp)] at H
  refine al H (cs := [(⟨16, 0, 0, 0⟩ : Ins), ⟨0, 0, 0, 0⟩].flatMap Ins.cs) (fun a12 w H => ?_) rfl
  replace H := (H.blk_ownL [(⟨16, 0, 0, 0⟩ : Ins), ⟨0, 0, 0, 0⟩] Ins.cs (fun _ _ _ => rfl) rfl (n := 2) rfl (by decide)).share
  refine code_Next (x := 0) (is := [(⟨16, 0, 0, 0⟩ : Ins), ⟨0, 0, 0, 0⟩]) H (.i .h) fun l16 w H => ⟨_, rfl, ?_⟩
  rw [show cnext [(⟨16, 0, 0, 0⟩ : Ins), ⟨0, 0, 0, 0⟩] 0 = [0, 1] by decide] at H
  have hl16 := H.lenO (s := l16) .h
  refine al H (cs := [(⟨1, 0, 5, 0⟩ : Ins), ⟨0, 0, 0, 0⟩].flatMap Ins.cs) (fun a17 w H => ?_) rfl
  replace H := (H.blk_ownL [(⟨1, 0, 5, 0⟩ : Ins), ⟨0, 0, 0, 0⟩] Ins.cs (fun _ _ _ => rfl) rfl (n := 2) rfl (by decide)).share
  refine code_Check (is := [(⟨1, 0, 5, 0⟩ : Ins), ⟨0, 0, 0, 0⟩]) H .h fun v21 w H => ⟨_, rfl, ?_⟩
  rw [show flt (cchk [(⟨1, 0, 5, 0⟩ : Ins), ⟨0, 0, 0, 0⟩]) = [] by decide] at H
  refine err_eq H .h (cT rfl ?_)
  refine fault_Text (fl := [(4, 0)]) H (by decide) (by decide) (by repeat (first | assumption | constructor)) (by repeat (first | exact hT | apply Has.t)) fun w H => ⟨_, rfl, cT (txtEq txt_a) ?_⟩
  refine fault_Text (fl := [(4, 0), (4, 0)]) H (by decide) (by decide) (by repeat (first | assumption | constructor)) (by repeat (first | exact hT | apply Has.t)) fun w H => ⟨_, rfl, cT (txtEq txt_b) ?_⟩
  simp only [List.length_cons, List.length_nil] at hl16
  rw [← hl16]
  refine cT rfl ?_
  rw [hl16]
  refine idxO1 (s := l16) (xs := [(0 : Int), 1]) H (by decide) (by decide) (fun ad ha => ldT_cell _ ha (cT rfl ?_)) (by repeat (first | assumption | constructor))
  refine code_Number H ⟨1, 0, 255, 255⟩ fun w H => ⟨_, rfl, ?_⟩
  exact k w (H.tln 9)
end
end Go.Proofs.YtomoejbamegpoaaDoor.G

set_option linter.unusedVariables false
set_option linter.unusedSimpArgs false
namespace Go.Proofs.YtomoejbamegpoaaDoor.G
open Go Go.VC Go.RowKit Go.Proofs Go.Proofs.YtomoejbamegpoaaDoor Nac
attribute [local irreducible] Tryd.prog
section
variable {F : Bs} {w : World} {l r : List SP} {Q : Value → World → Prop} {s t : Sl} {is js : List Ins} {bb : List UInt8} {v : Value} {fl : List (Int × Int)}
theorem err_isnil (H : Heap F w l) (hE : Has l (Err v [])) : v = .nilIface := by
  rcases err_val H hE with ⟨_, e⟩ | ⟨c, a, t, b, u, e, _⟩
  · exact e
  · cases e
theorem law_CodeNames (H : Heap F w l) (hT : Has l ErrTy) (k : ∀ w', Heap F w' l → Q (.bool true) w') : Does Tryd.prog N_law07_CodeNames #[] w Q := by
  refine F_law07_CodeNames_does _ _ ?_
  unfold F_law07_CodeNames
  exact law07_awake H hT fun w H => ⟨_, rfl, k w H⟩
theorem law_CodeChecks (H : Heap F w l) (hI : Has l (imm s is)) (hT : Has l ErrTy) (k : ∀ w', Heap F w' l → Q (.bool true) w') : Does Tryd.prog N_law07_CodeChecks #[.slice s.a s.len s.cap] w Q := by
  refine F_law07_CodeChecks_does _ _ _ ?_
  unfold F_law07_CodeChecks
  refine law07_few H hI fun l3 H => ⟨_, rfl, ?_⟩
  have hjl : (is.take 140).length ≤ 140 := by rw [List.length_take]; omega
  generalize is.take 140 = js at *
  refine al H (cs := []) (fun a4 w H => ?_) rfl
  replace H := Heap.blk_own0 (α := Ins) H
  refine apI (s := ⟨some ⟨a4, 0, none⟩, 0, 0⟩) (xs := []) (ys := js) S_l_api_Instr H (by simp only [List.length_nil]; omega) fun l6 w H => ?_
  rw [List.nil_append] at H
  replace H := H.share
  refine code_Check (s := l3) (is := js) H (by repeat (first | assumption | constructor)) fun v10 w H => ⟨_, rfl, ?_⟩
  refine ref07_Check (s := l6) (is := js) H (by repeat (first | assumption | constructor)) fun w H => ⟨_, _, rfl, ?_⟩
  have hd : flt (cchk js) = if (cchk js).1 = 0 then [] else [cchk js] := rfl
  refine dEq (fun h0 => ?_) (fun h0 => ?_)
  · rw [hd, if_pos h0] at H
    refine err_eq H .h (cT rfl ?_)
    refine law07_same (s := l3) (t := l6) (is := js) (js := js) H (by repeat (first | assumption | constructor)) (by repeat (first | assumption | constructor)) fun w H => ⟨_, rfl, ?_⟩
    rw [decide_eq_true rfl]
    exact cT rfl (law07_awake H (by repeat (first | exact hT | apply Has.t)) fun w H => ⟨_, rfl, k w (H.tln 3)⟩)
  · rw [hd, if_neg h0] at H
    refine fault_Code H .h (by repeat (first | exact hT | apply Has.t)) fun w H => ⟨_, rfl, cT (by simp [fcode]) ?_⟩
    refine fault_Path H (by simp) .h (by repeat (first | exact hT | apply Has.t)) fun l28 w H => ⟨_, rfl, ?_⟩
    have hl28 := H.lenO (s := l28) .h
    simp only [List.length_map, List.length_cons, List.length_nil] at hl28
    rw [← hl28]
    refine cT rfl ?_
    refine fault_Path H (by simp) (.t .h) (by repeat (first | exact hT | apply Has.t)) fun l31 w H => ⟨_, rfl, ?_⟩
    refine idxO1 (s := l31) (xs := [(cchk js).2]) H (by decide) (by simp) (fun ad ha => ldT_cell _ ha ?_) .h
    refine cT (by simp) ?_
    exact law07_awake H (by repeat (first | exact hT | apply Has.t)) fun w H => ⟨_, rfl, k w (H.tln 5)⟩
theorem law_CodeDecodes (H : Heap F w l) (hI : Has l (imm s bb)) (hT : Has l ErrTy) (k : ∀ w', Heap F w' l → Q (.bool true) w') : Does Tryd.prog N_law07_CodeDecodes #[.slice s.a s.len s.cap] w Q := by
  refine F_law07_CodeDecodes_does _ _ _ ?_
  unfold F_law07_CodeDecodes
  have hl := H.len hI
  intro J3 hJ3
  have go : ∀ (b1 : Sl) (b : List UInt8), b.length ≤ 560 → Heap F w (imm b1 b :: l) → J3 b1 w := fun b1 b hb H => by
    refine hJ3 _ _ ?_
    clear hJ3 hl
    have hl := H.len (s := b1) (xs := b) .h
    refine code_Decode (bb := b) H (by omega) .h (by repeat (first | exact hT | apply Has.t)) fun l6 v7 w H => ⟨l6, _, rfl, by decide, ?_⟩
    have hl6 := H.len (s := l6) .h
    have e1 : Int.tmod (b1.len : Int) 4 = ((b.length % 4 : Nat) : Int) := by rw [Int.tmod_eq_emod_of_nonneg (by omega)]; omega
    rw [e1]
    refine dNe (fun h => ?_) (fun h => ?_)
    · have e3 : dcd b = [(2, ((b.length / 4 : Nat) : Int))] := if_pos (by omega)
      rw [e3, if_neg (by simp)] at H hl6
      simp only [List.length_nil] at hl6
      rw [← hl6]
      refine cT rfl ?_
      refine fault_Code H (.t .h) (by repeat (first | exact hT | apply Has.t)) fun w H => ⟨_, rfl, cT rfl ?_⟩
      refine fault_Path H (by simp) (.t .h) (by repeat (first | exact hT | apply Has.t)) fun l28 w H => ⟨_, rfl, ?_⟩
      have hl28 := H.lenO (s := l28) .h
      simp only [List.length_map, List.length_cons, List.length_nil] at hl28
      rw [← hl28]
      refine cT rfl ?_
      refine fault_Path H (by simp) (.t (.t .h)) (by repeat (first | exact hT | apply Has.t)) fun l31 w H => ⟨_, rfl, ?_⟩
      refine idxO1 (s := l31) (xs := [((b.length / 4 : Nat) : Int)]) H (by decide) (by simp) (fun ad ha => ldT_cell _ ha ⟨by decide, ?_⟩) .h
      have e2 : Int.tdiv (b1.len : Int) 4 = ((b.length / 4 : Nat) : Int) := by rw [Int.tdiv_eq_ediv_of_nonneg (by omega)]; omega
      rw [e2, i64_id (by omega)]
      refine cT (by simp) ?_
      exact law07_awake H (by repeat (first | exact hT | apply Has.t)) fun w H => ⟨_, rfl, k w (H.tln 5)⟩
    · have e3 : dcd b = if (cchk (clst b)).1 = 0 then [] else [((cchk (clst b)).1, 4 * (cchk (clst b)).2), cchk (clst b)] := if_neg (by omega)
      have hrng := cchk_rng (clst b)
      refine ref07_List (s := b1) (bb := b) H (by omega) (by repeat (first | assumption | constructor)) fun l24 w H => ⟨_, rfl, ?_⟩
      replace H := H.share
      generalize clst b = js at *
      refine ref07_Check (s := l24) (is := js) H .h fun w H => ⟨_, _, rfl, ?_⟩
      refine dEq (fun h0 => ?_) (fun h0 => ?_)
      · rw [if_pos h0] at e3
        rw [e3, if_pos rfl] at H
        refine err_eq H (.t (.t .h)) (cT rfl ?_)
        refine law07_same (s := l6) (t := l24) (is := js) (js := js) H (by repeat (first | assumption | constructor)) (by repeat (first | assumption | constructor)) fun w H => ⟨_, rfl, ?_⟩
        rw [decide_eq_true rfl]
        exact cT rfl (law07_awake H (by repeat (first | exact hT | apply Has.t)) fun w H => ⟨_, rfl, k w (H.tln 4)⟩)
      · rw [if_neg h0] at e3
        rw [e3, if_neg (by simp)] at H hl6
        simp only [List.length_nil] at hl6
        refine fault_Path H (by simp) (.t (.t .h)) (by repeat (first | exact hT | apply Has.t)) fun l39 w H => ⟨_, rfl, ?_⟩
        have hl39 := H.lenO (s := l39) .h
        simp only [List.length_map, List.length_cons, List.length_nil] at hl39
        rw [← hl6]
        refine cT rfl ?_
        refine fault_Code H (.t (.t (.t .h))) (by repeat (first | exact hT | apply Has.t)) fun w H => ⟨_, rfl, cT (by simp [fcode]) ?_⟩
        refine cT (by rw [← hl39]; rfl) ?_
        refine idxO1 (s := l39) (xs := [4 * (cchk js).2, (cchk js).2]) H (by decide) (by simp) (fun ad ha => ldT_cell _ ha ?_) .h
        rw [i64_id (by omega)]
        refine cT (by simp) ?_
        refine idxO1 (s := l39) (xs := [4 * (cchk js).2, (cchk js).2]) H (by decide) (by simp) (fun ad ha => ldT_cell _ ha ?_) .h
        refine cT (by simp) ?_
        exact law07_awake H (by repeat (first | exact hT | apply Has.t)) fun w H => ⟨_, rfl, k w (H.tln 5)⟩
  refine dGt (fun e => ?_) (fun e => ?_)
  · refine slcI (s := s) (xs := bb) H (by omega) (by omega) (by omega) (fun t H => ?_) hI
    exact go t _ (by rw [List.length_take]; show min ((560 : Int).toNat - (0 : Int).toNat) _ ≤ 560; omega) H
  · exact go s bb (by omega) (H.immDup hI)
end
end Go.Proofs.YtomoejbamegpoaaDoor.G
