import Derived.Test.YtlbhilhfbbocfaaDoorJd
set_option linter.unusedVariables false
set_option linter.unusedSimpArgs false
namespace Go.Proofs.YtlbhilhfbbocfaaDoor.G
open Go Go.VC Go.RowKit Go.Proofs Go.Proofs.YtlbhilhfbbocfaaDoor Nac
theorem txt_23 : txtN [(2, 3)] 1 = ⟨#[50, 64, 51]⟩ := by kernel_rfl
attribute [local irreducible] Tryd.prog
section
variable {F : Bs} {w : World} {l r : List SP} {Q : Value → World → Prop} {s t : Sl} {is js : List Ins} {bb : List UInt8} {v : Value} {fl : List (Int × Int)} {b : Nat} {ty : TypeId} {m : Man} {g : Stg}
theorem law19_few (H : Heap F w l) {n : Nat} (hI : Has l (imm s bb)) (k : ∀ t, Heap F w (imm t (bb.take n) :: l) → Q (.slice t.a t.len t.cap) w) : Does Tryd.prog N_law19_few #[.slice s.a s.len s.cap, .int .i64 (n : Int)] w Q := by
  refine F_law19_few_does _ _ _ _ ?_
  unfold F_law19_few
  have hl := H.len hI
  refine dGt (fun e => ?_) (fun e => ?_)
  · refine slcI (s := s) (xs := bb) H (by omega) (by omega) (by omega) (fun t H => ?_) hI
    rw [show (n : Int).toNat - (0 : Int).toNat = n by omega, show (0 : Int).toNat = 0 from rfl, List.drop_zero] at H
    exact k t H
  · have := k s
    rw [List.take_of_length_le (by omega)] at this
    exact this (H.immDup hI)
theorem law19_told (H : Heap F w l) (hn : fl.length ≤ 1000) (h0 : fl ≠ [] → fcode fl ≠ 0) (hE : Has l (Err v fl)) (hP : Has l (imm s (fl.map (·.2)))) (hT : Has l ErrTy) (k : ∀ w', Heap F w' l → Q (.bool true) w') : Does Tryd.prog N_law19_told #[v, .int .i64 (fcode fl), .slice s.a s.len s.cap] w Q := by
  refine F_law19_told_does _ _ _ _ _ ?_
  unfold F_law19_told
  refine fault_Path H hn hE hT fun l3 w H => ⟨_, rfl, ?_⟩
  have hl3 := H.lenO (s := l3) .h
  have hlp := H.len (.t hP)
  intro J5 hJ5
  refine fault_Code H (.t hE) (.t hT) fun w H => ⟨_, rfl, ?_⟩
  refine dNe (fun h => absurd rfl h) (fun _ => ?_)
  refine dNe (fun h => absurd (by omega) h) (fun _ => ?_)
  refine err_eq H (.t hE) (cF ?_ (hJ5 _ ?_))
  · by_cases h : fl = []
    · subst h; rfl
    · have := h0 h; simp [h, this]
  clear hJ5
  refine ⟨fun i w => ∃ n : Nat, i = (n : Int) ∧ n ≤ fl.length ∧ Heap F w (own T_int l3 (fl.map (·.2)) :: l), fun i _ => fl.length - i.toNat, ⟨0, rfl, Nat.zero_le _, H⟩, ?_⟩
  rintro i w ⟨n, rfl, hnl, H⟩
  simp only [List.length_map] at hl3 hlp
  refine dLt (fun hlt => ?_) (fun hge => k w H.tl)
  replace H := H.drew
  refine idxO1 (s := l3) (xs := fl.map (·.2)) H (by omega) (by rw [List.length_map]; omega) (fun ad ha => ldT_cell _ ha ?_) .h
  refine idxI1 (s := s) (xs := fl.map (·.2)) H (by omega) (by rw [List.length_map]; omega) (fun ad ha => ldT_cell _ ha ?_) (.t hP)
  refine dNe (fun h => absurd rfl h) (fun _ => ?_)
  rw [i64_id (by omega)]
  exact ⟨⟨n + 1, by omega, by omega, H⟩, by dsimp only; omega⟩
theorem law19_same (H : Heap F w l) {g' : Stg} {t' : Sl} (hm : g.man.sum.length = 32) (hm' : g'.man.sum.length = 32) (hG : Has l (imm t g.got)) (hG' : Has l (imm t' g'.got)) (k : ∀ w', Heap F w' l → Q (.bool (decide (g.man = g'.man ∧ g.got = g'.got))) w') : Does Tryd.prog N_law19_same #[.agg (g.cs t).toArray, .agg (g'.cs t').toArray] w Q := by
  refine F_law19_same_does _ _ _ _ ?_
  unfold F_law19_same
  refine al H (cs := g.cs t) (fun a1 w H => ?_) rfl
  refine al H (cs := g'.cs t') (fun a3 w H => ?_) rfl
  refine ldMan (b := a1) (x := [t.v]) H hm (ldMan (b := a3) (x := [t'.v]) H hm' ?_ (by repeat (first | assumption | constructor))) (by repeat (first | assumption | constructor))
  refine man_eql hm hm' ?_
  by_cases e : g.man = g'.man
  · rw [decide_eq_true e]
    refine cT rfl (ldan (t := .sl) (x := t) H (Stg.cs_at hm t) ?_ (.t .h))
    refine ⟨_, cvI (s := t) (xs := g.got) H und_l8 und_8 und_s (.t (.t hG)), ?_⟩
    refine ldan (t := .sl) (x := t') H (Stg.cs_at hm' t') ?_ .h
    refine ⟨_, cvI (s := t') (xs := g'.got) H und_l8 und_8 und_s (.t (.t hG')), ?_⟩
    have := k w H.tl.tl
    have e2 : ((bs g.got).toList == (bs g'.got).toList) = decide (g.man = g'.man ∧ g.got = g'.got) := by
      by_cases q : g.got = g'.got <;> simp [e, q]
    show Q (.bool ((bs g.got).toList == (bs g'.got).toList)) w
    rw [e2]; exact this
  · rw [decide_eq_false e]
    have := k w H.tl.tl
    rw [decide_eq_false (by simp [e])] at this
    exact cF rfl this
/-- the chapter's image -/
def four : List UInt8 := [0, 0, 0, 0]
def b3 : List UInt8 := [0, 0, 0]
def b1 : List UInt8 := [0]
def man4 : Man := ⟨1, 7, 4, Sha.sum four⟩
theorem man4_ok : man4.ok := ⟨by decide, by decide, by decide, sum_len _⟩
theorem man4_may : man4.may := by show Man.may ⟨1, 7, 4, _⟩; unfold Man.may; decide
theorem chunk4 (g : List UInt8) (x : Int) (b : List UInt8) (h : g.length ≤ 4) : schunk ⟨man4, g⟩ x b = if x ≠ g.length then (Stg.zero, 4) else if (4 : Int) < g.length + b.length then (Stg.zero, 7) else (⟨man4, g ++ b⟩, 0) := by
  have : man4.size = 4 := rfl
  unfold schunk; exact if_neg (by simp [man4_may, this]; omega)
theorem mchk4a : mchk man4 b3 = [(2, 3)] := by
  unfold mchk
  rw [if_neg (by simp [man4_may]), if_pos (by decide)]; rfl
theorem mchk4 : mchk man4 four = [] := by
  unfold mchk
  rw [if_neg (by simp [man4_may]), if_neg (by decide), if_neg (by decide), if_neg (by show ¬ ¬ (Sha.sum four = Sha.sum four); simp), show dcd four = [] by decide]
set_option maxHeartbeats 1000000 in
theorem law19_awake (H : Heap F w l) (hT : Has l ErrTy) (hK : Has l Key) (k : ∀ w', Heap F w' l → Q (.bool true) w') : Does Tryd.prog N_law19_awake #[] w Q := by
  refine F_law19_awake_does _ _ ?_
  unfold F_law19_awake
  refine al H (cs := [.int .u8 0, .int .u8 0, .int .u8 0, .int .u8 0]) (fun a1 w H => ?_) rfl
  replace H := (H.blk_own (n := 4) (four : List UInt8) rfl (by decide) rfl).share
  refine image_Of (s := ⟨some ⟨a1, 0, none⟩, 4, 4⟩) (bb := four) H (by decide) .h (by repeat (first | exact hK | apply Has.t)) fun w H => ⟨_, rfl, ?_⟩
  rw [show (Man.mk 1 7 (four.length : Int) (Sha.sum four)) = man4 from rfl]
  refine al H (cs := Man.zero.cs) (fun a6 w H => ?_) zc_man
  refine stArr0 (cs := Man.zero.cs) (c := man4.cs.toArray) H (by simpa using Man.cs35 man4_ok.2.2.2) (by decide) (by simp [Man.cs, oneC]) (fun w H => ?_) .h
  refine ldMan0 (m := man4) H man4_ok.2.2.2 ?_
  refine image_Begin H man4_ok fun w H => ?_
  simp only [if_pos man4_may]
  refine ⟨_, _, rfl, ?_⟩
  refine al H (cs := Stg.zero.cs ⟨none, 0, 0⟩) (fun a14 w H => ?_) zc_stg
  refine stStg (g := Stg.zero) (t := ⟨none, 0, 0⟩) (g' := ⟨man4, []⟩) (t' := ⟨none, 0, 0⟩) H rfl man4_ok.2.2.2 fun w H => ?_
  replace H := H.drew
  refine ldStg (g := ⟨man4, []⟩) (t := ⟨none, 0, 0⟩) H man4_ok.2.2.2 ?_
  refine slcI (s := ⟨some ⟨a1, 0, none⟩, 4, 4⟩) (xs := four) H (by decide) (by decide) (by decide) (fun l18 H => ?_) (by repeat (first | assumption | constructor))
  rw [show (four.drop (0 : Int).toNat).take ((3 : Int).toNat - (0 : Int).toNat) = b3 from rfl] at H
  replace H := Heap.imm_nil (α := UInt8) H
  refine image_Chunk (g := ⟨man4, []⟩) (t := ⟨none, 0, 0⟩) (s := l18) (bb := b3) (x := 0) H man4_ok .h (by repeat (first | assumption | constructor)) fun t1 w H => ?_
  rw [chunk4 _ _ _ (by decide), if_neg (by decide), if_neg (by decide)] at H ⊢
  dsimp only [List.nil_append] at H ⊢
  refine ⟨_, _, rfl, ?_⟩
  refine stStg (b := a14) (g := ⟨man4, []⟩) (t := ⟨none, 0, 0⟩) (g' := ⟨man4, b3⟩) (t' := t1) H man4_ok.2.2.2 man4_ok.2.2.2 (fun w H => ?_) (by repeat (first | assumption | constructor))
  intro J26 hJ26
  replace H := H.takes (cs := [blk a14 T_api_Staging ((Stg.mk man4 b3).cs t1), imm t1 b3, imm ⟨some ⟨a1, 0, none⟩, 4, 4⟩ four, blk a6 T_api_Manifest man4.cs]) (by repeat (first | assumption | constructor))
  replace H := (H.dr (imm ⟨none, 0, 0⟩ ([] : List UInt8)) (by repeat (first | assumption | constructor))).dr (imm l18 b3) (by repeat (first | assumption | constructor))
  have fin : ∀ (w : World) (x : SP), Heap F w (x :: blk a14 T_api_Staging ((Stg.mk man4 b3).cs t1) :: imm t1 b3 :: imm ⟨some ⟨a1, 0, none⟩, 4, 4⟩ four :: blk a6 T_api_Manifest man4.cs :: l) → J26 4 w := fun w x H => by
    replace H := H.tl
    refine hJ26 _ _ ?_
    clear hJ26
    refine ldStg (b := a14) (g := ⟨man4, b3⟩) (t := t1) H man4_ok.2.2.2 ?_
    refine image_Finish (g := ⟨man4, b3⟩) (t := t1) H man4_ok (by repeat (first | assumption | constructor)) (by repeat (first | exact hT | apply Has.t)) (by repeat (first | exact hK | apply Has.t)) fun l30 v31 w H => ⟨_, _, rfl, ?_⟩
    rw [mchk4a, if_neg (by simp)] at H
    replace H := H.drew
    refine ldStg (b := a14) (g := ⟨man4, b3⟩) (t := t1) H man4_ok.2.2.2 ?_
    refine slcI (s := ⟨some ⟨a1, 0, none⟩, 4, 4⟩) (xs := four) H (by decide) (by decide) (by decide) (fun l33 H => ?_) (by repeat (first | assumption | constructor))
    rw [show (four.drop (0 : Int).toNat).take ((1 : Int).toNat - (0 : Int).toNat) = b1 from rfl] at H
    refine image_Chunk (g := ⟨man4, b3⟩) (t := t1) (s := l33) (bb := b1) (x := 3) H man4_ok (by repeat (first | assumption | constructor)) .h fun t2 w H => ?_
    rw [chunk4 _ _ _ (by decide), if_neg (by decide), if_neg (by decide)] at H ⊢
    rw [show b3 ++ b1 = four from rfl] at H ⊢
    dsimp only at H ⊢
    refine ⟨_, _, rfl, ?_⟩
    refine stStg (b := a14) (g := ⟨man4, b3⟩) (t := t1) (g' := ⟨man4, four⟩) (t' := t2) H man4_ok.2.2.2 man4_ok.2.2.2 (fun w H => ?_) (by repeat (first | assumption | constructor))
    refine ldStg (b := a14) (g := ⟨man4, four⟩) (t := t2) H man4_ok.2.2.2 ?_
    refine image_Finish (g := ⟨man4, four⟩) (t := t2) H man4_ok (by repeat (first | assumption | constructor)) (by repeat (first | exact hT | apply Has.t)) (by repeat (first | exact hK | apply Has.t)) fun l42 v43 w H => ⟨_, _, rfl, ?_⟩
    rw [mchk4, if_pos rfl, show clst four = [⟨0, 0, 0, 0⟩] by decide] at H
    have hl42 := H.len (s := l42) .h
    refine ldMan0 (b := a6) (m := man4) H man4_ok.2.2.2 ?_ (by repeat (first | assumption | constructor))
    refine image_Encode H man4_ok fun l47 w H => ⟨_, rfl, ?_⟩
    rw [if_pos man4_may] at H
    have hl47 := H.lenO (s := l47) .h
    rw [menc_length man4_ok.2.2.2] at hl47
    refine ldan (t := .int .i64) (x := 4) (cs := man4.cs) (b := a6) H rfl ?_ (by repeat (first | assumption | constructor))
    refine cT rfl (cT rfl (cT rfl (cT rfl ?_)))
    refine fault_Text (fl := [(2, 3)]) H (by decide) (by decide) (v := v31) (by repeat (first | assumption | constructor)) (by repeat (first | exact hT | apply Has.t)) fun w H => ⟨_, rfl, cT (txtEq txt_23) (cT rfl (cT (by rw [← hl42]; rfl) ?_))⟩
    refine rdIns (s := l42) (is := [⟨0, 0, 0, 0⟩]) (n := 0) H (by repeat (first | assumption | constructor)) (by decide) rfl fun a hA => ?_
    refine hA.ld0 (hA.ld (hA.ld (hA.ld ?_)))
    refine ins_eql ⟨0, 0, 0, 0⟩ ⟨0, 0, 0, 0⟩ (cT rfl ?_)
    refine err_eq (v := v43) (fl := []) H (by repeat (first | assumption | constructor)) (cT rfl (cT (by rw [← hl47]; rfl) ?_))
    have hlt : 3 < (menc man4).length := by rw [menc_length man4_ok.2.2.2]; decide
    refine idxO1 (s := l47) (xs := menc man4) (i := 0) H (by decide) (by omega) (fun ad ha => ldT_cell _ ha (cT rfl ?_)) .h
    refine idxO1 (s := l47) (xs := menc man4) (i := 2) H (by decide) (by omega) (fun ad ha => ldT_cell _ ha ?_) .h
    exact k w (H.tln 11)
  replace H := H.drew
  refine ldStg (b := a14) (g := ⟨man4, b3⟩) (t := t1) H man4_ok.2.2.2 ?_
  refine slcI (s := ⟨some ⟨a1, 0, none⟩, 4, 4⟩) (xs := four) H (by decide) (by decide) (by decide) (fun l66 H => ?_) (by repeat (first | assumption | constructor))
  rw [show (four.drop (0 : Int).toNat).take ((1 : Int).toNat - (0 : Int).toNat) = b1 from rfl] at H
  refine ⟨?_, ?_⟩
  · refine image_Chunk (g := ⟨man4, b3⟩) (t := t1) (s := l66) (bb := b1) (x := 2) H man4_ok (by repeat (first | assumption | constructor)) .h fun t2 w H => ?_
    rw [chunk4 _ _ _ (by decide), if_pos (by decide)] at H ⊢
    dsimp only at H ⊢
    refine ⟨_, _, rfl, ?_⟩
    refine al H (cs := Stg.zero.cs ⟨none, 0, 0⟩) (fun a71 w H => ?_) zc_stg
    refine stStg (b := a71) (g := Stg.zero) (t := ⟨none, 0, 0⟩) (g' := Stg.zero) (t' := t2) H rfl rfl (fun w H => ?_) .h
    exact fin w _ (Heap.tln 2 H)
  · refine al H (cs := Stg.zero.cs ⟨none, 0, 0⟩) (fun a74 w H => ?_) zc_stg
    refine ⟨⟨by simpa using Stg.cs_length (s := ⟨man4, b3⟩) man4_ok.2.2.2 t1, row0 (cs := (Stg.mk man4 b3).cs t1) H (fun j v h => by simpa using h) (by repeat (first | assumption | constructor))⟩, ?_⟩
    refine image_Chunk (g := ⟨man4, b3⟩) (t := t1) (s := l66) (bb := b1) (x := 2) H man4_ok (by repeat (first | assumption | constructor)) (.t .h) fun t2 w H => ?_
    rw [chunk4 _ _ _ (by decide), if_pos (by decide)] at H ⊢
    dsimp only at H ⊢
    refine ⟨_, _, rfl, ?_⟩
    refine stStg (b := a74) (g := Stg.zero) (t := ⟨none, 0, 0⟩) (g' := Stg.zero) (t' := t2) H rfl rfl (fun w H => ?_) (by repeat (first | assumption | constructor))
    exact fin w _ (Heap.tln 2 H)
end
end Go.Proofs.YtlbhilhfbbocfaaDoor.G

set_option linter.unusedVariables false
set_option linter.unusedSimpArgs false
namespace Nac
theorem dcd_nil {b : List UInt8} (h : dcd b = []) : b.length % 4 = 0 ∧ (cchk (clst b)).1 = 0 := by
  unfold dcd at h
  split at h
  · cases h
  · rename_i h1
    split at h
    · rename_i h2; exact ⟨by simpa using h1, h2⟩
    · cases h
theorem dcd_code {b : List UInt8} {x : Int × Int} {t : List (Int × Int)} (h : dcd b = x :: t) : x.1 ≠ 0 ∧ t.length ≤ 1 := by
  unfold dcd at h
  split at h
  · cases h; simp
  · split at h
    · cases h
    · rename_i h2; cases h; exact ⟨h2, by simp⟩
theorem mchk_nil {m : Man} {b : List UInt8} (h : mchk m b = []) : m.may ∧ (b.length : Int) = m.size ∧ Sha.sum b = m.sum ∧ dcd b = [] := by
  unfold mchk at h
  split at h
  · cases h
  · rename_i h1
    split at h
    · cases h
    · split at h
      · cases h
      · split at h
        · cases h
        · rename_i h2 h3 h4
          refine ⟨by simpa using h1, by omega, by simpa using h4, ?_⟩
          cases hd : dcd b with
          | nil => rfl
          | cons x t => rw [hd] at h; cases h
theorem mchk_code {m : Man} {b : List UInt8} : (mchk m b ≠ [] → (match mchk m b with | [] => (0 : Int) | (c, _) :: _ => c) ≠ 0) ∧ (mchk m b).length ≤ 1000 := by
  unfold mchk
  split
  · simp
  · split
    · simp
    · split
      · simp
      · split
        · simp
        · cases hd : dcd b with
          | nil => simp
          | cons x t =>
            have := dcd_code hd
            obtain ⟨c, a⟩ := x
            refine ⟨fun _ => this.1, ?_⟩
            show t.length + 1 + 1 ≤ 1000
            omega
end Nac
namespace Go.Proofs.YtlbhilhfbbocfaaDoor.G
open Go Go.VC Go.RowKit Go.Proofs Go.Proofs.YtlbhilhfbbocfaaDoor Nac
attribute [local irreducible] Tryd.prog
section
variable {F : Bs} {w : World} {l r : List SP} {Q : Value → World → Prop} {s t : Sl} {is js : List Ins} {bb : List UInt8} {v : Value} {fl : List (Int × Int)} {b : Nat} {ty : TypeId} {m : Man} {g : Stg}
theorem mchk_fc {m : Man} {b : List UInt8} : mchk m b ≠ [] → fcode (mchk m b) ≠ 0 := fun h => by
  have := mchk_code.1 h
  cases hd : mchk m b with
  | nil => exact absurd hd h
  | cons x t => rw [hd] at this; exact this
theorem bs_same (x : List UInt8) : ((bs x).toList == (bs x).toList) = true := by simp
theorem law_ImageChecks (H : Heap F w l) (hm : m.ok) (hI : Has l (imm s bb)) (hT : Has l ErrTy) (hK : Has l Key) (k : ∀ w', Heap F w' l → Q (.bool true) w') : Does Tryd.prog N_law19_ImageChecks #[.agg m.cs.toArray, .slice s.a s.len s.cap] w Q := by
  refine F_law19_ImageChecks_does _ _ _ _ ?_
  unfold F_law19_ImageChecks
  have hs := hm.2.2.2
  refine al H (cs := m.cs) (fun a1 w H => ?_) rfl
  refine law19_few (n := 600) H (.t hI) fun l5 H => ⟨_, rfl, ?_⟩
  have hbl : (bb.take 600).length ≤ 600 := by rw [List.length_take]; omega
  generalize bb.take 600 = b5 at *
  refine al H (cs := []) (fun a6 w H => ?_) rfl
  replace H := Heap.blk_own0 (α := UInt8) H
  refine apI (s := ⟨some ⟨a6, 0, none⟩, 0, 0⟩) (xs := []) (ys := b5) S_l_uint8 H (by simp only [List.length_nil]; omega) fun l8 w H => ?_
  rw [List.nil_append] at H
  replace H := H.share
  refine ldMan0 (b := a1) (m := m) H hs ?_ (by repeat (first | assumption | constructor))
  refine ref19_Check (s := l5) (bb := b5) H hm (by repeat (first | assumption | constructor)) fun l14 w H => ⟨_, _, rfl, ?_⟩
  refine ldMan0 (b := a1) (m := m) H hs ?_ (by repeat (first | assumption | constructor))
  refine image_Check (s := l5) (bb := b5) H hm (by repeat (first | assumption | constructor)) (by repeat (first | exact hT | apply Has.t)) (by repeat (first | exact hK | apply Has.t)) fun v18 w H => ⟨_, rfl, ?_⟩
  refine law19_told (fl := mchk m b5) H mchk_code.2 mchk_fc .h (.t .h) (by repeat (first | exact hT | apply Has.t)) fun w H => ⟨_, rfl, cT rfl ?_⟩
  refine ⟨_, cvI (s := l8) (xs := b5) H und_l8 und_8 und_s (by repeat (first | assumption | constructor)), ?_⟩
  refine ⟨_, cvI (s := l5) (xs := b5) H und_l8 und_8 und_s (by repeat (first | assumption | constructor)), cT (bs_same _) ?_⟩
  exact law19_awake H (by repeat (first | exact hT | apply Has.t)) (by repeat (first | exact hK | apply Has.t)) fun w H => ⟨_, rfl, k w (H.tln 5)⟩
theorem law_ImageRight (H : Heap F w l) (hm : g.man.ok) (hI : Has l (imm t g.got)) (hT : Has l ErrTy) (hK : Has l Key) (k : ∀ w', Heap F w' l → Q (.bool true) w') : Does Tryd.prog N_law19_ImageRight #[.agg (g.cs t).toArray] w Q := by
  refine F_law19_ImageRight_does _ _ _ ?_
  unfold F_law19_ImageRight
  have hs := hm.2.2.2
  refine al H (cs := g.cs t) (fun a1 w H => ?_) rfl
  refine ldan (t := .sl) (x := t) H (Stg.cs_at hs t) ?_ (by repeat (first | assumption | constructor))
  refine law19_few (s := t) (bb := g.got) (n := 600) H (.t hI) fun l6 H => ⟨_, rfl, ?_⟩
  have hbl : (g.got.take 600).length ≤ 600 := by rw [List.length_take]; omega
  generalize g.got.take 600 = b6 at *
  obtain ⟨man, got⟩ := g
  dsimp only at hm hs
  refine stan (cs' := (Stg.mk man b6).cs l6) H (Stg.cs_set (g := got) hs t l6) (by rw [Stg.cs_length hs]; decide) (fun w H => ?_) (by repeat (first | assumption | constructor))
  refine ldStg (b := a1) (g := ⟨man, b6⟩) (t := l6) H hs ?_ (by repeat (first | assumption | constructor))
  refine image_Finish (g := ⟨man, b6⟩) (t := l6) H hm (by repeat (first | assumption | constructor)) (by repeat (first | exact hT | apply Has.t)) (by repeat (first | exact hK | apply Has.t)) fun l11 v12 w H => ⟨_, _, rfl, ?_⟩
  dsimp only at H
  refine err_ne H (.t .h) ?_
  by_cases he : mchk man b6 = []
  case neg =>
    rw [decide_eq_true he]
    rw [if_neg he] at H
    have hl11 := H.len (s := l11) .h
    refine cT rfl (cT (by rw [← hl11]; rfl) ?_)
    exact law19_awake H (by repeat (first | exact hT | apply Has.t)) (by repeat (first | exact hK | apply Has.t)) fun w H => ⟨_, rfl, k w (H.tln 4)⟩
  rw [decide_eq_false (by simpa using he)]
  rw [he, if_pos rfl] at H
  obtain ⟨hmay, hsz, hsum, hd⟩ := mchk_nil he
  obtain ⟨h4, hc⟩ := dcd_nil hd
  have hcl : (clst b6).length ≤ 100000 := by rw [clst_length]; omega
  refine cF rfl ?_
  refine code_Encode (s := l11) (is := clst b6) H hcl (.i .h) fun l20 w H => ⟨_, rfl, ?_⟩
  rw [cenc_lst h4] at H
  replace H := H.share.drew
  refine code_Check (s := l11) (is := clst b6) H (by repeat (first | assumption | constructor)) fun v23 w H => ⟨_, rfl, ?_⟩
  rw [show flt (cchk (clst b6)) = [] from if_pos hc] at H
  refine err_eq H .h (cT rfl ?_)
  refine ⟨_, cvI (s := l20) (xs := b6) H und_l8 und_8 und_s (by repeat (first | assumption | constructor)), ?_⟩
  refine ldan (t := .sl) (x := l6) (b := a1) (cs := (Stg.mk man b6).cs l6) H (Stg.cs_at (s := ⟨man, b6⟩) hs l6) ?_ (by repeat (first | assumption | constructor))
  refine ⟨_, cvI (s := l6) (xs := b6) H und_l8 und_8 und_s (by repeat (first | assumption | constructor)), cT (bs_same _) ?_⟩
  refine ldc (x := man.part) (t := .int .i64) ?_ ?_
  · have := H.cell (o := 0) (b := a1) (cs := (Stg.mk man b6).cs l6) (hT := (by repeat (first | assumption | constructor))) (v := .int .i64 man.part) rfl
    exact this
  refine ldan (t := .int .u32) (x := man.ver) (b := a1) (cs := (Stg.mk man b6).cs l6) H rfl ?_ (by repeat (first | assumption | constructor))
  refine ldMan (b := a1) (m := man) (x := [l6.v]) H hs ?_ (by repeat (first | assumption | constructor))
  refine image_Of (s := l20) (bb := b6) H (by omega) (by repeat (first | assumption | constructor)) (by repeat (first | exact hK | apply Has.t)) fun w H => ⟨_, rfl, ⟨by simpa using Man.cs35 hs, row0 (cs := (Stg.mk man b6).cs l6) H man_row (by repeat (first | assumption | constructor))⟩, ?_⟩
  refine man_eql (sum_len b6) hs ?_
  rw [decide_eq_true (by rw [hsz, hsum])]
  refine cT rfl ?_
  exact law19_awake H (by repeat (first | exact hT | apply Has.t)) (by repeat (first | exact hK | apply Has.t)) fun w H => ⟨_, rfl, k w (H.tln 6)⟩
theorem law_ImageBack (H : Heap F w l) (hm : m.ok) (hb : bb.length ≤ 140737488355328) (hI : Has l (imm s bb)) (hT : Has l ErrTy) (hK : Has l Key) (k : ∀ w', Heap F w' l → Q (.bool true) w') : Does Tryd.prog N_law19_ImageBack #[.agg m.cs.toArray, .slice s.a s.len s.cap] w Q := by
  refine F_law19_ImageBack_does _ _ _ _ ?_
  unfold F_law19_ImageBack
  have hs := hm.2.2.2
  refine al H (cs := m.cs) (fun a1 w H => ?_) rfl
  refine ldMan0 (b := a1) (m := m) H hs ?_
  refine image_Encode H hm fun l6 w H => ⟨_, rfl, ?_⟩
  intro J8 hJ8
  have fin : ∀ (w : World) (x y : SP), Heap F w (x :: y :: l) → J8 w := fun w x y H => by
    refine hJ8 _ ?_
    refine image_Decode (s := s) (bb := bb) H hb (.t (.t hI)) (by repeat (first | exact hT | apply Has.t)) fun v12 y fl w hc H => ⟨_, _, rfl, ?_⟩
    have hy : y.sum.length = 32 := by
      rcases hc with ⟨_, hh, rfl, _⟩ | ⟨_, _, rfl⟩
      · exact (manOf_ok hh).2.2.2
      · rfl
    refine al H (cs := Man.zero.cs) (fun a13 w H => ?_) zc_man
    refine stArr0 (b := a13) (cs := Man.zero.cs) (c := y.cs.toArray) H (by simpa using Man.cs35 hy) (by decide) (by simp [Man.cs, oneC]) (fun w H => ?_) .h
    refine err_ne H (.t .h) ?_
    rcases hc with ⟨rfl, hh, rfl, hmay⟩ | ⟨hne, _, rfl⟩
    · refine cF rfl ?_
      replace H := H.drew
      refine ldMan0 (b := a13) (m := manOf bb) H hy ?_ .h
      refine ⟨_, cvI (s := s) (xs := bb) H und_l8 und_8 und_s (by repeat (first | exact hI | apply Has.t)), ?_⟩
      refine image_Encode H (manOf_ok hh) fun l28 w H => ⟨_, rfl, ?_⟩
      rw [if_pos hmay, menc_of hh] at H
      refine ⟨cvI (s := s) (xs := bb) H und_l8 und_8 und_s (by repeat (first | exact hI | apply Has.t)), _, cvO (s := l28) (xs := bb) H und_l8 und_8 und_s .h, cT (bs_same _) ?_⟩
      exact law19_awake H (by repeat (first | exact hT | apply Has.t)) (by repeat (first | exact hK | apply Has.t)) fun w H => ⟨_, rfl, k w (H.tln 5)⟩
    · rw [decide_eq_true hne]
      refine cT rfl ?_
      refine ldMan0 (b := a13) (m := Man.zero) H rfl ?_ .h
      refine man_eql (m := Man.zero) (n := Man.zero) rfl rfl ?_
      rw [decide_eq_true rfl]
      refine cT rfl ?_
      exact law19_awake H (by repeat (first | exact hT | apply Has.t)) (by repeat (first | exact hK | apply Has.t)) fun w H => ⟨_, rfl, k w (H.tln 4)⟩
  clear hJ8
  have hl6 := H.lenO (s := l6) .h
  by_cases hmay : m.may
  · rw [if_pos hmay] at H hl6
    rw [menc_length hs] at hl6
    obtain ⟨hh, hme⟩ := manOf_enc hm hmay
    refine dT (by omega) ?_
    replace H := H.share
    refine image_Decode (s := l6) (bb := menc m) H (by rw [menc_length hs]; decide) .h (by repeat (first | exact hT | apply Has.t)) fun v36 y fl w hc H => ⟨_, _, rfl, ?_⟩
    rcases hc with ⟨rfl, _, rfl, _⟩ | ⟨_, hn, _⟩
    · rw [hme]
      refine al H (cs := Man.zero.cs) (fun a37 w H => ?_) zc_man
      refine stArr0 (b := a37) (cs := Man.zero.cs) (c := m.cs.toArray) H (by simpa using Man.cs35 hs) (by decide) (by simp [Man.cs, oneC]) (fun w H => ?_) .h
      refine err_ne H (.t .h) (cF rfl ?_)
      refine ldMan0 (b := a37) (m := m) H hs (ldMan0 (b := a1) (m := m) H hs ?_ (by repeat (first | assumption | constructor))) .h
      refine man_neq hs hs ?_
      rw [decide_eq_true rfl]
      refine cF rfl (cF (by rw [← hl6]; rfl) ?_)
      exact fin w _ _ (Heap.tln 2 H)
    · exact absurd ⟨hh, by rw [hme]; exact hmay⟩ hn
  · rw [if_neg hmay] at H hl6
    simp only [List.length_nil] at hl6
    refine dF (by omega) (fin w _ _ H)
end
end Go.Proofs.YtlbhilhfbbocfaaDoor.G
