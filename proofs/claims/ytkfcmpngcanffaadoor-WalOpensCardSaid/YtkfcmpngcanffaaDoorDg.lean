import Derived.Test.YtkfcmpngcanffaaDoorDf
set_option linter.unusedVariables false
set_option linter.unusedSimpArgs false
namespace Go.Proofs.YtkfcmpngcanffaaDoor.G
open Go Go.VC Go.RowKit Go.Proofs Go.Proofs.YtkfcmpngcanffaaDoor Nac
attribute [local irreducible] Tryd.prog
section
variable {F : Bs} {w : World} {l r : List SP} {b d p : Nat} {D : Disk} {Q : Value → World → Prop} {X : Nac.Ext} {s1 s2 s5 sp : Sl} {fr h u : Int} {e : UInt32} {dd : Bool}
theorem ref_settle16 (H : Heap F w l) (hX : X.from_ = fr ∧ 0 ≤ fr ∧ fr ≤ 1000 ∧ X.count = 52) {P : List (List UInt8)} (hPn : P.length = 16) (hP40 : ∀ x ∈ P, x.length = 40) {pre : List (Int × List UInt8)} (hpre : ∀ x ∈ pre, 0 ≤ x.1 ∧ x.1 < 52) (hprel : pre.length ≤ 1000) (hn : D.waits.length < 80000)
    {e' : UInt32} {home : Nat} (hh : home < 2) {sa sl : Sl} (hT : Takes l [own T_int sa (pre.map (·.1)), own T_string sl (pre.map fun x => bs x.2)] r := by repeat (first | assumption | constructor)) (hR : Has r (RDk s1 s2 s5 D) := by repeat (first | assumption | constructor)) (hP : Has r (imm sp (P.map bs)) := by repeat (first | assumption | constructor))
    (k : ∀ (s1' s2' : Sl) w', Heap F w' (RDk s1' s2' s5 (Nac.settle D X pre P e' home).1 :: r) → Q (.tuple #[lw s1' s2' s5 sp (Nac.settle D X pre P e' home).1 fr e h u dd, .int .i64 (Nac.settle D X pre P e' home).2]) w') :
    Does Tryd.prog N_ref16_Log_settle #[lw s1 s2 s5 sp D fr e h u dd, .int .u32 (e'.toNat : Int), .int .i64 (home : Int), .slice sa.a sa.len sa.cap, .slice sl.a sl.len sl.cap] w Q := by
  refine F_ref16_Log_settle_does _ _ _ _ _ _ _ _ _ _ _ _ _ _ _ _ _ ?_
  unfold F_ref16_Log_settle
  replace H : Heap F w (own T_int sa (pre.map (·.1)) :: own T_string sl (pre.map fun x => bs x.2) :: r) := H.takes hT
  replace H := rd_re H (.t (.t hR))
  refine al H (cs := lwc s1 s2 s5 sp D fr e h u dd) (fun a1 w H => ?_) rfl
  refine al H (cs := [(Sl.v ⟨none, 0, 0⟩), (Sl.v ⟨none, 0, 0⟩), .bool false, .int .i64 0, (Sl.v ⟨none, 0, 0⟩), .int .i64 0, (Sl.v ⟨none, 0, 0⟩), .int .u32 0, .int .i64 0, .int .i64 0, .bool false]) (fun a3 w H => ?_) zc_ref16_Log
  refine ⟨fun at5 l6 x w' => ∃ (i : Nat), x = i ∧ i ≤ 16 ∧ Heap F w' (own T_int at5 ((pre ++ (pagesW home e' P).take i).map (·.1)) :: own T_string l6 ((pre ++ (pagesW home e' P).take i).map fun x => bs x.2) :: blk a3 T_ref16_Log [(Sl.v ⟨none, 0, 0⟩), (Sl.v ⟨none, 0, 0⟩), .bool false, .int .i64 0, (Sl.v ⟨none, 0, 0⟩), .int .i64 0, (Sl.v ⟨none, 0, 0⟩), .int .u32 0, .int .i64 0, .int .i64 0, .bool false] :: blk a1 T_ref16_Log (lwc s1 s2 s5 sp D fr e h u dd) :: RDk s1 s2 s5 D :: r), fun _ _ x _ => (16 - x).toNat,
    ⟨0, rfl, by omega, by rw [List.take_zero, List.append_nil]; exact H.ord5 (a := own T_int sa _) (b := own T_string sl _) (c := blk a3 _ _) (d := blk a1 _ _) (e := RDk s1 s2 s5 D)⟩, ?_⟩
  rintro at5 l6 x w1 ⟨i, rfl, hi, H⟩
  refine dBoth (fun hlt => ?_) (fun hge => ?_)
  · have hlt' : i < 16 := by omega
    have hiP : i < P.length := by omega
    have hp40 := hP40 _ (List.getElem_mem hiP)
    have hpg := pagesW_take home e' P hiP
    have htl : ((pagesW home e' P).take i).length ≤ 16 := by simp; omega
    rw [i64_id (n := 16 * (home : Int)) (by omega), i64_id (n := 2 + 16 * (home : Int)) (by omega), i64_id (by omega), show 2 + 16 * (home : Int) + (i : Int) = ((2 + 16 * home + i : Nat) : Int) by omega]
    refine al H (cs := [.int .i64 ((2 + 16 * home + i : Nat) : Int)]) (fun a11 w H => ?_) rfl
    refine psh1 (s := at5) (xs := (pre ++ (pagesW home e' P).take i).map (·.1)) ((2 + 16 * home + i : Nat) : Int) S_l_int H (by simp; omega) (fun s13 w H => ?_) (by repeat (first | assumption | constructor)) (by repeat (first | assumption | constructor))
    replace H := H.drew
    refine lda H ?_
    refine idxI1w (s := sp) (xs := P.map bs) H (by omega) (by simpa using hiP) (fun a16 h16 => ldc (h16 H (by repeat (first | assumption | constructor))) ?_) (by repeat (first | assumption | constructor))
    have e2 : (P.map bs)[((i : Nat) : Int).toNat]'(by simpa using hiP) = bs P[i] := by simp
    simp only [e2] at h16 ⊢
    refine ref_one H fun w H => ⟨_, rfl, h16 H (by repeat (first | assumption | constructor)), ?_, ?_, ?_⟩
    · exact cella H
    · simp; omega
    rw [bs_append, show (⟨#[80]⟩ : ByteArray) = bs [80] from rfl]
    refine ref_Sector16 (c := 80) (bb := [b8 i] ++ P[i]) H (by simp; omega) fun w H => ⟨_, rfl, ?_⟩
    refine al H (cs := [.string (bs (sayS 80 e' ([b8 i] ++ P[i])))]) (fun a24 w H => ?_) rfl
    refine psh1 (s := l6) (xs := (pre ++ (pagesW home e' P).take i).map fun x => bs x.2) (bs (sayS 80 e' ([b8 i] ++ P[i]))) S_l_string H (by simp; omega) (fun s26 w H => ?_) (by repeat (first | assumption | constructor)) (by repeat (first | assumption | constructor))
    refine ⟨⟨i + 1, by rw [i64_id (by omega)]; omega, by omega, ?_⟩, by rw [i64_id (by omega)]; (try dsimp only); omega⟩
    rw [show (pre ++ (pagesW home e' P).take (i + 1)).map (·.1) = (pre ++ (pagesW home e' P).take i).map (·.1) ++ [((2 + 16 * home + i : Nat) : Int)] by rw [hpg, ← List.append_assoc, List.map_append]; rfl,
      show (pre ++ (pagesW home e' P).take (i + 1)).map (fun x => bs x.2) = (pre ++ (pagesW home e' P).take i).map (fun x => bs x.2) ++ [bs (sayS 80 e' ([b8 i] ++ P[i]))] by rw [hpg, ← List.append_assoc, List.map_append]; rfl]
    replace H := H.dr2 (blk a24 _ _) (blk a11 _ _)
    exact H.ord5 (a := own T_int s13 _) (b := own T_string s26 _) (c := blk a3 _ _) (d := blk a1 _ _) (e := RDk s1 s2 s5 D)
  · obtain rfl : i = 16 := by omega
    rw [List.take_of_length_le (by rw [pagesW_len]; omega)] at H
    have hpl : (pre ++ pagesW home e' P).length = pre.length + 16 := by rw [List.length_append, pagesW_len, hPn]
    have hat : ∀ x ∈ pre ++ pagesW home e' P, 0 ≤ x.1 ∧ x.1 < 52 := fun x hx => by
      rcases List.mem_append.1 hx with hx | hx
      · exact hpre x hx
      · simp only [pagesW, List.mem_map] at hx
        obtain ⟨y, hy, rfl⟩ := hx
        have := List.snd_lt_of_mem_zipIdx hy
        simp only [pageW]
        omega
    repeat (first | refine lda H ?_ | refine ld0 H ?_ | refine ldaN H ?_ | refine ld0N H ?_ | refine sta H fun w H => ?_ | refine st0 H fun w H => ?_)
    replace H := H.share (s := at5) (xs := (pre ++ pagesW home e' P).map (·.1))
    replace H := H.share (s := l6) (xs := (pre ++ pagesW home e' P).map fun x => bs x.2)
    refine ref_all16 (L := pre ++ pagesW home e' P) (D := D) (sa := at5) (sl := l6) (sp := sp) (X := X) H (by repeat (first | assumption | constructor)) hX hat (by omega) (by repeat (first | assumption | constructor)) (by repeat (first | assumption | constructor)) fun s1' s2' w H => ⟨s1', s2', _, _, s5, _, sp, _, _, _, _, _, rfl, ?_⟩
    rw [Nac.settle] at k
    have hw2 := pall_waits X (pre ++ pagesW home e' P) D
    generalize pall X (pre ++ pagesW home e' P) D = R at *
    obtain ⟨D1, e1⟩ := R
    dsimp only at *
    refine al H (cs := [(Sl.v ⟨none, 0, 0⟩), (Sl.v ⟨none, 0, 0⟩), .bool false, .int .i64 0, (Sl.v ⟨none, 0, 0⟩), .int .i64 0, (Sl.v ⟨none, 0, 0⟩), .int .u32 0, .int .i64 0, .int .i64 0, .bool false]) (fun a53 w H => ?_) zc_ref16_Log
    repeat (first | refine lda H ?_ | refine ld0 H ?_ | refine ldaN H ?_ | refine ld0N H ?_ | refine sta H fun w H => ?_ | refine st0 H fun w H => ?_)
    refine cBoth (fun hne => ?_) (fun h0 => ?_)
    · have hne' : ¬ e1 = 0 := by simpa using hne
      rw [if_neg hne'] at k
      repeat (first | refine lda H ?_ | refine ld0 H ?_ | refine ldaN H ?_ | refine ld0N H ?_ | refine sta H fun w H => ?_ | refine st0 H fun w H => ?_)
      exact k s1' s2' _ (Heap.kp 6 (H.take (c := RDk s1' s2' s5 _) (by repeat (first | assumption | constructor))))
    · have h0' : e1 = 0 := by simpa using h0
      rw [if_pos h0'] at k
      subst h0'
      have hhd : ∀ x ∈ [headW home e'], 0 ≤ x.1 ∧ x.1 < 52 := fun x hx => by simp at hx; subst hx; simp only [headW]; omega
      have hw1 : D1.waits.length + [headW home e'].length < 90000 := by simp; omega
      have hpos : IntKind.wrap .i64 (Int.tmod (e'.toNat : Int) 2) = ((e'.toNat % 2 : Nat) : Int) := by
        rw [show Int.tmod (e'.toNat : Int) 2 = ((e'.toNat % 2 : Nat) : Int) from rfl, i64_id (by omega)]
      simp only [hpos, show (⟨#[72]⟩ : ByteArray) = bs [72] from rfl]
      replace H := H.drew
      repeat (first | refine lda H ?_ | refine ld0 H ?_ | refine ldaN H ?_ | refine ld0N H ?_ | refine sta H fun w H => ?_ | refine st0 H fun w H => ?_)
      refine ⟨by decide, ?_, ?_⟩
      · refine al H (cs := [.int .i64 ((e'.toNat % 2 : Nat) : Int)]) (fun ai w H => ⟨⟨rfl, rowB H (by repeat (first | assumption | constructor))⟩, ?_⟩) rfl
        refine ref_one H fun w H => ⟨_, rfl, ⟨rfl, rowB H (by repeat (first | assumption | constructor))⟩, ?_⟩
        refine ref_Sector16 (e := e') (c := 72) (bb := [b8 home]) H (by simp) fun w H => ⟨_, rfl, ⟨rfl, rowB H (by repeat (first | assumption | constructor))⟩, ?_⟩
        refine al H (cs := [.string (bs (sayS 72 e' [b8 home]))]) (fun ac w H => ⟨⟨rfl, rowB H (by repeat (first | assumption | constructor))⟩, ?_⟩) rfl
        replace H := (H.blk_own (b := ai) (n := 1) [((e'.toNat % 2 : Nat) : Int)] rfl (mx (by simp)) rfl).share (s := ⟨some ⟨ai, 0, none⟩, 1, 1⟩) (xs := [((e'.toNat % 2 : Nat) : Int)])
        replace H := (H.blk_own (b := ac) (n := 1) [bs (sayS 72 e' [b8 home])] rfl (mx (by simp)) rfl).share (s := ⟨some ⟨ac, 0, none⟩, 1, 1⟩) (xs := [bs (sayS 72 e' [b8 home])])
        refine ref_all16 (L := [headW home e']) (D := D1) (sa := ⟨some ⟨ai, 0, none⟩, 1, 1⟩) (sl := ⟨some ⟨ac, 0, none⟩, 1, 1⟩) (sp := sp) (X := X) H (by repeat (first | assumption | constructor)) hX hhd hw1 (by repeat (first | assumption | constructor)) (by repeat (first | assumption | constructor)) fun s1q s2q w H => ⟨s1q, s2q, _, _, s5, _, sp, _, _, _, _, _, rfl, ?_⟩
        repeat (first | refine lda H ?_ | refine ld0 H ?_ | refine ldaN H ?_ | refine ld0N H ?_ | refine sta H fun w H => ?_ | refine st0 H fun w H => ?_)
        exact k s1q s2q _ (Heap.kp 9 (H.take (c := RDk s1q s2q s5 _) (by repeat (first | assumption | constructor))))
      refine ref_one H fun w H => ⟨_, rfl, ⟨rfl, rowB H (by repeat (first | assumption | constructor))⟩, ?_, ?_⟩
      · refine al H (cs := [.int .i64 ((e'.toNat % 2 : Nat) : Int)]) (fun ai w H => ⟨⟨rfl, rowB H (by repeat (first | assumption | constructor))⟩, ?_⟩) rfl
        refine ref_Sector16 (e := e') (c := 72) (bb := [b8 home]) H (by simp) fun w H => ⟨_, rfl, ⟨rfl, rowB H (by repeat (first | assumption | constructor))⟩, ?_⟩
        refine al H (cs := [.string (bs (sayS 72 e' [b8 home]))]) (fun ac w H => ⟨⟨rfl, rowB H (by repeat (first | assumption | constructor))⟩, ?_⟩) rfl
        replace H := (H.blk_own (b := ai) (n := 1) [((e'.toNat % 2 : Nat) : Int)] rfl (mx (by simp)) rfl).share (s := ⟨some ⟨ai, 0, none⟩, 1, 1⟩) (xs := [((e'.toNat % 2 : Nat) : Int)])
        replace H := (H.blk_own (b := ac) (n := 1) [bs (sayS 72 e' [b8 home])] rfl (mx (by simp)) rfl).share (s := ⟨some ⟨ac, 0, none⟩, 1, 1⟩) (xs := [bs (sayS 72 e' [b8 home])])
        refine ref_all16 (L := [headW home e']) (D := D1) (sa := ⟨some ⟨ai, 0, none⟩, 1, 1⟩) (sl := ⟨some ⟨ac, 0, none⟩, 1, 1⟩) (sp := sp) (X := X) H (by repeat (first | assumption | constructor)) hX hhd hw1 (by repeat (first | assumption | constructor)) (by repeat (first | assumption | constructor)) fun s1q s2q w H => ⟨s1q, s2q, _, _, s5, _, sp, _, _, _, _, _, rfl, ?_⟩
        repeat (first | refine lda H ?_ | refine ld0 H ?_ | refine ldaN H ?_ | refine ld0N H ?_ | refine sta H fun w H => ?_ | refine st0 H fun w H => ?_)
        exact k s1q s2q _ (Heap.kp 9 (H.take (c := RDk s1q s2q s5 _) (by repeat (first | assumption | constructor))))
      refine ref_Sector16 (e := e') (c := 72) (bb := [b8 home]) H (by simp) fun w H => ⟨_, rfl, ⟨rfl, rowB H (by repeat (first | assumption | constructor))⟩, ?_, ?_⟩
      · refine al H (cs := [.int .i64 ((e'.toNat % 2 : Nat) : Int)]) (fun ai w H => ⟨⟨rfl, rowB H (by repeat (first | assumption | constructor))⟩, ?_⟩) rfl
        refine al H (cs := [.string (bs (sayS 72 e' [b8 home]))]) (fun ac w H => ⟨⟨rfl, rowB H (by repeat (first | assumption | constructor))⟩, ?_⟩) rfl
        replace H := (H.blk_own (b := ai) (n := 1) [((e'.toNat % 2 : Nat) : Int)] rfl (mx (by simp)) rfl).share (s := ⟨some ⟨ai, 0, none⟩, 1, 1⟩) (xs := [((e'.toNat % 2 : Nat) : Int)])
        replace H := (H.blk_own (b := ac) (n := 1) [bs (sayS 72 e' [b8 home])] rfl (mx (by simp)) rfl).share (s := ⟨some ⟨ac, 0, none⟩, 1, 1⟩) (xs := [bs (sayS 72 e' [b8 home])])
        refine ref_all16 (L := [headW home e']) (D := D1) (sa := ⟨some ⟨ai, 0, none⟩, 1, 1⟩) (sl := ⟨some ⟨ac, 0, none⟩, 1, 1⟩) (sp := sp) (X := X) H (by repeat (first | assumption | constructor)) hX hhd hw1 (by repeat (first | assumption | constructor)) (by repeat (first | assumption | constructor)) fun s1q s2q w H => ⟨s1q, s2q, _, _, s5, _, sp, _, _, _, _, _, rfl, ?_⟩
        repeat (first | refine lda H ?_ | refine ld0 H ?_ | refine ldaN H ?_ | refine ld0N H ?_ | refine sta H fun w H => ?_ | refine st0 H fun w H => ?_)
        exact k s1q s2q _ (Heap.kp 9 (H.take (c := RDk s1q s2q s5 _) (by repeat (first | assumption | constructor))))
      · refine al H (cs := [.string (bs (sayS 72 e' [b8 home]))]) (fun ac w H => ⟨⟨rfl, rowB H (by repeat (first | assumption | constructor))⟩, ?_⟩) rfl
        refine al H (cs := [.int .i64 ((e'.toNat % 2 : Nat) : Int)]) (fun ai w H => ⟨⟨rfl, rowB H (by repeat (first | assumption | constructor))⟩, ?_⟩) rfl
        replace H := (H.blk_own (b := ai) (n := 1) [((e'.toNat % 2 : Nat) : Int)] rfl (mx (by simp)) rfl).share (s := ⟨some ⟨ai, 0, none⟩, 1, 1⟩) (xs := [((e'.toNat % 2 : Nat) : Int)])
        replace H := (H.blk_own (b := ac) (n := 1) [bs (sayS 72 e' [b8 home])] rfl (mx (by simp)) rfl).share (s := ⟨some ⟨ac, 0, none⟩, 1, 1⟩) (xs := [bs (sayS 72 e' [b8 home])])
        refine ref_all16 (L := [headW home e']) (D := D1) (sa := ⟨some ⟨ai, 0, none⟩, 1, 1⟩) (sl := ⟨some ⟨ac, 0, none⟩, 1, 1⟩) (sp := sp) (X := X) H (by repeat (first | assumption | constructor)) hX hhd hw1 (by repeat (first | assumption | constructor)) (by repeat (first | assumption | constructor)) fun s1q s2q w H => ⟨s1q, s2q, _, _, s5, _, sp, _, _, _, _, _, rfl, ?_⟩
        repeat (first | refine lda H ?_ | refine ld0 H ?_ | refine ldaN H ?_ | refine ld0N H ?_ | refine sta H fun w H => ?_ | refine st0 H fun w H => ?_)
        exact k s1q s2q _ (Heap.kp 9 (H.take (c := RDk s1q s2q s5 _) (by repeat (first | assumption | constructor))))
end
end Go.Proofs.YtkfcmpngcanffaaDoor.G

set_option linter.unusedVariables false
set_option linter.unusedSimpArgs false
namespace Go.Proofs.YtkfcmpngcanffaaDoor.G
open Go Go.VC Go.RowKit Go.Proofs Go.Proofs.YtkfcmpngcanffaaDoor Nac
attribute [local irreducible] Tryd.prog
section
variable {F : Bs} {w : World} {l r : List SP} {b d p : Nat} {D : Disk} {Q : Value → World → Prop} {X : Nac.Ext} {s1 s2 s5 sp : Sl} {fr h u : Int} {e : UInt32} {dd : Bool}
theorem ref_Format16 (H : Heap F w l) (hR : Has l (RDk s1 s2 s5 D)) (hX : X.from_ = fr ∧ 0 ≤ fr ∧ fr ≤ 1000 ∧ X.count = 52) (hn : D.waits.length < 10000)
    (k : ∀ (s1' s2' : Sl) w', Heap F w' (RDk s1' s2' s5 (Nac.format D X).1 :: l) → Q (.tuple #[dv s1' s2' s5 (Nac.format D X).1, .int .i64 (Nac.format D X).2]) w') :
    Does Tryd.prog N_ref16_Format #[dv s1 s2 s5 D, .int .i64 fr] w Q := by
  refine F_ref16_Format_does _ _ _ _ _ _ _ _ ?_
  unfold F_ref16_Format
  rw [Nac.format] at k
  replace H := rd_re H hR
  refine al H (cs := [s1.v, s2.v, .bool D.off, .int .i64 D.left, s5.v]) (fun a1 w H => ?_) rfl
  refine al H (cs := [(Sl.v ⟨none, 0, 0⟩), (Sl.v ⟨none, 0, 0⟩), .bool false, .int .i64 0, (Sl.v ⟨none, 0, 0⟩)]) (fun a3 w H => ?_) zc_ref05_Disk
  repeat (first | refine lda H ?_ | refine ld0 H ?_ | refine ldaN H ?_ | refine ld0N H ?_ | refine sta H fun w H => ?_ | refine st0 H fun w H => ?_)
  refine al H (cs := [(Sl.v ⟨none, 0, 0⟩), (Sl.v ⟨none, 0, 0⟩), .bool false, .int .i64 0, (Sl.v ⟨none, 0, 0⟩), .int .i64 0, (Sl.v ⟨none, 0, 0⟩), .int .u32 0, .int .i64 0, .int .i64 0, .bool false]) (fun a10 w H => ?_) zc_ref16_Log
  repeat (first | refine lda H ?_ | refine ld0 H ?_ | refine ldaN H ?_ | refine ld0N H ?_ | refine sta H fun w H => ?_ | refine st0 H fun w H => ?_)
  refine ⟨fun x w' => ∃ (i : Nat) (sp : Sl), x = i ∧ i ≤ 16 ∧ Heap F w' (own T_string sp (List.replicate i (bs page0)) :: blk a10 T_ref16_Log (lwc s1 s2 s5 sp D fr 0 0 0 false) :: blk a3 T_ref05_Disk [(Sl.v ⟨none, 0, 0⟩), (Sl.v ⟨none, 0, 0⟩), .bool false, .int .i64 0, (Sl.v ⟨none, 0, 0⟩)] :: RDk s1 s2 s5 D :: l), fun x _ => (16 - x).toNat,
    ⟨0, ⟨none, 0, 0⟩, rfl, by omega, (H.dr (blk a1 _ _)).own_nil (α := ByteArray) _⟩, ?_⟩
  rintro x w1 ⟨i, sp, rfl, hi, H⟩
  refine dBoth (fun hlt => ?_) (fun hge => ?_)
  · have hlt' : i < 16 := by omega
    replace H := H.drew
    refine lda H ?_
    rw [show (40 : Int) = ((40 : Nat) : Int) from rfl]
    refine ref_Noughts16 (n := 40) H (by omega) fun H => ⟨_, rfl, ?_, ?_⟩
    · exact cella H
    refine al H (cs := [.string (bs page0)]) (fun a32 w H => ⟨?_, ?_⟩) rfl
    · exact cella H
    refine psh1 (s := sp) (xs := List.replicate i (bs page0)) (bs page0) S_l_string H (by simp; omega) (fun s34 w H => ?_) (by repeat (first | assumption | constructor)) (by repeat (first | assumption | constructor))
    refine sta H fun w H => ?_
    refine ⟨⟨i + 1, s34, by rw [i64_id (by omega)]; omega, by omega, ?_⟩, by rw [i64_id (by omega)]; (try dsimp only); omega⟩
    rw [List.replicate_succ']
    exact (H.dr (blk a32 _ _)).ord4 (a := own T_string s34 _) (b := blk a10 _ _) (c := blk a3 _ _) (d := RDk s1 s2 s5 D)
  · obtain rfl : i = 16 := by omega
    rw [show List.replicate 16 (bs page0) = pages0.map bs by simp [pages0]] at H
    replace H := H.share (s := sp) (xs := pages0.map bs)
    refine ⟨fun at_ sl x w' => ∃ (i : Nat), x = ((34 + i : Nat) : Int) ∧ i ≤ 18 ∧ Heap F w' (own T_int at_ ((zerosW.take i).map (·.1)) :: own T_string sl ((zerosW.take i).map fun x => bs x.2) :: imm sp (pages0.map bs) :: blk a10 T_ref16_Log (lwc s1 s2 s5 sp D fr 0 0 0 false) :: blk a3 T_ref05_Disk [(Sl.v ⟨none, 0, 0⟩), (Sl.v ⟨none, 0, 0⟩), .bool false, .int .i64 0, (Sl.v ⟨none, 0, 0⟩)] :: RDk s1 s2 s5 D :: l), fun _ _ x _ => (52 - x).toNat,
      ⟨0, rfl, by omega, (H.own_nil (α := ByteArray) _).own_nil (α := Int) _⟩, ?_⟩
    rintro at_ sl x w1 ⟨i, rfl, hi, H⟩
    refine dBoth (fun hlt => ?_) (fun hge => ?_)
    · have hlt' : i < 18 := by omega
      refine al H (cs := [.int .i64 ((34 + i : Nat) : Int)]) (fun a43 w H => ?_) rfl
      refine psh1 (s := at_) (xs := (zerosW.take i).map (·.1)) ((34 + i : Nat) : Int) S_l_int H (by simp; omega) (fun s45 w H => ?_) (by repeat (first | assumption | constructor)) (by repeat (first | assumption | constructor))
      rw [show (64 : Int) = ((64 : Nat) : Int) from rfl]
      refine ref_Noughts16 (n := 64) H (by omega) fun H => ⟨_, rfl, ?_⟩
      refine al H (cs := [.string (bs zeros64)]) (fun a50 w H => ?_) rfl
      refine psh1 (s := sl) (xs := (zerosW.take i).map fun x => bs x.2) (bs zeros64) S_l_string H (by simp; omega) (fun s52 w H => ?_) (by repeat (first | assumption | constructor)) (by repeat (first | assumption | constructor))
      refine ⟨⟨i + 1, by rw [i64_id (by omega)]; omega, by omega, ?_⟩, by rw [i64_id (by omega)]; (try dsimp only); omega⟩
      rw [show (zerosW.take (i + 1)).map (·.1) = (zerosW.take i).map (·.1) ++ [((34 + i : Nat) : Int)] by rw [zerosW_take hlt', List.map_append]; rfl,
        show (zerosW.take (i + 1)).map (fun x => bs x.2) = (zerosW.take i).map (fun x => bs x.2) ++ [bs zeros64] by rw [zerosW_take hlt', List.map_append]; rfl]
      replace H := H.dr2 (blk a50 _ _) (blk a43 _ _)
      exact H.ord2 (a := own T_int s45 _) (b := own T_string s52 _)
    · obtain rfl : i = 18 := by omega
      rw [List.take_of_length_le (show zerosW.length ≤ 18 by decide)] at H
      repeat (first | refine lda H ?_ | refine ld0 H ?_ | refine ldaN H ?_ | refine ld0N H ?_ | refine sta H fun w H => ?_ | refine st0 H fun w H => ?_)
      refine ref_settle16 (P := List.replicate 16 page0) (pre := zerosW) (D := D) (e := 0) (e' := 1) (home := 0) (sa := at_) (sl := sl) (sp := sp) (X := X) H hX pages0_ok.1 pages0_ok.2 (fun x hx => ?_) (by decide) (by omega) (by decide) (by repeat (first | assumption | constructor)) (by repeat (first | assumption | constructor)) (by repeat (first | assumption | constructor)) fun s1' s2' w H => ⟨s1', s2', _, _, s5, _, sp, _, _, _, _, _, rfl, ?_⟩
      · simp only [zerosW, List.mem_map, List.mem_range] at hx
        obtain ⟨j, hj, rfl⟩ := hx
        simp only; omega
      refine al H (cs := [(Sl.v ⟨none, 0, 0⟩), (Sl.v ⟨none, 0, 0⟩), .bool false, .int .i64 0, (Sl.v ⟨none, 0, 0⟩), .int .i64 0, (Sl.v ⟨none, 0, 0⟩), .int .u32 0, .int .i64 0, .int .i64 0, .bool false]) (fun a79 w H => ?_) zc_ref16_Log
      repeat (first | refine lda H ?_ | refine ld0 H ?_ | refine ldaN H ?_ | refine ld0N H ?_ | refine sta H fun w H => ?_ | refine st0 H fun w H => ?_)
      exact k s1' s2' _ (Heap.kp 5 (H.take (c := RDk s1' s2' s5 _) (by repeat (first | assumption | constructor))))
theorem law_from16 (n : Int) (k : Q (.int .i64 (if n < 0 ∨ n > 8 then 3 else n)) w) : Does Tryd.prog N_law16_from #[.int .i64 n] w Q := by
  refine F_law16_from_does _ _ _ ?_
  unfold F_law16_from
  refine dBoth (fun h => ?_) (fun h => dBoth (fun h2 => ?_) (fun h2 => ?_))
  · rwa [if_pos (.inl h)] at k
  · rwa [if_pos (.inr h2)] at k
  · rwa [if_neg (by omega)] at k
def D0 : Disk := Disk.new 60
theorem D0_ok : D0.ok := ⟨fun s hs => by simp [D0, Disk.new] at hs; rw [hs]; simp, by simp [D0, Disk.new], fun w hw => by simp [D0, Disk.new] at hw, by simp [D0, Disk.new]⟩
/-- a part, formatted, and the document's disk: both are the same disk -/
theorem law_part16 (H : Heap F w l) {n : Int} (h0 : 0 ≤ n) (h8 : n ≤ 8) (hf : (Nac.format D0 ⟨n, 52⟩).2 = 0) (hH : Has l Half)
    (k : ∀ (d p : Nat) (s1 s2 s5 : Sl) w', Heap F w' (PartAt p d ⟨n, 52⟩ :: DiskAt d (Nac.format D0 ⟨n, 52⟩).1 :: RDk s1 s2 s5 (Nac.format D0 ⟨n, 52⟩).1 :: l) → Q (.tuple #[.pointer (some ⟨d, 0, none⟩), .pointer (some ⟨p, 0, none⟩), dv s1 s2 s5 (Nac.format D0 ⟨n, 52⟩).1, .bool true]) w') :
    Does Tryd.prog N_law16_part #[.int .i64 n] w Q := by
  refine F_law16_part_does _ _ _ ?_
  unfold F_law16_part
  refine al H (cs := [(Sl.v ⟨none, 0, 0⟩), (Sl.v ⟨none, 0, 0⟩), .bool false, .int .i64 0, (Sl.v ⟨none, 0, 0⟩)]) (fun a1 w H => ?_) zc_ref05_Disk
  refine disk_New H (n := 60) (by decide) (by decide) fun d w H => ⟨_, _, rfl, ?_⟩
  rw [show (60 : Int) = ((60 : Nat) : Int) from rfl]
  refine ref_New H (n := 60) (by decide) (by decide) fun s1 w H => ⟨s1, ⟨none, 0, 0⟩, _, _, ⟨none, 0, 0⟩, _, rfl, ?_⟩
  refine al H (cs := [(Sl.v ⟨none, 0, 0⟩), (Sl.v ⟨none, 0, 0⟩), .bool false, .int .i64 0, (Sl.v ⟨none, 0, 0⟩)]) (fun a15 w H => ?_) zc_ref05_Disk
  repeat (first | refine lda H ?_ | refine ld0 H ?_ | refine ldaN H ?_ | refine ld0N H ?_ | refine sta H fun w H => ?_ | refine st0 H fun w H => ?_)
  refine cF rfl ?_
  rw [show Disk.new (60 : Int).toNat = D0 from rfl, show Disk.new 60 = D0 from rfl] at H
  refine ext_New (x := ⟨n, 52⟩) (D := D0) H ⟨h0, by dsimp only; omega, by dsimp only; omega⟩ (fun _ p w H => ⟨_, _, rfl, ?_⟩) (fun hl w H => ?_)
  · intro J hJ J82 hJ82
    refine cF rfl ?_
    refine wal_Format (X := ⟨n, 52⟩) (D := D0) H rfl (by decide) (fun w H => ⟨_, rfl, hJ82 _ _ (cF (by rw [hf]; rfl) (hJ _ ?_))⟩) .h .h (.t (.t (.t hH)))
    repeat (first | refine lda H ?_ | refine ld0 H ?_ | refine ldaN H ?_ | refine ld0N H ?_ | refine sta H fun w H => ?_ | refine st0 H fun w H => ?_)
    refine ref_Format16 (D := D0) (X := ⟨n, 52⟩) (fr := n) H (by repeat (first | assumption | constructor)) ⟨rfl, h0, by omega, rfl⟩ (by decide) fun s1' s2' w H => ⟨s1', s2', _, _, ⟨none, 0, 0⟩, _, rfl, ?_⟩
    repeat (first | refine lda H ?_ | refine ld0 H ?_ | refine ldaN H ?_ | refine ld0N H ?_ | refine sta H fun w H => ?_ | refine st0 H fun w H => ?_)
    replace H := H.drew
    repeat (first | refine lda H ?_ | refine ld0 H ?_ | refine ldaN H ?_ | refine ld0N H ?_ | refine sta H fun w H => ?_ | refine st0 H fun w H => ?_)
    rw [hf]
    refine k d p s1' s2' ⟨none, 0, 0⟩ _ ?_
    replace H := H.dr2 (blk a1 _ _) (blk a15 _ _)
    replace H := H.dr (RDk s1 ⟨none, 0, 0⟩ ⟨none, 0, 0⟩ D0)
    exact H.ord3 (a := PartAt p d _) (b := DiskAt d _) (c := RDk s1' s2' _ _)
  · have : lies ⟨n, 52⟩ D0.has.length = true := by simp [lies, D0, Disk.new]; omega
    rw [this] at hl; cases hl
end
end Go.Proofs.YtkfcmpngcanffaaDoor.G
