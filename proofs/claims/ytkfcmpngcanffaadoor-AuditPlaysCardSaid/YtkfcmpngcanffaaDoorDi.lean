import Derived.Test.YtkfcmpngcanffaaDoorDh
set_option linter.unusedVariables false
set_option linter.unusedSimpArgs false
namespace Go.VC
open Go Go.RowKit
theorem Heap.blk_own0 {α : Type} [Rep α] {F : Bs} {w : World} {l r : List SP} {b : Nat} {e : TypeId} (H : Heap F w l) (hT : Take l (blk b e []) r := by repeat (first | assumption | constructor)) : Heap F w (own e ⟨some ⟨b, 0, none⟩, 0, 0⟩ ([] : List α) :: r) :=
  (H.take hT).ent1 fun ro h hb => ⟨rfl, .inr ⟨b, _, rfl, hb, Nat.le_refl _, mx (show 0 ≤ 4000000000000 by decide), by simp, fun i x hi => by simp at hi⟩⟩
theorem Heap.tln {F : Bs} {w : World} : ∀ (n : Nat) {l : List SP}, Heap F w l → Heap F w (l.drop n)
  | 0, _, H => H
  | n + 1, [], H => H
  | n + 1, _ :: l, H => Heap.tln n H.tl
theorem Heap.kp {F : Bs} {w : World} {c : SP} : ∀ (n : Nat) {l : List SP}, Heap F w (c :: l) → Heap F w (c :: l.drop n)
  | 0, _, H => H
  | n + 1, [], H => H
  | n + 1, a :: l, H => Heap.kp n (H.dr a (.t .h))
end Go.VC
namespace Go.Proofs.YtkfcmpngcanffaaDoor.G
open Go Go.VC Go.RowKit Go.Proofs Go.Proofs.YtkfcmpngcanffaaDoor Nac
attribute [local irreducible] Tryd.prog
section
variable {F : Bs} {w : World} {l r : List SP} {b d p : Nat} {D : Disk} {Q : Value → World → Prop} {s1 s2 s5 : Sl}
theorem rd_re (H : Heap F w l) (hR : Has l (RDk s1 s2 s5 D)) : Heap F w (RDk s1 s2 s5 D :: l) := H.add hR fun _ _ h => h
theorem rd_Crash (H : Heap F w l) (hR : Has l (RDk s1 s2 s5 D)) {sv : Sl} {surv : List Bool} (hS : Has l (imm sv surv))
    (k : ∀ (s1' s2' : Sl) w', Heap F w' (RDk s1' s2' s5 (D.crash surv) :: l) → Q (dv s1' s2' s5 (D.crash surv)) w') : Does Tryd.prog N_ref05_Disk_Crash #[dv s1 s2 s5 D, .slice sv.a sv.len sv.cap] w Q := by
  refine F_ref05_Disk_Crash_does _ _ _ _ _ _ _ _ ?_
  unfold F_ref05_Disk_Crash
  refine al H (cs := [s1.v, s2.v, .bool D.off, .int .i64 D.left, s5.v]) (fun a1 w H => ?_) rfl
  refine al H (cs := [(Sl.v ⟨none, 0, 0⟩), (Sl.v ⟨none, 0, 0⟩), .bool false, .int .i64 0, (Sl.v ⟨none, 0, 0⟩)]) (fun a3 w H => ?_) zc_ref05_Disk
  refine lda H (cBoth (fun hoff => ?_) (fun hoff => ?_))
  · have e : D.crash surv = D := by simp [Disk.crash, hoff]
    rw [e] at k
    repeat (first | refine lda H ?_ | refine ld0 H ?_ | refine ldaN H ?_ | refine ld0N H ?_ | refine sta H fun w H => ?_ | refine st0 H fun w H => ?_)
    refine k s1 s2 _ ?_
    replace H := H.dr2 (blk a1 _ _) (blk a3 _ _)
    exact rd_re H hR
  · have e : D.crash surv = { D with has := Disk.layS D.has D.waits surv, waits := [], off := true, left := -1 } := by simp [Disk.crash, hoff]
    rw [e] at k
    repeat (first | refine lda H ?_ | refine ld0 H ?_ | refine ldaN H ?_ | refine ld0N H ?_ | refine sta H fun w H => ?_ | refine st0 H fun w H => ?_)
    refine rd_laid (all := false) H (.t (.t hR)) (.t (.t hS)) fun s' w H => ⟨s', ⟨none, 0, 0⟩, _, _, s5, rfl, ?_⟩
    rw [cond_false] at H
    repeat (first | refine lda H ?_ | refine ld0 H ?_ | refine ldaN H ?_ | refine ld0N H ?_ | refine sta H fun w H => ?_ | refine st0 H fun w H => ?_)
    refine k s' ⟨none, 0, 0⟩ _ ?_
    replace H := H.dr2 (blk a1 _ _) (blk a3 _ _)
    have ok := H.pure (.h) fun _ _ h => h.2.2.2
    replace H := (rd_open H .h).2
    replace H := rd_close H (s1 := s') (s2 := ⟨none, 0, 0⟩) (s5 := s5) .h (.t .h) (.t (.t .h)) { D with has := Disk.layS D.has D.waits surv, waits := [], off := true, left := -1 } ⟨ok.has, ok.size, ok.waits, by simp⟩ rfl rfl rfl
    exact H.kp 4
theorem rd_step (H : Heap F w l) (hR : Has l (RDk s1 s2 s5 D))
    (k : ∀ (s1' s2' : Sl) w', Heap F w' (RDk s1' s2' s5 D.goes.1 :: l) → Q (.tuple #[dv s1' s2' s5 D.goes.1, .bool D.goes.2]) w') : Does Tryd.prog N_ref05_Disk_step #[dv s1 s2 s5 D] w Q := by
  refine F_ref05_Disk_step_does _ _ _ _ _ _ _ ?_
  unfold F_ref05_Disk_step
  refine al H (cs := [s1.v, s2.v, .bool D.off, .int .i64 D.left, s5.v]) (fun a1 w H => ?_) rfl
  refine al H (cs := [(Sl.v ⟨none, 0, 0⟩), (Sl.v ⟨none, 0, 0⟩), .bool false, .int .i64 0, (Sl.v ⟨none, 0, 0⟩)]) (fun a3 w H => ?_) zc_ref05_Disk
  obtain ⟨ok, H⟩ := rd_open H (.t (.t hR))
  have hb := ok.left
  refine lda H (cBoth (fun hoff => ?_) (fun hoff => lda H (cBoth (fun h0 => ?_) (fun h0 => ?_))))
  · have e : D.goes = (D, false) := by simp [Disk.goes, hoff]
    rw [e] at k
    replace H := H.dr2 (imm s1 _) (imm s2 _)
    replace H := H.dr (imm s5 _)
    repeat (first | refine lda H ?_ | refine ld0 H ?_ | refine ldaN H ?_ | refine ld0N H ?_ | refine sta H fun w H => ?_ | refine st0 H fun w H => ?_)
    refine k s1 s2 _ ?_
    replace H := H.dr2 (blk a1 _ _) (blk a3 _ _)
    exact rd_re H hR
  · have h0' : D.left = 0 := by simpa using h0
    have e : D.goes = (D.crash D.surv, false) := by rw [Disk.goes, hoff, cond_false, if_pos h0']
    rw [e] at k
    repeat (first | refine lda H ?_ | refine ld0 H ?_ | refine ldaN H ?_ | refine ld0N H ?_ | refine sta H fun w H => ?_ | refine st0 H fun w H => ?_)
    refine rd_Crash H (.t (.t (.t (.t (.t hR))))) (sv := s5) (surv := D.surv) (.t (.t .h)) fun s1' s2' w H => ⟨s1', s2', _, _, s5, rfl, ?_⟩
    repeat (first | refine lda H ?_ | refine ld0 H ?_ | refine ldaN H ?_ | refine ld0N H ?_ | refine sta H fun w H => ?_ | refine st0 H fun w H => ?_)
    refine k s1' s2' _ ?_
    replace H := H.dr2 (imm s1 _) (imm s2 _)
    replace H := H.dr (imm s5 _)
    exact H.dr2 (blk a1 _ _) (blk a3 _ _)
  · have h0' : D.left ≠ 0 := by simpa using h0
    intro J hJ
    refine lda H (dBoth (fun h1 => ?_) (fun h1 => ?_))
    · have h1' : 0 < D.left := h1
      have e : D.goes = ({ D with left := D.left - 1 }, true) := by rw [Disk.goes, hoff, cond_false, if_neg h0', if_pos h1']
      rw [e] at k
      refine lda H (sta H fun w H => hJ _ ?_)
      rw [i64_id (by omega)] at H
      repeat (first | refine lda H ?_ | refine ld0 H ?_ | refine ldaN H ?_ | refine ld0N H ?_ | refine sta H fun w H => ?_ | refine st0 H fun w H => ?_)
      refine k s1 s2 _ ?_
      replace H := H.dr2 (blk a1 _ _) (blk a3 _ _)
      replace H := rd_close H (s1 := s1) (s2 := s2) (s5 := s5) .h (.t .h) (.t (.t .h)) { D with left := D.left - 1 } ⟨ok.has, ok.size, ok.waits, by dsimp only; omega⟩ rfl rfl rfl
      exact H.kp 3
    · have h1' : ¬ 0 < D.left := h1
      have e : D.goes = (D, true) := by rw [Disk.goes, hoff, cond_false, if_neg h0', if_neg h1']
      rw [e] at k
      refine hJ _ ?_
      replace H := H.dr2 (imm s1 _) (imm s2 _)
      replace H := H.dr (imm s5 _)
      repeat (first | refine lda H ?_ | refine ld0 H ?_ | refine ldaN H ?_ | refine ld0N H ?_ | refine sta H fun w H => ?_ | refine st0 H fun w H => ?_)
      refine k s1 s2 _ ?_
      replace H := H.dr2 (blk a1 _ _) (blk a3 _ _)
      exact rd_re H hR
theorem rd_Read (H : Heap F w l) (hR : Has l (RDk s1 s2 s5 D)) {at_ : Int}
    (k : ∀ w', Heap F w' l → Q (.tuple #[.string (bs (D.read at_).1), .int .i64 (D.read at_).2]) w') : Does Tryd.prog N_ref05_Disk_Read #[dv s1 s2 s5 D, .int .i64 at_] w Q := by
  refine F_ref05_Disk_Read_does _ _ _ _ _ _ _ _ ?_
  unfold F_ref05_Disk_Read
  refine al H (cs := [s1.v, s2.v, .bool D.off, .int .i64 D.left, s5.v]) (fun a1 w H => ?_) rfl
  obtain ⟨ok, H⟩ := rd_open H (.t hR)
  have hsz := ok.size
  have l1 := H.len (s := s1) (xs := D.has.map bs)
  have l2 := H.len (s := s2) (xs := D.waits.map RW.mk)
  have b2 := H.bndI (s := s2) (xs := D.waits.map RW.mk)
  simp only [List.length_map] at l1 l2 b2
  intro J hJ
  have cl : ∀ {w' : World}, Heap F w' (imm s1 (D.has.map bs) :: imm s2 (D.waits.map RW.mk) :: imm s5 D.surv :: blk a1 T_ref05_Disk [s1.v, s2.v, .bool D.off, .int .i64 D.left, s5.v] :: l) → Heap F w' l := fun H =>
    ((H.dr2 (imm s1 _) (imm s2 _)).dr (imm s5 _)).dr (blk a1 _ _)
  refine dBoth (fun h0 => ?_) (fun h0 => ld0 H (dBoth (fun h1 => ?_) (fun h1 => hJ _ ?_)))
  · have h0' : at_ < 0 := h0
    have hin : D.inB at_ = false := by simp [Disk.inB]; omega
    have e : D.read at_ = ([], 4) := by simp [Disk.read, hin]
    rw [e] at k
    exact k _ (cl H)
  · have h1' : at_ ≥ s1.len := h1
    have hin : D.inB at_ = false := by simp [Disk.inB]; omega
    have e : D.read at_ = ([], 4) := by simp [Disk.read, hin]
    rw [e] at k
    exact k _ (cl H)
  have h0' : ¬ at_ < 0 := h0
  have h1' : ¬ at_ ≥ s1.len := h1
  have hin : D.inB at_ = true := by simp [Disk.inB]; omega
  refine lda H (cBoth (fun hoff => ?_) (fun hoff => lda H ?_))
  · have e : D.read at_ = ([], 9) := by simp [Disk.read, hin, hoff]
    rw [e] at k
    exact k _ (cl H)
  have e : D.read at_ = (Disk.last D.waits at_ (D.has.getD at_.toNat []), 0) := by simp [Disk.read, hin, hoff]
  rw [e] at k
  refine ⟨fun x w' => ∃ i : Nat, x = (i : Int) - 1 ∧ i ≤ D.waits.length ∧ (∀ j (hj : j < D.waits.length), i ≤ j → D.waits[j].at_ ≠ at_) ∧ Heap F w' (imm s1 (D.has.map bs) :: imm s2 (D.waits.map RW.mk) :: imm s5 D.surv :: blk a1 T_ref05_Disk [s1.v, s2.v, .bool D.off, .int .i64 D.left, s5.v] :: l), fun x _ => (x + 1).toNat,
    ⟨D.waits.length, by rw [i64_id (by omega)]; omega, Nat.le_refl _, fun j hj hi => by omega, H⟩, ?_⟩
  rintro x w1 ⟨i, rfl, hi, hno, H⟩
  refine dBoth (fun hge => ?_) (fun hlt => ?_)
  · have hge' : (i : Int) - 1 ≥ 0 := hge
    obtain ⟨i, rfl⟩ : ∃ n, i = n + 1 := ⟨i - 1, by omega⟩
    have hlt' : i < D.waits.length := by omega
    have en : (((i + 1 : Nat) : Int) - 1).toNat = i := by omega
    have e2 : (D.waits.map RW.mk)[i]'(by simpa using hlt') = RW.mk D.waits[i] := by simp
    refine lda H ?_
    refine idxI (s := s2) (xs := D.waits.map RW.mk) H (by omega) (by simp; omega) fun a cs H1 hAt => ?_
    simp only [en, e2] at H1
    have ecs : cs = [.int .i64 D.waits[i].at_, .string (bs D.waits[i].b)] := H1.pure .h fun _ _ h => h
    subst ecs
    refine At.ld0 hAt (cBoth (fun heq => ?_) (fun hne => ?_))
    · refine lda H ?_
      refine idxI (s := s2) (xs := D.waits.map RW.mk) H (by omega) (by simp; omega) fun a cs H1 hAt => ?_
      simp only [en, e2] at H1
      have ecs : cs = [.int .i64 D.waits[i].at_, .string (bs D.waits[i].b)] := H1.pure .h fun _ _ h => h
      subst ecs
      refine At.ld hAt ?_
      have e3 : Disk.last D.waits at_ (D.has.getD at_.toNat []) = D.waits[i].b := last_at hlt' (by simpa using heq) fun j hj hij => hno j hj (by omega)
      rw [e3] at k
      exact k _ (cl H)
    · refine ⟨⟨i, by rw [i64_id (by omega)]; omega, by omega, fun j hj hij => ?_, H⟩, by rw [i64_id (by omega)]; dsimp only; omega⟩
      by_cases hji : j = i
      · subst hji; simpa using hne
      · exact hno j hj (by omega)
  · have hlt' : ¬ (i : Int) - 1 ≥ 0 := hlt
    obtain rfl : i = 0 := by omega
    have e3 : Disk.last D.waits at_ (D.has.getD at_.toNat []) = D.has.getD at_.toNat [] := last_none fun x hx => by
      obtain ⟨j, hj, rfl⟩ := List.getElem_of_mem hx
      exact hno j hj (by omega)
    rw [e3] at k
    have hh : D.has.getD at_.toNat [] = D.has[at_.toNat]'(by omega) := by simp [List.getD_eq_getElem?_getD, List.getElem?_eq_getElem (show at_.toNat < D.has.length by omega)]
    rw [hh] at k
    refine ld0 H ?_
    refine idxI1 (s := s1) (xs := D.has.map bs) H (by omega) (by simp; omega) (fun a hc => ldT_cell _ hc ?_)
    simp only [List.getElem_map]
    exact k _ (cl H)
theorem rd_Write (H : Heap F w l) (hR : Has l (RDk s1 s2 s5 D)) {at_ : Int} {b : List UInt8} (hn : D.waits.length < 1000000)
    (k : ∀ (s1' s2' : Sl) w', Heap F w' (RDk s1' s2' s5 (D.write at_ b).1 :: l) → Q (.tuple #[dv s1' s2' s5 (D.write at_ b).1, .int .i64 (D.write at_ b).2]) w') : Does Tryd.prog N_ref05_Disk_Write #[dv s1 s2 s5 D, .int .i64 at_, .string (bs b)] w Q := by
  refine F_ref05_Disk_Write_does _ _ _ _ _ _ _ _ _ ?_
  unfold F_ref05_Disk_Write
  have l1 : (D.has.map bs).length = s1.len := H.pure hR fun _ _ h => h.1.1
  rw [List.length_map] at l1
  refine al H (cs := [s1.v, s2.v, .bool D.off, .int .i64 D.left, s5.v]) (fun a1 w H => ?_) rfl
  refine al H (cs := [(Sl.v ⟨none, 0, 0⟩), (Sl.v ⟨none, 0, 0⟩), .bool false, .int .i64 0, (Sl.v ⟨none, 0, 0⟩)]) (fun a3 w H => ?_) zc_ref05_Disk
  intro J hJ J2 hJ2
  have out : D.inB at_ = false → J2 true w := fun hin => by
    refine hJ2 _ _ (cT rfl ?_)
    have e : D.write at_ b = (D, 4) := by simp [Disk.write, hin]
    rw [e] at k
    repeat (first | refine lda H ?_ | refine ld0 H ?_ | refine ldaN H ?_ | refine ld0N H ?_ | refine sta H fun w H => ?_ | refine st0 H fun w H => ?_)
    refine k s1 s2 _ ?_
    exact (rd_re H (.t (.t hR))).kp 2
  refine dBoth (fun h0 => out ?_) (fun h0 => ld0 H ?_)
  · have h0' : at_ < 0 := h0
    simp [Disk.inB]; omega
  have h0' : ¬ at_ < 0 := h0
  by_cases h1 : at_ ≥ s1.len
  · rw [decide_eq_true h1]
    exact out (by simp [Disk.inB]; omega)
  rw [decide_eq_false h1]
  have hin : D.inB at_ = true := by simp [Disk.inB]; omega
  refine hJ2 _ _ (cF rfl (hJ _ ?_))
  refine cBoth (fun h64 => ?_) (fun h64 => ?_)
  · have : b.length ≠ 64 := by simp at h64; omega
    have e : D.write at_ b = (D, 1) := by simp [Disk.write, hin, this]
    rw [e] at k
    repeat (first | refine lda H ?_ | refine ld0 H ?_ | refine ldaN H ?_ | refine ld0N H ?_ | refine sta H fun w H => ?_ | refine st0 H fun w H => ?_)
    refine k s1 s2 _ ?_
    exact (rd_re H (.t (.t hR))).kp 2
  have h64' : b.length = 64 := by simp at h64; omega
  have e : D.write at_ b = cond D.goes.2 ({ D.goes.1 with waits := D.goes.1.waits ++ [⟨at_, b⟩] }, 0) (D.goes.1, 9) := by simp [Disk.write, hin, h64']
  rw [e] at k
  have hgl := Disk.goes_length D
  have hgw := Disk.goes_waits D
  repeat (first | refine lda H ?_ | refine ld0 H ?_ | refine ldaN H ?_ | refine ld0N H ?_ | refine sta H fun w H => ?_ | refine st0 H fun w H => ?_)
  refine rd_step H (.t (.t hR)) fun s1' s2' w H => ⟨s1', s2', _, _, s5, _, rfl, ?_⟩
  generalize D.goes = DE at *
  obtain ⟨E, g⟩ := DE
  dsimp only at *
  repeat (first | refine lda H ?_ | refine ld0 H ?_ | refine ldaN H ?_ | refine ld0N H ?_ | refine sta H fun w H => ?_ | refine st0 H fun w H => ?_)
  cases g
  · refine cT rfl ?_
    rw [cond_false] at k
    repeat (first | refine lda H ?_ | refine ld0 H ?_ | refine ldaN H ?_ | refine ld0N H ?_ | refine sta H fun w H => ?_ | refine st0 H fun w H => ?_)
    refine k s1' s2' _ ?_
    exact H.tln 2
  · refine cF rfl ?_
    rw [cond_true] at k
    dsimp only at k
    refine al H (cs := []) (fun a4 w H => ?_) rfl
    obtain ⟨ok, H⟩ := rd_open H (s1 := s1') (s2 := s2') (s5 := s5) (D := E) (by repeat (first | assumption | constructor))
    replace H := H.blk_own0 (α := RW) (b := a4)
    refine lda H ?_
    refine apI (s := ⟨some ⟨a4, 0, none⟩, 0, 0⟩) (xs := ([] : List RW)) (ys := E.waits.map RW.mk) S_l_ref05_Write H (by simp; omega) (fun s3 w H => ?_)
    rw [List.nil_append] at H
    refine al H (cs := [.int .i64 at_, .string (bs b)]) (fun a6 w H => ?_) rfl
    replace H : Heap F w (rep [.int .i64 at_, .string (bs b)] (RW.mk ⟨at_, b⟩) :: _) := H.add0 fun _ => rfl
    refine psh (xs := E.waits.map RW.mk) (y := RW.mk ⟨at_, b⟩) (s := s3) (b := a6) S_l_ref05_Write H (by simp; omega) fun s4 w H => ?_
    replace H := H.share (α := RW) (s := s4)
    repeat (first | refine lda H ?_ | refine ld0 H ?_ | refine ldaN H ?_ | refine ld0N H ?_ | refine sta H fun w H => ?_ | refine st0 H fun w H => ?_)
    refine k s1' s4 _ ?_
    replace H := rd_close H (s1 := s1') (s2 := s4) (s5 := s5) (L1 := E.has.map bs) (L2 := E.waits.map RW.mk ++ [RW.mk ⟨at_, b⟩]) (L5 := E.surv) (by repeat (first | assumption | constructor)) (by repeat (first | assumption | constructor)) (by repeat (first | assumption | constructor)) { E with waits := E.waits ++ [⟨at_, b⟩] } ⟨ok.has, ok.size, fun x hx => by
      rcases List.mem_append.1 hx with h | h
      · exact ok.waits x h
      · simp at h; subst h; exact ⟨by dsimp only; omega, by dsimp only; omega, h64'⟩, ok.left⟩ rfl (by simp) rfl
    exact H.kp 9
theorem rd_Flush (H : Heap F w l) (hR : Has l (RDk s1 s2 s5 D))
    (k : ∀ (s1' s2' : Sl) w', Heap F w' (RDk s1' s2' s5 D.flush.1 :: l) → Q (.tuple #[dv s1' s2' s5 D.flush.1, .int .i64 D.flush.2]) w') : Does Tryd.prog N_ref05_Disk_Flush #[dv s1 s2 s5 D] w Q := by
  refine F_ref05_Disk_Flush_does _ _ _ _ _ _ _ ?_
  unfold F_ref05_Disk_Flush
  refine al H (cs := [s1.v, s2.v, .bool D.off, .int .i64 D.left, s5.v]) (fun a1 w H => ?_) rfl
  refine al H (cs := [(Sl.v ⟨none, 0, 0⟩), (Sl.v ⟨none, 0, 0⟩), .bool false, .int .i64 0, (Sl.v ⟨none, 0, 0⟩)]) (fun a3 w H => ?_) zc_ref05_Disk
  unfold Disk.flush at k
  repeat (first | refine lda H ?_ | refine ld0 H ?_ | refine ldaN H ?_ | refine ld0N H ?_ | refine sta H fun w H => ?_ | refine st0 H fun w H => ?_)
  refine rd_step H (.t (.t hR)) fun s1' s2' w H => ⟨s1', s2', _, _, s5, _, rfl, ?_⟩
  generalize D.goes = DE at *
  obtain ⟨E, g⟩ := DE
  dsimp only at *
  repeat (first | refine lda H ?_ | refine ld0 H ?_ | refine ldaN H ?_ | refine ld0N H ?_ | refine sta H fun w H => ?_ | refine st0 H fun w H => ?_)
  cases g
  · refine cT rfl ?_
    rw [cond_false] at k
    repeat (first | refine lda H ?_ | refine ld0 H ?_ | refine ldaN H ?_ | refine ld0N H ?_ | refine sta H fun w H => ?_ | refine st0 H fun w H => ?_)
    refine k s1' s2' _ ?_
    exact H.tln 2
  · refine cF rfl ?_
    rw [cond_true] at k
    dsimp only at k
    repeat (first | refine lda H ?_ | refine ld0 H ?_ | refine ldaN H ?_ | refine ld0N H ?_ | refine sta H fun w H => ?_ | refine st0 H fun w H => ?_)
    replace H := H.imm_nil (α := Bool)
    refine rd_laid (s1 := s1') (s2 := s2') (s5 := s5) (D := E) (all := true) (sv := ⟨none, 0, 0⟩) (surv := []) H (by repeat (first | assumption | constructor)) .h fun s' w H => ⟨s', ⟨none, 0, 0⟩, _, _, s5, rfl, ?_⟩
    rw [cond_true] at H
    repeat (first | refine lda H ?_ | refine ld0 H ?_ | refine ldaN H ?_ | refine ld0N H ?_ | refine sta H fun w H => ?_ | refine st0 H fun w H => ?_)
    refine k s' ⟨none, 0, 0⟩ _ ?_
    exact (H.dr (blk a3 _ _)).kp 3
theorem rd_Arm (H : Heap F w l) (hR : Has l (RDk s1 s2 s5 D)) {n : Int} {sv : Sl} {surv : List Bool} (hn : n ≤ 9223372036854775807) (hS : Has l (imm sv surv))
    (k : ∀ (s5' : Sl) w', Heap F w' (RDk s1 s2 s5' (D.arm n surv) :: l) → Q (dv s1 s2 s5' (D.arm n surv)) w') : Does Tryd.prog N_ref05_Disk_Arm #[dv s1 s2 s5 D, .int .i64 n, .slice sv.a sv.len sv.cap] w Q := by
  refine F_ref05_Disk_Arm_does _ _ _ _ _ _ _ _ _ ?_
  unfold F_ref05_Disk_Arm
  refine al H (cs := [s1.v, s2.v, .bool D.off, .int .i64 D.left, s5.v]) (fun a1 w H => ?_) rfl
  refine al H (cs := [(Sl.v ⟨none, 0, 0⟩), (Sl.v ⟨none, 0, 0⟩), .bool false, .int .i64 0, (Sl.v ⟨none, 0, 0⟩)]) (fun a3 w H => ?_) zc_ref05_Disk
  unfold Disk.arm at k
  refine lda H (cBoth (fun hoff => ?_) (fun hoff => ?_))
  · rw [hoff, cond_true] at k
    repeat (first | refine lda H ?_ | refine ld0 H ?_ | refine ldaN H ?_ | refine ld0N H ?_ | refine sta H fun w H => ?_ | refine st0 H fun w H => ?_)
    refine k s5 _ ?_
    exact (rd_re H (by repeat (first | assumption | constructor))).kp 2
  rw [show D.off = false by simpa using hoff, cond_false] at k
  obtain ⟨ok, H⟩ := rd_open H (s1 := s1) (s2 := s2) (s5 := s5) (D := D) (by repeat (first | assumption | constructor))
  repeat (first | refine lda H ?_ | refine ld0 H ?_ | refine ldaN H ?_ | refine ld0N H ?_ | refine sta H fun w H => ?_ | refine st0 H fun w H => ?_)
  have hoff' : D.off = false := by simpa using hoff
  intro J hJ
  refine dBoth (fun h0 => ?_) (fun h0 => hJ _ ?_)
  · have h0' : n < 0 := h0
    refine sta H fun w H => hJ _ ?_
    rw [if_neg (show ¬ 0 ≤ n by omega)] at k
    repeat (first | refine lda H ?_ | refine ld0 H ?_ | refine ldaN H ?_ | refine ld0N H ?_ | refine sta H fun w H => ?_ | refine st0 H fun w H => ?_)
    rw [hoff'] at H ⊢
    refine k sv _ ?_
    replace H := rd_close H (s1 := s1) (s2 := s2) (s5 := sv) (L1 := D.has.map bs) (L2 := D.waits.map RW.mk) (L5 := surv) (by repeat (first | assumption | constructor)) (by repeat (first | assumption | constructor)) (by repeat (first | assumption | constructor)) { D with left := -1, surv := surv } ⟨ok.has, ok.size, ok.waits, by simp⟩ rfl rfl rfl
    rw [hoff'] at H
    exact H.kp 5
  · have h0' : ¬ n < 0 := h0
    rw [if_pos (show 0 ≤ n by omega)] at k
    repeat (first | refine lda H ?_ | refine ld0 H ?_ | refine ldaN H ?_ | refine ld0N H ?_ | refine sta H fun w H => ?_ | refine st0 H fun w H => ?_)
    rw [hoff'] at H ⊢
    refine k sv _ ?_
    replace H := rd_close H (s1 := s1) (s2 := s2) (s5 := sv) (L1 := D.has.map bs) (L2 := D.waits.map RW.mk) (L5 := surv) (by repeat (first | assumption | constructor)) (by repeat (first | assumption | constructor)) (by repeat (first | assumption | constructor)) { D with left := n, surv := surv } ⟨ok.has, ok.size, ok.waits, by dsimp only; omega⟩ rfl rfl rfl
    rw [hoff'] at H
    exact H.kp 5
theorem rd_Power (H : Heap F w l) (hR : Has l (RDk s1 s2 s5 D))
    (k : ∀ w', Heap F w' (RDk s1 ⟨none, 0, 0⟩ s5 D.power :: l) → Q (dv s1 ⟨none, 0, 0⟩ s5 D.power) w') : Does Tryd.prog N_ref05_Disk_Power #[dv s1 s2 s5 D] w Q := by
  refine F_ref05_Disk_Power_does _ _ _ _ _ _ _ ?_
  unfold F_ref05_Disk_Power
  refine al H (cs := [s1.v, s2.v, .bool D.off, .int .i64 D.left, s5.v]) (fun a1 w H => ?_) rfl
  refine al H (cs := [(Sl.v ⟨none, 0, 0⟩), (Sl.v ⟨none, 0, 0⟩), .bool false, .int .i64 0, (Sl.v ⟨none, 0, 0⟩)]) (fun a3 w H => ?_) zc_ref05_Disk
  unfold Disk.power at k
  obtain ⟨ok, H⟩ := rd_open H (s1 := s1) (s2 := s2) (s5 := s5) (D := D) (by repeat (first | assumption | constructor))
  repeat (first | refine lda H ?_ | refine ld0 H ?_ | refine ldaN H ?_ | refine ld0N H ?_ | refine sta H fun w H => ?_ | refine st0 H fun w H => ?_)
  refine k _ ?_
  replace H := H.imm_nil (α := RW)
  replace H := rd_close H (s1 := s1) (s2 := ⟨none, 0, 0⟩) (s5 := s5) (L1 := D.has.map bs) (L2 := []) (L5 := D.surv) (by repeat (first | assumption | constructor)) .h (by repeat (first | assumption | constructor)) { D with waits := [], off := false, left := -1 } ⟨ok.has, ok.size, fun w hw => by simp at hw, by simp⟩ rfl rfl rfl
  exact H.kp 6
theorem rd_Image (H : Heap F w l) (hR : Has l (RDk s1 s2 s5 D)) (k : ∀ w', Heap F w' l → Q (.string (bs D.has.flatten)) w') : Does Tryd.prog N_ref05_Disk_Image #[dv s1 s2 s5 D] w Q := by
  refine F_ref05_Disk_Image_does _ _ _ _ _ _ _ ?_
  unfold F_ref05_Disk_Image
  refine al H (cs := [s1.v, s2.v, .bool D.off, .int .i64 D.left, s5.v]) (fun a1 w H => ?_) rfl
  obtain ⟨ok, H⟩ := rd_open H (.t hR)
  have hsz := ok.size
  have l1 := H.len (s := s1) (xs := D.has.map bs)
  simp only [List.length_map] at l1
  refine ⟨fun s x w' => ∃ i : Nat, x = (i : Int) ∧ s = bs (D.has.take i).flatten ∧ i ≤ D.has.length ∧ Heap F w' (imm s1 (D.has.map bs) :: imm s2 (D.waits.map RW.mk) :: imm s5 D.surv :: blk a1 T_ref05_Disk [s1.v, s2.v, .bool D.off, .int .i64 D.left, s5.v] :: l), fun _ x _ => (D.has.length - x).toNat,
    ⟨0, rfl, rfl, by omega, H⟩, ?_⟩
  rintro _ x w1 ⟨i, rfl, rfl, hi, H⟩
  refine ld0 H (dBoth (fun hlt => ?_) (fun hge => ?_))
  · have hlt' : i < D.has.length := by omega
    refine ld0 H ?_
    refine idxI1 (s := s1) (xs := D.has.map bs) H (by omega) (by simp; omega) (fun a hc => ldT_cell _ hc ?_)
    simp only [Int.toNat_natCast, List.getElem_map]
    have hl : (D.has.take i).flatten.length = 64 * i := by rw [flat_len64 _ fun s hs => ok.has s (List.mem_of_mem_take hs), List.length_take]; omega
    have h64 := ok.has _ (List.getElem_mem hlt')
    refine ⟨by simp only [bs_size, hl, h64]; omega, ⟨i + 1, by rw [i64_id (by omega)]; omega, ?_, by omega, H⟩, by rw [i64_id (by omega)]; omega⟩
    rw [bs_append, List.take_succ_eq_append_getElem hlt', List.flatten_append]
    simp
  · obtain rfl : i = D.has.length := by omega
    rw [List.take_length]
    exact k _ (H.tln 4)
theorem ref_New (H : Heap F w l) {n : Nat} (h1 : 1 ≤ n) (h2 : n ≤ 256) (k : ∀ (s1 : Sl) w', Heap F w' (RDk s1 ⟨none, 0, 0⟩ ⟨none, 0, 0⟩ (Disk.new n) :: l) → Q (.tuple #[dv s1 ⟨none, 0, 0⟩ ⟨none, 0, 0⟩ (Disk.new n), .bool true]) w') : Does Tryd.prog N_ref05_New #[.int .i64 (n : Int)] w Q := by
  refine F_ref05_New_does _ _ _ ?_
  unfold F_ref05_New
  refine al H (cs := [(Sl.v ⟨none, 0, 0⟩), (Sl.v ⟨none, 0, 0⟩), .bool false, .int .i64 0, (Sl.v ⟨none, 0, 0⟩)]) (fun a1 w H => ?_) zc_ref05_Disk
  refine al H (cs := [(Sl.v ⟨none, 0, 0⟩), (Sl.v ⟨none, 0, 0⟩), .bool false, .int .i64 0, (Sl.v ⟨none, 0, 0⟩)]) (fun a3 w H => ?_) zc_ref05_Disk
  repeat (first | refine lda H ?_ | refine ld0 H ?_ | refine ldaN H ?_ | refine ld0N H ?_ | refine sta H fun w H => ?_ | refine st0 H fun w H => ?_)
  intro J hJ J2 hJ2
  refine dF (by omega) ?_
  rw [decide_eq_false (show ¬ ((n : Int) > 256) by omega)]
  refine hJ2 _ _ (cF rfl (hJ _ ?_))
  replace H := H.own_nil (α := ByteArray) T_string
  refine ⟨fun x w' => ∃ (i : Nat) (s : Sl), x = (i : Int) ∧ i ≤ n ∧ Heap F w' (own T_string s (List.replicate i (bs zeros64)) :: blk a3 T_ref05_Disk [s.v, (Sl.v ⟨none, 0, 0⟩), .bool false, .int .i64 (-1), (Sl.v ⟨none, 0, 0⟩)] :: blk a1 T_ref05_Disk [(Sl.v ⟨none, 0, 0⟩), (Sl.v ⟨none, 0, 0⟩), .bool false, .int .i64 0, (Sl.v ⟨none, 0, 0⟩)] :: l), fun x _ => (n - x).toNat,
    ⟨0, ⟨none, 0, 0⟩, rfl, by omega, H⟩, ?_⟩
  rintro x w1 ⟨i, s, rfl, hi, H⟩
  refine dBoth (fun hlt => ?_) (fun hge => ?_)
  · replace H := H.drew
    refine ld0 H ?_
    refine ref_Noughts H fun H => ⟨_, rfl, cell0 H, ?_⟩
    refine al H (cs := [.string (bs zeros64)]) (fun a w H => ⟨cell0 H, ?_⟩) rfl
    refine psh1 (s := s) (xs := List.replicate i (bs zeros64)) (bs zeros64) S_l_string H (by simp; omega) fun s' w H => ?_
    refine st0 H fun w H => ⟨⟨i + 1, s', by rw [i64_id (by omega)]; omega, by omega, ?_⟩, by rw [i64_id (by omega)]; dsimp only; omega⟩
    rw [← List.replicate_succ'] at H
    replace H := H.dr (blk a _ _)
    exact H.ord2 (a := own T_string s' _) (b := blk a3 _ _)
  · obtain rfl : i = n := by omega
    refine ld0 H ?_
    refine ldaN H ?_
    repeat (first | refine lda H ?_ | refine ld0 H ?_ | refine ldaN H ?_ | refine ld0N H ?_ | refine sta H fun w H => ?_ | refine st0 H fun w H => ?_)
    refine k s _ ?_
    replace H := ((H.share (s := s)).imm_nil (α := RW)).imm_nil (α := Bool)
    replace H := rd_close H (s1 := s) (s2 := ⟨none, 0, 0⟩) (s5 := ⟨none, 0, 0⟩) (L1 := List.replicate i (bs zeros64)) (L2 := ([] : List RW)) (L5 := ([] : List Bool)) (by repeat (first | assumption | constructor)) (.t .h) .h (Disk.new i) ⟨fun s hs => by simp [Disk.new] at hs; simp [hs.2], by simp [Disk.new]; omega, fun w hw => by simp [Disk.new] at hw, by simp [Disk.new]⟩ (by simp [Disk.new, zeros64]) rfl rfl
    exact H.kp 5
end
end Go.Proofs.YtkfcmpngcanffaaDoor.G
