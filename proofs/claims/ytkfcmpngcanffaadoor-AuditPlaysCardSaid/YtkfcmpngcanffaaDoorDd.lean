import Derived.Test.YtkfcmpngcanffaaDoorDc
set_option linter.unusedVariables false
set_option linter.unusedSimpArgs false
namespace Nac
theorem last_len {l : List Wr} (h : ∀ w ∈ l, w.b.length = 64) {at_ : Int} {c : List UInt8} (hc : c.length = 64) : (Disk.last l at_ c).length = 64 := by
  induction l generalizing c with
  | nil => exact hc
  | cons w l ih =>
    refine ih (fun x hx => h x (by simp [hx])) ?_
    dsimp only
    split
    · exact h w (by simp)
    · exact hc
theorem read_len {D : Disk} (ok : D.ok) {n : Int} (h : (D.read n).2 = 0) : (D.read n).1.length = 64 := by
  unfold Disk.read at *
  cases hi : D.inB n
  · rw [hi] at h; cases h
  · rw [hi] at h
    cases ho : D.off
    · simp only [cond_true, cond_false]
      refine last_len (fun w hw => (ok.waits w hw).2.2) ?_
      simp [Disk.inB] at hi
      rw [List.getD_eq_getElem?_getD, List.getElem?_eq_getElem (by omega)]
      exact ok.has _ (List.getElem_mem _)
    · rw [ho] at h; cases h
theorem pread_len {D : Disk} (ok : D.ok) {X : Ext} {n : Int} (h : (pread D X n).2 = 0) : (pread D X n).1.length = 64 := by
  unfold pread at *
  by_cases hn : 0 ≤ n ∧ n < X.count
  · rw [if_pos hn] at *; exact read_len ok h
  · rw [if_neg hn] at h; cases h
theorem scan_len (D : Disk) (X : Ext) : ∀ k n, (scan D X k n).1.length ≤ k
  | 0, _ => Nat.le_refl _
  | k + 1, n => by
    rw [scan]; split
    · simp
    · split
      · simp only [List.length_cons]; have := scan_len D X k (n + 1); omega
      · simp
end Nac
namespace Go.Proofs.YtkfcmpngcanffaaDoor.G
open Go Go.VC Go.RowKit Go.Proofs Go.Proofs.YtkfcmpngcanffaaDoor Nac
attribute [local irreducible] Tryd.prog
section
variable {F : Bs} {w : World} {l r : List SP} {b d p : Nat} {D : Disk} {Q : Value → World → Prop} {X : Nac.Ext}
theorem Heap.e4 {cs : List Value} {x : Entry} (H : Heap F w (rep cs x :: l)) : cs = encE x := H.pure .h fun _ _ h => h
theorem Heap.mkE (H : Heap F w l) (x : Entry) : Heap F w (rep (encE x) x :: l) := H.add0 fun _ => rfl
theorem aud_Open {r1 r2 : List SP} (H : Heap F w l)
    (k1 : (scan D X X.count.toNat 0).2 = 0 → ∀ (b : Nat) w', Heap F w' (LogAt b p (scan D X X.count.toNat 0).1 false :: PartAt p d X :: DiskAt d D :: r2) → Q (.tuple #[.pointer (some ⟨b, 0, none⟩), .int .i64 0]) w')
    (k2 : (scan D X X.count.toNat 0).2 ≠ 0 → ∀ w', Heap F w' (PartAt p d X :: DiskAt d D :: r2) → Q (.tuple #[.pointer none, .int .i64 (scan D X X.count.toNat 0).2]) w')
    (hP : Take l (PartAt p d X) r1 := by repeat (first | assumption | constructor)) (hD : Take r1 (DiskAt d D) r2 := by repeat (first | assumption | constructor)) (hH : Has r2 Half := by repeat (first | assumption | constructor)) :
    Does Tryd.prog N_audit_Open #[.pointer (some ⟨p, 0, none⟩)] w Q := by
  refine F_audit_Open_does _ _ _ ?_
  unfold F_audit_Open
  replace H := ((H.take hP).take (.t hD))
  have ok := disk_ok H .h
  replace H := H.take (.t .h)
  have okX : 0 ≤ X.from_ ∧ X.from_ + X.count ≤ 1000000 ∧ 0 ≤ X.count := H.pure (c := PartAt p d X) .h fun ro h ⟨x, h1, h2, _, _, _, hc, _⟩ => hc
  refine al H (cs := [.pointer (some ⟨p, 0, none⟩), (Sl.v ⟨none, 0, 0⟩), .bool false]) (fun a1 w H => ?_) rfl
  refine part_Size (x := X) (d := d) H ⟨_, rfl, ?_⟩
  refine ⟨fun x w' => ∃ (i : Nat) (done : List Entry) (s : Sl), x = i ∧ i ≤ X.count.toNat ∧ done.length = i ∧ scan D X X.count.toNat 0 = (done ++ (scan D X (X.count.toNat - i) i).1, (scan D X (X.count.toNat - i) i).2) ∧
      Heap F w' (blk a1 T_audit_Log [.pointer (some ⟨p, 0, none⟩), s.v, .bool false] :: own T_api_Entry s done :: PartAt p d X :: DiskAt d D :: r2), fun x _ => (X.count - x).toNat,
    ⟨0, [], ⟨none, 0, 0⟩, rfl, by omega, rfl, rfl, ?_⟩, ?_⟩
  · exact (H.own_nil (α := Entry) T_api_Entry).take (.t .h)
  rintro x w1 ⟨i, done, s, rfl, hi, hdl, hsc, H⟩
  refine dBoth (fun hlt => ?_) (fun hge => ?_)
  · have hlt' : i < X.count.toNat := by omega
    have hk : X.count.toNat - i = (X.count.toNat - (i + 1)) + 1 := by omega
    rw [hk, scan] at hsc
    refine aud_at (D := D) (X := X) (d := d) (p := p) (r3 := own T_api_Entry s done :: r2) H i ok.has (pread_len ok) (fun he w H => ?_) (fun he w H => ?_) .h (.t .h) (.t .h) (.t hH)
    · rw [if_pos he] at hsc
      refine ⟨_, _, _, _, _, _, rfl, ?_⟩
      refine al H (cs := [.int .i64 0, .int .i64 0, .int .u32 0, .int .i64 0]) (fun a2 w H => ?_) zc_api_Entry
      refine st0 H fun w H => sta H fun w H => sta H fun w H => sta H fun w H => ?_
      refine cT (by simpa using he) ?_
      have := k2 (by rw [hsc]; exact he) w
      rw [hsc] at this
      exact this ((((H.dr (blk a2 _ _)).dr (blk a1 _ _)).dr (own _ s done)))
    · rw [if_neg (by simpa using he)] at hsc
      refine ⟨_, _, _, _, _, _, rfl, ?_⟩
      refine al H (cs := [.int .i64 0, .int .i64 0, .int .u32 0, .int .i64 0]) (fun a2 w H => ?_) zc_api_Entry
      refine st0 H fun w H => sta H fun w H => sta H fun w H => sta H fun w H => ?_
      refine cF rfl ?_
      cases hs : said i (pread D X i).1
      · rw [hs, if_neg (by decide)] at hsc
        refine cT rfl ?_
        have := k1 (by rw [hsc]) a1 w
        rw [hsc] at this
        simp only [List.append_nil] at this
        exact this (log_cls (H.dr (blk a2 _ _)))
      · rw [hs, if_pos rfl] at hsc
        refine cF rfl ?_
        refine nn (lda H.drew (ld0 H.drew (lda H.drew (lda H.drew (lda H.drew ?_)))))
        refine al H.drew (cs := encE (ent (pread D X i).1)) (fun a3 w H => ?_) rfl
        refine ⟨cella H, ?_⟩
        replace H := Heap.mkE H (ent (pread D X i).1)
        refine psh (s := s) (xs := done) (y := ent (pread D X i).1) S_l_api_Entry H (by omega) fun s2 w H => ?_
        refine nn (sta H fun w H => ?_)
        refine ⟨⟨i + 1, done ++ [ent (pread D X i).1], s2, by rw [i64_id (by omega)]; omega, by omega, by simp [hdl], by rw [hsc]; simp, ?_⟩, by rw [i64_id (by omega)]; dsimp only; omega⟩
        replace H := H.dr (rep _ (ent (pread D X i).1))
        replace H := H.dr (blk a3 _ _)
        replace H := H.dr (blk a2 _ _)
        exact H
  · obtain rfl : i = X.count.toNat := by omega
    rw [Nat.sub_self, scan, List.append_nil] at hsc
    have := k1 (by rw [hsc]) a1 w1
    rw [hsc] at this
    exact this (log_cls H)
theorem aud_Entries {L : List Entry} {dead : Bool} (H : Heap F w l) (hn : L.length ≤ 1000000) (k : ∀ (s : Sl) w', Heap F w' (own T_api_Entry s L :: LogAt b p L dead :: r) → Q (.slice s.a s.len s.cap) w') (hT : Take l (LogAt b p L dead) r := by repeat (first | assumption | constructor)) :
    Does Tryd.prog N_audit_Log_Entries #[.pointer (some ⟨b, 0, none⟩)] w Q := by
  refine F_audit_Log_Entries_does _ _ _ ?_
  unfold F_audit_Log_Entries
  obtain ⟨s, H⟩ := (H.take hT).opn
  dsimp only [List.cons_append, List.nil_append] at H
  refine nn (lda H ?_)
  refine cpO (ys := L) (x := s) S_l_api_Entry H (by omega) fun s2 w H => k s2 w ?_
  exact (log_cls (r := own T_api_Entry s2 L :: r) H (.c (.t .h) (.c (.t .h) .n))).take (.t .h)
theorem aud_Add {L : List Entry} {dead : Bool} {r0 r1 r2 : List SP} {x : Entry} (H : Heap F w l) (hw : D.waits.length < 100000) (hn : L.length ≤ 1000000)
    (k : ∀ w', Heap F w' (LogAt b p (aadd D X L dead x).2.1 (aadd D X L dead x).2.2.1 :: PartAt p d X :: DiskAt d (aadd D X L dead x).1 :: r2) → Q (.int .i64 (aadd D X L dead x).2.2.2) w')
    (hL : Take l (LogAt b p L dead) r0 := by repeat (first | assumption | constructor)) (hP : Take r0 (PartAt p d X) r1 := by repeat (first | assumption | constructor)) (hD : Take r1 (DiskAt d D) r2 := by repeat (first | assumption | constructor)) (hH : Has r2 Half := by repeat (first | assumption | constructor)) :
    Does Tryd.prog N_audit_Log_Add #[.pointer (some ⟨b, 0, none⟩), .agg #[.int .i64 x.kind, .int .i64 x.part, .int .u32 (x.version.toNat : Int), .int .i64 x.code]] w Q := by
  refine F_audit_Log_Add_does _ _ _ _ _ _ _ ?_
  unfold F_audit_Log_Add
  replace H := ((H.take hL).take (.t hP)).take (.t (.t hD))
  replace H := (H.take (.t .h)).take (.t (.t .h))
  obtain ⟨s, H⟩ := H.opn
  dsimp only [List.cons_append, List.nil_append] at H
  unfold aadd at k
  refine al H (cs := encE x) (fun a1 w H => ?_) rfl
  refine nn (lda H (cBoth (fun hd => ?_) (fun hd => ?_)))
  · subst hd
    refine k _ ?_
    exact log_cls (H.dr (blk a1 _ _))
  subst hd
  rw [cond_false] at k
  refine ld0 H (lda H (lda H (lda H ?_)))
  refine aud_may H x fun w H => ⟨_, rfl, ?_⟩
  cases hm : may x
  · rw [hm, cond_false] at k
    refine cT rfl (k _ ?_)
    exact log_cls (H.dr (blk a1 _ _))
  rw [hm, cond_true] at k
  refine cF rfl ?_
  have hl := H.lenO (s := s) (xs := L)
  refine nn (lda H.drew (nn (ld0 H.drew ?_)))
  refine part_Size (x := X) (d := d) H.drew ⟨_, rfl, cella H.drew, ?_⟩
  by_cases hfull : (L.length : Int) = X.count
  · rw [if_pos hfull] at k
    refine cT (by rw [← hl]; simpa using hfull) (k _ ?_)
    exact log_cls (H.drew.dr (blk a1 _ _))
  rw [if_neg hfull] at k
  refine cF (by rw [← hl]; simpa using hfull) ?_
  replace H := H.drew
  refine nn (ld0 H.drew (nn (lda H.drew (nn (lda H.drew ?_)))))
  refine ld0 H.drew (lda H.drew (lda H.drew (lda H.drew ?_)))
  rw [← hl]
  refine aud_sector H.drew L.length x (fun s2 w H => ⟨_, rfl, ?_⟩)
  refine ⟨by rw [hl]; exact cella H, cell0 H, ?_⟩
  replace H := H.share (s := s2) (xs := asec L.length x)
  refine part_Write (x := X) (d := d) (D := D) (bb := asec L.length x) H (by omega) fun w H => ⟨_, rfl, ?_⟩
  have hwl : (pwrite D X L.length (asec L.length x)).1.waits.length ≤ D.waits.length + 1 := by
    unfold pwrite; split
    · unfold Disk.write
      have := Disk.goes_waits D
      cases D.inB _ <;> simp
      split
      · cases D.goes.2 <;> simp <;> omega
      · simp
    · simp
  generalize pwrite D X L.length (asec L.length x) = W at *
  obtain ⟨D1, e1⟩ := W
  dsimp only at *
  intro J hJ
  have bad : ∀ (D2 : Disk) (e : Int) w' (lst : List SP), e ≠ 0 → Heap F w' (PartAt p d X :: DiskAt d D2 :: imm s2 (asec L.length x) :: blk a1 T_api_Entry (encE x) :: blk b T_audit_Log [.pointer (some ⟨p, 0, none⟩), s.v, .bool false] :: own T_api_Entry s L :: r2) →
      (∀ w', Heap F w' (LogAt b p L true :: PartAt p d X :: DiskAt d D2 :: r2) → Q (.int .i64 e) w') → J e w' := fun D2 e w' _ he H kk => by
    refine hJ e w' (cT (by simpa using he) (nn (sta H fun w H => kk _ ?_)))
    replace H := H.dr2 (imm s2 _) (blk a1 _ _)
    exact log_cls H
  by_cases he : e1 = 0
  · subst he
    refine cT rfl (nn (ld0 H ?_))
    simp only [if_true] at k
    refine part_Flush (x := X) (d := d) (D := D1) H fun w H => ⟨_, rfl, ?_⟩
    generalize D1.flush = W2 at *
    obtain ⟨D2, e2⟩ := W2
    dsimp only at *
    by_cases he2 : e2 = 0
    · subst he2
      simp only [if_true] at k
      refine hJ 0 w (cF rfl ?_)
      refine nn (lda H.drew (ld0 H.drew (lda H.drew (lda H.drew (lda H.drew ?_)))))
      refine al H.drew (cs := encE x) (fun a3 w H => ?_) rfl
      refine ⟨cella H, ?_⟩
      replace H := Heap.mkE H x
      refine psh (s := s) (xs := L) (y := x) S_l_api_Entry H (by omega) fun s3 w H => ?_
      refine nn (sta H fun w H => k w ?_)
      replace H := (H.dr2 (blk a3 _ _) (rep _ x)).dr2 (imm s2 _) (blk a1 _ _)
      exact log_cls H
    · rw [if_neg he2] at k
      exact bad D2 e2 w [] he2 H k
  · rw [if_neg he] at k
    refine cF (by simpa using he) ?_
    exact bad D1 e1 w [] he H k
end
end Go.Proofs.YtkfcmpngcanffaaDoor.G
