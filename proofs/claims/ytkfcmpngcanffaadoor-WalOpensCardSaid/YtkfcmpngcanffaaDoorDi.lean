import Derived.Test.YtkfcmpngcanffaaDoorDh
import Derived.Test.YtkfcmpngcanffaaDoorSm
set_option linter.unusedVariables false
set_option linter.unusedSimpArgs false
namespace Go.Proofs.YtkfcmpngcanffaaDoor.G
open Go Go.VC Go.RowKit Go.Proofs Go.Proofs.YtkfcmpngcanffaaDoor Nac
attribute [local irreducible] Tryd.prog
theorem waits_of {F : Bs} {w : World} {l r : List SP} {b : Nat} {D : Disk} (H : Heap F w l) (hT : Take l (DiskAt b D) r) : ∃ (g : Nat) (s t : Sl) (x : Int), D.ok ∧ (0 ≤ D.left → x = D.left) ∧ Heap F w (blk b T_disk_Disk [(hasV g (64 * D.has.length)).v, s.v, .bool D.off, .bool (decide (0 ≤ D.left)), .int .i64 x, t.v] :: blk g T_uint8 (D.has.flatten.map Sc.enc) :: own T_disk_write s D.waits :: imm t D.surv :: r) := by
  obtain ⟨⟨g, s, t, x⟩, H⟩ := (H.take hT).opn
  obtain ⟨⟨ok, h⟩, H⟩ := Heap.pur H
  exact ⟨g, s, t, x, ok, h, H⟩
section
variable {F : Bs} {w : World} {l r : List SP} {b d p : Nat} {D : Disk} {Q : Value → World → Prop} {X : Nac.Ext} {W : Wal}
theorem disk_Waiting0 (H : Heap F w l) (hw : D.waits = []) (k : Heap F w (DiskAt b D :: r) → Q (.slice none 0 0) w) (hT : Take l (DiskAt b D) r := by repeat (first | assumption | constructor)) : Does Tryd.prog N_disk_Disk_Waiting #[.pointer (some ⟨b, 0, none⟩)] w Q := by
  refine F_disk_Disk_Waiting_does _ _ _ ?_
  unfold F_disk_Disk_Waiting
  have H0 := H.take hT
  obtain ⟨g, s, t, x, _, _, H⟩ := waits_of H hT
  have hl := H.lenO (s := s) (xs := D.waits)
  rw [hw] at hl
  refine nn (lda H ?_)
  refine ⟨fun s x w' => s = ⟨none, 0, 0⟩ ∧ x = 0 ∧ w' = w, fun _ _ _ => 0, ⟨rfl, rfl, rfl⟩, ?_⟩
  rintro s2 x2 w2 ⟨rfl, rfl, rfl⟩
  refine dF (by simp at hl; omega) (k H0)
theorem law_Twice16 (H : Heap F w l) {n : Int} {s sk : Sl} {xs : List Act16} {keep : List Bool} (hS : Has l (imm s xs)) (hK : Has l (imm sk keep)) (hH : Has l Half) (hg : ∀ x ∈ xs, (-9223372036854775808 ≤ x.n ∧ x.n ≤ 9223372036854775807) ∧ (-9223372036854775808 ≤ x.at_ ∧ x.at_ ≤ 9223372036854775807) ∧ x.keep.length ≤ reachBytes)
    (k : ∀ w', Heap F w' l → Q (.bool true) w') : Does Tryd.prog N_law16_WalTwice #[.int .i64 n, .slice s.a s.len s.cap, .slice sk.a sk.len sk.cap] w Q := by
  refine F_law16_WalTwice_does _ _ _ _ _ ?_
  unfold F_law16_WalTwice
  have hsl := H.len hS
  have hsb := H.bndI hS
  refine law_from16 n ⟨_, rfl, ?_⟩
  generalize hf : (if n < 0 ∨ n > 8 then (3 : Int) else n) = f
  have f0 : 0 ≤ f ∧ f ≤ 8 := by rw [← hf]; split <;> omega
  obtain ⟨ff, G, fl⟩ := DF_good f0.1 f0.2
  refine law_part16 H f0.1 f0.2 ff hH fun d p s1 s2 s5 w H => ⟨_, _, s1, s2, _, _, s5, _, rfl, ?_⟩
  generalize (Nac.format D0 ⟨f, 52⟩).1 = DF at *
  generalize hX : (⟨f, 52⟩ : Nac.Ext) = X at *
  refine al H (cs := [(Sl.v ⟨none, 0, 0⟩), (Sl.v ⟨none, 0, 0⟩), .bool false, .int .i64 0, (Sl.v ⟨none, 0, 0⟩)]) (fun a11 w H => ?_) zc_ref05_Disk
  repeat (first | refine lda H ?_ | refine ld0 H ?_ | refine ldaN H ?_ | refine ld0N H ?_ | refine sta H fun w H => ?_ | refine st0 H fun w H => ?_)
  refine cF rfl ?_
  refine open_good (D := DF) (X := X) (W := W0) H G (fun b w H => ⟨_, _, rfl, cF rfl ?_⟩) (.t .h) (.t .h) (.t (.t hH))
  replace H : Heap F w (WalAt b p W0 :: PartAt p d X :: DiskAt d DF :: l) := Heap.kp3 2 H
  intro J hJ
  have out : ∀ (D : Disk) (W : Wal) (w' : World), (∃ W', Nac.Good D X W' ∨ Nac.Bad D X W' W') → Heap F w' (WalAt b p W :: PartAt p d X :: DiskAt d D :: l) → J w' := fun D W w' hgb H => by
    obtain ⟨W', hgb⟩ := hgb
    have G1 : Nac.Good D.power X W' := hgb.elim (fun G => G.has rfl rfl rfl) (fun B => B.power rfl rfl rfl)
    refine hJ _ ?_
    refine disk_Power (D := D) H fun w H => ⟨rfl, ?_⟩
    generalize D.power = D1 at *
    refine disk_Image (D := D1) H fun s3 w H => ⟨_, rfl, ⟨_, cvO (s := s3) (xs := D1.has.flatten) H und_l8 und_8 und_s .h, ?_⟩⟩
    refine open_good (D := D1) (X := X) (W := W') H G1 (fun b1 w H => ⟨_, _, rfl, ?_⟩) ((by repeat (first | assumption | constructor))) ((by repeat (first | assumption | constructor))) (.t (.t hH))
    intro J39 hJ39
    refine cF rfl ?_
    refine disk_Waiting0 (D := D1) H G1.waits (fun H => ⟨⟨none, 0, 0⟩, rfl, cF rfl (hJ39 _ ?_)⟩)
    refine disk_Crash (D := D1) (s := sk) (surv := keep) H (fun w H => ⟨rfl, ?_⟩) .h (.t (.t (.t (.t hK))))
    refine disk_Power (D := D1.crash keep) H fun w H => ⟨rfl, ?_⟩
    have hcr : (D1.crash keep).power.has = D1.has := by rw [crash_on G1.on, G1.waits]; simp [Disk.power, Disk.layS]
    have G2 : Nac.Good (D1.crash keep).power X W' := G1.has hcr rfl rfl
    generalize (D1.crash keep).power = D3 at *
    refine open_good (D := D3) (X := X) (W := W') H G2 (fun b2 w H => ⟨_, _, rfl, cT rfl ?_⟩) ((by repeat (first | assumption | constructor))) ((by repeat (first | assumption | constructor))) (.t (.t (.t hH)))
    refine law_pages (b := b1) (W := W') H fun w H => ⟨_, rfl, ?_⟩
    refine law_pages (b := b2) (W := W') H fun w H => ⟨_, rfl, cT (by simp) ?_⟩
    refine wal_Epoch (b := b1) (W := W') H ⟨_, rfl, ?_⟩
    refine wal_Epoch (b := b2) (W := W') H ⟨_, rfl, cT (by simp) ?_⟩
    refine wal_Used (b := b1) (W := W') H ⟨_, rfl, ?_⟩
    refine wal_Used (b := b2) (W := W') H ⟨_, rfl, cT (by simp) ?_⟩
    refine disk_Image (D := D3) H fun s4 w H => ⟨_, rfl, ⟨_, cvO (s := s4) (xs := D3.has.flatten) H und_l8 und_8 und_s .h, cT (by rw [hcr]; simp) ?_⟩⟩
    refine law_awake16 H (.t (.t (.t (.t (.t (.t (.t hH))))))) fun w H => ⟨_, rfl, k w (H.tln 7)⟩
  refine ⟨fun i w' => ∃ (m : Nat) (D : Disk) (W : Wal), i = m ∧ m ≤ xs.length ∧ m ≤ 12 ∧ (m < xs.length → Nac.Good D X W ∧ D.left < 0) ∧ (∃ W', Nac.Good D X W' ∨ Nac.Bad D X W' W') ∧ Heap F w' (WalAt b p W :: PartAt p d X :: DiskAt d D :: l), fun i _ => (12 - i).toNat, ⟨0, DF, W0, rfl, by omega, by omega, fun _ => ⟨G, fl⟩, ⟨W0, .inl G⟩, H⟩, ?_⟩
  rintro i w1 ⟨m, D, W, rfl, hm, hm12, hgood, hgb, H⟩
  intro J2 hJ2
  refine dBoth (fun hlt => dBoth (fun hlt2 => hJ2 _ ?_) (fun h => out D W w1 hgb H)) (fun h => out D W w1 hgb H)
  have hlt' : m < xs.length := by omega
  obtain ⟨G, hleft⟩ := hgood hlt'
  have hgm := hg xs[m] (List.getElem_mem hlt')
  intro J83 hJ83 J85 hJ85
  have go : ∀ (D1 : Disk) (w' : World), Nac.Good D1 X W → (m + 1 < xs.length → D1.left < 0) → Heap F w' (WalAt b p W :: PartAt p d X :: DiskAt d D1 :: l) → J85 w' := fun D1 w' G1 hl1 H => by
    refine hJ85 _ ?_
    refine idxI (s := s) (xs := xs) H (by omega) (by omega) (fun a cs H hA => ?_) (.t (.t (.t hS)))
    simp only [Int.toNat_natCast] at H
    generalize xs[m] = A at *
    replace H := open_Act16 H
    obtain ⟨kp, rfl, H⟩ := H
    refine At.ld0 hA (At.ld hA (At.ld hA (At.ld hA (At.ld hA (At.ld hA ?_)))))
    refine law_Changes (a := A) (sk := kp) H hgm.1 fun s2 w H => ⟨_, rfl, ?_⟩
    replace H := H.share (s := s2) (xs := changes A)
    refine wal_Commit (D := D1) (X := X) (W := W) (s := s2) (xs := changes A) H (by rw [G1.waits]; decide) (fun w H => ⟨_, rfl, hJ83 _ ?_⟩) (.t (.t .h)) (.t (.t .h)) (.t (.t .h)) .h (.t (.t hH))
    replace H := Heap.kp3 2 H
    rcases wcommit_LI (l := changes A) G1 with ⟨_, _, c2, c3, c4⟩ | ⟨_, _, c3, c4⟩ | ⟨_, _, c2, _, W', c5, _⟩
    · exact ⟨⟨m + 1, _, _, by rw [i64_id (by omega)]; omega, by omega, by omega, fun h => ⟨c2, c4 (hl1 h)⟩, ⟨_, .inl c2⟩, H⟩, by rw [i64_id (by omega)]; (try dsimp only); omega⟩
    · exact ⟨⟨m + 1, _, _, by rw [i64_id (by omega)]; omega, by omega, by omega, fun h => by rw [c3, c4]; exact ⟨G1, hl1 h⟩, ⟨W, .inl (by rw [c3]; exact G1)⟩, H⟩, by rw [i64_id (by omega)]; (try dsimp only); omega⟩
    · exact ⟨⟨m + 1, _, _, by rw [i64_id (by omega)]; omega, by omega, by omega, fun h => by have := hl1 h; omega, ⟨W', .inr ⟨c5.fits, c5.off, c5.waits, c5.li⟩⟩, H⟩, by rw [i64_id (by omega)]; (try dsimp only); omega⟩
  rw [show ((s.len : Nat) : Int) = (xs.length : Int) by omega, i64_id (by omega)]
  refine cBoth (fun hlast => ?_) (fun hl => go D w1 G (fun _ => hleft) H)
  have hlast' : (m : Int) = (xs.length : Int) - 1 := by simpa using hlast
  replace H := H.drew
  refine idxI (s := s) (xs := xs) H (by omega) (by omega) (fun a cs H1 hA => ?_) (.t (.t (.t hS)))
  simp only [Int.toNat_natCast] at H1
  replace H1 := open_Act16 H1
  obtain ⟨kp, rfl, H1⟩ := H1
  refine At.ld hA ?_
  refine idxI (s := s) (xs := xs) H (by omega) (by omega) (fun a cs H2 hA => ?_) (.t (.t (.t hS)))
  simp only [Int.toNat_natCast] at H2
  replace H2 := open_Act16 H2
  obtain ⟨kp2, rfl, H2⟩ := H2
  refine At.ld hA ?_
  refine disk_Arm (n := xs[m].at_) (s := kp2) (surv := xs[m].keep) (D := D) H2 hgm.2.1.2 (by have := hgm.2.2; simp only [reachBytes] at this; omega) (fun w H => ⟨rfl, ?_⟩)
  obtain ⟨e1, e2, e3⟩ := arm_facts D xs[m].at_ xs[m].keep
  refine go _ w (G.has e1 (e2.trans G.waits) (e3.trans G.on)) (fun h => by omega) ?_
  exact (H.dr (imm kp2 _)).ord3 (a := WalAt b p W) (b := PartAt p d X) (c := DiskAt d _)
theorem law_Crashes16 (H : Heap F w l) {n : Int} {s : Sl} {xs : List Act16} (hS : Has l (imm s xs)) (hH : Has l Half) (hg : ∀ x ∈ xs, (-9223372036854775808 ≤ x.n ∧ x.n ≤ 9223372036854775807) ∧ (-9223372036854775808 ≤ x.at_ ∧ x.at_ ≤ 9223372036854775807) ∧ x.keep.length ≤ reachBytes)
    (k : ∀ w', Heap F w' l → Q (.bool true) w') : Does Tryd.prog N_law16_WalCrashes #[.int .i64 n, .slice s.a s.len s.cap] w Q := by
  refine F_law16_WalCrashes_does _ _ _ _ ?_
  unfold F_law16_WalCrashes
  have hsl := H.len hS
  have hsb := H.bndI hS
  refine law_from16 n ⟨_, rfl, ?_⟩
  generalize hf : (if n < 0 ∨ n > 8 then (3 : Int) else n) = f
  have f0 : 0 ≤ f ∧ f ≤ 8 := by rw [← hf]; split <;> omega
  obtain ⟨ff, G, fl⟩ := DF_good f0.1 f0.2
  refine law_part16 H f0.1 f0.2 ff hH fun d p s1 s2 s5 w H => ⟨_, _, s1, s2, _, _, s5, _, rfl, ?_⟩
  generalize (Nac.format D0 ⟨f, 52⟩).1 = DF at *
  generalize hX : (⟨f, 52⟩ : Nac.Ext) = X at *
  refine al H (cs := [(Sl.v ⟨none, 0, 0⟩), (Sl.v ⟨none, 0, 0⟩), .bool false, .int .i64 0, (Sl.v ⟨none, 0, 0⟩)]) (fun a11 w H => ?_) zc_ref05_Disk
  repeat (first | refine lda H ?_ | refine ld0 H ?_ | refine ldaN H ?_ | refine ld0N H ?_ | refine sta H fun w H => ?_ | refine st0 H fun w H => ?_)
  refine cF rfl ?_
  refine open_good (D := DF) (X := X) (W := W0) H G (fun b w H => ⟨_, _, rfl, cF rfl ?_⟩) (.t .h) (.t .h) (.t (.t hH))
  replace H : Heap F w (WalAt b p W0 :: PartAt p d X :: DiskAt d DF :: l) := Heap.kp3 2 H
  intro J hJ
  have out : ∀ (b : Nat) (D : Disk) (W : Wal) (w' : World), Heap F w' (WalAt b p W :: PartAt p d X :: DiskAt d D :: l) → J w' := fun b D W w' H => by
    refine hJ _ ?_
    refine law_awake16 H (.t (.t (.t hH))) fun w H => ⟨_, rfl, k w (H.tln 3)⟩
  refine ⟨fun lg i w' => ∃ (m b : Nat) (D : Disk) (W : Wal), lg = some ⟨b, 0, none⟩ ∧ i = m ∧ m ≤ xs.length ∧ m ≤ 24 ∧ Nac.Good D X W ∧ Heap F w' (WalAt b p W :: PartAt p d X :: DiskAt d D :: l), fun _ i _ => (24 - i).toNat, ⟨0, b, DF, W0, rfl, rfl, by omega, by omega, G, H⟩, ?_⟩
  rintro lg i w1 ⟨m, b, D, W, rfl, rfl, hm, hm24, G, H⟩
  intro J2 hJ2
  refine dBoth (fun hlt => dBoth (fun hlt2 => hJ2 _ ?_) (fun h => out b D W w1 H)) (fun h => out b D W w1 H)
  have hlt' : m < xs.length := by omega
  have hgm := hg xs[m] (List.getElem_mem hlt')
  intro J40 hJ40
  have next : ∀ (b' : Nat) (D' : Disk) (W' : Wal) (w' : World), Nac.Good D' X W' → Heap F w' (WalAt b' p W' :: PartAt p d X :: DiskAt d D' :: l) → J40 (some ⟨b', 0, none⟩) w' := fun b' D' W' w' G' H' =>
    hJ40 _ _ ⟨⟨m + 1, b', D', W', rfl, by rw [i64_id (by omega)]; omega, by omega, by omega, G', H'⟩, by rw [i64_id (by omega)]; (try dsimp only); omega⟩
  refine idxI (s := s) (xs := xs) H (by omega) (by omega) (fun a cs H hA => ?_) (.t (.t (.t hS)))
  simp only [Int.toNat_natCast] at H
  generalize xs[m] = A at *
  replace H := open_Act16 H
  obtain ⟨kp, rfl, H⟩ := H
  refine At.ld0 hA (At.ld hA (At.ld hA (At.ld hA (At.ld hA (At.ld hA ?_)))))
  refine al H (cs := [.int .i64 0, .int .i64 0, .int .i64 0, .int .i64 0, .int .u8 0, (Sl.v ⟨none, 0, 0⟩)]) (fun a48 w H => ?_) zc_law16_Act
  repeat (first | refine lda H ?_ | refine ld0 H ?_ | refine ldaN H ?_ | refine ld0N H ?_ | refine sta H fun w H => ?_ | refine st0 H fun w H => ?_)
  refine law_pages (b := b) (W := W) H fun w H => ⟨_, rfl, ?_⟩
  repeat (first | refine lda H ?_ | refine ld0 H ?_ | refine ldaN H ?_ | refine ld0N H ?_ | refine sta H fun w H => ?_ | refine st0 H fun w H => ?_)
  refine law_Changes (a := A) (sk := kp) H hgm.1 fun s2 w H => ⟨_, rfl, ?_⟩
  replace H := H.share (s := s2) (xs := changes A)
  have hWok := G.li.ok
  have hpl : W.pages.flatten.length = 640 := by rw [flatK_len hWok.all40, hWok.n16]
  refine bytesOfM (xs := W.pages.flatten) H und_l8 und_8 und_s (mx (by omega)) fun s69 w H => ?_
  have hl69 := H.lenM (s := s69) (xs := W.pages.flatten) (by repeat (first | assumption | constructor))
  have hl2 := H.len (s := s2) (xs := changes A) (by repeat (first | assumption | constructor))
  have hb2 := H.bndI (s := s2) (xs := changes A) (by repeat (first | assumption | constructor))
  refine cF (by rw [← hl69, hpl]; rfl) ?_
  generalize hC : changes A = C at *
  -- what the pages are to be
  have hlayok : rightC C = true → ∀ k, (layC W.pages (C.take k)).length = 16 ∧ ∀ x ∈ layC W.pages (C.take k), x.length = 40 := fun hr k => layC_ok W.pages hWok.n16 hWok.all40 fun c hc => (rightC_all hr).2 c (List.mem_of_mem_take hc)
  refine ⟨fun i w' => ∃ j : Nat, i = j ∧ j ≤ C.length ∧ Heap F w' (mrow T_uint8 s69 (if rightC C = true then layC W.pages (C.take j) else W.pages).flatten :: imm s2 C :: blk a48 T_law16_Act [.int .i64 A.do_, .int .i64 A.n, .int .i64 A.at_, .int .i64 A.off, .int .u8 (A.fill.toNat : Int), kp.v] :: imm kp A.keep :: WalAt b p W :: PartAt p d X :: DiskAt d D :: l), fun i _ => (C.length - i).toNat, ⟨0, rfl, by omega, ?_⟩, ?_⟩
  · rw [List.take_zero, show (if rightC C = true then layC W.pages [] else W.pages) = W.pages by split <;> rfl]
    replace H := H.takes (cs := [mrow T_uint8 s69 W.pages.flatten, imm s2 C, blk a48 T_law16_Act _, imm kp A.keep, WalAt b p W, PartAt p d X, DiskAt d D]) (r := l) (by repeat (first | assumption | constructor))
    exact H
  rintro i w2 ⟨j, rfl, hj, H⟩
  refine dBoth (fun hltj => ?_) (fun hgej => ?_)
  · have hltj' : j < C.length := by omega
    intro J76 hJ76
    refine ref_May16 (s := s2) (xs := C) H (fun w H => ⟨_, rfl, ?_⟩) (.t .h)
    refine cBoth (fun hr => ?_) (fun hr => ?_)
    · obtain ⟨o1, o2⟩ := hlayok hr j
      obtain ⟨c1, c2, c3⟩ := (rightC_all hr).2 C[j] (List.getElem_mem hltj')
      have e1 : layC W.pages (C.take (j + 1)) = (layC W.pages (C.take j)).set C[j].page.toNat C[j].data := by
        rw [List.take_succ_eq_append_getElem hltj', layC, List.foldl_append]; rfl
      rw [if_pos hr] at H
      replace H := H.drew
      have hfl : (layC W.pages (C.take j)).flatten.length = 640 := by rw [flatK_len o2, o1]
      refine idxI (s := s2) (xs := C) H (by omega) (by omega) (fun a cs H1 hA => ?_) (.t .h)
      simp only [Int.toNat_natCast] at H1
      replace H1 := open_Chg H1
      obtain ⟨t, rfl, _⟩ := H1
      refine At.ld0 hA ?_
      rw [i64_id (by omega)]
      refine slcM (s := s69) (xs := (layC W.pages (C.take j)).flatten) H (by omega) (by rw [hfl]; omega) rfl (fun g hg69 => ?_) .h
      refine idxI (s := s2) (xs := C) H (by omega) (by omega) (fun a cs H2 hA => ?_) (.t .h)
      simp only [Int.toNat_natCast] at H2
      replace H2 := open_Chg H2
      obtain ⟨t, rfl, H2⟩ := H2
      refine At.ld hA ?_
      have hl692 := H2.lenM (s := s69) (xs := (layC W.pages (C.take j)).flatten) (.t .h)
      refine copyM (o := (40 * C[j].page).toNat) (s := s69) (xs := (layC W.pages (C.take j)).flatten) (ys := C[j].data) (x := t) (g := g) S_l_uint8 H2 hg69 (by rw [hfl]; omega) (by rw [← hl692, hfl]; (try dsimp only); omega) (by omega) (fun w H => ?_) (.t .h) .h
      refine hJ76 _ ⟨⟨j + 1, by rw [i64_id (by omega)]; omega, by omega, ?_⟩, by rw [i64_id (by omega)]; (try dsimp only); omega⟩
      rw [if_pos hr, e1, flatK_set c3 o2 _ (by omega)]
      rw [c3, show (40 * C[j].page).toNat = C[j].page.toNat * 40 by omega] at H
      exact H.dr (imm t _)
    · rw [if_neg (by rw [hr]; decide)] at H
      refine hJ76 _ ⟨⟨j + 1, by rw [i64_id (by omega)]; omega, by omega, ?_⟩, by rw [i64_id (by omega)]; (try dsimp only); omega⟩
      rw [if_neg (by rw [hr]; decide)]
      exact H
  · obtain rfl : j = C.length := by omega
    rw [List.take_length] at H
    intro J88 hJ88
    have go : ∀ (D1 : Disk) (w' : World), Nac.Good D1 X W → Heap F w' (mrow T_uint8 s69 (if rightC C = true then layC W.pages C else W.pages).flatten :: imm s2 C :: blk a48 T_law16_Act [.int .i64 A.do_, .int .i64 A.n, .int .i64 A.at_, .int .i64 A.off, .int .u8 (A.fill.toNat : Int), kp.v] :: imm kp A.keep :: WalAt b p W :: PartAt p d X :: DiskAt d D1 :: l) → J88 w' := fun D1 w' G1 H => by
      refine hJ88 _ ?_
      refine wal_Commit (D := D1) (X := X) (W := W) (s := s2) (xs := C) H (by rw [G1.waits]; decide) (fun w H => ⟨_, rfl, ?_⟩) ((by repeat (first | assumption | constructor))) ((by repeat (first | assumption | constructor))) ((by repeat (first | assumption | constructor))) ((by repeat (first | assumption | constructor))) (.t (.t (.t (.t hH))))
      have hco := wcommit_LI (l := C) G1
      generalize wcommit D1 X W C = R at *
      obtain ⟨D2, W2, e2⟩ := R
      dsimp only at *
      intro J93 hJ93
      -- behind the commit: opened again
      have fin : ∀ w', (e2 = 0 → rightC C = true ∧ ∃ G2 : Nac.Good D2 X W2, W2.pages = layC W.pages C) → (∃ W3, (Nac.Good D2 X W3 ∨ Nac.Bad D2 X W3 W3) ∧ ((e2 = 0 ∧ W3 = W2) ∨ (e2 ≠ 0 ∧ (W3.pages = W.pages ∨ (rightC C = true ∧ W3.pages = layC W.pages C))))) →
          Heap F w' (WalAt b p W2 :: PartAt p d X :: DiskAt d D2 :: mrow T_uint8 s69 (if rightC C = true then layC W.pages C else W.pages).flatten :: imm s2 C :: blk a48 T_law16_Act [.int .i64 A.do_, .int .i64 A.n, .int .i64 A.at_, .int .i64 A.off, .int .u8 (A.fill.toNat : Int), kp.v] :: imm kp A.keep :: l) → J93 w' := fun w' h0 h3 H => by
        obtain ⟨W3, hgb, hcase⟩ := h3
        refine hJ93 _ ?_
        replace H := H.imm_nil (α := Bool)
        refine disk_Arm (n := -1) (s := ⟨none, 0, 0⟩) (surv := []) (D := D2) H (by decide) (by decide) (fun w H => ⟨rfl, ?_⟩)
        obtain ⟨e1, e2', e3⟩ := arm_facts D2 (-1) []
        refine disk_Power (D := D2.arm (-1) []) H fun w H => ⟨rfl, ?_⟩
        have G3 : Nac.Good (D2.arm (-1) []).power X W3 := hgb.elim (fun G => G.has e1 rfl rfl) (fun B => B.power e1 rfl rfl)
        generalize (D2.arm (-1) []).power = D3 at *
        refine open_good (D := D3) (X := X) (W := W3) H G3 (fun b' w H => ⟨_, _, rfl, cF rfl ?_⟩) ((by repeat (first | assumption | constructor))) ((by repeat (first | assumption | constructor))) (.t (.t (.t (.t (.t (.t hH))))))
        refine law_pages (b := b') (W := W3) H fun w H => ⟨_, rfl, ⟨bs (if rightC C = true then layC W.pages C else W.pages).flatten, ?_, ?_⟩⟩
        · exact cvM (s := s69) (xs := (if rightC C = true then layC W.pages C else W.pages).flatten) H und_l8 und_8 und_s
        have H2 := H.ord3 (a := WalAt b' p W3) (b := PartAt p d X) (c := DiskAt d D3)
        have done : J40 (some ⟨b', 0, none⟩) w := next b' D3 W3 w G3 (Heap.kp3 6 H2)
        refine cBoth (fun hne => ?_) (fun _ => done)
        rcases hcase with ⟨hz, rfl⟩ | ⟨hz, hc⟩
        · obtain ⟨hr, _, hp⟩ := h0 hz
          rw [if_pos hr, hp] at hne; simp at hne
        · refine cF (by simpa using hz) ?_
          rcases hc with hc | ⟨hr, hc⟩
          · refine cF (by rw [hc]; simp) done
          · rw [if_pos hr, hc] at hne; simp at hne
      replace H : Heap F w (WalAt b p W2 :: PartAt p d X :: DiskAt d D2 :: mrow T_uint8 s69 (if rightC C = true then layC W.pages C else W.pages).flatten :: imm s2 C :: blk a48 T_law16_Act [.int .i64 A.do_, .int .i64 A.n, .int .i64 A.at_, .int .i64 A.off, .int .u8 (A.fill.toNat : Int), kp.v] :: imm kp A.keep :: l) := H
      rcases hco with ⟨rfl, c1, c2, c3, _⟩ | ⟨c1, c2, c3, c4⟩ | ⟨rfl, c1, _, c3, W', c5, c6⟩
      · refine cT rfl ?_
        replace H := H.drew
        refine ⟨_, cvM (s := s69) (xs := (if rightC C = true then layC W.pages C else W.pages).flatten) H und_l8 und_8 und_s, ?_⟩
        refine law_pages (b := b) (W := W2) H fun w H => ⟨_, rfl, ?_, cF (by rw [if_pos c1, c3]; simp) (cF rfl ?_)⟩
        · exact cvM (s := s69) (xs := (if rightC C = true then layC W.pages C else W.pages).flatten) H und_l8 und_8 und_s
        refine disk_On (D := D2) H ⟨_, rfl, cF (by rw [c2.on]; rfl) (fin _ (fun _ => ⟨c1, c2, c3⟩) ⟨W2, .inl c2, .inl ⟨rfl, rfl⟩⟩ H)⟩
      · refine cF (by simpa using c1) (cT (by simpa using c1) ?_)
        replace H := H.drew
        have G1' : Nac.Good D2 X W2 := by rw [c3, c4]; exact G1
        refine law_pages (b := b) (W := W2) H fun w H => ⟨_, rfl, cF (by rw [c4]; simp) ?_⟩
        refine disk_On (D := D2) H ⟨_, rfl, cF ?_ (fin _ (fun h => absurd h c1) ⟨W2, .inl G1', .inr ⟨c1, .inl (by rw [c4])⟩⟩ H)⟩
        rw [G1'.on]; simpa using c2
      · refine cF rfl (cT rfl ?_)
        replace H := H.drew
        refine law_pages (b := b) (W := W2) H fun w H => ⟨_, rfl, cF (by rw [c3]; simp) ?_⟩
        refine disk_On (D := D2) H ⟨_, rfl, cF (by rw [c5.off]; rfl) (fin _ (fun h => by cases h) ⟨W', .inr ⟨c5.fits, c5.off, c5.waits, c5.li⟩, .inr ⟨by decide, c6.imp id fun h => ⟨c1, h⟩⟩⟩ H)⟩
    refine ld0 H (dBoth (fun h3 => lda H (lda H ?_)) (fun h3 => go D w2 G H))
    refine disk_Arm (n := A.at_) (s := kp) (surv := A.keep) (D := D) H hgm.2.1.2 (by have := hgm.2.2; simp only [reachBytes] at this; omega) (fun w H => ⟨rfl, ?_⟩)
    obtain ⟨e1, e2, e3⟩ := arm_facts D A.at_ A.keep
    refine go _ w (G.has e1 (e2.trans G.waits) (e3.trans G.on)) ?_
    replace H := H.takes (cs := [mrow T_uint8 s69 _, imm s2 C, blk a48 T_law16_Act _, imm kp A.keep, WalAt b p W, PartAt p d X, DiskAt d _]) (r := l) (by repeat (first | assumption | constructor))
    exact H
end
end Go.Proofs.YtkfcmpngcanffaaDoor.G
