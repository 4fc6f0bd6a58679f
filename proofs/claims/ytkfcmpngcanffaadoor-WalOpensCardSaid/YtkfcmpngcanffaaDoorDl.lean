import Derived.Test.YtkfcmpngcanffaaDoorDk
import Derived.Test.YtkfcmpngcanffaaDoorNx
set_option linter.unusedVariables false
set_option linter.unusedSimpArgs false
namespace Go.VC
open Go Go.RowKit
theorem Heap.kp6 {F : Bs} {w : World} {c d e f g i : SP} : ∀ (n : Nat) {l : List SP}, Heap F w (c :: d :: e :: f :: g :: i :: l) → Heap F w (c :: d :: e :: f :: g :: i :: l.drop n)
  | 0, _, H => H
  | n + 1, [], H => H
  | n + 1, a :: l, H => Heap.kp6 n (H.dr a (.t (.t (.t (.t (.t (.t .h)))))))
theorem Heap.kp8 {F : Bs} {w : World} {c d e f g i j k : SP} : ∀ (n : Nat) {l : List SP}, Heap F w (c :: d :: e :: f :: g :: i :: j :: k :: l) → Heap F w (c :: d :: e :: f :: g :: i :: j :: k :: l.drop n)
  | 0, _, H => H
  | n + 1, [], H => H
  | n + 1, a :: l, H => Heap.kp8 n (H.dr a (.t (.t (.t (.t (.t (.t (.t (.t .h)))))))))
end Go.VC
namespace Go.Proofs.YtkfcmpngcanffaaDoor.G
open Go Go.VC Go.RowKit Go.Proofs Go.Proofs.YtkfcmpngcanffaaDoor Nac
attribute [local irreducible] Tryd.prog
section
variable {F : Bs} {w : World} {l r : List SP} {b d p : Nat} {D : Disk} {Q : Value → World → Prop} {X : Nac.Ext} {W : Wal} {s1 s2 s5 sp : Sl} {fr : Int}
/-- the log as both see it: the program's, and the document's in a variable -/
def Both (b p d a : Nat) (X : Nac.Ext) (fr : Int) (W : Wal) (D : Disk) (s1 s2 s5 sp : Sl) (l : List SP) : List SP :=
  WalAt b p W :: PartAt p d X :: DiskAt d D :: blk a T_ref16_Log (lwc s1 s2 s5 sp D fr W.epoch (W.home : Int) (W.used : Int) W.dead) :: RDk s1 s2 s5 D :: imm sp (W.pages.map bs) :: l
set_option maxHeartbeats 4000000 in
theorem law_Full16 (H : Heap F w l) {s : Sl} {xs : List UInt8} {less : Int} (hless : 0 ≤ less ∧ less < 4294967296) (hS : Has l (imm s xs)) (hH : Has l Half) (k : ∀ w', Heap F w' l → Q (.bool true) w') : Does Tryd.prog N_law16_WalFull #[.slice s.a s.len s.cap, .int .u32 less] w Q := by
  refine F_law16_WalFull_does _ _ _ _ ?_
  unfold F_law16_WalFull
  have hsl := H.len hS
  have hsb := H.bndI hS
  obtain ⟨f0, G, fl⟩ := DF_good (n := 0) (by decide) (by decide)
  refine law_part16 H (n := 0) (by decide) (by decide) f0 hH fun d p s1 s2 s5 w H => ⟨_, _, s1, s2, _, _, s5, _, rfl, ?_⟩
  generalize (Nac.format D0 ⟨0, 52⟩).1 = DF at *
  obtain ⟨X, hX⟩ : ∃ X : Nac.Ext, X = ⟨0, 52⟩ := ⟨_, rfl⟩
  rw [← hX] at G H
  have hX0 : X.from_ = 0 := by rw [hX]
  have hX52 : X.count = 52 := by rw [hX]
  refine al H (cs := [(Sl.v ⟨none, 0, 0⟩), (Sl.v ⟨none, 0, 0⟩), .bool false, .int .i64 0, (Sl.v ⟨none, 0, 0⟩)]) (fun a11 w H => ?_) zc_ref05_Disk
  repeat (first | refine lda H ?_ | refine ld0 H ?_ | refine ldaN H ?_ | refine ld0N H ?_ | refine sta H fun w H => ?_ | refine st0 H fun w H => ?_)
  refine cF rfl ⟨by decide, ?_⟩
  obtain ⟨E, hE, hE1⟩ : ∃ E : UInt32, IntKind.wrap .u32 (4294967295 - Int.tmod less 3) = (E.toNat : Int) ∧ 1 < E.toNat := by
    refine ⟨UInt32.ofNat (4294967295 - less.toNat % 3), ?_, ?_⟩
    · rw [IntKind.wrap_u32, show Int.tmod less 3 = ((less.toNat % 3 : Nat) : Int) by
        obtain ⟨n, rfl⟩ := Int.eq_ofNat_of_zero_le hless.1
        rfl]
      rw [UInt32.toNat_ofNat_of_lt' (by show _ < 4294967296; omega)]
      omega
    · rw [UInt32.toNat_ofNat_of_lt' (by show _ < 4294967296; omega)]; omega
  rw [hE]
  have q : Quiet DF := ⟨G.on, fl⟩
  have hWp := Ws_pages (home := 0) (e := E) (by decide) page0_all.1 page0_all.2
  have hWh := Ws_head (home := 0) (e := E)
  refine ⟨fun x w' => ∃ (i : Nat) (D' : Disk) (s1 s2 : Sl), x = (i : Int) ∧ i ≤ 16 ∧ pw X ((pagesW 0 E (List.replicate 16 page0)).take i) DF = (D', 0) ∧ Heap F w' (PartAt p d X :: DiskAt d D' :: blk a11 T_ref05_Disk [.slice s1.a s1.len s1.cap, .slice s2.a s2.len s2.cap, .bool D'.off, .int .i64 D'.left, .slice s5.a s5.len s5.cap] :: RDk s1 s2 s5 D' :: l), fun x _ => (16 - x).toNat, ⟨0, DF, s1, s2, rfl, by omega, rfl, ?_⟩, ?_⟩
  · exact H.ord4 (a := PartAt p d X) (b := DiskAt d DF) (c := blk a11 _ _) (d := RDk s1 s2 s5 DF)
  rintro x w1 ⟨i, D1, s1, s2, rfl, hi, hD1, H⟩
  have hw1 : D1.waits.length ≤ 16 := by
    have := pw_waits X ((pagesW 0 E (List.replicate 16 page0)).take i) DF
    rw [hD1, G.waits] at this
    simp only [List.length_take, List.length_nil] at this; omega
  refine dBoth (fun hlt => ?_) (fun hge => ?_)
  · have hlt' : i < 16 := by omega
    have hstep : pw X ((pagesW 0 E (List.replicate 16 page0)).take (i + 1)) DF = pwrite D1 X ((2 + i : Nat) : Int) (sayS 80 E (b8 i :: page0)) := by
      rw [pagesW_take 0 E _ (show i < (List.replicate 16 page0).length by simpa using hlt'), pw_snoc, hD1, if_pos rfl]
      simp only [pageW, List.getElem_replicate]
    have hgo := pw_quiet_went G.fits q (fun x hx => hWp x (List.mem_of_mem_take (i := i + 1) hx))
    rw [hstep] at hgo
    intro J hJ J27 hJ27
    have go : ∀ w, Heap F w (PartAt p d X :: DiskAt d D1 :: blk a11 T_ref05_Disk [.slice s1.a s1.len s1.cap, .slice s2.a s2.len s2.cap, .bool D1.off, .int .i64 D1.left, .slice s5.a s5.len s5.cap] :: RDk s1 s2 s5 D1 :: l) → J27 (bs (sayS 80 E (b8 i :: page0))) w := fun w H => by
      refine hJ27 _ _ ?_
      refine bytesOf H und_l8 und_8 und_s (mx (by rw [sayS_length (by simp [page0])]; decide)) fun s28 w H => ?_
      rw [i64_id (by omega), show (2 : Int) + (i : Int) = ((2 + i : Nat) : Int) by omega]
      refine part_Write (D := D1) (x := X) (s := s28) (bb := sayS 80 E (b8 i :: page0)) H (by omega) fun w H => ⟨_, rfl, ?_⟩
      have hwr : pwrite D1 X ((2 + i : Nat) : Int) (sayS 80 E (b8 i :: page0)) = D1.write ((2 + i : Nat) : Int) (sayS 80 E (b8 i :: page0)) := by
        rw [pwrite, if_pos ⟨by omega, by omega⟩, hX0, Int.zero_add]
      repeat (first | refine lda H ?_ | refine ld0 H ?_ | refine ldaN H ?_ | refine ld0N H ?_ | refine sta H fun w H => ?_ | refine st0 H fun w H => ?_)
      refine rd_Write H (s1 := s1) (s2 := s2) (s5 := s5) (D := D1) (by repeat (first | assumption | constructor)) (by omega) fun s1' s2' w H => ⟨s1', s2', _, _, s5, _, rfl, ?_⟩
      rw [← hwr] at H ⊢
      generalize pwrite D1 X ((2 + i : Nat) : Int) (sayS 80 E (b8 i :: page0)) = R at *
      obtain ⟨D2, e2⟩ := R
      obtain ⟨g1, g2⟩ := hgo
      dsimp only at *
      subst g1
      refine al H (cs := [(Sl.v ⟨none, 0, 0⟩), (Sl.v ⟨none, 0, 0⟩), .bool false, .int .i64 0, (Sl.v ⟨none, 0, 0⟩)]) (fun a46 w H => ?_) zc_ref05_Disk
      repeat (first | refine lda H ?_ | refine ld0 H ?_ | refine ldaN H ?_ | refine ld0N H ?_ | refine sta H fun w H => ?_ | refine st0 H fun w H => ?_)
      refine hJ _ ⟨⟨i + 1, D2, s1', s2', by rw [i64_id (by omega)]; omega, by omega, hstep, ?_⟩, by rw [i64_id (by omega)]; (try dsimp only); omega⟩
      replace H := (H.dr (blk a46 _ _)).dr2 (imm s28 _) (RDk s1 s2 s5 D1)
      exact H.ord4 (a := PartAt p d X) (b := DiskAt d D2) (c := blk a11 _ _) (d := RDk s1' s2' s5 D2)
    have h40 : (⟨#[80]⟩ : ByteArray) = bs [80] := rfl
    refine ⟨?_, ?_⟩
    · rw [Go.VC.wrap8]
      refine al H.drew (cs := [.int .u8 ((b8 i).toNat : Int)]) (fun a65 w H => ?_) rfl
      replace H := H.blk_own (n := 1) (cs := [.int .u8 ((b8 i).toNat : Int)]) [b8 i] rfl (mx (by simp)) rfl
      refine ⟨_, cvB1 (xs := [b8 i]) H und_l8 und_8 und_s .h, ?_⟩
      rw [show (40 : Int) = ((40 : Nat) : Int) from rfl]
      refine ref_Noughts16 (n := 40) H (by decide) fun H => ⟨_, rfl, ?_, ?_, ?_⟩
      · exact cvB1 (xs := [b8 i]) H und_l8 und_8 und_s .h
      · simp
      rw [bs_append, h40]
      refine ref_Sector16 (e := E) (c := 80) (bb := [b8 i] ++ List.replicate 40 0) H (by simp) fun w H => ⟨_, rfl, go _ H.tl⟩
    · rw [show (40 : Int) = ((40 : Nat) : Int) from rfl]
      refine ref_Noughts16 (n := 40) H.drew (by decide) fun H => ⟨_, rfl, ?_⟩
      rw [Go.VC.wrap8]
      refine al H (cs := [.int .u8 ((b8 i).toNat : Int)]) (fun a65 w H => ?_) rfl
      replace H := H.blk_own (n := 1) (cs := [.int .u8 ((b8 i).toNat : Int)]) [b8 i] rfl (mx (by simp)) rfl
      refine ⟨_, cvB1 (xs := [b8 i]) H und_l8 und_8 und_s .h, by simp, ?_⟩
      rw [bs_append, h40]
      refine ref_Sector16 (e := E) (c := 80) (bb := [b8 i] ++ List.replicate 40 0) H (by simp) fun w H => ⟨_, rfl, go _ H.tl⟩
  · obtain rfl : i = 16 := by omega
    rw [List.take_of_length_le (by simp [pagesW])] at hD1
    rw [show (⟨#[72]⟩ : ByteArray) = bs [72] from rfl, show (⟨#[0]⟩ : ByteArray) = bs [b8 (0 : Nat)] from rfl]
    refine ref_Sector16 (e := E) (c := 72) (bb := [b8 (0 : Nat)]) H (by simp) fun w H => ⟨_, rfl, by decide, ?_⟩
    refine bytesOf H und_l8 und_8 und_s (mx (by rw [sayS_length (by simp)]; decide)) fun s28 w H => ?_
    have hpos : IntKind.wrap .i64 (Int.tmod (E.toNat : Int) 2) = ((E.toNat % 2 : Nat) : Int) := by
      rw [show Int.tmod (E.toNat : Int) 2 = ((E.toNat % 2 : Nat) : Int) from rfl, i64_id (by omega)]
    rw [hpos]
    refine part_Write (D := D1) (x := X) (s := s28) (bb := sayS 72 E [b8 (0 : Nat)]) H (by omega) fun w H => ⟨_, rfl, ?_⟩
    have hwr : pwrite D1 X ((E.toNat % 2 : Nat) : Int) (sayS 72 E [b8 (0 : Nat)]) = D1.write ((E.toNat % 2 : Nat) : Int) (sayS 72 E [b8 (0 : Nat)]) := by
      rw [pwrite, if_pos ⟨by omega, by omega⟩, hX0, Int.zero_add]
    repeat (first | refine lda H ?_ | refine ld0 H ?_ | refine ldaN H ?_ | refine ld0N H ?_ | refine sta H fun w H => ?_ | refine st0 H fun w H => ?_)
    refine ⟨by decide, ?_⟩
    refine rd_Write H (s1 := s1) (s2 := s2) (s5 := s5) (D := D1) (by repeat (first | assumption | constructor)) (by omega) fun s1' s2' w H => ⟨s1', s2', _, _, s5, _, rfl, ?_⟩
    rw [← hwr] at H ⊢
    have hWall : Ws (pagesW 0 E (List.replicate 16 page0) ++ [headW 0 E]) := fun x hx => (List.mem_append.1 hx).elim (hWp x) (hWh x)
    obtain ⟨g1, g2⟩ := pw_quiet_went G.fits q hWall
    have hlast : pw X (pagesW 0 E (List.replicate 16 page0) ++ [headW 0 E]) DF = pwrite D1 X ((E.toNat % 2 : Nat) : Int) (sayS 72 E [b8 (0 : Nat)]) := by
      rw [pw_snoc, hD1, if_pos rfl]; rfl
    rw [hlast] at g1 g2
    have hlen2 : (pwrite D1 X ((E.toNat % 2 : Nat) : Int) (sayS 72 E [b8 (0 : Nat)])).1.has.length = DF.has.length := by rw [g2.has]
    have hw2 := pwrite_waits D1 X ((E.toNat % 2 : Nat) : Int) (sayS 72 E [b8 (0 : Nat)])
    have ok2 := disk_ok H (D := (pwrite D1 X ((E.toNat % 2 : Nat) : Int) (sayS 72 E [b8 (0 : Nat)])).1) (by repeat (first | assumption | constructor))
    generalize pwrite D1 X ((E.toNat % 2 : Nat) : Int) (sayS 72 E [b8 (0 : Nat)]) = R at *
    obtain ⟨D2, e2⟩ := R
    dsimp only at *
    have hF2 : Nac.Fits D2 X := ⟨G.fits.f0, G.fits.n52, by rw [hlen2]; exact G.fits.lies⟩
    have q2 : Quiet D2 := ⟨g2.off, by rw [g2.left fl]; exact fl⟩
    -- what the sectors say now
    have hat : ∀ i, secOf D2 X i = upd (dat DF X) (pagesW 0 E (List.replicate 16 page0) ++ [headW 0 E]) i := fun i => by
      rw [secOf_went G.fits.f0 g2, secOf_dat G.waits]
    have posh : ∀ {i : Nat}, i ≠ E.toNat % 2 → ∀ x ∈ [headW 0 E], x.1 ≠ i := fun hi x hx => by simp at hx; subst hx; simp only [headW]; omega
    have posp : ∀ {i : Nat}, (i < 2 ∨ 18 ≤ i) → ∀ x ∈ pagesW 0 E (List.replicate 16 page0), x.1 ≠ i := fun hi x hx => by
      obtain ⟨j, hj, rfl⟩ := mem_pagesW.1 hx
      simp only [List.length_replicate] at hj
      simp only [pageW]; omega
    have happ : ∀ i, upd (dat DF X) (pagesW 0 E (List.replicate 16 page0) ++ [headW 0 E]) i = upd (upd (dat DF X) (pagesW 0 E (List.replicate 16 page0))) [headW 0 E] i := fun i => by simp only [upd, List.foldl_append]
    have low : ∀ i, i ≠ E.toNat % 2 → (i < 2 ∨ 18 ≤ i) → secOf D2 X i = dat DF X i := fun i h1 h2 => by
      rw [hat, happ, upd_out (posh h1), upd_out (posp h2)]
    have hli : LI (secOf D2 X) ⟨List.replicate 16 page0, E, 0, 0, false⟩ := by
      refine G.li.jump hE1 (secs_of hF2 ok2) ?_ (fun hp => low 1 (by omega) (by omega)) (fun hp => low 0 (by omega) (by omega)) (fun i hi => ?_) (fun k hk => low _ (by omega) (by omega))
      · rw [hat, happ]
        exact upd_in (x := headW 0 E) (by simp) (by simp only [headW]) (by simp)
      · rw [hat, happ, upd_out (posh (by omega)), upd_in (x := pageW 0 E i ((List.replicate 16 page0)[i]'(by simpa using hi))) (mem_pagesW.2 ⟨i, by simpa using hi, rfl⟩) (by simp only [pageW]) (pagesW_pw _ _ _)]
        simp only [pageW, List.getD_eq_getElem?_getD]
        rw [List.getElem?_eq_getElem (by simpa using hi)]; rfl
    have hwo : wopen D2 X = (⟨List.replicate 16 page0, E, 0, 0, false⟩, 0) := by rw [wopen, g2.off]; exact hli.pages
    repeat (first | refine lda H ?_ | refine ld0 H ?_ | refine ldaN H ?_ | refine ld0N H ?_ | refine sta H fun w H => ?_ | refine st0 H fun w H => ?_)
    refine wal_Open (D := D2) (X := X) H hF2 (fun _ b w H => ⟨_, _, rfl, ?_⟩) (fun h => absurd (by rw [hwo]) h) (by repeat (first | assumption | constructor)) (by repeat (first | assumption | constructor)) (by repeat (first | assumption | constructor))
    rw [hwo] at H
    dsimp only at H
    repeat (first | refine lda H ?_ | refine ld0 H ?_ | refine ldaN H ?_ | refine ld0N H ?_ | refine sta H fun w H => ?_ | refine st0 H fun w H => ?_)
    refine ref_Open16 (D := D2) (X := X) (s1 := s1') (s2 := s2') (s5 := s5) (fr := 0) H (by repeat (first | assumption | constructor)) hF2 ⟨hX0, by decide⟩ (fun _ sp w H => ⟨s1', s2', _, _, s5, _, sp, _, _, _, _, _, rfl, ?_⟩) (fun h => absurd (by rw [hwo]) h)
    rw [hwo] at H ⊢
    dsimp only at H ⊢
    refine al H (cs := [(Sl.v ⟨none, 0, 0⟩), (Sl.v ⟨none, 0, 0⟩), .bool false, .int .i64 0, (Sl.v ⟨none, 0, 0⟩), .int .i64 0, (Sl.v ⟨none, 0, 0⟩), .int .u32 0, .int .i64 0, .int .i64 0, .bool false]) (fun a133 w H => ?_) zc_ref16_Log
    repeat (first | refine lda H ?_ | refine ld0 H ?_ | refine ldaN H ?_ | refine ld0N H ?_ | refine sta H fun w H => ?_ | refine st0 H fun w H => ?_)
    intro J148 hJ148
    refine cF rfl (cF rfl ?_)
    repeat (first | refine lda H ?_ | refine ld0 H ?_ | refine ldaN H ?_ | refine ld0N H ?_ | refine sta H fun w H => ?_ | refine st0 H fun w H => ?_)
    refine law_is (W := ⟨List.replicate 16 page0, E, 0, 0, false⟩) (b := b) (D := D2) (sp := sp) H (fun w H => ⟨_, rfl, cF rfl (hJ148 _ ?_)⟩) (by repeat (first | assumption | constructor)) (by repeat (first | assumption | constructor))
    replace H := H.takes (cs := [WalAt b p _, PartAt p d X, DiskAt d D2, blk a133 T_ref16_Log _, RDk s1' s2' s5 D2, imm sp ((List.replicate 16 page0).map bs)]) (by repeat (first | assumption | constructor))
    replace H : Heap F w (Both b p d a133 X 0 ⟨List.replicate 16 page0, E, 0, 0, false⟩ D2 s1' s2' s5 sp l) := Heap.kp6 3 H
    intro J150 hJ150
    have out : ∀ (D : Disk) (W : Wal) (s1 s2 sp : Sl) (w : World), Quiet D → Heap F w (Both b p d a133 X 0 W D s1 s2 s5 sp l) → J150 w := fun D W s1 s2 sp w q H => by
      refine hJ150 _ ?_
      unfold Both at H
      refine disk_On (D := D) H ⟨_, rfl, cT (by rw [q.on]; rfl) ?_⟩
      refine law_awake16 H (.t (.t (.t (.t (.t (.t hH)))))) fun w H => ⟨_, rfl, k w (H.tln 6)⟩
    refine ⟨fun x w' => ∃ (i : Nat) (D : Disk) (W : Wal) (s1 s2 sp : Sl), x = (i : Int) ∧ i ≤ xs.length ∧ i ≤ 24 ∧ Quiet D ∧ D.waits.length ≤ 100 + 40 * i ∧ Heap F w' (Both b p d a133 X 0 W D s1 s2 s5 sp l), fun x _ => (24 - x).toNat, ⟨0, D2, _, s1', s2', sp, rfl, by omega, by omega, q2, by omega, H⟩, ?_⟩
    rintro x w2 ⟨i, D, W, s1, s2, sp, rfl, hi, hi24, q, hwt, H⟩
    intro J162 hJ162
    refine dBoth (fun hlt => dBoth (fun hlt2 => hJ162 _ ?_) (fun h => out D W s1 s2 sp w2 q H)) (fun h => out D W s1 s2 sp w2 q H)
    have hlt' : i < xs.length := by omega
    intro J164 hJ164
    unfold Both at H
    obtain ⟨ok, _, _⟩ := wal_opn (b := b) (p := p) (W := W) H (by repeat (first | assumption | constructor))
    replace H := H.drew
    refine idxI1w (s := s) (xs := xs) H (by omega) (by omega) (fun a165 h165 => ldc (h165 H (by repeat (first | assumption | constructor))) ⟨by decide, by decide, ?_⟩) (by repeat (first | assumption | constructor))
    refine idxI1w (s := s) (xs := xs) H (by omega) (by omega) (fun a167 h167 => ldc (h167 H (by repeat (first | assumption | constructor))) ?_) (by repeat (first | assumption | constructor))
    have eg : xs[((i : Nat) : Int).toNat]'(by simpa using hlt') = xs[i] := by simp
    simp only [eg] at h165 h167 ⊢
    generalize xs[i] = c at *
    rw [i64_id (n := (c.toNat : Int)) (by have := c.toNat_lt; omega), i64_id (n := 1 + Int.tmod (c.toNat : Int) 5) (by have := c.toNat_lt; have : Int.tmod (c.toNat : Int) 5 = ((c.toNat % 5 : Nat) : Int) := rfl; omega)]
    have htm : Int.tmod (c.toNat : Int) 5 = ((c.toNat % 5 : Nat) : Int) := rfl
    refine al H (cs := [.int .i64 0, .int .i64 0, .int .i64 0, .int .i64 0, .int .u8 0, (Sl.v ⟨none, 0, 0⟩)]) (fun a169 w H => ⟨h167 H (by repeat (first | assumption | constructor)), h165 H (by repeat (first | assumption | constructor)), ?_⟩) zc_law16_Act
    repeat (first | refine lda H ?_ | refine ld0 H ?_ | refine ldaN H ?_ | refine ld0N H ?_ | refine sta H fun w H => ?_ | refine st0 H fun w H => ?_)
    obtain ⟨a, ha⟩ : ∃ a : Act16, a = ⟨0, 1 + Int.tmod (c.toNat : Int) 5, Int.tmod (i : Int) 16, 0, c, []⟩ := ⟨_, rfl⟩
    have han : -9223372036854775808 ≤ a.n ∧ a.n ≤ 9223372036854775807 := by rw [ha]; dsimp only; omega
    replace H : Heap F w (blk a169 T_law16_Act [.int .i64 a.do_, .int .i64 a.n, .int .i64 a.at_, .int .i64 a.off, .int .u8 (a.fill.toNat : Int), (⟨none, 0, 0⟩ : Sl).v] :: Both b p d a133 X 0 W D s1 s2 s5 sp l) := by subst ha; exact H
    unfold Both at H
    intro J181 hJ181
    have hcw := wcommit_waits (D := D) (X := X) (l := changes a) ok.n16
    have hq := wcommit_quiet (X := X) (W := W) (l := changes a) q
    have go : ∀ (z : Nat) (s1q s2q spq : Sl) (w : World), Heap F w (blk z T_ref16_Log (lwc s1q s2q s5 spq (wcommit D X W (changes a)).1 0 (wcommit D X W (changes a)).2.1.epoch ((wcommit D X W (changes a)).2.1.home : Int) ((wcommit D X W (changes a)).2.1.used : Int) (wcommit D X W (changes a)).2.1.dead) :: RDk s1q s2q s5 (wcommit D X W (changes a)).1 :: imm spq ((wcommit D X W (changes a)).2.1.pages.map bs) ::
        blk a169 T_law16_Act [.int .i64 a.do_, .int .i64 a.n, .int .i64 a.at_, .int .i64 a.off, .int .u8 (a.fill.toNat : Int), (⟨none, 0, 0⟩ : Sl).v] :: WalAt b p W :: PartAt p d X :: DiskAt d D :: blk a133 T_ref16_Log (lwc s1 s2 s5 sp D 0 W.epoch (W.home : Int) (W.used : Int) W.dead) :: l) → J181 ⟨z, 0, none⟩ (wcommit D X W (changes a)).2.2 w := fun z s1q s2q spq w H => by
      refine hJ181 _ _ _ ?_
      repeat (first | refine lda H ?_ | refine ld0 H ?_ | refine ldaN H ?_ | refine ld0N H ?_ | refine sta H fun w H => ?_ | refine st0 H fun w H => ?_)
      refine law_Changes (a := a) (sk := (⟨none, 0, 0⟩ : Sl)) H han fun s2c w H => ⟨_, rfl, ?_⟩
      replace H := H.share (s := s2c) (xs := changes a)
      refine wal_Commit (D := D) (X := X) (W := W) (s := s2c) (xs := changes a) H (by omega) (fun w H => ⟨_, rfl, ?_⟩) (by repeat (first | assumption | constructor)) (by repeat (first | assumption | constructor)) (by repeat (first | assumption | constructor)) (by repeat (first | assumption | constructor)) (by repeat (first | assumption | constructor))
      generalize wcommit D X W (changes a) = R at *
      obtain ⟨D3, W3, e3⟩ := R
      dsimp only at *
      refine cF (by simp) ?_
      repeat (first | refine lda H ?_ | refine ld0 H ?_ | refine ldaN H ?_ | refine ld0N H ?_ | refine sta H fun w H => ?_ | refine st0 H fun w H => ?_)
      refine law_is (W := W3) (b := b) (D := D3) (sp := spq) H (fun w H => ⟨_, rfl, cF rfl (hJ164 _ ?_)⟩) (by repeat (first | assumption | constructor)) (by repeat (first | assumption | constructor))
      replace H := H.takes (cs := [WalAt b p W3, PartAt p d X, DiskAt d D3, blk a133 T_ref16_Log _, RDk s1q s2q s5 D3, imm spq (W3.pages.map bs)]) (by repeat (first | assumption | constructor))
      exact ⟨⟨i + 1, D3, W3, s1q, s2q, spq, by rw [i64_id (by omega)]; omega, by omega, by omega, hq, by omega, Heap.kp6 3 H⟩, by rw [i64_id (by omega)]; (try dsimp only); omega⟩
    replace H := H.drew
    repeat (first | refine lda H ?_ | refine ld0 H ?_ | refine ldaN H ?_ | refine ld0N H ?_ | refine sta H fun w H => ?_ | refine st0 H fun w H => ?_)
    refine ⟨?_, ?_⟩
    · refine law_Changes (a := a) (sk := (⟨none, 0, 0⟩ : Sl)) H han fun s3c w H => ⟨_, rfl, ⟨rfl, rowB H (by repeat (first | assumption | constructor))⟩, ?_, ?_⟩
      · replace H := H.share (s := s3c) (xs := changes a)
        refine ref_Commit16 (D := D) (X := X) (W := W) (s := s3c) (xs := changes a) (sp := sp) H ok (by repeat (first | assumption | constructor)) (by repeat (first | assumption | constructor)) ⟨hX0, by decide, by decide, hX52⟩ (by omega) (by repeat (first | assumption | constructor)) fun s1q s2q spq w H => ⟨s1q, s2q, _, _, s5, _, spq, _, _, _, _, _, rfl, ?_⟩
        refine al H (cs := [(Sl.v ⟨none, 0, 0⟩), (Sl.v ⟨none, 0, 0⟩), .bool false, .int .i64 0, (Sl.v ⟨none, 0, 0⟩), .int .i64 0, (Sl.v ⟨none, 0, 0⟩), .int .u32 0, .int .i64 0, .int .i64 0, .bool false]) (fun a265 w H => ?_) zc_ref16_Log
        repeat (first | refine lda H ?_ | refine ld0 H ?_ | refine ldaN H ?_ | refine ld0N H ?_ | refine sta H fun w H => ?_ | refine st0 H fun w H => ?_)
        refine go a265 s1q s2q spq w ?_
        replace H := H.takes (cs := [blk a265 T_ref16_Log _, RDk s1q s2q s5 _, imm spq _, blk a169 T_law16_Act _, WalAt b p W, PartAt p d X, DiskAt d D, blk a133 T_ref16_Log _]) (by repeat (first | assumption | constructor))
        exact Heap.kp8 3 H
      · replace H := H.share (s := s3c) (xs := changes a)
        refine al H (cs := [(Sl.v ⟨none, 0, 0⟩), (Sl.v ⟨none, 0, 0⟩), .bool false, .int .i64 0, (Sl.v ⟨none, 0, 0⟩), .int .i64 0, (Sl.v ⟨none, 0, 0⟩), .int .u32 0, .int .i64 0, .int .i64 0, .bool false]) (fun a265 w H => ⟨⟨rfl, rowB H (by repeat (first | assumption | constructor))⟩, ?_⟩) zc_ref16_Log
        refine ref_Commit16 (D := D) (X := X) (W := W) (s := s3c) (xs := changes a) (sp := sp) H ok (by repeat (first | assumption | constructor)) (by repeat (first | assumption | constructor)) ⟨hX0, by decide, by decide, hX52⟩ (by omega) (by repeat (first | assumption | constructor)) fun s1q s2q spq w H => ⟨s1q, s2q, _, _, s5, _, spq, _, _, _, _, _, rfl, ?_⟩
        repeat (first | refine lda H ?_ | refine ld0 H ?_ | refine ldaN H ?_ | refine ld0N H ?_ | refine sta H fun w H => ?_ | refine st0 H fun w H => ?_)
        refine go a265 s1q s2q spq w ?_
        replace H := H.takes (cs := [blk a265 T_ref16_Log _, RDk s1q s2q s5 _, imm spq _, blk a169 T_law16_Act _, WalAt b p W, PartAt p d X, DiskAt d D, blk a133 T_ref16_Log _]) (by repeat (first | assumption | constructor))
        exact Heap.kp8 3 H
    · refine al H (cs := [(Sl.v ⟨none, 0, 0⟩), (Sl.v ⟨none, 0, 0⟩), .bool false, .int .i64 0, (Sl.v ⟨none, 0, 0⟩), .int .i64 0, (Sl.v ⟨none, 0, 0⟩), .int .u32 0, .int .i64 0, .int .i64 0, .bool false]) (fun a265 w H => ⟨⟨rfl, rowB H (by repeat (first | assumption | constructor))⟩, ⟨rfl, rowB H (by repeat (first | assumption | constructor))⟩, ?_⟩) zc_ref16_Log
      refine law_Changes (a := a) (sk := (⟨none, 0, 0⟩ : Sl)) H han fun s3c w H => ⟨_, rfl, ⟨rfl, rowB H (by repeat (first | assumption | constructor))⟩, ?_⟩
      replace H := H.share (s := s3c) (xs := changes a)
      refine ref_Commit16 (D := D) (X := X) (W := W) (s := s3c) (xs := changes a) (sp := sp) H ok (by repeat (first | assumption | constructor)) (by repeat (first | assumption | constructor)) ⟨hX0, by decide, by decide, hX52⟩ (by omega) (by repeat (first | assumption | constructor)) fun s1q s2q spq w H => ⟨s1q, s2q, _, _, s5, _, spq, _, _, _, _, _, rfl, ?_⟩
      repeat (first | refine lda H ?_ | refine ld0 H ?_ | refine ldaN H ?_ | refine ld0N H ?_ | refine sta H fun w H => ?_ | refine st0 H fun w H => ?_)
      refine go a265 s1q s2q spq w ?_
      replace H := H.takes (cs := [blk a265 T_ref16_Log _, RDk s1q s2q s5 _, imm spq _, blk a169 T_law16_Act _, WalAt b p W, PartAt p d X, DiskAt d D, blk a133 T_ref16_Log _]) (by repeat (first | assumption | constructor))
      exact Heap.kp8 3 H
end
theorem has_u32 {n : Int} (h : IntKind.has .u32 n) : 0 ≤ n ∧ n < 4294967296 := by
  have h1 : (0 : Int) ≤ n := h.1
  have h2 : n ≤ 2 ^ 32 - 1 := h.2
  exact ⟨h1, by omega⟩
end Go.Proofs.YtkfcmpngcanffaaDoor.G
