import Derived.Test.YtkfcmpngcanffaaDoorDd
set_option linter.unusedVariables false
set_option linter.unusedSimpArgs false
namespace Go.Proofs.YtkfcmpngcanffaaDoor.G
open Go Go.VC Go.RowKit Go.Proofs Go.Proofs.YtkfcmpngcanffaaDoor Nac
attribute [local irreducible] Tryd.prog
def pagesUp (at_ : Nat → List UInt8) (h i : Nat) : List (List UInt8) := (List.range 16).map fun j => if j < i then pageOf at_ h j else page0
theorem pagesUp_zero (at_ : Nat → List UInt8) (h : Nat) : pagesUp at_ h 0 = pages0 := by rw [pagesUp]; rfl
theorem pagesUp_len (at_ : Nat → List UInt8) (h i : Nat) : (pagesUp at_ h i).length = 16 := by simp [pagesUp]
theorem pagesUp_16 (at_ : Nat → List UInt8) (h : Nat) : pagesUp at_ h 16 = (List.range 16).map (pageOf at_ h) := by
  rw [pagesUp]; apply List.map_congr_left; intro j hj; rw [if_pos (by simpa using hj)]
theorem pagesUp_succ (at_ : Nat → List UInt8) (h i : Nat) : (pagesUp at_ h i).set i (pageOf at_ h i) = pagesUp at_ h (i + 1) := by
  apply List.ext_getElem?
  intro j
  rw [pagesUp, pagesUp, List.getElem?_set]
  by_cases hij : i = j
  · subst hij
    simp only [List.length_map, List.length_range, if_true, List.getElem?_map]
    by_cases hi : i < 16
    · rw [if_pos hi, List.getElem?_range hi]; simp
    · rw [if_neg hi, List.getElem?_eq_none (by simpa using hi)]; rfl
  · rw [if_neg hij, List.getElem?_map, List.getElem?_map]
    by_cases hj : j < 16
    · rw [List.getElem?_range hj]
      have : j < i ↔ j < i + 1 := by omega
      simp [this]
    · rw [List.getElem?_eq_none (by simpa using hj)]; rfl
theorem pagesUp_40 {at_ : Nat → List UInt8} (hs : secs at_) {h : Nat} (hh : h < 2) (i : Nat) : ∀ x ∈ pagesUp at_ h i, x.length = 40 := by
  intro x hx
  simp only [pagesUp, List.mem_map, List.mem_range] at hx
  obtain ⟨j, hj, rfl⟩ := hx
  split
  · have := hs (2 + 16 * h + j) (by omega); simp [pageOf, this]
  · decide
theorem add32_1 (e : UInt32) : IntKind.wrap .u32 ((e.toNat : Int) + 1) = ((e + 1).toNat : Int) := by
  rw [IntKind.wrap_u32, UInt32.toNat_add, show (1 : UInt32).toNat = 1 by decide]; omega
section
variable {F : Bs} {w : World} {l r : List SP} {b d p : Nat} {D : Disk} {Q : Value → World → Prop} {X : Nac.Ext} {W : Wal}
theorem wal_Open {r1 r2 : List SP} (H : Heap F w l) (hF : Fits D X)
    (k1 : (wopen D X).2 = 0 → ∀ (b : Nat) w', Heap F w' (WalAt b p (wopen D X).1 :: PartAt p d X :: DiskAt d D :: r2) → Q (.tuple #[.pointer (some ⟨b, 0, none⟩), .int .i64 0]) w')
    (k2 : (wopen D X).2 ≠ 0 → ∀ w', Heap F w' (PartAt p d X :: DiskAt d D :: r2) → Q (.tuple #[.pointer none, .int .i64 (wopen D X).2]) w')
    (hP : Take l (PartAt p d X) r1 := by repeat (first | assumption | constructor)) (hD : Take r1 (DiskAt d D) r2 := by repeat (first | assumption | constructor)) (hH : Has r2 Half := by repeat (first | assumption | constructor)) :
    Does Tryd.prog N_wal_Open #[.pointer (some ⟨p, 0, none⟩)] w Q := by
  refine F_wal_Open_does _ _ _ ?_
  unfold F_wal_Open
  replace H : Heap F w (PartAt p d X :: DiskAt d D :: r2) := (H.take hP).take (.t hD) |>.ord2
  have ok : D.ok := disk_ok H
  have n52 := hF.n52
  refine part_Size (x := X) H ⟨_, rfl, dF (by omega) ?_⟩ .h
  refine al H (cs := walC p pages0.flatten 0 0 0 false) (fun a w H => ?_) (by rw [wal_zero]; kernel_rfl)
  have hp0 : pages0.flatten.length = 640 := by rw [flatK_len pages0_ok.2, pages0_ok.1]
  have bad : ∀ (c : Int) w (cs : List Value), c ≠ 0 → wopen D X = (⟨[], 0, 0, 0, false⟩, c) → Heap F w (blk a T_wal_Log cs :: PartAt p d X :: DiskAt d D :: r2) → Q (.tuple #[.pointer none, .int .i64 c]) w := fun c w cs hc he H => by
    rw [he] at k2; exact k2 hc w H.tl
  refine wal_head (b := a) (D := D) H ok hF hp0 (fun ho w H => ⟨_, rfl, cT rfl (bad 9 w _ (by decide) (by rw [wopen, ho]; rfl) H)⟩)
    (fun ho hn w H => ⟨_, rfl, cT rfl (bad 6 w _ (by decide) (by rw [wopen, ho]; show wstate _ = _; rw [wstate, hn]) H)⟩) (fun ho x hx w H => ⟨_, rfl, cF rfl ?_⟩) .h .h .h hH
  obtain ⟨e, h⟩ := x
  have hh := headOf_lt hx
  dsimp only at hh H
  have hs := secs_of hF ok
  have hwo : wopen D X = wstate (secOf D X) := by rw [wopen, ho]; rfl
  rw [wstate, hx] at hwo
  dsimp only at hwo
  refine ⟨fun x w' => ∃ i : Nat, x = (i : Int) ∧ i ≤ 16 ∧ (∀ j, j < i → pageOk (secOf D X) e h j = true) ∧ Heap F w' (blk a T_wal_Log (walC p (pagesUp (secOf D X) h i).flatten e (h : Int) 0 false) :: PartAt p d X :: DiskAt d D :: r2), fun x _ => (16 - x).toNat, ⟨0, rfl, by omega, fun j hj => by omega, by rw [pagesUp_zero]; exact H⟩, ?_⟩
  rintro x w1 ⟨i, rfl, hi, hok, H⟩
  have h40 := pagesUp_40 hs hh i
  have hn16 := pagesUp_len (secOf D X) h i
  have hlf : (pagesUp (secOf D X) h i).flatten.length = 640 := by rw [flatK_len h40, hn16]
  refine dBoth (fun hlt => ?_) (fun hge => ?_)
  · have hlt' : i < 16 := by omega
    intro J hJ
    refine nn (ldan H (walC_h hlf) ?_)
    rw [i64_id (n := (h : Int) * 16) (by omega), i64_id (n := 2 + (h : Int) * 16) (by omega), i64_id (by omega), show 2 + (h : Int) * 16 + (i : Int) = ((2 + 16 * h + i : Nat) : Int) by omega]
    refine part_Read (D := D) (n := ((2 + 16 * h + i : Nat) : Int)) (x := X) H fun s1 w H => ⟨⟨s1.a, s1.len, s1.cap⟩, _, rfl, ?_⟩
    rw [pread_on hF ho (by omega)] at H ⊢
    have hlen := secOf_len hF ok (i := 2 + 16 * h + i) (by omega)
    refine cF rfl ?_
    have hpi : pageOk (secOf D X) e h i = (secOf D X (2 + 16 * h + i) == sayS 80 e (b8 i :: ((secOf D X (2 + 16 * h + i)).drop 6).take 40)) := rfl
    have hpo : pageOf (secOf D X) h i = ((secOf D X (2 + 16 * h + i)).drop 6).take 40 := rfl
    generalize hbb : secOf D X (2 + 16 * h + i) = bb at *
    replace H := H.share (s := s1) (xs := bb)
    refine wal_hear (c := 80) (n := 41) (s := s1) (bb := bb) H hlen (by decide) (fun s2 w H => ⟨_, ⟨s2.a, s2.len, s2.cap⟩, _, rfl, ?_⟩) .h (.t (.t (.t (.t hH))))
    replace H : Heap F w (blk a T_wal_Log (walC p (pagesUp (secOf D X) h i).flatten e (h : Int) 0 false) :: PartAt p d X :: DiskAt d D :: imm s2 (hear bb 80 41).2.1 :: r2) := (H.dr (imm s1 bb)).ord4 (a := blk a _ _) (b := PartAt p d X) (c := DiskAt d D)
    intro J27 hJ27
    have hiff := said_iff hlen (c := 80) (e := e) (x := b8 i) (m := 40) (by decide)
    rw [show (40 + 1 : Nat) = 41 from rfl] at hiff
    have badp : ¬ bb = sayS 80 e (b8 i :: (bb.drop 6).take 40) → Q (.tuple #[.pointer none, .int .i64 8]) w := fun hb => by
      refine bad 8 w _ (by decide) ?_ (H.dr (imm s2 _))
      rw [hwo, if_neg]
      intro hall
      have := List.all_eq_true.1 hall i (by simpa using hlt')
      rw [hpi, beq_iff_eq] at this
      exact hb this
    refine cBoth (fun hk => badp fun hb => ?_) (fun hk => ?_)
    · rw [(hiff.1 hb).1] at hk; cases hk
    have hk' : (hear bb 80 41).2.2 = true := by simpa using hk
    have hhd := hear_rest hlen (c := 80) (m := 40) (by decide) hk'
    rw [show (40 + 1 : Nat) = 41 from rfl] at hhd
    rw [hhd] at H hiff ⊢
    have hl41 : (bb.getD 5 0 :: (bb.drop 6).take 40).length = 41 := by simp [hlen]
    have hs41 := H.len (s := s2) (xs := bb.getD 5 0 :: (bb.drop 6).take 40) (by repeat (first | assumption | constructor))
    refine nn (ldan H (walC_e hlf) (cBoth (fun he => badp fun hb => ?_) (fun he => ?_)))
    · have := (hiff.1 hb).2.1
      dsimp only at this
      rw [this] at he; simp at he
    have he' : ep bb = e := by
      have : ((ep bb).toNat : Int) = (e.toNat : Int) := by simpa using he
      exact UInt32.toNat.inj (by exact_mod_cast this)
    refine idxI1 (s := s2) (xs := bb.getD 5 0 :: (bb.drop 6).take 40) H (by simp) (by simp) (fun a' ha => ldc ha ?_) (by repeat (first | assumption | constructor))
    rw [wrap8]
    refine cBoth (fun h5 => badp fun hb => ?_) (fun h5 => hJ27 _ ?_)
    · have h50 : bb.getD 5 0 = b8 i := (hiff.1 hb).2.2
      have : ((bb.getD 5 0).toNat : Int) ≠ ((b8 i).toNat : Int) := by simpa using h5
      rw [h50] at this; exact this rfl
    have h50 : bb.getD 5 0 = b8 i := by
      have : ((bb.getD 5 0).toNat : Int) = ((b8 i).toNat : Int) := by simpa using h5
      exact UInt8.toNat.inj (by exact_mod_cast this)
    have hgood : bb = sayS 80 e (b8 i :: (bb.drop 6).take 40) := hiff.2 ⟨rfl, he', h50⟩
    refine nn ⟨by omega, by omega, slcA0 (by decide) (by decide) rfl ?_⟩
    refine slcI (s := s2) (xs := bb.getD 5 0 :: (bb.drop 6).take 40) H (by decide) (by dsimp only; omega) (by dsimp only; omega) (fun t H => ?_) (by repeat (first | assumption | constructor))
    have ed : ((bb.getD 5 0 :: (bb.drop 6).take 40).drop (1 : Int).toNat).take (((s2.len : Nat) : Int).toNat - (1 : Int).toNat) = pageOf (secOf D X) h i := by
      rw [hpo, ← hs41, hl41]
      show ((bb.drop 6).take 40).take 40 = (bb.drop 6).take 40
      rw [List.take_take]; congr 1
    rw [ed] at H
    replace H := H.drew
    have hp40 : (pageOf (secOf D X) h i).length = 40 := by rw [hpo]; simp [hlen]
    refine copyBa (o := 1 + i * 40) (dl := 40) (dc := 40) (ty := T_wal_Log) (cur := walC p (pagesUp (secOf D X) h i).flatten e (h : Int) 0 false) (x := t) (xs := pageOf (secOf D X) h i) S_l_uint8 (b := a) H (by rw [add_mk, add_mk, Nat.zero_add]; rfl) (by rw [walC_len hlf]; omega) (fun w H => ?_)
    rw [List.take_of_length_le (l := pageOf (secOf D X) h i) (by omega), hp40, Nat.min_self, walC_lay hn16 h40 _ hlt' hp40, pagesUp_succ] at H
    refine hJ _ ⟨⟨i + 1, by rw [i64_id (by omega)]; omega, by omega, fun j hj => ?_, ?_⟩, by rw [i64_id (by omega)]; (try dsimp only); omega⟩
    · rcases Nat.lt_succ_iff_lt_or_eq.1 hj with hj | rfl
      · exact hok j hj
      · rw [hpi, beq_iff_eq]; exact hgood
    · replace H := H.dr2 (imm t _) (imm s2 _)
      exact H
  · obtain rfl : i = 16 := by omega
    rw [pagesUp_16] at H h40 hn16
    rw [if_pos (List.all_eq_true.2 fun j hj => hok j (by simpa using hj))] at hwo
    refine wal_replay (b := a) (D := D) H ok hF ho hn16 h40 (fun w H => ⟨_, rfl, cF rfl ?_⟩) .h .h .h hH
    have hok2 := wstate_ok hs (show (wstate (secOf D X)).2 = 0 by rw [wstate, hx]; dsimp only; rw [if_pos (List.all_eq_true.2 fun j hj => hok j (by simpa using hj))])
    rw [show wstate (secOf D X) = wopen D X by rw [wopen, ho]; rfl, hwo] at hok2
    rw [hwo] at k1
    exact k1 rfl a w (wal_cls H _ hok2 rfl rfl rfl rfl rfl .h)
/-! ### committed -/
theorem wal_ck1 {a1 a3 : Nat} {x : Int} {pg : List UInt8} {e : UInt32} {h u : Int} {dd : Bool} (hpg : pg.length = 640) (H : Heap F w (blk a3 T_api_Errno [.int .i64 x] :: blk a1 T_p_wal_Log [.pointer (some ⟨b, 0, none⟩)] :: blk b T_wal_Log (walC p pg e h u dd) :: r))
    (k : ∀ w', Heap F w' (blk b T_wal_Log (walC p pg e h u (x != 0)) :: blk a3 T_api_Errno [.int .i64 x] :: blk a1 T_p_wal_Log [.pointer (some ⟨b, 0, none⟩)] :: r) → Q (.tuple #[]) w') : F_wal_Log_checkpoint_1 ⟨a3, 0, none⟩ ⟨a1, 0, none⟩ w Q := by
  unfold F_wal_Log_checkpoint_1
  refine ld0 H (ld0 H (nn ?_))
  exact stan (cs := walC p pg e h u dd) (ty := T_wal_Log) H (walC_sd hpg (x != 0)) (by rw [walC_len hpg]; decide) fun w H => k w H
theorem wal_wr1 {a1 a3 : Nat} {x : Int} {pg : List UInt8} {e : UInt32} {h u : Int} {dd : Bool} (hpg : pg.length = 640) (H : Heap F w (blk a3 T_api_Errno [.int .i64 x] :: blk a1 T_p_wal_Log [.pointer (some ⟨b, 0, none⟩)] :: blk b T_wal_Log (walC p pg e h u dd) :: r))
    (k : ∀ w', Heap F w' (blk b T_wal_Log (walC p pg e h u (x != 0)) :: blk a3 T_api_Errno [.int .i64 x] :: blk a1 T_p_wal_Log [.pointer (some ⟨b, 0, none⟩)] :: r) → Q (.tuple #[]) w') : F_wal_Log_write_1 ⟨a3, 0, none⟩ ⟨a1, 0, none⟩ w Q := by
  unfold F_wal_Log_write_1
  refine ld0 H (ld0 H (nn ?_))
  exact stan (cs := walC p pg e h u dd) (ty := T_wal_Log) H (walC_sd hpg (x != 0)) (by rw [walC_len hpg]; decide) fun w H => k w H
theorem wal_checkpoint {r0 r1 r2 : List SP} (H : Heap F w l) (hw : D.waits.length < 10000)
    (k : ∀ w', Heap F w' (WalAt b p (wcheck D X W).2.1 :: PartAt p d X :: DiskAt d (wcheck D X W).1 :: r2) → Q (.int .i64 (wcheck D X W).2.2) w')
    (hT : Take l (WalAt b p W) r0 := by repeat (first | assumption | constructor)) (hP : Take r0 (PartAt p d X) r1 := by repeat (first | assumption | constructor)) (hD : Take r1 (DiskAt d D) r2 := by repeat (first | assumption | constructor)) (hH : Has r2 Half := by repeat (first | assumption | constructor)) :
    Does Tryd.prog N_wal_Log_checkpoint #[.pointer (some ⟨b, 0, none⟩)] w Q := by
  refine F_wal_Log_checkpoint_does _ _ _ ?_
  unfold F_wal_Log_checkpoint
  obtain ⟨ok, hl, H⟩ := wal_opn H hT
  replace H : Heap F w (blk b T_wal_Log (walC p W.pages.flatten W.epoch W.home W.used W.dead) :: PartAt p d X :: DiskAt d D :: r2) := (H.take (.t hP)).take (.t (.t hD)) |>.ord3
  have hhome := ok.home
  refine al H (cs := [.pointer (some ⟨b, 0, none⟩)]) (fun a1 w H => ?_) rfl
  refine al H (cs := [.int .i64 0]) (fun a3 w H => ?_) zc_api_Errno
  replace H := H.drew
  refine ld0 H (ld0 H (nn (ldan H (walC_e hl) (ld0 H (nn (ldan H (walC_h hl) ?_))))))
  rw [add32_1, i64_id (by omega), show 1 - (W.home : Int) = ((1 - W.home : Nat) : Int) by omega]
  refine wal_settle (e := W.epoch + 1) (home := 1 - W.home) (D := D) (X := X) (d := d) (p := p) (b := b) (L := W.pages) H ok.n16 ok.all40 (by omega) (by omega) (fun w H => ⟨_, rfl, ?_⟩) (.t (.t .h)) (.t (.t .h)) (.t (.t .h)) (.t (.t hH))
  rw [wcheck] at k
  generalize Nac.settle D X [] W.pages (W.epoch + 1) (1 - W.home) = R at *
  obtain ⟨D2, e2⟩ := R
  dsimp only at *
  refine st0 H fun w H => ld0 H (cBoth (fun he => ?_) (fun he => ?_))
  · have hne : ¬ e2 = 0 := by simpa using he
    rw [if_neg hne] at k
    refine ld0 H (st0 H fun w H => ?_)
    refine wal_ck1 hl (H.ord3 (a := blk a3 _ _) (b := blk a1 _ _) (c := blk b _ _)) fun w H => ld0 H (k w ?_)
    rw [show (e2 != 0) = true by simpa using he] at H
    replace H := H.dr2 (blk a3 _ _) (blk a1 _ _)
    exact wal_cls H { W with dead := true } ⟨ok.n16, ok.all40, ok.home, ok.used⟩ rfl rfl rfl rfl rfl .h
  · obtain rfl : e2 = 0 := by simpa using he
    rw [if_pos rfl] at k
    replace H := H.drew
    refine ld0 H (ld0 H (ld0 H (ld0 H (nn (ldan H (walC_e hl) (ld0 H (nn (ldan H (walC_h hl) (nn ?_)))))))))
    rw [add32_1, i64_id (by omega), show 1 - (W.home : Int) = ((1 - W.home : Nat) : Int) by omega]
    refine stan (cs := walC p W.pages.flatten W.epoch W.home W.used W.dead) (ty := T_wal_Log) H (walC_se hl (W.epoch + 1)) (by rw [walC_len hl]; decide) fun w H => ⟨?_, ?_, nn ?_⟩
    · exact cell0 H
    · exact cell0 H
    refine stan (cs := walC p W.pages.flatten (W.epoch + 1) W.home W.used W.dead) (ty := T_wal_Log) H (walC_sh hl ((1 - W.home : Nat) : Int)) (by rw [walC_len hl]; decide) fun w H => ⟨?_, nn ?_⟩
    · exact cell0 H
    refine stan (cs := walC p W.pages.flatten (W.epoch + 1) ((1 - W.home : Nat) : Int) W.used W.dead) (ty := T_wal_Log) H (walC_su hl (0 : Int)) (by rw [walC_len hl]; decide) fun w H => ?_
    refine ld0 H (st0 H fun w H => ?_)
    refine wal_ck1 hl (H.ord3 (a := blk a3 _ _) (b := blk a1 _ _) (c := blk b _ _)) fun w H => ld0 H (k w ?_)
    replace H := H.dr2 (blk a3 _ _) (blk a1 _ _)
    exact wal_cls H { W with epoch := W.epoch + 1, home := 1 - W.home, used := 0, dead := false } ⟨ok.n16, ok.all40, by dsimp only; omega, by dsimp only; omega⟩ rfl rfl rfl rfl rfl .h
end
end Go.Proofs.YtkfcmpngcanffaaDoor.G

set_option linter.unusedVariables false
set_option linter.unusedSimpArgs false
namespace Go.Proofs.YtkfcmpngcanffaaDoor.G
open Go Go.VC Go.RowKit Go.Proofs Go.Proofs.YtkfcmpngcanffaaDoor Nac
attribute [local irreducible] Tryd.prog
theorem recsW_take (e : UInt32) (u : Nat) (xs : List Chg) {i : Nat} (hi : i < xs.length) : (recsW e u xs).take (i + 1) = (recsW e u xs).take i ++ [recW e (u + i) xs[i]] := by
  rw [List.take_succ_eq_append_getElem (by simpa [recsW] using hi)]
  simp [recsW]
theorem recsW_len (e : UInt32) (u : Nat) (xs : List Chg) : (recsW e u xs).length = xs.length := by simp [recsW]
section
variable {F : Bs} {w : World} {l r : List SP} {b d p : Nat} {D : Disk} {Q : Value → World → Prop} {X : Nac.Ext} {W : Wal}
theorem wal_write {r0 r1 r2 : List SP} (H : Heap F w l) {s : Sl} {xs : List Chg} (hx : ∀ c ∈ xs, 0 ≤ c.page ∧ c.page < 16 ∧ c.data.length = 40) (hxl : W.used + xs.length + 1 ≤ 18) (hw : D.waits.length < 20000)
    (k : ∀ w', Heap F w' (WalAt b p (wwrite D X W xs).2.1 :: PartAt p d X :: DiskAt d (wwrite D X W xs).1 :: r2) → Q (.int .i64 (wwrite D X W xs).2.2) w')
    (hT : Take l (WalAt b p W) r0 := by repeat (first | assumption | constructor)) (hP : Take r0 (PartAt p d X) r1 := by repeat (first | assumption | constructor)) (hD : Take r1 (DiskAt d D) r2 := by repeat (first | assumption | constructor)) (hI : Has r2 (imm s xs) := by repeat (first | assumption | constructor)) (hH : Has r2 Half := by repeat (first | assumption | constructor)) :
    Does Tryd.prog N_wal_Log_write #[.pointer (some ⟨b, 0, none⟩), .slice s.a s.len s.cap] w Q := by
  refine F_wal_Log_write_does _ _ _ _ ?_
  unfold F_wal_Log_write
  obtain ⟨ok, hl, H⟩ := wal_opn H hT
  replace H : Heap F w (blk b T_wal_Log (walC p W.pages.flatten W.epoch W.home W.used W.dead) :: PartAt p d X :: DiskAt d D :: r2) := (H.take (.t hP)).take (.t (.t hD)) |>.ord3
  have hsl := H.len (.t (.t (.t hI)))
  refine al H (cs := [.pointer (some ⟨b, 0, none⟩)]) (fun a1 w H => ?_) rfl
  refine al H (cs := [.int .i64 0]) (fun a3 w H => ?_) zc_api_Errno
  have bad : ∀ (e2 : Int) (D2 : Disk) (w : World), e2 ≠ 0 → wwrite D X W xs = (D2, { W with dead := true }, e2) → Heap F w (blk a3 T_api_Errno [.int .i64 e2] :: blk a1 T_p_wal_Log [.pointer (some ⟨b, 0, none⟩)] :: blk b T_wal_Log (walC p W.pages.flatten W.epoch W.home W.used W.dead) :: PartAt p d X :: DiskAt d D2 :: r2) →
      ldT (.int .i64) w ⟨a3, 0, none⟩ fun x40 => stC w ⟨a3, 0, none⟩ (.int .i64 (x40)) fun w41 => F_wal_Log_write_1 ⟨a3, 0, none⟩ ⟨a1, 0, none⟩ w41 fun _ w42 => ldT (.int .i64) w42 ⟨a3, 0, none⟩ fun x43 => Q (.int .i64 (x43)) w42 := fun e2 D2 w hne hwr H => by
    refine ld0 H (st0 H fun w H => ?_)
    refine wal_wr1 hl H fun w H => ld0 H ?_
    rw [hwr] at k
    refine k w ?_
    rw [show (e2 != 0) = true by simpa using hne] at H
    replace H := H.dr2 (blk a3 _ _) (blk a1 _ _)
    exact wal_cls H { W with dead := true } ⟨ok.n16, ok.all40, ok.home, ok.used⟩ rfl rfl rfl rfl rfl .h
  refine ⟨fun x w' => ∃ (i : Nat) (D' : Disk), x = i ∧ i ≤ xs.length ∧ pw X ((recsW W.epoch W.used xs).take i) D = (D', 0) ∧ Heap F w' (blk a3 T_api_Errno [.int .i64 0] :: blk a1 T_p_wal_Log [.pointer (some ⟨b, 0, none⟩)] :: blk b T_wal_Log (walC p W.pages.flatten W.epoch W.home W.used W.dead) :: PartAt p d X :: DiskAt d D' :: r2), fun x _ => (xs.length - x).toNat, ⟨0, D, rfl, by omega, rfl, H⟩, ?_⟩
  rintro x w1 ⟨i, D', rfl, hi, hD', H⟩
  have hw' : D'.waits.length < 20020 := by
    have := pw_waits X ((recsW W.epoch W.used xs).take i) D
    rw [hD'] at this
    have h2 : ((recsW W.epoch W.used xs).take i).length ≤ 18 := by simp; omega
    dsimp only at this
    omega
  refine dBoth (fun hlt => ?_) (fun hge => ?_)
  · have hlt' : i < xs.length := by omega
    refine idxI (s := s) (xs := xs) H (by omega) (by omega) (fun a cs H hA => ?_) (.t (.t (.t (.t (.t hI)))))
    simp only [Int.toNat_natCast] at H
    obtain ⟨c1, c2, c3⟩ := hx xs[i] (List.getElem_mem hlt')
    have hstep : pw X ((recsW W.epoch W.used xs).take (i + 1)) D = pwrite D' X ((34 + (W.used + i) : Nat) : Int) (sayS 82 W.epoch (b8 ((W.used + i : Nat) : Int) :: b8 xs[i].page :: xs[i].data)) := by
      rw [recsW_take _ _ _ hlt', pw_snoc, hD', if_pos rfl]; rfl
    have hall : pw X (recsW W.epoch W.used xs) D = if (pw X ((recsW W.epoch W.used xs).take (i + 1)) D).2 = 0 then pw X ((recsW W.epoch W.used xs).drop (i + 1)) (pw X ((recsW W.epoch W.used xs).take (i + 1)) D).1 else pw X ((recsW W.epoch W.used xs).take (i + 1)) D := by
      rw [← pw_append, List.take_append_drop]
    generalize xs[i] = A at *
    replace H := open_Chg H
    obtain ⟨t, rfl, H⟩ := H
    refine At.ld0 hA (At.ld hA ?_)
    refine al H (cs := [.int .i64 0, (Sl.v ⟨none, 0, 0⟩)]) (fun a12 w H => ?_) zc_api_Change
    refine st0 H fun w H => sta H fun w H => ?_
    refine ld0 H (nn (ldan H (walC_u hl) ?_))
    replace H := H.drew
    refine ld0 H (nn (ldn (b := b) (cs := walC p W.pages.flatten W.epoch W.home W.used W.dead) (ty := T_wal_Log) H (o := 0) rfl (ld0 H (nn (ldan H (walC_e hl) (ld0 H (lda H ?_)))))))
    rw [i64_id (n := (W.used : Int) + (i : Int)) (by omega), i64_id (by omega), show (W.used : Int) + (i : Int) = ((W.used + i : Nat) : Int) by omega, wrap8, wrap8, show (34 : Int) + ((W.used + i : Nat) : Int) = ((34 + (W.used + i) : Nat) : Int) by omega]
    refine al H (cs := [.int .u8 ((b8 ((W.used + i : Nat) : Int)).toNat : Int), .int .u8 ((b8 A.page).toNat : Int)]) (fun a28 w H => ⟨?_, ?_, ?_, ?_, ?_, ?_⟩) rfl
    · exact cella H
    · rw [add_mk, Nat.zero_add]; exact H.cell (by repeat (first | assumption | constructor)) (walC_e hl)
    · exact cell0 H
    · exact H.cell (o := 0) (by repeat (first | assumption | constructor)) rfl
    · exact cell0 H
    replace H := H.blk_own (n := 2) (cs := [.int .u8 ((b8 ((W.used + i : Nat) : Int)).toNat : Int), .int .u8 ((b8 A.page).toNat : Int)]) [b8 ((W.used + i : Nat) : Int), b8 A.page] rfl (mx (by simp)) rfl
    refine apI (s := ⟨some ⟨a28, 0, none⟩, 2, 2⟩) (x := t) (xs := [b8 ((W.used + i : Nat) : Int), b8 A.page]) (ys := A.data) S_l_uint8 H (by simp; omega) fun s1 w H => ⟨?_, ?_, ?_, ?_, ?_⟩
    · rw [add_mk, Nat.zero_add]; exact H.cell (by repeat (first | assumption | constructor)) (walC_e hl)
    · exact cell0 H
    · exact H.cell (o := 0) (by repeat (first | assumption | constructor)) rfl
    · exact cell0 H
    replace H := H.share (s := s1) (xs := [b8 ((W.used + i : Nat) : Int), b8 A.page] ++ A.data)
    refine wal_say (c := 82) (e := W.epoch) (s := s1) (bb := [b8 ((W.used + i : Nat) : Int), b8 A.page] ++ A.data) H (by simp; omega) (fun s2 w H => ⟨_, rfl, ?_, ?_, ?_⟩) .h (.t (.t (.t (.t (.t (.t (.t (.t hH))))))))
    · exact H.cell (o := 0) (by repeat (first | assumption | constructor)) rfl
    · exact cell0 H
    replace H := H.share (s := s2) (xs := sayS 82 W.epoch ([b8 ((W.used + i : Nat) : Int), b8 A.page] ++ A.data))
    refine part_Write (D := D') (x := X) (s := s2) (bb := sayS 82 W.epoch ([b8 ((W.used + i : Nat) : Int), b8 A.page] ++ A.data)) H (by omega) fun w H => ⟨_, rfl, ?_⟩
    rw [show [b8 ((W.used + i : Nat) : Int), b8 A.page] ++ A.data = b8 ((W.used + i : Nat) : Int) :: b8 A.page :: A.data from rfl] at H ⊢
    generalize pwrite D' X ((34 + (W.used + i) : Nat) : Int) (sayS 82 W.epoch (b8 ((W.used + i : Nat) : Int) :: b8 A.page :: A.data)) = R at *
    obtain ⟨D2, e2⟩ := R
    dsimp only at *
    refine st0 H fun w H => ld0 H ?_
    replace H := ((H.dr2 (imm s2 _) (imm s1 _)).dr2 (blk a12 _ _) (imm t _))
    replace H : Heap F w (blk a3 T_api_Errno [.int .i64 e2] :: blk a1 T_p_wal_Log [.pointer (some ⟨b, 0, none⟩)] :: blk b T_wal_Log (walC p W.pages.flatten W.epoch W.home W.used W.dead) :: PartAt p d X :: DiskAt d D2 :: r2) := H.ord5
    refine cBoth (fun he => ?_) (fun he => ⟨⟨i + 1, D2, by rw [i64_id (by omega)]; omega, by omega, ?_, ?_⟩, by rw [i64_id (by omega)]; (try dsimp only); omega⟩)
    · have hne : ¬ e2 = 0 := by simpa using he
      refine bad e2 D2 w hne ?_ H
      have hp : pall X (recsW W.epoch W.used xs) D = (D2, e2) := by rw [pall_pw, hall, hstep, if_neg hne, if_neg hne]
      rw [wwrite, hp, if_neg hne]
    · have h0 : e2 = 0 := by simpa using he
      rw [hstep, h0]
    · have h0 : e2 = 0 := by simpa using he
      rw [h0] at H; exact H
  · obtain rfl : i = xs.length := by omega
    rw [List.take_of_length_le (by rw [recsW_len]; omega)] at hD'
    refine ld0 H (nn (ldn (b := b) (cs := walC p W.pages.flatten W.epoch W.home W.used W.dead) (ty := T_wal_Log) H (o := 0) rfl ?_))
    refine part_Flush (D := D') (x := X) H fun w H => ⟨_, rfl, ?_⟩
    have hp : pall X (recsW W.epoch W.used xs) D = D'.flush := by rw [pall_pw, hD', if_pos rfl]
    have hw2 := flush_waits D'
    generalize D'.flush = R at *
    obtain ⟨D2, e2⟩ := R
    dsimp only at *
    replace H : Heap F w (blk a3 T_api_Errno [.int .i64 0] :: blk a1 T_p_wal_Log [.pointer (some ⟨b, 0, none⟩)] :: blk b T_wal_Log (walC p W.pages.flatten W.epoch W.home W.used W.dead) :: PartAt p d X :: DiskAt d D2 :: r2) := H.ord5
    refine st0 H fun w H => ld0 H (cBoth (fun he => ?_) (fun he => ?_))
    · have hne : ¬ e2 = 0 := by simpa using he
      refine bad e2 D2 w hne ?_ H
      rw [wwrite, hp, if_neg hne]
    obtain rfl : e2 = 0 := by simpa using he
    refine ld0 H (nn (ldan H (walC_u hl) ?_))
    replace H := H.drew
    refine ld0 H (nn (ldn (b := b) (cs := walC p W.pages.flatten W.epoch W.home W.used W.dead) (ty := T_wal_Log) H (o := 0) rfl (ld0 H (nn (ldan H (walC_e hl) ?_)))))
    rw [show ((s.len : Nat) : Int) = (xs.length : Int) by omega, i64_id (n := (W.used : Int) + (xs.length : Int)) (by omega), i64_id (n := 34 + ((W.used : Int) + (xs.length : Int))) (by omega), i64_id (n := (W.used : Int) + (xs.length : Int) + 1) (by omega), show (W.used : Int) + (xs.length : Int) = ((W.used + xs.length : Nat) : Int) by omega, wrap8, show (34 : Int) + ((W.used + xs.length : Nat) : Int) = ((34 + (W.used + xs.length) : Nat) : Int) by omega]
    refine al H (cs := [.int .u8 ((b8 ((W.used + xs.length : Nat) : Int)).toNat : Int)]) (fun a65 w H => ⟨?_, ?_, ?_, ?_, ?_⟩) rfl
    · rw [add_mk, Nat.zero_add]; exact H.cell (by repeat (first | assumption | constructor)) (walC_e hl)
    · exact cell0 H
    · exact H.cell (o := 0) (by repeat (first | assumption | constructor)) rfl
    · exact cell0 H
    replace H := H.blk_own (n := 1) (cs := [.int .u8 ((b8 ((W.used + xs.length : Nat) : Int)).toNat : Int)]) [b8 ((W.used + xs.length : Nat) : Int)] rfl (mx (by simp)) rfl
    replace H := H.share (s := ⟨some ⟨a65, 0, none⟩, 1, 1⟩) (xs := [b8 ((W.used + xs.length : Nat) : Int)])
    refine wal_say (c := 67) (e := W.epoch) (s := ⟨some ⟨a65, 0, none⟩, 1, 1⟩) (bb := [b8 ((W.used + xs.length : Nat) : Int)]) H (by simp) (fun s2 w H => ⟨_, rfl, ?_, ?_, ?_⟩) .h (.t (.t (.t (.t (.t (.t hH))))))
    · exact H.cell (o := 0) (by repeat (first | assumption | constructor)) rfl
    · exact cell0 H
    replace H := H.share (s := s2) (xs := sayS 67 W.epoch [b8 ((W.used + xs.length : Nat) : Int)])
    refine part_Write (D := D2) (x := X) (s := s2) (bb := sayS 67 W.epoch [b8 ((W.used + xs.length : Nat) : Int)]) H (by omega) fun w H => ⟨_, rfl, ?_⟩
    have hm : pall X [markW W.epoch (W.used + xs.length)] D2 = if (pwrite D2 X ((34 + (W.used + xs.length) : Nat) : Int) (sayS 67 W.epoch [b8 ((W.used + xs.length : Nat) : Int)])).2 = 0 then (pwrite D2 X ((34 + (W.used + xs.length) : Nat) : Int) (sayS 67 W.epoch [b8 ((W.used + xs.length : Nat) : Int)])).1.flush else pwrite D2 X ((34 + (W.used + xs.length) : Nat) : Int) (sayS 67 W.epoch [b8 ((W.used + xs.length : Nat) : Int)]) := rfl
    generalize pwrite D2 X ((34 + (W.used + xs.length) : Nat) : Int) (sayS 67 W.epoch [b8 ((W.used + xs.length : Nat) : Int)]) = R at *
    obtain ⟨D3, e3⟩ := R
    dsimp only at *
    replace H := H.dr2 (imm s2 _) (imm _ [b8 ((W.used + xs.length : Nat) : Int)])
    replace H : Heap F w (blk a3 T_api_Errno [.int .i64 0] :: blk a1 T_p_wal_Log [.pointer (some ⟨b, 0, none⟩)] :: blk b T_wal_Log (walC p W.pages.flatten W.epoch W.home W.used W.dead) :: PartAt p d X :: DiskAt d D3 :: r2) := H.ord5
    refine st0 H fun w H => ld0 H (cBoth (fun he => ?_) (fun he => ?_))
    · have hne : ¬ e3 = 0 := by simpa using he
      refine bad e3 D3 w hne ?_ H
      rw [if_neg hne] at hm
      rw [wwrite, hp]; dsimp only; rw [if_pos rfl, hm, if_neg hne]
    obtain rfl : e3 = 0 := by simpa using he
    rw [if_pos rfl] at hm
    refine ld0 H (nn (ldn (b := b) (cs := walC p W.pages.flatten W.epoch W.home W.used W.dead) (ty := T_wal_Log) H (o := 0) rfl ?_))
    refine part_Flush (D := D3) (x := X) H fun w H => ⟨_, rfl, ?_⟩
    generalize D3.flush = R at *
    obtain ⟨D4, e4⟩ := R
    dsimp only at *
    replace H : Heap F w (blk a3 T_api_Errno [.int .i64 0] :: blk a1 T_p_wal_Log [.pointer (some ⟨b, 0, none⟩)] :: blk b T_wal_Log (walC p W.pages.flatten W.epoch W.home W.used W.dead) :: PartAt p d X :: DiskAt d D4 :: r2) := H.ord5
    refine st0 H fun w H => ld0 H (cBoth (fun he => ?_) (fun he => ?_))
    · have hne : ¬ e4 = 0 := by simpa using he
      refine bad e4 D4 w hne ?_ H
      rw [wwrite, hp]; dsimp only; rw [if_pos rfl, hm, if_neg hne]
    obtain rfl : e4 = 0 := by simpa using he
    have hwr : wwrite D X W xs = (D4, { W with pages := layC W.pages xs, used := W.used + xs.length + 1, dead := false }, 0) := by
      rw [wwrite, hp]; dsimp only; rw [if_pos rfl, hm, if_pos rfl]
    rw [hwr] at k
    obtain ⟨o1, o2⟩ := layC_ok W.pages ok.n16 ok.all40 hx
    have hl2 : (layC W.pages xs).flatten.length = 640 := by rw [flatK_len o2, o1]
    refine ld0 H ?_
    refine wal_lay (L := W.pages) (xs := xs) (s := s) (b := b) H ok.n16 ok.all40 hx (fun w H => ⟨rfl, ld0 H (nn ?_)⟩) (.t (.t .h)) (.t (.t (.t (.t hI))))
    rw [show ((W.used + xs.length : Nat) : Int) + 1 = ((W.used + xs.length + 1 : Nat) : Int) by omega]
    refine stan (cs := walC p (layC W.pages xs).flatten W.epoch W.home W.used W.dead) (ty := T_wal_Log) H (walC_su hl2 ((W.used + xs.length + 1 : Nat) : Int)) (by rw [walC_len hl2]; decide) fun w H => ?_
    refine ld0 H (st0 H fun w H => ?_)
    refine wal_wr1 hl2 (H.ord3 (a := blk a3 _ _) (b := blk a1 _ _) (c := blk b _ _)) fun w H => ld0 H (k w ?_)
    replace H := H.dr2 (blk a3 _ _) (blk a1 _ _)
    exact wal_cls H { W with pages := layC W.pages xs, used := W.used + xs.length + 1, dead := false } ⟨o1, o2, ok.home, by dsimp only; omega⟩ rfl rfl rfl rfl rfl .h
theorem rightC_all {xs : List Chg} (h : rightC xs = true) : xs.length ≤ 16 ∧ ∀ c ∈ xs, 0 ≤ c.page ∧ c.page < 16 ∧ c.data.length = 40 := by
  simp only [rightC, Bool.and_eq_true, decide_eq_true_eq, List.all_eq_true] at h
  exact ⟨h.1, fun c hc => ⟨(h.2 c hc).1.1, (h.2 c hc).1.2, (h.2 c hc).2⟩⟩
theorem wal_Commit {r0 r1 r2 : List SP} (H : Heap F w l) {s : Sl} {xs : List Chg} (hw : D.waits.length < 9000)
    (k : ∀ w', Heap F w' (WalAt b p (wcommit D X W xs).2.1 :: PartAt p d X :: DiskAt d (wcommit D X W xs).1 :: r2) → Q (.int .i64 (wcommit D X W xs).2.2) w')
    (hT : Take l (WalAt b p W) r0 := by repeat (first | assumption | constructor)) (hP : Take r0 (PartAt p d X) r1 := by repeat (first | assumption | constructor)) (hD : Take r1 (DiskAt d D) r2 := by repeat (first | assumption | constructor)) (hI : Has r2 (imm s xs) := by repeat (first | assumption | constructor)) (hH : Has r2 Half := by repeat (first | assumption | constructor)) :
    Does Tryd.prog N_wal_Log_Commit #[.pointer (some ⟨b, 0, none⟩), .slice s.a s.len s.cap] w Q := by
  refine F_wal_Log_Commit_does _ _ _ _ ?_
  unfold F_wal_Log_Commit
  replace H : Heap F w (WalAt b p W :: PartAt p d X :: DiskAt d D :: r2) := ((H.take hT).take (.t hP)).take (.t (.t hD)) |>.ord3
  have hsl := H.len (.t (.t (.t hI)))
  obtain ⟨ok, hl, H⟩ := wal_opn H .h
  have cl : ∀ {w}, Heap F w (blk b T_wal_Log (walC p W.pages.flatten W.epoch W.home W.used W.dead) :: PartAt p d X :: DiskAt d D :: r2) → Heap F w (WalAt b p W :: PartAt p d X :: DiskAt d D :: r2) := fun H => wal_cls H W ok rfl rfl rfl rfl rfl .h
  refine nn (ldan H (walC_d hl) ?_)
  rw [wcommit] at k
  refine cBoth (fun hd => ?_) (fun hd => ?_)
  · rw [if_pos hd] at k; exact k w (cl H)
  rw [if_neg (by rw [show W.dead = false from hd]; decide)] at k
  refine wal_right (s := s) (xs := xs) H (fun w H => ⟨_, rfl, ?_⟩) (.t (.t (.t hI)))
  refine cBoth (fun hr => ?_) (fun hr => ?_)
  · rw [if_pos (by simpa using hr)] at k; exact k w (cl H)
  have hr' : rightC xs = true := by simpa using hr
  rw [if_neg (by rw [hr']; decide)] at k
  obtain ⟨hx16, hx⟩ := rightC_all hr'
  refine cBoth (fun h0 => ?_) (fun h0 => ?_)
  · have : xs.length = 0 := by simp at h0; omega
    rw [if_pos this] at k; exact k w (cl H)
  have hne : ¬ xs.length = 0 := by simp at h0; omega
  rw [if_neg hne] at k
  intro J hJ
  have hused := ok.used
  refine nn (ldan H (walC_u hl) ?_)
  rw [show ((s.len : Nat) : Int) = (xs.length : Int) by omega, i64_id (n := (W.used : Int) + (xs.length : Int)) (by omega), i64_id (by omega)]
  refine dBoth (fun hgt => ?_) (fun hle => ?_)
  · rw [if_pos (by omega)] at k
    refine nn (ldan H (walC_e hl) (cBoth (fun he => ?_) (fun he => ?_)))
    · have : W.epoch = 4294967295 := by
        have : (W.epoch.toNat : Int) = 4294967295 := by simpa using he
        apply UInt32.toNat.inj; rw [show (4294967295 : UInt32).toNat = 4294967295 by decide]; omega
      rw [if_pos this] at k; exact k w (cl H)
    · have hne : ¬ W.epoch = 4294967295 := fun e => by rw [e] at he; exact absurd he (by decide)
      rw [if_neg hne] at k
      refine wal_checkpoint (D := D) (X := X) (W := W) (cl H) (by omega) (fun w H => ⟨_, rfl, cBoth (fun he => ?_) (fun he => hJ _ ?_)⟩) .h .h .h hH
      · rw [if_neg (by simpa using he)] at k; exact k w H
      · have he0 : (wcheck D X W).2.2 = 0 := by simpa using he
        rw [if_pos he0] at k
        have hu : (wcheck D X W).2.1.used = 0 := by
          unfold wcheck at he0 ⊢
          split
          · rfl
          · rename_i hc; rw [if_neg hc] at he0; exact absurd he0 hc
        have hwt : (wcheck D X W).1.waits.length < 10000 := by
          unfold wcheck Nac.settle
          have h1 := pall_waits X ([] ++ pagesW (1 - W.home) (W.epoch + 1) W.pages) D
          have hpl : ([] ++ pagesW (1 - W.home) (W.epoch + 1) W.pages).length = 16 := by rw [List.nil_append, pagesW_len, ok.n16]
          have h2 := pall_waits X [headW (1 - W.home) (W.epoch + 1)] (pall X ([] ++ pagesW (1 - W.home) (W.epoch + 1) W.pages) D).1
          simp only [List.length_singleton] at h2
          repeat (first | (dsimp only; omega) | split)
        exact wal_write (D := (wcheck D X W).1) (X := X) (W := (wcheck D X W).2.1) H hx (by omega) (by omega) (fun w H => ⟨_, rfl, k w H⟩) .h .h .h hI hH
  · rw [if_neg (by omega)] at k
    exact hJ _ (wal_write (D := D) (X := X) (W := W) (cl H) hx (by omega) (by omega) (fun w H => ⟨_, rfl, k w H⟩) .h .h .h hI hH)
end
end Go.Proofs.YtkfcmpngcanffaaDoor.G
