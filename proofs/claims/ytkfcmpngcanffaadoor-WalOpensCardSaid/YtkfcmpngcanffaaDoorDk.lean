import Derived.Test.YtkfcmpngcanffaaDoorDj
set_option linter.unusedVariables false
set_option linter.unusedSimpArgs false
namespace Go.VC
open Go Go.RowKit
theorem Heap.kp5 {F : Bs} {w : World} {c d e f g : SP} : ∀ (n : Nat) {l : List SP}, Heap F w (c :: d :: e :: f :: g :: l) → Heap F w (c :: d :: e :: f :: g :: l.drop n)
  | 0, _, H => H
  | n + 1, [], H => H
  | n + 1, a :: l, H => Heap.kp5 n (H.dr a (.t (.t (.t (.t (.t .h))))))
end Go.VC
namespace Go.Proofs.YtkfcmpngcanffaaDoor.G
open Go Go.VC Go.RowKit Go.Proofs Go.Proofs.YtkfcmpngcanffaaDoor Nac
attribute [local irreducible] Tryd.prog
section
variable {F : Bs} {w : World} {l r : List SP} {b d p : Nat} {D : Disk} {Q : Value → World → Prop} {X : Nac.Ext} {W : Wal} {s1 s2 s5 sp : Sl} {fr : Int}
set_option maxHeartbeats 4000000 in
theorem ref_Commit16 (H : Heap F w l) (ok : W.ok) (hR : Has l (RDk s1 s2 s5 D)) (hP : Has l (imm sp (W.pages.map bs))) (hX : X.from_ = fr ∧ 0 ≤ fr ∧ fr ≤ 1000 ∧ X.count = 52) (hn : D.waits.length < 9000) {s : Sl} {xs : List Chg} (hI : Has l (imm s xs))
    (k : ∀ (s1' s2' sp' : Sl) w', Heap F w' (RDk s1' s2' s5 (wcommit D X W xs).1 :: imm sp' ((wcommit D X W xs).2.1.pages.map bs) :: l) →
      Q (.tuple #[lw s1' s2' s5 sp' (wcommit D X W xs).1 fr (wcommit D X W xs).2.1.epoch ((wcommit D X W xs).2.1.home : Int) ((wcommit D X W xs).2.1.used : Int) (wcommit D X W xs).2.1.dead, .int .i64 (wcommit D X W xs).2.2]) w') :
    Does Tryd.prog N_ref16_Log_Commit #[lw s1 s2 s5 sp D fr W.epoch W.home W.used W.dead, .slice s.a s.len s.cap] w Q := by
  refine F_ref16_Log_Commit_does _ _ _ _ _ _ _ _ _ _ _ _ _ _ ?_
  unfold F_ref16_Log_Commit
  have hsl := H.len hI
  have hsb := H.bndI hI
  have hused := ok.used
  have hhome := ok.home
  replace H := rd_re (imm_re H hP) (.t hR)
  refine al H (cs := lwc s1 s2 s5 sp D fr W.epoch W.home W.used W.dead) (fun a1 w H => ?_) rfl
  refine al H (cs := [(Sl.v ⟨none, 0, 0⟩), (Sl.v ⟨none, 0, 0⟩), .bool false, .int .i64 0, (Sl.v ⟨none, 0, 0⟩), .int .i64 0, (Sl.v ⟨none, 0, 0⟩), .int .u32 0, .int .i64 0, .int .i64 0, .bool false]) (fun a3 w H => ?_) zc_ref16_Log
  have ret0 : ∀ (e : Int), wcommit D X W xs = (D, W, e) → ∀ (cs : List Value) (w : World), Heap F w (blk a3 T_ref16_Log cs :: blk a1 T_ref16_Log (lwc s1 s2 s5 sp D fr W.epoch W.home W.used W.dead) :: RDk s1 s2 s5 D :: imm sp (W.pages.map bs) :: l) → Q (.tuple #[lw s1 s2 s5 sp D fr W.epoch W.home W.used W.dead, .int .i64 e]) w := fun e he cs w H => by
    rw [he] at k
    exact k s1 s2 sp w (H.tln 2)
  refine lda H (cBoth (fun hd => ?_) (fun hd => ?_))
  · have he : wcommit D X W xs = (D, W, 9) := by rw [wcommit, if_pos hd]
    repeat (first | refine lda H ?_ | refine ld0 H ?_ | refine ldaN H ?_ | refine ld0N H ?_ | refine sta H fun w H => ?_ | refine st0 H fun w H => ?_)
    exact ret0 9 he _ _ H
  refine ref_May16 (s := s) (xs := xs) H (fun w H => ⟨_, rfl, ?_⟩) (.t (.t (.t (.t hI))))
  have hd' : ¬ W.dead = true := by rw [show W.dead = false from hd]; decide
  refine cBoth (fun hr => ?_) (fun hr => ?_)
  · have he : wcommit D X W xs = (D, W, 1) := by rw [wcommit, if_neg hd', if_pos (by simpa using hr)]
    repeat (first | refine lda H ?_ | refine ld0 H ?_ | refine ldaN H ?_ | refine ld0N H ?_ | refine sta H fun w H => ?_ | refine st0 H fun w H => ?_)
    exact ret0 1 he _ _ H
  have hr' : rightC xs = true := by simpa using hr
  have hr2 : ¬ rightC xs = false := by rw [hr']; decide
  obtain ⟨hx16, hx⟩ := rightC_all hr'
  refine cBoth (fun h0 => ?_) (fun h0 => ?_)
  · have hz : xs.length = 0 := by simp at h0; omega
    have he : wcommit D X W xs = (D, W, 0) := by rw [wcommit, if_neg hd', if_neg hr2, if_pos hz]
    repeat (first | refine lda H ?_ | refine ld0 H ?_ | refine ldaN H ?_ | refine ld0N H ?_ | refine sta H fun w H => ?_ | refine st0 H fun w H => ?_)
    exact ret0 0 he _ _ H
  have hne : ¬ xs.length = 0 := by simp at h0; omega
  intro J hJ
  have dead0 : W.dead = false := hd
  -- the records and their mark
  have go : ∀ (D1 : Disk) (W1 : Wal) (s1 s2 : Sl) (w : World), W1.used + xs.length + 1 ≤ 18 → W1.ok → W1.dead = false → W1.pages = W.pages → D1.waits.length < 9100 → wcommit D X W xs = wwrite D1 X W1 xs →
      Heap F w (blk a3 T_ref16_Log [(Sl.v ⟨none, 0, 0⟩), (Sl.v ⟨none, 0, 0⟩), .bool false, .int .i64 0, (Sl.v ⟨none, 0, 0⟩), .int .i64 0, (Sl.v ⟨none, 0, 0⟩), .int .u32 0, .int .i64 0, .int .i64 0, .bool false] :: blk a1 T_ref16_Log (lwc s1 s2 s5 sp D1 fr W1.epoch (W1.home : Int) (W1.used : Int) W1.dead) :: RDk s1 s2 s5 D1 :: imm sp (W1.pages.map bs) :: l) → J w := fun D1 W1 s1 s2 w hfit ok1 hdead hpg hw1 hcw H => by
    refine hJ _ ?_
    rw [hcw] at k
    refine ⟨fun sa sl x w' => ∃ (i : Nat), x = i ∧ i ≤ xs.length ∧ Heap F w' (own T_int sa (((recsW W1.epoch W1.used xs).take i).map (·.1)) :: own T_string sl (((recsW W1.epoch W1.used xs).take i).map fun x => bs x.2) :: blk a3 T_ref16_Log [(Sl.v ⟨none, 0, 0⟩), (Sl.v ⟨none, 0, 0⟩), .bool false, .int .i64 0, (Sl.v ⟨none, 0, 0⟩), .int .i64 0, (Sl.v ⟨none, 0, 0⟩), .int .u32 0, .int .i64 0, .int .i64 0, .bool false] :: blk a1 T_ref16_Log (lwc s1 s2 s5 sp D1 fr W1.epoch (W1.home : Int) (W1.used : Int) W1.dead) :: RDk s1 s2 s5 D1 :: imm sp (W1.pages.map bs) :: l), fun _ _ x _ => (xs.length - x).toNat,
      ⟨0, rfl, by omega, (H.own_nil (α := ByteArray) _).own_nil (α := Int) _⟩, ?_⟩
    rintro sa sl x w1 ⟨i, rfl, hi, H⟩
    have htl : ((recsW W1.epoch W1.used xs).take i).length ≤ 18 := by simp; omega
    refine dBoth (fun hlt => ?_) (fun hge => ?_)
    · have hlt' : i < xs.length := by omega
      obtain ⟨c1, c2, c3⟩ := hx xs[i] (List.getElem_mem hlt')
      have hstep := recsW_take W1.epoch W1.used xs hlt'
      refine lda H ?_
      rw [i64_id (n := 34 + (W1.used : Int)) (by omega), i64_id (by omega), show 34 + (W1.used : Int) + (i : Int) = ((34 + (W1.used + i) : Nat) : Int) by omega]
      refine al H (cs := [.int .i64 ((34 + (W1.used + i) : Nat) : Int)]) (fun a120 w H => ?_) rfl
      refine psh1 (s := sa) (xs := ((recsW W1.epoch W1.used xs).take i).map (·.1)) ((34 + (W1.used + i) : Nat) : Int) S_l_int H (by simp; omega) (fun s122 w H => ?_) (by repeat (first | assumption | constructor)) (by repeat (first | assumption | constructor))
      replace H := H.drew
      refine lda H (lda H ?_)
      refine idxIc (s := s) (xs := xs) H (by omega) (by omega) (fun b1 o1 cs1 H => ?_) (.t (.t (.t (.t (.t (.t (.t hI)))))))
      simp only [Int.toNat_natCast] at H
      replace H := Heap.take H (c := rep cs1 xs[i]) (by repeat (first | assumption | constructor))
      replace H := open_Chg H
      obtain ⟨t1, rfl, H⟩ := H
      refine At.ld0 (H.atc (by repeat (first | assumption | constructor))) ?_
      refine idxIc (s := s) (xs := xs) H (by omega) (by omega) (fun b2 o2 cs2 H => ?_) (by repeat (first | assumption | constructor))
      simp only [Int.toNat_natCast] at H
      replace H := Heap.take H (c := rep cs2 xs[i]) (by repeat (first | assumption | constructor))
      replace H := open_Chg H
      obtain ⟨t2, rfl, H⟩ := H
      refine At.ld (H.atc (by repeat (first | assumption | constructor))) ?_
      refine ⟨_, cvI (s := t2) (xs := xs[i].data) H und_l8 und_8 und_s .h, ?_⟩
      rw [i64_id (by omega), show (W1.used : Int) + (i : Int) = ((W1.used + i : Nat) : Int) by omega]
      refine ref_one H fun w H => ⟨_, rfl, ?_, ?_, ?_, ?_, ?_⟩
      · exact cvI (s := t2) (xs := xs[i].data) H und_l8 und_8 und_s .h
      · exact (H.atc (.t .h)) 1 _ rfl
      · exact (H.atc (b := b1) (o := o1) (cs := [.int .i64 xs[i].page, t1.v]) (by repeat (first | assumption | constructor))) 0 _ rfl
      · exact cella H
      refine ref_one H fun w H => ⟨_, rfl, ?_, ?_, ?_, ?_, ?_, ?_⟩
      · exact cvI (s := t2) (xs := xs[i].data) H und_l8 und_8 und_s .h
      · exact (H.atc (.t .h)) 1 _ rfl
      · exact cella H
      · simp
      · simp only [bs_append, bs_size, List.length_append, List.length_singleton, c3]; decide
      rw [bs_append, bs_append, show (⟨#[82]⟩ : ByteArray) = bs [82] from rfl]
      refine ref_Sector16 (e := W1.epoch) (c := 82) (bb := [b8 ((W1.used + i : Nat) : Int)] ++ [b8 xs[i].page] ++ xs[i].data) H (by simp [c3]) fun w H => ⟨_, rfl, ?_⟩
      refine al H (cs := [.string (bs (sayS 82 W1.epoch ([b8 ((W1.used + i : Nat) : Int)] ++ [b8 xs[i].page] ++ xs[i].data)))]) (fun a140 w H => ?_) rfl
      refine psh1 (s := sl) (xs := ((recsW W1.epoch W1.used xs).take i).map fun x => bs x.2) (bs (sayS 82 W1.epoch ([b8 ((W1.used + i : Nat) : Int)] ++ [b8 xs[i].page] ++ xs[i].data))) S_l_string H (by simp; omega) (fun s142 w H => ?_) (by repeat (first | assumption | constructor)) (by repeat (first | assumption | constructor))
      refine ⟨⟨i + 1, by rw [i64_id (by omega)]; omega, by omega, ?_⟩, by rw [i64_id (by omega)]; (try dsimp only); omega⟩
      rw [show ((recsW W1.epoch W1.used xs).take (i + 1)).map (·.1) = ((recsW W1.epoch W1.used xs).take i).map (·.1) ++ [((34 + (W1.used + i) : Nat) : Int)] by rw [hstep, List.map_append]; rfl,
        show ((recsW W1.epoch W1.used xs).take (i + 1)).map (fun x => bs x.2) = ((recsW W1.epoch W1.used xs).take i).map (fun x => bs x.2) ++ [bs (sayS 82 W1.epoch ([b8 ((W1.used + i : Nat) : Int)] ++ [b8 xs[i].page] ++ xs[i].data))] by rw [hstep, List.map_append]; rfl]
      replace H := (((H.dr2 (blk a140 _ _) (imm t2 _)).dr2 (atc b2 o2 _) (imm t1 _)).dr2 (atc b1 o1 _) (blk a120 _ _))
      exact H.ord2 (a := own T_int s122 _) (b := own T_string s142 _)
    · obtain rfl : i = xs.length := by omega
      rw [List.take_of_length_le (by rw [recsW_len]; omega)] at H
      have hat : ∀ x ∈ recsW W1.epoch W1.used xs, 0 ≤ x.1 ∧ x.1 < 52 := fun x hx2 => by
        obtain ⟨j, hj, rfl⟩ := mem_recsW.1 hx2
        simp only [recW]; omega
      repeat (first | refine lda H ?_ | refine ld0 H ?_ | refine ldaN H ?_ | refine ld0N H ?_ | refine sta H fun w H => ?_ | refine st0 H fun w H => ?_)
      replace H := H.share (s := sa) (xs := (recsW W1.epoch W1.used xs).map (·.1))
      replace H := H.share (s := sl) (xs := (recsW W1.epoch W1.used xs).map fun x => bs x.2)
      refine ref_all16 (L := recsW W1.epoch W1.used xs) (D := D1) (sa := sa) (sl := sl) (sp := sp) (X := X) H (by repeat (first | assumption | constructor)) hX hat (by rw [recsW_len]; omega) (by repeat (first | assumption | constructor)) (by repeat (first | assumption | constructor)) fun s1' s2' w H => ⟨s1', s2', _, _, s5, _, sp, _, _, _, _, _, rfl, ?_⟩
      replace H : Heap F w (RDk s1' s2' s5 (pall X (recsW W1.epoch W1.used xs) D1).1 :: blk a3 T_ref16_Log [(Sl.v ⟨none, 0, 0⟩), (Sl.v ⟨none, 0, 0⟩), .bool false, .int .i64 0, (Sl.v ⟨none, 0, 0⟩), .int .i64 0, (Sl.v ⟨none, 0, 0⟩), .int .u32 0, .int .i64 0, .int .i64 0, .bool false] :: blk a1 T_ref16_Log (lwc s1 s2 s5 sp D1 fr W1.epoch (W1.home : Int) (W1.used : Int) W1.dead) :: imm sp (W1.pages.map bs) :: l) := by
        replace H := (H.dr2 (imm sl _) (imm sa _)).dr (RDk s1 s2 s5 D1)
        exact H.ord4 (a := RDk s1' s2' s5 _) (b := blk a3 _ _) (c := blk a1 _ _) (d := imm sp _)
      have hw2' := pall_waits X (recsW W1.epoch W1.used xs) D1
      rw [recsW_len] at hw2'
      generalize hp1 : pall X (recsW W1.epoch W1.used xs) D1 = R at *
      obtain ⟨D2, e2⟩ := R
      dsimp only at *
      refine al H (cs := [(Sl.v ⟨none, 0, 0⟩), (Sl.v ⟨none, 0, 0⟩), .bool false, .int .i64 0, (Sl.v ⟨none, 0, 0⟩), .int .i64 0, (Sl.v ⟨none, 0, 0⟩), .int .u32 0, .int .i64 0, .int .i64 0, .bool false]) (fun a169 w H => ?_) zc_ref16_Log
      repeat (first | refine lda H ?_ | refine ld0 H ?_ | refine ldaN H ?_ | refine ld0N H ?_ | refine sta H fun w H => ?_ | refine st0 H fun w H => ?_)
      intro J185 hJ185
      have bad : ∀ (e : Int) (D3 : Disk) (s1q s2q : Sl) (w : World), e ≠ 0 → wwrite D1 X W1 xs = (D3, { W1 with dead := true }, e) → Heap F w (blk a169 T_ref16_Log (lwc s1q s2q s5 sp D3 fr W1.epoch (W1.home : Int) (W1.used : Int) W1.dead) :: blk a3 T_ref16_Log [(Sl.v ⟨none, 0, 0⟩), (Sl.v ⟨none, 0, 0⟩), .bool false, .int .i64 0, (Sl.v ⟨none, 0, 0⟩), .int .i64 0, (Sl.v ⟨none, 0, 0⟩), .int .u32 0, .int .i64 0, .int .i64 0, .bool false] :: blk a1 T_ref16_Log (lwc s1 s2 s5 sp D1 fr W1.epoch (W1.home : Int) (W1.used : Int) W1.dead) :: RDk s1q s2q s5 D3 :: imm sp (W1.pages.map bs) :: l) → J185 e w := fun e D3 s1q s2q w hne hww H => by
        rw [hww] at k
        refine hJ185 _ _ (cT (by simpa using hne) (sta H fun w H => ?_))
        repeat (first | refine lda H ?_ | refine ld0 H ?_ | refine ldaN H ?_ | refine ld0N H ?_ | refine sta H fun w H => ?_ | refine st0 H fun w H => ?_)
        replace H := H.ord2 (a := RDk s1q s2q s5 _) (b := imm sp _)
        exact k s1q s2q sp _ (Heap.kp2 3 H)
      have good : ∀ (D3 : Disk) (s1q s2q : Sl) (w : World), wwrite D1 X W1 xs = (D3, { W1 with pages := layC W1.pages xs, used := W1.used + xs.length + 1, dead := false }, 0) → Heap F w (blk a169 T_ref16_Log (lwc s1q s2q s5 sp D3 fr W1.epoch (W1.home : Int) (W1.used : Int) W1.dead) :: blk a3 T_ref16_Log [(Sl.v ⟨none, 0, 0⟩), (Sl.v ⟨none, 0, 0⟩), .bool false, .int .i64 0, (Sl.v ⟨none, 0, 0⟩), .int .i64 0, (Sl.v ⟨none, 0, 0⟩), .int .u32 0, .int .i64 0, .int .i64 0, .bool false] :: blk a1 T_ref16_Log (lwc s1 s2 s5 sp D1 fr W1.epoch (W1.home : Int) (W1.used : Int) W1.dead) :: RDk s1q s2q s5 D3 :: imm sp (W1.pages.map bs) :: l) → J185 0 w := fun D3 s1q s2q w hww H => by
        rw [hww] at k
        refine hJ185 _ _ (cF rfl ?_)
        refine al H (cs := []) (fun a221 w H => ?_) rfl
        refine lda H ?_
        replace H := H.blk_own0 (α := ByteArray) (b := a221)
        refine apI (s := ⟨some ⟨a221, 0, none⟩, 0, 0⟩) (xs := ([] : List ByteArray)) (x := sp) (ys := W1.pages.map bs) S_l_string H (by simp [ok1.n16]) (fun l224 w H => ?_) .h (by repeat (first | assumption | constructor))
        rw [List.nil_append] at H
        refine sta H fun w H => ?_
        refine ⟨fun x w' => ∃ (j : Nat), x = j ∧ j ≤ xs.length ∧ Heap F w' (own T_string l224 ((layC W1.pages (xs.take j)).map bs) :: blk a169 T_ref16_Log (lwc s1q s2q s5 l224 D3 fr W1.epoch (W1.home : Int) (W1.used : Int) W1.dead) :: blk a3 T_ref16_Log [(Sl.v ⟨none, 0, 0⟩), (Sl.v ⟨none, 0, 0⟩), .bool false, .int .i64 0, (Sl.v ⟨none, 0, 0⟩), .int .i64 0, (Sl.v ⟨none, 0, 0⟩), .int .u32 0, .int .i64 0, .int .i64 0, .bool false] :: blk a1 T_ref16_Log (lwc s1 s2 s5 sp D1 fr W1.epoch (W1.home : Int) (W1.used : Int) W1.dead) :: RDk s1q s2q s5 D3 :: l), fun x _ => (xs.length - x).toNat,
          ⟨0, rfl, by omega, (H.dr (imm sp _)).ord2 (a := own T_string l224 _) (b := blk a169 _ _)⟩, ?_⟩
        rintro x w2 ⟨j, rfl, hj, H⟩
        refine dBoth (fun hltj => ?_) (fun hgej => ?_)
        · have hltj' : j < xs.length := by omega
          obtain ⟨c1, c2, c3⟩ := hx xs[j] (List.getElem_mem hltj')
          obtain ⟨o1, o2⟩ := layC_ok W1.pages ok1.n16 ok1.all40 (xs := xs.take j) fun c hc => hx c (List.mem_of_mem_take hc)
          have e1 : layC W1.pages (xs.take (j + 1)) = (layC W1.pages (xs.take j)).set xs[j].page.toNat xs[j].data := by
            rw [List.take_succ_eq_append_getElem hltj', layC, List.foldl_append]; rfl
          replace H := H.drew
          refine lda H ?_
          refine idxI (s := s) (xs := xs) H (by omega) (by omega) (fun a cs H1 hA => ?_) (.t (.t (.t (.t (.t hI)))))
          simp only [Int.toNat_natCast] at H1
          replace H1 := open_Chg H1
          obtain ⟨t, rfl, _⟩ := H1
          refine At.ld0 hA ?_
          refine idxI (s := s) (xs := xs) H (by omega) (by omega) (fun a cs H2 hA => ?_) (.t (.t (.t (.t (.t hI)))))
          simp only [Int.toNat_natCast] at H2
          replace H2 := open_Chg H2
          obtain ⟨t, rfl, H2⟩ := H2
          refine At.ld hA ?_
          refine ⟨_, cvI (s := t) (xs := xs[j].data) H2 und_l8 und_8 und_s .h, ?_⟩
          refine idxW (s := l224) (xs := (layC W1.pages (xs.take j)).map bs) H2 (by omega) (by simp only [List.length_map, o1]; omega) fun g hg => ?_
          refine stO (s := l224) (xs := (layC W1.pages (xs.take j)).map bs) H2 hg (by simp only [List.length_map, o1]; omega) (bs xs[j].data) rfl fun w H => ?_
          refine ⟨⟨j + 1, by rw [i64_id (by omega)]; omega, by omega, ?_⟩, by rw [i64_id (by omega)]; (try dsimp only); omega⟩
          rw [e1, List.map_set]
          exact H.dr (imm t _)
        · obtain rfl : j = xs.length := by omega
          rw [List.take_length] at H
          rw [show ((s.len : Nat) : Int) = (xs.length : Int) by omega]
          refine lda H ?_
          rw [i64_id (n := (W1.used : Int) + (xs.length : Int)) (by omega), i64_id (by omega), show (W1.used : Int) + (xs.length : Int) + 1 = ((W1.used + xs.length + 1 : Nat) : Int) by omega]
          refine sta H fun w H => ?_
          repeat (first | refine lda H ?_ | refine ld0 H ?_ | refine ldaN H ?_ | refine ld0N H ?_ | refine sta H fun w H => ?_ | refine st0 H fun w H => ?_)
          replace H := H.share (s := l224) (xs := (layC W1.pages xs).map bs)
          replace H := H.ord2 (a := RDk s1q s2q s5 _) (b := imm l224 _)
          rw [hdead] at *
          exact k s1q s2q l224 _ (Heap.kp2 3 H)
      refine cBoth (fun he0 => ?_) (fun hne0 => ?_)
      · have he2 : e2 = 0 := by simpa using he0
        have hmw : ∀ x ∈ [markW W1.epoch (W1.used + xs.length)], 0 ≤ x.1 ∧ x.1 < 52 := fun x hx2 => by simp at hx2; subst hx2; simp only [markW]; omega
        have hw2 : D2.waits.length + [markW W1.epoch (W1.used + xs.length)].length < 90000 := by simp; omega
        rw [show ((s.len : Nat) : Int) = (xs.length : Int) by omega]
        refine lda H ?_
        replace H := H.drew
        repeat (first | refine lda H ?_ | refine ld0 H ?_ | refine ldaN H ?_ | refine ld0N H ?_ | refine sta H fun w H => ?_ | refine st0 H fun w H => ?_)
        rw [i64_id (n := (W1.used : Int) + (xs.length : Int)) (by omega), i64_id (n := 34 + ((W1.used : Int) + (xs.length : Int))) (by omega), show (W1.used : Int) + (xs.length : Int) = ((W1.used + xs.length : Nat) : Int) by omega, show (34 : Int) + ((W1.used + xs.length : Nat) : Int) = ((34 + (W1.used + xs.length) : Nat) : Int) by omega]
        simp only [show (⟨#[67]⟩ : ByteArray) = bs [67] from rfl]
        have fin2 : ∀ (s1q s2q : Sl) (w : World), Heap F w (blk a169 T_ref16_Log (lwc s1q s2q s5 sp (pall X [markW W1.epoch (W1.used + xs.length)] D2).1 fr W1.epoch (W1.home : Int) (W1.used : Int) W1.dead) :: blk a3 T_ref16_Log [(Sl.v ⟨none, 0, 0⟩), (Sl.v ⟨none, 0, 0⟩), .bool false, .int .i64 0, (Sl.v ⟨none, 0, 0⟩), .int .i64 0, (Sl.v ⟨none, 0, 0⟩), .int .u32 0, .int .i64 0, .int .i64 0, .bool false] :: blk a1 T_ref16_Log (lwc s1 s2 s5 sp D1 fr W1.epoch (W1.home : Int) (W1.used : Int) W1.dead) :: RDk s1q s2q s5 (pall X [markW W1.epoch (W1.used + xs.length)] D2).1 :: imm sp (W1.pages.map bs) :: l) → J185 (pall X [markW W1.epoch (W1.used + xs.length)] D2).2 w := fun s1q s2q w H => by
          by_cases h3 : (pall X [markW W1.epoch (W1.used + xs.length)] D2).2 = 0
          · rw [h3]
            refine good _ s1q s2q w ?_ H
            rw [wwrite, hp1]; dsimp only; rw [if_pos he2, if_pos h3]
          · refine bad _ _ s1q s2q w h3 ?_ H
            rw [wwrite, hp1]; dsimp only; rw [if_pos he2, if_neg h3]
        refine ⟨?_, ?_⟩
        · refine al H (cs := [.int .i64 ((34 + (W1.used + xs.length) : Nat) : Int)]) (fun ai w H => ⟨cella H, ⟨rfl, rowB H (by repeat (first | assumption | constructor))⟩, ?_⟩) rfl
          refine ref_one H fun w H => ⟨_, rfl, cella H, ⟨rfl, rowB H (by repeat (first | assumption | constructor))⟩, ?_⟩
          refine ref_Sector16 (e := W1.epoch) (c := 67) (bb := [b8 ((W1.used + xs.length : Nat) : Int)]) H (by simp) fun w H => ⟨_, rfl, ⟨rfl, rowB H (by repeat (first | assumption | constructor))⟩, ?_⟩
          refine al H (cs := [.string (bs (sayS 67 W1.epoch [b8 ((W1.used + xs.length : Nat) : Int)]))]) (fun ac w H => ⟨⟨rfl, rowB H (by repeat (first | assumption | constructor))⟩, ?_⟩) rfl
          replace H := (H.blk_own (b := ai) (n := 1) [((34 + (W1.used + xs.length) : Nat) : Int)] rfl (mx (by simp)) rfl).share (s := ⟨some ⟨ai, 0, none⟩, 1, 1⟩) (xs := [((34 + (W1.used + xs.length) : Nat) : Int)])
          replace H := (H.blk_own (b := ac) (n := 1) [bs (sayS 67 W1.epoch [b8 ((W1.used + xs.length : Nat) : Int)])] rfl (mx (by simp)) rfl).share (s := ⟨some ⟨ac, 0, none⟩, 1, 1⟩) (xs := [bs (sayS 67 W1.epoch [b8 ((W1.used + xs.length : Nat) : Int)])])
          refine ref_all16 (L := [markW W1.epoch (W1.used + xs.length)]) (D := D2) (sa := ⟨some ⟨ai, 0, none⟩, 1, 1⟩) (sl := ⟨some ⟨ac, 0, none⟩, 1, 1⟩) (sp := sp) (X := X) H (by repeat (first | assumption | constructor)) hX hmw hw2 (by repeat (first | assumption | constructor)) (by repeat (first | assumption | constructor)) fun s1q s2q w H => ⟨s1q, s2q, _, _, s5, _, sp, _, _, _, _, _, rfl, ?_⟩
          repeat (first | refine lda H ?_ | refine ld0 H ?_ | refine ldaN H ?_ | refine ld0N H ?_ | refine sta H fun w H => ?_ | refine st0 H fun w H => ?_)
          refine fin2 s1q s2q _ ?_; replace H := H.takes (cs := [blk a169 T_ref16_Log _, blk a3 T_ref16_Log [(Sl.v ⟨none, 0, 0⟩), (Sl.v ⟨none, 0, 0⟩), .bool false, .int .i64 0, (Sl.v ⟨none, 0, 0⟩), .int .i64 0, (Sl.v ⟨none, 0, 0⟩), .int .u32 0, .int .i64 0, .int .i64 0, .bool false], blk a1 T_ref16_Log _, RDk s1q s2q s5 _, imm sp _]) (by repeat (first | assumption | constructor)); exact Heap.kp5 3 H
        refine ref_one H fun w H => ⟨_, rfl, ?_, ⟨rfl, rowB H (by repeat (first | assumption | constructor))⟩, ?_, ?_⟩
        · exact cella H
        · refine al H (cs := [.int .i64 ((34 + (W1.used + xs.length) : Nat) : Int)]) (fun ai w H => ⟨?_, ⟨rfl, rowB H (by repeat (first | assumption | constructor))⟩, ?_⟩) rfl
          · exact cella H
          refine ref_Sector16 (e := W1.epoch) (c := 67) (bb := [b8 ((W1.used + xs.length : Nat) : Int)]) H (by simp) fun w H => ⟨_, rfl, ⟨rfl, rowB H (by repeat (first | assumption | constructor))⟩, ?_⟩
          refine al H (cs := [.string (bs (sayS 67 W1.epoch [b8 ((W1.used + xs.length : Nat) : Int)]))]) (fun ac w H => ⟨⟨rfl, rowB H (by repeat (first | assumption | constructor))⟩, ?_⟩) rfl
          replace H := (H.blk_own (b := ai) (n := 1) [((34 + (W1.used + xs.length) : Nat) : Int)] rfl (mx (by simp)) rfl).share (s := ⟨some ⟨ai, 0, none⟩, 1, 1⟩) (xs := [((34 + (W1.used + xs.length) : Nat) : Int)])
          replace H := (H.blk_own (b := ac) (n := 1) [bs (sayS 67 W1.epoch [b8 ((W1.used + xs.length : Nat) : Int)])] rfl (mx (by simp)) rfl).share (s := ⟨some ⟨ac, 0, none⟩, 1, 1⟩) (xs := [bs (sayS 67 W1.epoch [b8 ((W1.used + xs.length : Nat) : Int)])])
          refine ref_all16 (L := [markW W1.epoch (W1.used + xs.length)]) (D := D2) (sa := ⟨some ⟨ai, 0, none⟩, 1, 1⟩) (sl := ⟨some ⟨ac, 0, none⟩, 1, 1⟩) (sp := sp) (X := X) H (by repeat (first | assumption | constructor)) hX hmw hw2 (by repeat (first | assumption | constructor)) (by repeat (first | assumption | constructor)) fun s1q s2q w H => ⟨s1q, s2q, _, _, s5, _, sp, _, _, _, _, _, rfl, ?_⟩
          repeat (first | refine lda H ?_ | refine ld0 H ?_ | refine ldaN H ?_ | refine ld0N H ?_ | refine sta H fun w H => ?_ | refine st0 H fun w H => ?_)
          refine fin2 s1q s2q _ ?_; replace H := H.takes (cs := [blk a169 T_ref16_Log _, blk a3 T_ref16_Log [(Sl.v ⟨none, 0, 0⟩), (Sl.v ⟨none, 0, 0⟩), .bool false, .int .i64 0, (Sl.v ⟨none, 0, 0⟩), .int .i64 0, (Sl.v ⟨none, 0, 0⟩), .int .u32 0, .int .i64 0, .int .i64 0, .bool false], blk a1 T_ref16_Log _, RDk s1q s2q s5 _, imm sp _]) (by repeat (first | assumption | constructor)); exact Heap.kp5 3 H
        refine ref_Sector16 (e := W1.epoch) (c := 67) (bb := [b8 ((W1.used + xs.length : Nat) : Int)]) H (by simp) fun w H => ⟨_, rfl, ⟨rfl, rowB H (by repeat (first | assumption | constructor))⟩, ?_, ?_⟩
        · refine al H (cs := [.int .i64 ((34 + (W1.used + xs.length) : Nat) : Int)]) (fun ai w H => ⟨⟨rfl, rowB H (by repeat (first | assumption | constructor))⟩, ?_⟩) rfl
          refine al H (cs := [.string (bs (sayS 67 W1.epoch [b8 ((W1.used + xs.length : Nat) : Int)]))]) (fun ac w H => ⟨⟨rfl, rowB H (by repeat (first | assumption | constructor))⟩, ?_⟩) rfl
          replace H := (H.blk_own (b := ai) (n := 1) [((34 + (W1.used + xs.length) : Nat) : Int)] rfl (mx (by simp)) rfl).share (s := ⟨some ⟨ai, 0, none⟩, 1, 1⟩) (xs := [((34 + (W1.used + xs.length) : Nat) : Int)])
          replace H := (H.blk_own (b := ac) (n := 1) [bs (sayS 67 W1.epoch [b8 ((W1.used + xs.length : Nat) : Int)])] rfl (mx (by simp)) rfl).share (s := ⟨some ⟨ac, 0, none⟩, 1, 1⟩) (xs := [bs (sayS 67 W1.epoch [b8 ((W1.used + xs.length : Nat) : Int)])])
          refine ref_all16 (L := [markW W1.epoch (W1.used + xs.length)]) (D := D2) (sa := ⟨some ⟨ai, 0, none⟩, 1, 1⟩) (sl := ⟨some ⟨ac, 0, none⟩, 1, 1⟩) (sp := sp) (X := X) H (by repeat (first | assumption | constructor)) hX hmw hw2 (by repeat (first | assumption | constructor)) (by repeat (first | assumption | constructor)) fun s1q s2q w H => ⟨s1q, s2q, _, _, s5, _, sp, _, _, _, _, _, rfl, ?_⟩
          repeat (first | refine lda H ?_ | refine ld0 H ?_ | refine ldaN H ?_ | refine ld0N H ?_ | refine sta H fun w H => ?_ | refine st0 H fun w H => ?_)
          refine fin2 s1q s2q _ ?_; replace H := H.takes (cs := [blk a169 T_ref16_Log _, blk a3 T_ref16_Log [(Sl.v ⟨none, 0, 0⟩), (Sl.v ⟨none, 0, 0⟩), .bool false, .int .i64 0, (Sl.v ⟨none, 0, 0⟩), .int .i64 0, (Sl.v ⟨none, 0, 0⟩), .int .u32 0, .int .i64 0, .int .i64 0, .bool false], blk a1 T_ref16_Log _, RDk s1q s2q s5 _, imm sp _]) (by repeat (first | assumption | constructor)); exact Heap.kp5 3 H
        · refine al H (cs := [.string (bs (sayS 67 W1.epoch [b8 ((W1.used + xs.length : Nat) : Int)]))]) (fun ac w H => ⟨⟨rfl, rowB H (by repeat (first | assumption | constructor))⟩, ?_⟩) rfl
          refine al H (cs := [.int .i64 ((34 + (W1.used + xs.length) : Nat) : Int)]) (fun ai w H => ⟨⟨rfl, rowB H (by repeat (first | assumption | constructor))⟩, ?_⟩) rfl
          replace H := (H.blk_own (b := ai) (n := 1) [((34 + (W1.used + xs.length) : Nat) : Int)] rfl (mx (by simp)) rfl).share (s := ⟨some ⟨ai, 0, none⟩, 1, 1⟩) (xs := [((34 + (W1.used + xs.length) : Nat) : Int)])
          replace H := (H.blk_own (b := ac) (n := 1) [bs (sayS 67 W1.epoch [b8 ((W1.used + xs.length : Nat) : Int)])] rfl (mx (by simp)) rfl).share (s := ⟨some ⟨ac, 0, none⟩, 1, 1⟩) (xs := [bs (sayS 67 W1.epoch [b8 ((W1.used + xs.length : Nat) : Int)])])
          refine ref_all16 (L := [markW W1.epoch (W1.used + xs.length)]) (D := D2) (sa := ⟨some ⟨ai, 0, none⟩, 1, 1⟩) (sl := ⟨some ⟨ac, 0, none⟩, 1, 1⟩) (sp := sp) (X := X) H (by repeat (first | assumption | constructor)) hX hmw hw2 (by repeat (first | assumption | constructor)) (by repeat (first | assumption | constructor)) fun s1q s2q w H => ⟨s1q, s2q, _, _, s5, _, sp, _, _, _, _, _, rfl, ?_⟩
          repeat (first | refine lda H ?_ | refine ld0 H ?_ | refine ldaN H ?_ | refine ld0N H ?_ | refine sta H fun w H => ?_ | refine st0 H fun w H => ?_)
          refine fin2 s1q s2q _ ?_; replace H := H.takes (cs := [blk a169 T_ref16_Log _, blk a3 T_ref16_Log [(Sl.v ⟨none, 0, 0⟩), (Sl.v ⟨none, 0, 0⟩), .bool false, .int .i64 0, (Sl.v ⟨none, 0, 0⟩), .int .i64 0, (Sl.v ⟨none, 0, 0⟩), .int .u32 0, .int .i64 0, .int .i64 0, .bool false], blk a1 T_ref16_Log _, RDk s1q s2q s5 _, imm sp _]) (by repeat (first | assumption | constructor)); exact Heap.kp5 3 H
      · have hne2 : ¬ e2 = 0 := by simpa using hne0
        refine bad e2 D2 s1' s2' w hne2 (by rw [wwrite, hp1]; dsimp only; rw [if_neg hne2]) ?_
        exact H.ord5 (a := blk a169 _ _) (b := blk a3 _ _) (c := blk a1 _ _) (d := RDk s1' s2' s5 _) (e := imm sp _)
  refine lda H ?_
  rw [show ((s.len : Nat) : Int) = (xs.length : Int) by omega, i64_id (n := (W.used : Int) + (xs.length : Int)) (by omega), i64_id (by omega)]
  refine dBoth (fun hgt => ?_) (fun hle => ?_)
  · have hgt' : W.used + xs.length + 1 > 18 := by omega
    refine lda H (cBoth (fun he => ?_) (fun he => ?_))
    · have hmax : W.epoch = 4294967295 := by
        have : (W.epoch.toNat : Int) = 4294967295 := by simpa using he
        apply UInt32.toNat.inj; rw [show (4294967295 : UInt32).toNat = 4294967295 by decide]; omega
      have hce : wcommit D X W xs = (D, W, 5) := by rw [wcommit, if_neg hd', if_neg hr2, if_neg hne, if_pos hgt', if_pos hmax]
      repeat (first | refine lda H ?_ | refine ld0 H ?_ | refine ldaN H ?_ | refine ld0N H ?_ | refine sta H fun w H => ?_ | refine st0 H fun w H => ?_)
      exact ret0 5 hce _ _ H
    · have hmax : ¬ W.epoch = 4294967295 := fun e => by rw [e] at he; exact absurd he (by decide)
      have hce : wcommit D X W xs = if (wcheck D X W).2.2 = 0 then wwrite (wcheck D X W).1 X (wcheck D X W).2.1 xs else wcheck D X W := by rw [wcommit, if_neg hd', if_neg hr2, if_neg hne, if_pos hgt', if_neg hmax]
      repeat (first | refine lda H ?_ | refine ld0 H ?_ | refine ldaN H ?_ | refine ld0N H ?_ | refine sta H fun w H => ?_ | refine st0 H fun w H => ?_)
      rw [add32_1, i64_id (by omega), show 1 - (W.home : Int) = ((1 - W.home : Nat) : Int) by omega]
      replace H := (H.own_nil (α := ByteArray) T_string).own_nil (α := Int) T_int
      refine ref_settle16 (P := W.pages) (pre := []) (D := D) (e := W.epoch) (e' := W.epoch + 1) (home := 1 - W.home) (sa := (⟨none, 0, 0⟩ : Sl)) (sl := (⟨none, 0, 0⟩ : Sl)) (sp := sp) (X := X) H hX ok.n16 ok.all40 (fun x hx => by cases hx) (by decide) (by omega) (by omega) (.c .h (.c .h .n)) (by repeat (first | assumption | constructor)) (by repeat (first | assumption | constructor)) fun s1' s2' w H => ⟨s1', s2', _, _, s5, _, sp, _, _, _, _, _, rfl, ?_⟩
      replace H := H.dr (RDk s1 s2 s5 D)
      rw [wcheck] at hce
      have hw2 : (Nac.settle D X [] W.pages (W.epoch + 1) (1 - W.home)).1.waits.length ≤ D.waits.length + 17 := by
        unfold Nac.settle
        have h1 := pall_waits X ([] ++ pagesW (1 - W.home) (W.epoch + 1) W.pages) D
        have hpl : ([] ++ pagesW (1 - W.home) (W.epoch + 1) W.pages).length = 16 := by rw [List.nil_append, pagesW_len, ok.n16]
        have h2 := pall_waits X [headW (1 - W.home) (W.epoch + 1)] (pall X ([] ++ pagesW (1 - W.home) (W.epoch + 1) W.pages) D).1
        simp only [List.length_singleton] at h2
        split <;> omega
      generalize Nac.settle D X [] W.pages (W.epoch + 1) (1 - W.home) = R at *
      obtain ⟨D2, e2⟩ := R
      dsimp only at *
      refine al H (cs := [(Sl.v ⟨none, 0, 0⟩), (Sl.v ⟨none, 0, 0⟩), .bool false, .int .i64 0, (Sl.v ⟨none, 0, 0⟩), .int .i64 0, (Sl.v ⟨none, 0, 0⟩), .int .u32 0, .int .i64 0, .int .i64 0, .bool false]) (fun a486 w H => ?_) zc_ref16_Log
      repeat (first | refine lda H ?_ | refine ld0 H ?_ | refine ldaN H ?_ | refine ld0N H ?_ | refine sta H fun w H => ?_ | refine st0 H fun w H => ?_)
      refine cBoth (fun hne2 => ?_) (fun h02 => ?_)
      · have hne2' : ¬ e2 = 0 := by simpa using hne2
        rw [if_neg hne2', if_neg hne2'] at hce
        rw [hce] at k
        refine sta H fun w H => ?_
        repeat (first | refine lda H ?_ | refine ld0 H ?_ | refine ldaN H ?_ | refine ld0N H ?_ | refine sta H fun w H => ?_ | refine st0 H fun w H => ?_)
        replace H := H.ord2 (a := RDk s1' s2' s5 _) (b := imm sp _)
        exact k s1' s2' sp _ (Heap.kp2 3 H)
      · have h02' : e2 = 0 := by simpa using h02
        rw [if_pos h02', if_pos rfl] at hce
        replace H := H.drew
        refine lda H (lda H ?_)
        rw [add32_1, i64_id (by omega), show 1 - (W.home : Int) = ((1 - W.home : Nat) : Int) by omega]
        refine sta H fun w H => ⟨?_, ?_⟩
        · exact cella H
        refine sta H fun w H => sta H fun w H => ?_
        repeat (first | refine lda H ?_ | refine ld0 H ?_ | refine ldaN H ?_ | refine ld0N H ?_ | refine sta H fun w H => ?_ | refine st0 H fun w H => ?_)
        refine go D2 { W with epoch := W.epoch + 1, home := 1 - W.home, used := 0, dead := false } s1' s2' _ (by dsimp only; omega) ⟨ok.n16, ok.all40, by dsimp only; omega, by dsimp only; omega⟩ rfl rfl (by omega) hce ?_
        rw [dead0] at H
        exact (H.dr (blk a486 _ _)).ord4 (a := blk a3 _ _) (b := blk a1 _ _) (c := RDk s1' s2' s5 _) (d := imm sp _)
  · have hle' : ¬ W.used + xs.length + 1 > 18 := by omega
    refine go D W s1 s2 _ (by omega) ok dead0 rfl (by omega) (by rw [wcommit, if_neg hd', if_neg hr2, if_neg hne, if_neg hle']) H
end
end Go.Proofs.YtkfcmpngcanffaaDoor.G
