import Derived.Test.YtkfcmpngcanffaaDoorDg
import Derived.Test.YtkfcmpngcanffaaDoorNw
import Derived.Test.YtkfcmpngcanffaaDoorDb
set_option linter.unusedVariables false
set_option linter.unusedSimpArgs false
namespace Nac
structure Act16 where
  do_ : Int
  n : Int
  at_ : Int
  off : Int
  fill : UInt8
  keep : List Bool
def chSize (a : Act16) : Nat := (if -40 < a.off ∧ a.off < 40 then 40 + a.off else 40).toNat
def chCount (a : Act16) : Nat := (if a.n < 18 then a.n else 18).toNat
def chOf (a : Act16) (i : Nat) : Chg := ⟨if 0 ≤ a.at_ ∧ a.at_ < 16 then Int.tmod (a.at_ + i) 16 else a.at_, List.replicate (chSize a) (a.fill + b8 i)⟩
def changes (a : Act16) : List Chg := (List.range (chCount a)).map (chOf a)
end Nac
namespace Go.Proofs.YtkfcmpngcanffaaDoor.G
open Go Go.VC Go.RowKit Go.Proofs Go.Proofs.YtkfcmpngcanffaaDoor Nac
attribute [local irreducible] Tryd.prog
instance : Rep Act16 where
  n := 6
  r := fun ro cs x => ∃ s : Sl, cs = [.int .i64 x.do_, .int .i64 x.n, .int .i64 x.at_, .int .i64 x.off, .int .u8 (x.fill.toNat : Int), s.v] ∧ immL ro s x.keep
  mono := fun h ⟨s, e, hi⟩ => ⟨s, e, hi.mono h⟩
  len := fun ⟨s, e, _⟩ => by rw [e]; rfl
  one := fun ⟨s, e, _⟩ u hu => by rw [e] at hu; simp at hu; rcases hu with rfl | rfl | rfl | rfl | rfl | rfl <;> rfl
theorem open_Act16 {F : Bs} {w : World} {l : List SP} {cs : List Value} {x : Act16} (H : Heap F w (rep cs x :: l)) : ∃ s : Sl, cs = [.int .i64 x.do_, .int .i64 x.n, .int .i64 x.at_, .int .i64 x.off, .int .u8 (x.fill.toNat : Int), s.v] ∧ Heap F w (imm s x.keep :: l) := by
  obtain ⟨t, H⟩ := H.ex (c' := fun t : Sl => [pur (cs = [.int .i64 x.do_, .int .i64 x.n, .int .i64 x.at_, .int .i64 x.off, .int .u8 (x.fill.toNat : Int), t.v]), imm t x.keep]) fun ro h ⟨t, e, hi⟩ => ⟨t, PH.emp, PH.emp, fun _ => .inl rfl, PH.emp_le _, PH.emp_le _, e, PH.emp, PH.emp, fun _ => .inl rfl, PH.le.refl _, PH.le.refl _, hi, trivial⟩
  exact ⟨t, H.pur.1, H.pur.2⟩
theorem add8 (a b : UInt8) : IntKind.wrap .u8 ((a.toNat : Int) + (b.toNat : Int)) = ((a + b).toNat : Int) := by
  rw [IntKind.wrap_u8, UInt8.toNat_add]; omega
section
variable {F : Bs} {w : World} {l r : List SP} {b d p : Nat} {D : Disk} {Q : Value → World → Prop} {X : Nac.Ext} {W : Wal}
theorem law_Changes (H : Heap F w l) {a : Act16} {sk : Sl} (hn : -9223372036854775808 ≤ a.n ∧ a.n ≤ 9223372036854775807) (k : ∀ (s : Sl) w', Heap F w' (own T_api_Change s (changes a) :: l) → Q (.slice s.a s.len s.cap) w') :
    Does Tryd.prog N_law16_Changes #[.agg #[.int .i64 a.do_, .int .i64 a.n, .int .i64 a.at_, .int .i64 a.off, .int .u8 (a.fill.toNat : Int), .slice sk.a sk.len sk.cap]] w Q := by
  refine F_law16_Changes_does _ _ _ _ _ _ _ _ ?_
  unfold F_law16_Changes
  refine al H (cs := [.int .i64 a.do_, .int .i64 a.n, .int .i64 a.at_, .int .i64 a.off, .int .u8 (a.fill.toNat : Int), sk.v]) (fun a1 w H => ?_) rfl
  intro J hJ
  have body : ∀ w', Heap F w' (blk a1 T_law16_Act [.int .i64 a.do_, .int .i64 a.n, .int .i64 a.at_, .int .i64 a.off, .int .u8 (a.fill.toNat : Int), sk.v] :: l) → J (chSize a : Int) w' := fun w' H => by
    refine hJ _ _ ?_
    have hcs : chSize a < 80 := by unfold chSize; split <;> omega
    refine ⟨fun s x w' => ∃ i : Nat, x = i ∧ i ≤ chCount a ∧ Heap F w' (own T_api_Change s ((List.range i).map (chOf a)) :: blk a1 T_law16_Act [.int .i64 a.do_, .int .i64 a.n, .int .i64 a.at_, .int .i64 a.off, .int .u8 (a.fill.toNat : Int), sk.v] :: l), fun _ x _ => (18 - x).toNat, ⟨0, rfl, by omega, H.own_nil (α := Chg) _⟩, ?_⟩
    rintro s x w1 ⟨i, rfl, hi, H⟩
    have hc18 : chCount a ≤ 18 := by unfold chCount; split <;> omega
    have fin : ¬ (i : Int) < a.n ∨ ¬ (i : Int) < 18 → Q (.slice s.a s.len s.cap) w1 := fun hc => by
      have : i = chCount a := by
        unfold chCount at hi ⊢
        split at hi <;> rename_i h1
        · rw [if_pos h1]; omega
        · rw [if_neg h1]; omega
      subst this
      exact k s w1 (H.dr (blk a1 _ _))
    intro J12 hJ12
    refine lda H (dBoth (fun h1 => dBoth (fun h2 => hJ12 _ ?_) fun h2 => fin (.inr h2)) fun h1 => fin (.inl h1))
    have h1' : (i : Int) < a.n := h1
    have hi18 : i < 18 := by omega
    have hic : i < chCount a := by unfold chCount; split <;> omega
    intro J15 hJ15
    refine mk (d := (0 : UInt8)) Z_l_uint8 H (by omega) (by omega) (by simp only [maxLen]; omega) fun b1 w H => ?_
    rw [Int.toNat_natCast] at H ⊢
    replace H := H.blk_own (n := chSize a) (List.replicate (chSize a) (0 : UInt8)) rfl (mx (by simp; omega)) (by simp)
    refine ⟨fun x w' => ∃ j : Nat, x = j ∧ j ≤ chSize a ∧ Heap F w' (own T_uint8 ⟨some ⟨b1, 0, none⟩, chSize a, chSize a⟩ (List.replicate j (a.fill + b8 i) ++ List.replicate (chSize a - j) 0) :: own T_api_Change s ((List.range i).map (chOf a)) :: blk a1 T_law16_Act [.int .i64 a.do_, .int .i64 a.n, .int .i64 a.at_, .int .i64 a.off, .int .u8 (a.fill.toNat : Int), sk.v] :: l), fun x _ => (chSize a - x).toNat, ⟨0, rfl, by omega, by simpa using H⟩, ?_⟩
    rintro x w2 ⟨j, rfl, hj, H⟩
    refine dBoth (fun hlt => ?_) (fun hge => ?_)
    · have hlt' : j < chSize a := by omega
      refine lda H ?_
      rw [Go.VC.wrap8 (i : Int), add8]
      refine idxW (s := ⟨some ⟨b1, 0, none⟩, chSize a, chSize a⟩) (xs := List.replicate j (a.fill + b8 i) ++ List.replicate (chSize a - j) (0 : UInt8)) H (by omega) (by simp; omega) fun g hg => ?_
      obtain rfl : b1 = g := by simpa using hg
      rw [Int.toNat_natCast]
      refine stO (s := ⟨some ⟨b1, 0, none⟩, chSize a, chSize a⟩) (xs := List.replicate j (a.fill + b8 i) ++ List.replicate (chSize a - j) (0 : UInt8)) H rfl (by simp; omega) (a.fill + b8 i) rfl fun w H => ?_
      refine ⟨⟨j + 1, by rw [i64_id (by omega)]; omega, by omega, ?_⟩, by rw [i64_id (by omega)]; (try dsimp only); omega⟩
      have e : (List.replicate j (a.fill + b8 i) ++ List.replicate (chSize a - j) (0 : UInt8)).set j (a.fill + b8 i) = List.replicate (j + 1) (a.fill + b8 i) ++ List.replicate (chSize a - (j + 1)) 0 := by
        rw [List.set_append_right _ _ (by simp), List.length_replicate, Nat.sub_self, show chSize a - j = (chSize a - (j + 1)) + 1 by omega, List.replicate_succ, List.set_cons_zero, List.replicate_succ', List.append_assoc]; rfl
      rw [e] at H
      exact H
    · obtain rfl : j = chSize a := by omega
      rw [Nat.sub_self, List.replicate_zero, List.append_nil] at H
      replace H := H.share (s := ⟨some ⟨b1, 0, none⟩, chSize a, chSize a⟩) (xs := List.replicate (chSize a) (a.fill + b8 i))
      refine lda H ?_
      intro J28 hJ28 J35 hJ35
      have go : ∀ w, Heap F w (imm ⟨some ⟨b1, 0, none⟩, chSize a, chSize a⟩ (List.replicate (chSize a) (a.fill + b8 i)) :: own T_api_Change s ((List.range i).map (chOf a)) :: blk a1 T_law16_Act [.int .i64 a.do_, .int .i64 a.n, .int .i64 a.at_, .int .i64 a.off, .int .u8 (a.fill.toNat : Int), sk.v] :: l) → J28 (chOf a i).page w := fun w H => by
        refine hJ28 _ _ ?_
        refine al H (cs := [.int .i64 (chOf a i).page, (Sl.mk (some ⟨b1, 0, none⟩) (chSize a) (chSize a)).v]) (fun a3 w H => ?_) rfl
        replace H := close_Chg (chOf a i) (s := ⟨some ⟨b1, 0, none⟩, chSize a, chSize a⟩) H (.t .h)
        refine psh (s := s) (xs := (List.range i).map (chOf a)) (y := chOf a i) (cs := [.int .i64 (chOf a i).page, (Sl.mk (some ⟨b1, 0, none⟩) (chSize a) (chSize a)).v]) S_l_api_Change H (by simp; omega) (fun s' w H => ?_) (by repeat (first | assumption | constructor)) (by repeat (first | assumption | constructor)) .h
        refine hJ15 _ _ ⟨⟨i + 1, by rw [i64_id (by omega)]; omega, by omega, ?_⟩, by rw [i64_id (by omega)]; (try dsimp only); omega⟩
        rw [List.range_succ, List.map_append]
        exact (H.dr2 (rep _ (chOf a i)) (blk a3 _ _)).dr (imm _ (List.replicate (chSize a) (a.fill + b8 i)))
      have hf : ¬ (0 ≤ a.at_ ∧ a.at_ < 16) → J35 false w2 := fun hc => hJ35 _ _ (cF rfl (by
        have := go w2 H
        rwa [show (chOf a i).page = a.at_ by simp only [chOf]; rw [if_neg hc]] at this))
      refine dBoth (fun h3 => ?_) (fun h3 => hf fun hc => h3 hc.1)
      have h3' : a.at_ ≥ 0 := h3
      by_cases h4 : a.at_ < 16
      · refine hJ35 _ _ (cT (decide_eq_true h4) ⟨by decide, ?_⟩)
        have := go w2 H
        rw [show (chOf a i).page = Int.tmod (a.at_ + i) 16 by simp only [chOf]; rw [if_pos ⟨h3', h4⟩]] at this
        rw [i64_id (by omega)]
        exact this
      · have e : (decide ((a.at_ : Int) < 16)) = false := decide_eq_false h4
        show J35 (decide ((a.at_ : Int) < 16)) w2
        rw [e]
        exact hf fun hc => h4 hc.2
  intro J39 hJ39
  have hf : ¬ (-40 < a.off ∧ a.off < 40) → J39 false w := fun hc => hJ39 _ _ (cF rfl (by
    have := body w H
    rwa [show (chSize a : Int) = 40 by unfold chSize; rw [if_neg hc]; rfl] at this))
  refine lda H (dBoth (fun h1 => lda H ?_) fun h1 => hf fun hc => h1 (by show a.off > -40; omega))
  have h1' : a.off > -40 := h1
  by_cases h2 : a.off < 40
  · refine hJ39 _ _ (cT (decide_eq_true h2) (lda H ?_))
    have := body w H
    rw [show (chSize a : Int) = 40 + a.off by unfold chSize; rw [if_pos ⟨by omega, h2⟩]; omega] at this
    rw [i64_id (by omega)]
    exact this
  · show J39 (decide ((a.off : Int) < 40)) w
    rw [decide_eq_false h2]
    exact hf fun hc => h2 hc.2
theorem law_pages (H : Heap F w l) (k : ∀ w', Heap F w' (WalAt b p W :: r) → Q (.string (bs W.pages.flatten)) w') (hT : Take l (WalAt b p W) r := by repeat (first | assumption | constructor)) :
    Does Tryd.prog N_law16_pages #[.pointer (some ⟨b, 0, none⟩)] w Q := by
  refine F_law16_pages_does _ _ _ ?_
  unfold F_law16_pages
  obtain ⟨ok, _, _⟩ := wal_opn H hT
  replace H := H.take hT
  refine ⟨fun s x w' => ∃ i : Nat, x = i ∧ i ≤ 16 ∧ s = bs (W.pages.take i).flatten ∧ Heap F w' (WalAt b p W :: r), fun _ x _ => (16 - x).toNat, ⟨0, rfl, by omega, rfl, H⟩, ?_⟩
  rintro s x w1 ⟨i, rfl, hi, rfl, H⟩
  refine dBoth (fun hlt => ?_) (fun hge => ?_)
  · have hlt' : i < 16 := by omega
    have hiW : i < W.pages.length := by rw [ok.n16]; exact hlt'
    have hp40 := ok.all40 _ (List.getElem_mem hiW)
    refine wal_Page (W := W) H hlt' (fun s1 w H => ⟨⟨s1.a, s1.len, s1.cap⟩, _, rfl, ⟨_, cvO (s := s1) (xs := W.pages.getD i []) H und_l8 und_8 und_s .h, ?_⟩⟩) .h
    rw [show W.pages.getD i [] = W.pages[i] by rw [List.getD_eq_getElem?_getD, List.getElem?_eq_getElem hiW]; rfl, bs_append] at *
    have hfl : (W.pages.take i).flatten.length = i * 40 := by rw [flatK_len (fun x hx => ok.all40 x (List.mem_of_mem_take hx)), List.length_take, ok.n16]; omega
    refine ⟨by simp only [bs_size, hfl, hp40]; omega, ⟨i + 1, by rw [i64_id (by omega)]; omega, by omega, ?_, H.dr (own T_uint8 s1 _)⟩, by rw [i64_id (by omega)]; (try dsimp only); omega⟩
    rw [List.take_succ_eq_append_getElem hiW, List.flatten_append]; simp
  · obtain rfl : i = 16 := by omega
    rw [List.take_of_length_le (by rw [ok.n16]; omega)]
    exact k w1 H
theorem ref_May16 (H : Heap F w l) {s : Sl} {xs : List Chg} (k : ∀ w', Heap F w' l → Q (.bool (rightC xs)) w') (hI : Has l (imm s xs) := by repeat (first | assumption | constructor)) : Does Tryd.prog N_ref16_May #[.slice s.a s.len s.cap] w Q := by
  refine F_ref16_May_does _ _ _ ?_
  unfold F_ref16_May
  have hl := H.len hI
  have hb := H.bndI hI
  refine ⟨fun x w' => ∃ i : Nat, x = i ∧ i ≤ xs.length ∧ Heap F w' l ∧ ((xs.all fun c => decide (0 ≤ c.page) && decide (c.page < 16) && decide (c.data.length = 40)) = (xs.drop i).all fun c => decide (0 ≤ c.page) && decide (c.page < 16) && decide (c.data.length = 40)), fun x _ => (xs.length - x).toNat, ⟨0, rfl, by omega, H, rfl⟩, ?_⟩
  rintro x w1 ⟨i, rfl, hi, H, hr⟩
  refine dBoth (fun hlt => ?_) (fun hge => ?_)
  · have hlt' : i < xs.length := by omega
    intro J hJ
    rw [List.drop_eq_getElem_cons hlt', List.all_cons] at hr
    have out : (decide (0 ≤ xs[i].page) && decide (xs[i].page < 16) && decide (xs[i].data.length = 40)) = false → Q (.bool false) w1 := fun e => by
      have e2 : rightC xs = false := by rw [rightC, hr, e]; simp
      rw [← e2]; exact k w1 H
    refine idxI (s := s) (xs := xs) H (by omega) (by omega) (fun a cs H1 hA => ?_) hI
    simp only [Int.toNat_natCast] at H1
    replace H1 := open_Chg H1
    obtain ⟨t, rfl, H1⟩ := H1
    have ht := H1.len (s := t) (xs := xs[i].data)
    refine At.ld0 hA (dBoth (fun h1 => out ?_) (fun h1 => ?_))
    · have h1' : xs[i].page < 0 := h1
      rw [decide_eq_false (show ¬ 0 ≤ xs[i].page by omega)]; simp
    have h1' : ¬ xs[i].page < 0 := h1
    refine idxI (s := s) (xs := xs) H (by omega) (by omega) (fun a cs H2 hA => ?_) hI
    simp only [Int.toNat_natCast] at H2
    replace H2 := open_Chg H2
    obtain ⟨t2, rfl, H2⟩ := H2
    refine At.ld0 hA (dBoth (fun h2 => out ?_) (fun h2 => ?_))
    · have h2' : xs[i].page > 15 := h2
      rw [decide_eq_false (show ¬ xs[i].page < 16 by omega)]; simp
    have h2' : ¬ xs[i].page > 15 := h2
    refine idxI (s := s) (xs := xs) H (by omega) (by omega) (fun a cs H3 hA => ?_) hI
    simp only [Int.toNat_natCast] at H3
    replace H3 := open_Chg H3
    obtain ⟨t3, rfl, H3⟩ := H3
    have ht3 := H3.len (s := t3) (xs := xs[i].data)
    refine At.ld hA (cBoth (fun h3 => out ?_) (fun h3 => hJ _ ⟨⟨i + 1, by rw [i64_id (by omega)]; omega, by omega, H, ?_⟩, by rw [i64_id (by omega)]; (try dsimp only); omega⟩))
    · rw [decide_eq_false (show ¬ xs[i].data.length = 40 by simp at h3; omega)]; simp
    · rw [hr, decide_eq_true (show 0 ≤ xs[i].page by omega), decide_eq_true (show xs[i].page < 16 by omega), decide_eq_true (show xs[i].data.length = 40 by simp at h3; omega)]; rfl
  · obtain rfl : i = xs.length := by omega
    have := k w1 H
    rw [rightC, hr, List.drop_length, List.all_nil, Bool.and_true] at this
    rw [show ((s.len : Nat) : Int) = (xs.length : Int) by omega]
    rwa [show decide ((xs.length : Int) ≤ 16) = decide (xs.length ≤ 16) by simp [Int.ofNat_le]; omega]
/-- a log is the document's -/
theorem law_is (H : Heap F w l) {s1 s2 s5 sp : Sl} {D : Disk} {fr h : Int} (k : ∀ w', Heap F w' (WalAt b p W :: r) → Q (.bool true) w') (hT : Take l (WalAt b p W) r := by repeat (first | assumption | constructor)) (hP : Has r (imm sp (W.pages.map bs)) := by repeat (first | assumption | constructor)) :
    Does Tryd.prog N_law16_is #[.pointer (some ⟨b, 0, none⟩), lw s1 s2 s5 sp D fr W.epoch h W.used W.dead] w Q := by
  refine F_law16_is_does _ _ _ _ _ _ _ _ _ _ _ _ _ _ ?_
  unfold F_law16_is
  obtain ⟨ok, _, _⟩ := wal_opn H hT
  replace H := H.take hT
  refine al H (cs := lwc s1 s2 s5 sp D fr W.epoch h W.used W.dead) (fun a1 w H => ?_) rfl
  refine ⟨fun x w' => ∃ i : Nat, x = i ∧ i ≤ 16 ∧ Heap F w' (blk a1 T_ref16_Log (lwc s1 s2 s5 sp D fr W.epoch h W.used W.dead) :: WalAt b p W :: r), fun x _ => (16 - x).toNat, ⟨0, rfl, by omega, H⟩, ?_⟩
  rintro x w1 ⟨i, rfl, hi, H⟩
  refine dBoth (fun hlt => ?_) (fun hge => ?_)
  · have hlt' : i < 16 := by omega
    have hiW : i < W.pages.length := by rw [ok.n16]; exact hlt'
    intro J hJ
    refine wal_Page (W := W) H hlt' (fun s1 w H => ⟨⟨s1.a, s1.len, s1.cap⟩, _, rfl, cF rfl ?_⟩) (.t .h)
    rw [show W.pages.getD i [] = W.pages[i] by rw [List.getD_eq_getElem?_getD, List.getElem?_eq_getElem hiW]; rfl] at *
    replace H := H.drew
    refine ⟨_, cvO (s := s1) (xs := W.pages[i]) H und_l8 und_8 und_s .h, lda H ?_⟩
    refine idxI1 (s := sp) (xs := W.pages.map bs) H (by omega) (by simp; omega) (fun a ha => ldc ha ?_) (by repeat (first | assumption | constructor))
    rw [show (W.pages.map bs)[((i : Nat) : Int).toNat]'(by simp; omega) = bs W.pages[i] by simp]
    refine cF (by simp) (hJ _ ⟨⟨i + 1, by rw [i64_id (by omega)]; omega, by omega, ?_⟩, by rw [i64_id (by omega)]; (try dsimp only); omega⟩)
    exact (H.dr (own T_uint8 s1 _)).ord2
  · replace H := H.drew
    refine lda H ?_
    refine wal_Epoch (W := W) H ⟨_, rfl, cella H, cT (by simp) (lda H ?_)⟩ (.t .h)
    refine wal_Used (W := W) H ⟨_, rfl, cella H, cT (by simp) (lda H ?_)⟩ (.t .h)
    refine wal_Dead (W := W) H ⟨_, rfl, cella H, ?_⟩ (.t .h)
    rw [beq_self_eq_true]
    exact k _ H.tl
end
end Go.Proofs.YtkfcmpngcanffaaDoor.G

set_option linter.unusedVariables false
set_option linter.unusedSimpArgs false
namespace Go.Proofs.YtkfcmpngcanffaaDoor.G
open Go Go.VC Go.RowKit Go.Proofs Go.Proofs.YtkfcmpngcanffaaDoor Nac
theorem openAct16 : OpenT Tryd.prog T_law16_Act (fun x : Act16 => (-9223372036854775808 ≤ x.n ∧ x.n ≤ 9223372036854775807) ∧ (-9223372036854775808 ≤ x.at_ ∧ x.at_ ≤ 9223372036854775807) ∧ x.keep.length ≤ reachBytes) := by
  intro H enc w fuel cs d ps h hw
  have ui : Tryd.prog.underlying T_int = some (.int .i64) := by kernel_rfl
  have u8 : Tryd.prog.underlying T_uint8 = some (.int .u8) := by kernel_rfl
  have c1 : Tryd.prog.cellsOf T_int = 1 := by kernel_rfl
  have c8 : Tryd.prog.cellsOf T_uint8 = 1 := by kernel_rfl
  have cb : Tryd.prog.cellsOf T_l_bool = 1 := by kernel_rfl
  have c7 : Tryd.prog.cellsOf T_law16_Act = 6 := by kernel_rfl
  obtain ⟨hl, y0, r0, g0⟩ := openField h hw (i := 0) (u := T_int) (o := 0) (by kernel_rfl) (openInt ui)
  obtain ⟨_, y1, r1, g1⟩ := openField h hw (i := 1) (u := T_int) (o := 1) (by kernel_rfl) (openInt ui)
  obtain ⟨_, y2, r2, g2⟩ := openField h hw (i := 2) (u := T_int) (o := 2) (by kernel_rfl) (openInt ui)
  obtain ⟨_, y3, r3, g3⟩ := openField h hw (i := 3) (u := T_int) (o := 3) (by kernel_rfl) (openInt ui)
  obtain ⟨_, y4, r4, g4⟩ := openField h hw (i := 4) (u := T_uint8) (o := 4) (by kernel_rfl) (openU8 u8)
  obtain ⟨_, y5, r5, g5⟩ := openField h hw (i := 5) (u := T_l_bool) (o := 5) (by kernel_rfl) (openList (e := T_bool) (k := 1) (by kernel_rfl) (by kernel_rfl) (by decide) (by kernel_rfl) (openBool (by kernel_rfl)))
  rw [c7] at hl
  rw [c1] at r0 r1 r2 r3
  rw [c8] at r4
  rw [cb] at r5
  match cs, hl with
  | [a0, a1, a2, a3, a4, a5], _ =>
    have e0 : [a0] = [Sc.enc y0] := r0
    have e1 : [a1] = [Sc.enc y1] := r1
    have e2 : [a2] = [Sc.enc y2] := r2
    have e3 : [a3] = [Sc.enc y3] := r3
    have e4 : [a4] = [Sc.enc y4] := r4
    obtain ⟨s, e5, hi⟩ := r5
    have e5' : [a5] = [s.v] := e5
    cases e0; cases e1; cases e2; cases e3; cases e4; cases e5'
    exact ⟨⟨y0, y1, y2, y3, y4, y5⟩, ⟨s, rfl, hi⟩, g1, g2, by simpa using g5.1⟩
attribute [local irreducible] Tryd.prog
theorem D0_get {j : Nat} (h : j < 60) : D0.has[j]? = some zeros64 := by
  rw [D0, Disk.new]
  show (List.replicate 60 (List.replicate 64 (0 : UInt8)))[j]? = _
  rw [List.getElem?_replicate, if_pos h]; rfl
theorem D0_fits {n : Int} (h0 : 0 ≤ n) (h8 : n ≤ 8) : Fits D0 ⟨n, 52⟩ := ⟨h0, rfl, by simp [D0, Disk.new]; omega⟩
theorem DF_good {n : Int} (h0 : 0 ≤ n) (h8 : n ≤ 8) : (Nac.format D0 ⟨n, 52⟩).2 = 0 ∧ Nac.Good (Nac.format D0 ⟨n, 52⟩).1 ⟨n, 52⟩ W0 ∧ (Nac.format D0 ⟨n, 52⟩).1.left < 0 :=
  format_good (D0_fits h0 h8) rfl rfl (by decide) fun i hi => by
    rw [dat, List.getD_eq_getElem?_getD, D0_get (by simp only; omega)]; rfl
section
variable {F : Bs} {w : World} {l r : List SP} {b d p : Nat} {D : Disk} {Q : Value → World → Prop} {X : Nac.Ext} {W : Wal}
theorem open_good {r1 r2 : List SP} (H : Heap F w l) (G : Nac.Good D X W) (k : ∀ (b : Nat) w', Heap F w' (WalAt b p W :: PartAt p d X :: DiskAt d D :: r2) → Q (.tuple #[.pointer (some ⟨b, 0, none⟩), .int .i64 0]) w')
    (hP : Take l (PartAt p d X) r1 := by repeat (first | assumption | constructor)) (hD : Take r1 (DiskAt d D) r2 := by repeat (first | assumption | constructor)) (hH : Has r2 Half := by repeat (first | assumption | constructor)) :
    Does Tryd.prog N_wal_Open #[.pointer (some ⟨p, 0, none⟩)] w Q := by
  refine wal_Open H G.fits (fun _ b w H => ?_) (fun h => absurd (by rw [G.wopen]) h) hP hD hH
  rw [G.wopen] at H
  exact k b w H
theorem law_awake16 (H : Heap F w l) (hH : Has l Half) (k : ∀ w', Heap F w' l → Q (.bool true) w') : Does Tryd.prog N_law16_awake #[] w Q := by
  refine F_law16_awake_does _ _ ?_
  unfold F_law16_awake
  obtain ⟨f0, G, fl⟩ := DF_good (n := 0) (by decide) (by decide)
  refine law_part16 H (n := 0) (by decide) (by decide) f0 hH fun d p s1 s2 s5 w H => ⟨_, _, s1, s2, _, _, s5, _, rfl, ?_⟩
  generalize (Nac.format D0 ⟨0, 52⟩).1 = DF at *
  refine al H (cs := [(Sl.v ⟨none, 0, 0⟩), (Sl.v ⟨none, 0, 0⟩), .bool false, .int .i64 0, (Sl.v ⟨none, 0, 0⟩)]) (fun a11 w H => ?_) zc_ref05_Disk
  repeat (first | refine lda H ?_ | refine ld0 H ?_ | refine ldaN H ?_ | refine ld0N H ?_ | refine sta H fun w H => ?_ | refine st0 H fun w H => ?_)
  refine cF rfl ?_
  refine open_good (D := DF) (X := ⟨0, 52⟩) (W := W0) H G (fun b w H => ⟨_, _, rfl, ?_⟩) (.t .h) (.t .h) (.t (.t hH))
  intro J hJ
  refine cF rfl ?_
  refine wal_Epoch (W := W0) H ⟨_, rfl, cF (by decide) ?_⟩ .h
  refine wal_Used (W := W0) H ⟨_, rfl, cF (by decide) (hJ _ ?_)⟩ .h
  refine law_Changes (a := ⟨0, 2, 0, 0, 5, []⟩) (sk := ⟨none, 0, 0⟩) H (by decide) fun s w H => ⟨_, rfl, ?_⟩
  replace H := H.share (s := s) (xs := changes ⟨0, 2, 0, 0, 5, []⟩)
  have hl : ∀ c ∈ changes ⟨0, 2, 0, 0, 5, []⟩, 0 ≤ c.page ∧ c.page < 16 ∧ c.data.length = 40 := by
    intro c hc
    have : c = ⟨0, List.replicate 40 5⟩ ∨ c = ⟨1, List.replicate 40 6⟩ := by
      have e : changes ⟨0, 2, 0, 0, 5, []⟩ = [⟨0, List.replicate 40 5⟩, ⟨1, List.replicate 40 6⟩] := rfl
      rw [e] at hc; simpa using hc
    rcases this with rfl | rfl <;> exact ⟨by decide, by decide, by simp⟩
  have hc := wcommit_fit (D := DF) (X := ⟨0, 52⟩) (W := W0) (l := changes ⟨0, 2, 0, 0, 5, []⟩) rfl (by decide) (by decide) (by decide)
  have hw := wwrite_LI (l := changes ⟨0, 2, 0, 0, 5, []⟩) G hl (by decide)
  have hw' : (wwrite DF ⟨0, 52⟩ W0 (changes ⟨0, 2, 0, 0, 5, []⟩)).2.2 = 0 ∧ (wwrite DF ⟨0, 52⟩ W0 (changes ⟨0, 2, 0, 0, 5, []⟩)).2.1.pages = layC W0.pages (changes ⟨0, 2, 0, 0, 5, []⟩) := by
    rcases hw with ⟨w1, w2, w3, w4⟩ | ⟨_, w2, _⟩
    · exact ⟨w1, w3⟩
    · omega
  obtain ⟨w1, w3⟩ := hw'
  clear hw
  have hu := wwrite_used w1
  refine wal_Commit (D := DF) (X := ⟨0, 52⟩) (W := W0) (s := s) (xs := changes ⟨0, 2, 0, 0, 5, []⟩) H (by rw [G.waits]; decide) (fun w H => ⟨_, rfl, ?_⟩) (.t .h) (.t .h) (.t .h) (.h) (.t (.t (.t hH)))
  rw [hc] at H ⊢
  generalize wwrite DF ⟨0, 52⟩ W0 (changes ⟨0, 2, 0, 0, 5, []⟩) = R at *
  obtain ⟨D2, W2, e2⟩ := R
  dsimp only at *
  subst w1
  rw [show (1 : Int) = ((1 : Nat) : Int) from rfl]
  refine wal_Page (W := W2) H (by decide) (fun s2 w H => ⟨⟨s2.a, s2.len, s2.cap⟩, _, rfl, ?_⟩) .h
  have hp : W2.pages.getD 1 [] = List.replicate 40 6 := by rw [w3]; rfl
  rw [hp] at H
  refine wal_Page16 H (.inr (by decide)) ⟨⟨none, 0, 0⟩, _, rfl, cT rfl ?_⟩
  refine wal_Used (W := W2) H ⟨_, rfl, ?_⟩ (.t .h)
  have hl2 := H.lenO (s := s2) (xs := List.replicate 40 (6 : UInt8))
  simp only [List.length_replicate] at hl2
  refine cT (by rw [hu]; decide) (cT (by rw [← hl2]; decide) ?_)
  refine idxO1 (s := s2) (xs := List.replicate 40 (6 : UInt8)) H (by decide) (by decide) (fun a ha => ldc ha ?_)
  refine cT (by decide) ?_
  exact k _ (H.tln 7)
theorem law_Numbers16 (H : Heap F w l) (hH : Has l Half) (k : ∀ w', Heap F w' l → Q (.bool true) w') : Does Tryd.prog N_law16_WalNumbers #[] w Q := by
  refine F_law16_WalNumbers_does _ _ ?_
  unfold F_law16_WalNumbers
  exact law_awake16 H hH fun w H => ⟨_, rfl, k w H⟩
theorem law_Confined16 (H : Heap F w l) {s : Sl} {xs : List Act16} (hS : Has l (imm s xs)) (hH : Has l Half) (hg : ∀ x ∈ xs, (-9223372036854775808 ≤ x.n ∧ x.n ≤ 9223372036854775807) ∧ (-9223372036854775808 ≤ x.at_ ∧ x.at_ ≤ 9223372036854775807) ∧ x.keep.length ≤ reachBytes) (k : ∀ w', Heap F w' l → Q (.bool true) w') : Does Tryd.prog N_law16_WalConfined #[.slice s.a s.len s.cap] w Q := by
  refine F_law16_WalConfined_does _ _ _ ?_
  unfold F_law16_WalConfined
  have hsl := H.len hS
  have hsb := H.bndI hS
  obtain ⟨f0, G, fl⟩ := DF_good (n := 4) (by decide) (by decide)
  have fz : ∀ i : Nat, i < 60 → (i < 4 ∨ 56 ≤ i) → (Nac.format D0 ⟨4, 52⟩).1.has[i]? = some zeros64 := fun i hi hc => by
    rw [format_out (D0_fits (by decide) (by decide)) rfl rfl (by decide) (by simp only; omega), D0_get hi]
  have flen : (Nac.format D0 ⟨4, 52⟩).1.has.length = 60 := by rw [format_len]; simp [D0, Disk.new]
  refine law_part16 H (n := 4) (by decide) (by decide) f0 hH fun d p s1 s2 s5 w H => ⟨_, _, s1, s2, _, _, s5, _, rfl, ?_⟩
  generalize (Nac.format D0 ⟨4, 52⟩).1 = DF at *
  refine al H (cs := [(Sl.v ⟨none, 0, 0⟩), (Sl.v ⟨none, 0, 0⟩), .bool false, .int .i64 0, (Sl.v ⟨none, 0, 0⟩)]) (fun a11 w H => ?_) zc_ref05_Disk
  repeat (first | refine lda H ?_ | refine ld0 H ?_ | refine ldaN H ?_ | refine ld0N H ?_ | refine sta H fun w H => ?_ | refine st0 H fun w H => ?_)
  refine cF rfl ?_
  refine open_good (D := DF) (X := ⟨4, 52⟩) (W := W0) H G (fun b w H => ⟨_, _, rfl, cF rfl ?_⟩) (.t .h) (.t .h) (.t (.t hH))
  replace H : Heap F w (WalAt b p W0 :: PartAt p d ⟨4, 52⟩ :: DiskAt d DF :: l) := Heap.kp3 2 H
  intro J hJ
  have out : ∀ (D : Disk) (W : Wal) (w' : World), Nac.Good D ⟨4, 52⟩ W → D.has.length = 60 → (∀ i : Nat, i < 60 → (i < 4 ∨ 56 ≤ i) → D.has[i]? = some zeros64) → Heap F w' (WalAt b p W :: PartAt p d ⟨4, 52⟩ :: DiskAt d D :: l) → J w' := fun D W w' G hlen hz H => by
    refine hJ _ ⟨fun i w' => ∃ n : Nat, i = n ∧ n ≤ 60 ∧ Heap F w' (WalAt b p W :: PartAt p d ⟨4, 52⟩ :: DiskAt d D :: l), fun i _ => (60 - i).toNat, ⟨0, rfl, by omega, H⟩, ?_⟩
    rintro i w1 ⟨n, rfl, hn, H⟩
    refine dBoth (fun hlt => ?_) (fun hge => ?_)
    · intro J2 hJ2
      have hlt' : n < 60 := by omega
      obtain ⟨sec, hsec⟩ : ∃ sec, D.has[n]? = some sec := ⟨_, List.getElem?_eq_getElem (by rw [hlen]; exact hlt')⟩
      have hrd := read_quiet G.waits G.on hsec
      have done : ∀ w', Heap F w' (WalAt b p W :: PartAt p d ⟨4, 52⟩ :: DiskAt d D :: l) → J2 w' := fun w' H => hJ2 _ ⟨⟨n + 1, by rw [i64_id (by omega)]; omega, by omega, H⟩, by rw [i64_id (by omega)]; (try dsimp only); omega⟩
      refine disk_Read (D := D) (at_ := (n : Int)) H fun s1 w H => ⟨⟨s1.a, s1.len, s1.cap⟩, _, rfl, ?_⟩
      rw [hrd] at H ⊢
      refine cF rfl ?_
      replace H := H.drew
      have chk : (n < 4 ∨ 56 ≤ n) → ∃ s35 : ByteArray, (convert T_l_uint8 T_string (.slice s1.a s1.len s1.cap)).run Tryd.prog w.drew = .ok (.string (s35)) w.drew ∧
           Does Tryd.prog N_ref05_Noughts #[] w.drew fun r36 w37 => ∃ s38 : ByteArray, r36 = .string (s38) ∧
           (convert T_l_uint8 T_string (.slice s1.a s1.len s1.cap)).run Tryd.prog w37 = .ok (.string (s35)) w37 ∧ cond (!((s35).toList == (s38).toList)) (Q (.bool (false)) w37) (J2 w37) := fun h => by
        have hz' := hz n hlt' h
        rw [hsec] at hz'
        obtain rfl : sec = zeros64 := by simpa using hz'
        refine ⟨_, cvO (s := s1) (xs := zeros64) H und_l8 und_8 und_s, ?_⟩
        refine ref_Noughts H fun H => ⟨_, rfl, cvO (s := s1) (xs := zeros64) H und_l8 und_8 und_s, cF (by simp) (done _ ?_)⟩
        exact (H.dr (own _ s1 _)).ord3
      refine dBoth (fun h2 => chk ?_) (fun h2 => dBoth (fun h3 => chk ?_) (fun h3 => done _ ?_))
      · left; omega
      · right; omega
      · exact (H.dr (own _ s1 _)).ord3
    · refine law_awake16 H (.t (.t (.t hH))) fun w H => ⟨_, rfl, k w ?_⟩
      exact (H.dr2 (WalAt b p _) (PartAt p d _)).dr (DiskAt d _)
  refine ⟨fun i w' => ∃ (m : Nat) (D : Disk) (W : Wal), i = m ∧ m ≤ xs.length ∧ m ≤ 20 ∧ Nac.Good D ⟨4, 52⟩ W ∧ D.left < 0 ∧ D.has.length = 60 ∧ (∀ i : Nat, i < 60 → (i < 4 ∨ 56 ≤ i) → D.has[i]? = some zeros64) ∧ Heap F w' (WalAt b p W :: PartAt p d ⟨4, 52⟩ :: DiskAt d D :: l), fun i _ => (20 - i).toNat, ⟨0, DF, W0, rfl, by omega, by omega, G, fl, flen, fz, H⟩, ?_⟩
  rintro i w1 ⟨m, D, W, rfl, hm, hm20, G, hleft, hlen, hz, H⟩
  intro J2 hJ2
  refine dBoth (fun hlt => dBoth (fun hlt2 => hJ2 _ ?_) (fun h => out D W w1 G hlen hz H)) (fun h => out D W w1 G hlen hz H)
  have hlt' : m < xs.length := by omega
  refine idxI (s := s) (xs := xs) H (by omega) (by omega) (fun a cs H hA => ?_) (.t (.t (.t hS)))
  simp only [Int.toNat_natCast] at H
  have hgm := hg xs[m] (List.getElem_mem hlt')
  generalize xs[m] = A at *
  replace H := open_Act16 H
  obtain ⟨kp, rfl, H⟩ := H
  refine At.ld0 hA (At.ld hA (At.ld hA (At.ld hA (At.ld hA (At.ld hA ?_)))))
  refine law_Changes (a := A) (sk := kp) H hgm.1 fun s2 w H => ⟨_, rfl, ?_⟩
  replace H := H.share (s := s2) (xs := changes A)
  refine wal_Commit (D := D) (X := ⟨4, 52⟩) (W := W) (s := s2) (xs := changes A) H (by rw [G.waits]; decide) (fun w H => ⟨_, rfl, ?_⟩) (.t (.t .h)) (.t (.t .h)) (.t (.t .h)) .h (.t (.t hH))
  replace H := Heap.kp3 2 H
  have ho : ∀ i : Nat, i < 60 → (i < 4 ∨ 56 ≤ i) → (wcommit D ⟨4, 52⟩ W (changes A)).1.has[i]? = some zeros64 := fun i hi hc => by
    rw [wcommit_out G hleft (by simp only; omega)]; exact hz i hi hc
  have hlen2 : (wcommit D ⟨4, 52⟩ W (changes A)).1.has.length = 60 := by rw [wcommit_fits]; exact hlen
  rcases wcommit_LI (l := changes A) G with ⟨_, _, c2, c3, c4⟩ | ⟨_, _, c3, c4⟩ | ⟨_, _, c2, _⟩
  · exact ⟨⟨m + 1, _, _, by rw [i64_id (by omega)]; omega, by omega, by omega, c2, c4 hleft, hlen2, ho, H⟩, by rw [i64_id (by omega)]; (try dsimp only); omega⟩
  · exact ⟨⟨m + 1, _, _, by rw [i64_id (by omega)]; omega, by omega, by omega, by rw [c3, c4]; exact G, by rw [c3]; exact hleft, hlen2, ho, H⟩, by rw [i64_id (by omega)]; (try dsimp only); omega⟩
  · omega
end
end Go.Proofs.YtkfcmpngcanffaaDoor.G
