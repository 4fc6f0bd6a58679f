import Derived.Test.YtkfcmpngcanffaaDoorGend
import Derived.Test.YtkfcmpngcanffaaDoorSm
import Derived.Test.YtkfcmpngcanffaaDoorNa
set_option linter.unusedVariables false
set_option linter.unusedSimpArgs false
namespace Go.Proofs.YtkfcmpngcanffaaDoor.G
open Go Go.VC Go.RowKit Go.Proofs Go.Proofs.YtkfcmpngcanffaaDoor Nac
instance : Rep Wr where
  n := 2
  r := fun ro cs x => ∃ s : Sl, cs = [.int .i64 x.at_, s.v] ∧ immL ro s x.b
  mono := fun h ⟨s, e, hi⟩ => ⟨s, e, hi.mono h⟩
  len := fun ⟨s, e, _⟩ => by rw [e]; rfl
  one := fun ⟨s, e, _⟩ u hu => by rw [e] at hu; simp at hu; rcases hu with rfl | rfl <;> rfl
theorem open_Wr {F : Bs} {w : World} {l : List SP} {cs : List Value} {x : Wr} (H : Heap F w (rep cs x :: l)) : ∃ t : Sl, cs = [.int .i64 x.at_, t.v] ∧ Heap F w (imm t x.b :: l) := by
  obtain ⟨t, H⟩ := H.ex (c' := fun t : Sl => [pur (cs = [.int .i64 x.at_, t.v]), imm t x.b]) fun ro h ⟨t, e, hi⟩ => ⟨t, PH.emp, PH.emp, fun _ => .inl rfl, PH.emp_le _, PH.emp_le _, e, PH.emp, PH.emp, fun _ => .inl rfl, PH.le.refl _, PH.le.refl _, hi, trivial⟩
  exact ⟨t, H.pur.1, H.pur.2⟩
theorem close_Wr {F : Bs} {w : World} {l : List SP} {x : Wr} {s : Sl} (H : Heap F w l) (hT : Has l (imm s x.b) := by repeat (first | assumption | constructor)) : Heap F w (rep [.int .i64 x.at_, s.v] x :: l) := H.add hT fun ro h hi => ⟨s, rfl, hi⟩
def hasV (g n : Nat) : Sl := ⟨some ⟨g, 0, none⟩, n, n⟩
def DiskAt (b : Nat) (D : Disk) : SP := SP.of fun x : Nat × Sl × Sl × Int =>
  [pur (D.ok ∧ (0 ≤ D.left → x.2.2.2 = D.left)), blk b T_disk_Disk [(hasV x.1 (64 * D.has.length)).v, x.2.1.v, .bool D.off, .bool (decide (0 ≤ D.left)), .int .i64 x.2.2.2, x.2.2.1.v],
   blk x.1 T_uint8 (D.has.flatten.map Sc.enc), own T_disk_write x.2.1 D.waits, imm x.2.2.1 D.surv]
theorem flat_set {b : List UInt8} (hb : b.length = 64) : ∀ (L : List (List UInt8)), (∀ s ∈ L, s.length = 64) → ∀ i, i < L.length → (L.set i b).flatten = L.flatten.take (64 * i) ++ b ++ L.flatten.drop (64 * i + 64)
  | [], _, i, hi => by simp at hi
  | s :: L, h, 0, _ => by
    have hs : s.length = 64 := h s (by simp)
    simp only [List.set_cons_zero, List.flatten_cons, Nat.mul_zero, List.take_zero, List.nil_append, Nat.zero_add]
    rw [List.drop_append, hs, Nat.sub_self, List.drop_zero, List.drop_of_length_le (by omega), List.nil_append]
  | s :: L, h, i + 1, hi => by
    have hs : s.length = 64 := h s (by simp)
    simp only [List.set_cons_succ, List.flatten_cons]
    rw [flat_set hb L (fun x hx => h x (by simp [hx])) i (by simpa using hi), List.take_append, List.drop_append, hs, List.take_of_length_le (show s.length ≤ 64 * (i + 1) by omega), List.drop_of_length_le (show s.length ≤ 64 * (i + 1) + 64 by omega)]
    rw [show 64 * (i + 1) - 64 = 64 * i by omega, show 64 * (i + 1) + 64 - 64 = 64 * i + 64 by omega]
    simp
theorem flat_len64 : ∀ (L : List (List UInt8)), (∀ s ∈ L, s.length = 64) → L.flatten.length = 64 * L.length
  | [], _ => rfl
  | s :: L, h => by
    rw [List.flatten_cons, List.length_append, h s (by simp), flat_len64 L fun x hx => h x (by simp [hx]), List.length_cons]; omega
theorem flat_get64 : ∀ (L : List (List UInt8)), (∀ s ∈ L, s.length = 64) → ∀ i (hi : i < L.length), (L.flatten.drop (64 * i)).take 64 = L[i]
  | [], _, i, hi => by simp at hi
  | s :: L, h, 0, _ => by
    have hs : s.length = 64 := h s (by simp)
    simp [List.take_append, hs]
  | s :: L, h, i + 1, hi => by
    have hs : s.length = 64 := h s (by simp)
    rw [List.flatten_cons, List.drop_append, hs, List.drop_of_length_le (by omega), show 64 * (i + 1) - 64 = 64 * i by omega, List.nil_append, flat_get64 L (fun x hx => h x (by simp [hx])) i (by simpa using hi)]
    rfl
theorem und_l8 : Tryd.prog.underlying T_l_uint8 = some (.slice T_uint8) := by kernel_rfl
theorem und_8 : Tryd.prog.underlying T_uint8 = some (.int .u8) := by kernel_rfl
theorem und_s : Tryd.prog.underlying T_string = some .string := by kernel_rfl
theorem und_i : Tryd.prog.underlying T_int = some (.int .i64) := by kernel_rfl
attribute [local irreducible] Tryd.prog
section
variable {F : Bs} {w : World} {l r : List SP} {b : Nat} {D : Disk} {Q : Value → World → Prop}
theorem disk_cls {has : List UInt8} {n g : Nat} {off armed : Bool} {left : Int} {ws sv : Sl} {waits : List Wr} {surv : List Bool} (H : Heap F w l) (D : Disk) (ok : D.ok) (h1 : has = D.has.flatten) (hn : n = 64 * D.has.length) (h2 : off = D.off)
    (h3 : armed = decide (0 ≤ D.left)) (h4 : 0 ≤ D.left → left = D.left) (h5 : waits = D.waits) (h6 : surv = D.surv)
    (hT : Takes l [blk b T_disk_Disk [(hasV g n).v, ws.v, .bool off, .bool armed, .int .i64 left, sv.v], blk g T_uint8 (has.map Sc.enc), own T_disk_write ws waits, imm sv surv] r := by repeat (first | assumption | constructor)) : Heap F w (DiskAt b D :: r) := by
  subst h1; subst hn; subst h2; subst h3; subst h5; subst h6
  exact ((H.takes hT).addp (φ := D.ok ∧ (0 ≤ D.left → left = D.left)) ⟨ok, h4⟩).cls (g, ws, sv, left)
theorem disk_ok (H : Heap F w l) (hT : Has l (DiskAt b D) := by repeat (first | assumption | constructor)) : D.ok := H.pure hT fun ro h ⟨x, h1, h2, _, _, _, hc, _⟩ => hc.1
theorem disk_On (H : Heap F w l) (k : Q (.bool (!D.off)) w) (hT : Take l (DiskAt b D) r := by repeat (first | assumption | constructor)) : Does Tryd.prog N_disk_Disk_On #[.pointer (some ⟨b, 0, none⟩)] w Q := by
  refine F_disk_Disk_On_does _ _ _ ?_
  unfold F_disk_Disk_On
  obtain ⟨⟨g, ws, sv, left⟩, H⟩ := (H.take hT).opn; dsimp only [List.cons_append, List.nil_append] at H; obtain ⟨⟨ok, hl⟩, H⟩ := H.pur
  refine nn (lda H ?_)
  exact k
theorem disk_Size (H : Heap F w l) (k : Q (.int .i64 (D.has.length : Int)) w) (hT : Take l (DiskAt b D) r := by repeat (first | assumption | constructor)) : Does Tryd.prog N_disk_Disk_Size #[.pointer (some ⟨b, 0, none⟩)] w Q := by
  refine F_disk_Disk_Size_does _ _ _ ?_
  unfold F_disk_Disk_Size
  obtain ⟨⟨g, ws, sv, left⟩, H⟩ := (H.take hT).opn; dsimp only [List.cons_append, List.nil_append] at H; obtain ⟨⟨ok, hl⟩, H⟩ := H.pur
  refine nn (ld0 H ⟨by decide, ?_⟩)
  have := ok.size
  rw [show IntKind.wrap .i64 (Int.tdiv (((hasV g (64 * D.has.length)).len : Nat) : Int) 64) = (D.has.length : Int) by
    rw [show ((hasV g (64 * D.has.length)).len : Int) = 64 * (D.has.length : Int) by simp [hasV], Int.mul_comm, Int.mul_tdiv_cancel _ (by decide), i64_id (by omega)]]
  exact k
theorem disk_in (H : Heap F w l) {at_ : Int} (k : Q (.bool (D.inB at_)) w) (hT : Take l (DiskAt b D) r := by repeat (first | assumption | constructor)) : Does Tryd.prog N_disk_Disk_in #[.pointer (some ⟨b, 0, none⟩), .int .i64 at_] w Q := by
  refine F_disk_Disk_in_does _ _ _ _ ?_
  unfold F_disk_Disk_in
  refine dBoth (fun h0 => disk_Size H ⟨_, rfl, ?_⟩ hT) (fun h0 => ?_)
  · rw [show decide (at_ < (D.has.length : Int)) = D.inB at_ by simp [Disk.inB, show 0 ≤ at_ from h0]]; exact k
  · rw [show false = D.inB at_ by simp [Disk.inB]; omega]; exact k
theorem disk_sector {g : Nat} {ws sv : Value} {v1 v2 v3 : Value} {n : Nat} (H : Heap F w l) {at_ : Int} (h0 : 0 ≤ at_) (h1 : 64 * at_ + 64 ≤ n) (hn : n ≤ 100000)
    (k : Q (.slice (some ⟨g, at_.toNat * 64, none⟩) 64 (n - at_.toNat * 64)) w) (hT : Has l (blk b T_disk_Disk [(hasV g n).v, ws, v1, v2, v3, sv]) := by repeat (first | assumption | constructor)) :
    Does Tryd.prog N_disk_Disk_sector #[.pointer (some ⟨b, 0, none⟩), .int .i64 at_] w Q := by
  refine F_disk_Disk_sector_does _ _ _ _ ?_
  unfold F_disk_Disk_sector
  refine nn (ld0 H ?_ hT)
  rw [i64_id (n := at_ + 1) (by omega), i64_id (by omega), i64_id (by omega)]
  refine ⟨by omega, by simp [hasV]; omega, by omega, by omega, ?_⟩
  have e1 : (at_ * 64).toNat = at_.toNat * 64 := by omega
  have e2 : ((at_ + 1) * 64).toNat - at_.toNat * 64 = 64 := by omega
  have e3 : ¬ n = at_.toNat * 64 := by omega
  simp only [hasV, e1, e2, e3, if_false, Option.map_some, add_mk, Nat.zero_add, Nat.mul_one]
  exact k
theorem layS_drop {l : List Wr} {s : List Bool} {i : Nat} (h : i < l.length) (cur : List (List UInt8)) : Disk.layS cur (l.drop i) (s.drop i) = Disk.layS (if i < s.length ∧ s.getD i false = true then Disk.lay cur l[i] else cur) (l.drop (i + 1)) (s.drop (i + 1)) := by
  rw [List.drop_eq_getElem_cons h]
  by_cases hs : i < s.length
  · rw [List.drop_eq_getElem_cons hs, Disk.layS]
    congr 1
    simp only [hs, true_and, List.getD_eq_getElem?_getD, List.getElem?_eq_getElem hs, Option.getD_some]
    cases s[i] <;> rfl
  · have e1 : s.drop i = [] := List.drop_of_length_le (by omega)
    have e2 : s.drop (i + 1) = [] := List.drop_of_length_le (by omega)
    rw [if_neg (by simp [hs]), e1, e2]
    cases l.drop (i + 1) <;> rfl
theorem disk_Crash (H : Heap F w l) {s : Sl} {surv : List Bool} (k : ∀ w', Heap F w' (DiskAt b (D.crash surv) :: r) → Q (.tuple #[]) w') (hT : Take l (DiskAt b D) r := by repeat (first | assumption | constructor)) (hS : Has r (imm s surv) := by repeat (first | assumption | constructor)) :
    Does Tryd.prog N_disk_Disk_Crash #[.pointer (some ⟨b, 0, none⟩), .slice s.a s.len s.cap] w Q := by
  refine F_disk_Disk_Crash_does _ _ _ _ ?_
  unfold F_disk_Disk_Crash
  obtain ⟨⟨g, ws, sv, left⟩, H⟩ := (H.take hT).opn; dsimp only [List.cons_append, List.nil_append] at H; obtain ⟨⟨ok, hl⟩, H⟩ := H.pur
  refine nn (lda H (cBoth (fun hoff => ?_) (fun hoff => ?_)))
  · have e : D.crash surv = D := by simp [Disk.crash, hoff]
    rw [e] at k
    exact k w (disk_cls H D ok rfl rfl rfl rfl hl rfl rfl)
  refine nn (lda H ?_)
  have hcr : D.crash surv = { D with has := Disk.layS D.has D.waits surv, waits := [], off := true, left := -1 } := by simp [Disk.crash, hoff]
  rw [hcr] at k
  have hsz := ok.size
  have hwl := H.lenO (s := ws) (xs := D.waits)
  have hwb := H.bndO (s := ws) (xs := D.waits)
  have hsl := H.len (s := s) (xs := surv) (hT := .t (.t (.t (.t hS))))
  refine ⟨fun x w' => ∃ (i : Nat) (cur : List (List UInt8)), x = i ∧ i ≤ D.waits.length ∧ cur.length = D.has.length ∧ (∀ s ∈ cur, s.length = 64) ∧ Disk.layS cur (D.waits.drop i) (surv.drop i) = Disk.layS D.has D.waits surv ∧
      Heap F w' (blk b T_disk_Disk [(hasV g (64 * D.has.length)).v, ws.v, .bool D.off, .bool (decide (0 ≤ D.left)), .int .i64 left, sv.v] :: blk g T_uint8 (cur.flatten.map Sc.enc) :: own T_disk_write ws D.waits :: imm sv D.surv :: r), fun x _ => (D.waits.length - x).toNat,
    ⟨0, D.has, rfl, by omega, rfl, ok.has, rfl, H⟩, ?_⟩
  rintro x w1 ⟨i, cur, rfl, hi, hcl, hc64, hlay, H⟩
  refine dBoth (fun hlt => ?_) (fun hge => ?_)
  · have hlt' : i < D.waits.length := by omega
    intro J hJ
    have hw := ok.waits _ (List.getElem_mem hlt')
    refine idxO (xs := D.waits) H (by omega) (by omega) fun a cs H hA => ?_
    simp only [Int.toNat_natCast] at H
    replace H := open_Wr H
    obtain ⟨t, rfl, H⟩ := H
    refine At.ld0 hA (At.ld hA ?_)
    refine al H (fun a14 w2 H => ?_) zc_disk_write
    refine st0 H fun w3 H => sta H fun w4 H => ?_
    intro J2 hJ2
    have hnext : ∀ (c : Bool) w5, c = decide (i < surv.length ∧ surv.getD i false = true) → w5 = w4 → J2 c w5 := by
      rintro c w5 hc rfl
      refine hJ2 _ _ ?_
      refine cBoth (fun hb => ?_) (fun hb => ?_)
      · refine ld0 H.drew (lda H.drew ?_)
        refine disk_sector H.drew (n := 64 * D.has.length) (by omega) (by omega) (by omega) ?_
        refine ⟨⟨_, _, _⟩, rfl, cella H, ?_⟩
        replace H := H.drew
        refine copyB (xs := D.waits[i].b) (x := t) (cur := cur.flatten.map Sc.enc) (o := D.waits[i].at_.toNat * 64) (dl := 64) S_l_uint8 H (by rw [List.length_map, flat_len64 cur hc64]; omega) fun w6 H => ?_
        refine hJ _ ⟨⟨i + 1, Disk.lay cur D.waits[i], by rw [i64_id (by omega)]; omega, by omega, by rw [Disk.lay_length]; exact hcl, Disk.lay_all64 hc64 hw.2.2, ?_, ?_⟩, ?_⟩
        · rw [← hlay, layS_drop hlt', if_pos (by rw [hb] at hc; simpa using hc.symm)]
        · have e : (Disk.lay cur D.waits[i]).flatten.map Sc.enc = (cur.flatten.map Sc.enc).take (D.waits[i].at_.toNat * 64) ++ (D.waits[i].b.take 64).map Sc.enc ++ (cur.flatten.map (Sc.enc : UInt8 → Value)).drop (D.waits[i].at_.toNat * 64 + min D.waits[i].b.length 64) := by
            rw [Disk.lay, flat_set hw.2.2 cur hc64 _ (by omega), List.map_append, List.map_append, List.map_take, List.map_drop, hw.2.2, Nat.min_self, List.take_of_length_le (Nat.le_of_eq hw.2.2), Nat.mul_comm 64]
          rw [e]
          exact ((H.dr (blk a14 _ _)).dr (imm t _)).take (by repeat constructor)
        · rw [i64_id (by omega)]; dsimp only; omega
      · refine hJ _ ⟨⟨i + 1, cur, by rw [i64_id (by omega)]; omega, by omega, hcl, hc64, ?_, (H.dr (blk a14 _ _)).tl⟩, ?_⟩
        · rw [← hlay, layS_drop hlt']
          rw [hb] at hc
          rw [if_neg (by simpa using hc.symm)]
        · rw [i64_id (by omega)]; dsimp only; omega
    refine dBoth (fun hs => ?_) (fun hs => ?_)
    · refine idxI1 (xs := surv) H (by omega) (by omega) (fun a ha => ldT_cell _ ha ?_) (hT := .t (.t (.t (.t (.t (.t hS))))))
      refine hnext _ _ ?_ rfl
      simp [show i < surv.length by omega, List.getD_eq_getElem?_getD]
    · exact hnext _ _ (by simp; omega) rfl
  · obtain rfl : i = D.waits.length := by omega
    have e1 : Disk.layS D.has D.waits surv = cur := by rw [← hlay, List.drop_of_length_le (Nat.le_refl _)]; simp [Disk.layS]
    rw [e1] at k
    refine nn (sta H fun w2 H => nn (sta H fun w3 H => nn (sta H fun w4 H => k _ ?_)))
    have H := (H.dr (own _ _ D.waits)).own_nil (α := Wr) T_disk_write
    exact disk_cls (ws := ⟨none, 0, 0⟩) (sv := sv) (g := g) (left := left) (armed := false) (n := 64 * D.has.length) H _ ⟨hc64, by show cur.length ≤ 256; omega, fun w hw => by simp at hw, by simp⟩ rfl (by rw [hcl]) rfl (by simp) (fun h => by simp at h) rfl rfl
theorem disk_goes (H : Heap F w l) (k : ∀ w', Heap F w' (DiskAt b D.goes.1 :: r) → Q (.bool D.goes.2) w') (hT : Take l (DiskAt b D) r := by repeat (first | assumption | constructor)) : Does Tryd.prog N_disk_Disk_goes #[.pointer (some ⟨b, 0, none⟩)] w Q := by
  refine F_disk_Disk_goes_does _ _ _ ?_
  unfold F_disk_Disk_goes
  obtain ⟨⟨g, ws, sv, left⟩, H⟩ := (H.take hT).opn; dsimp only [List.cons_append, List.nil_append] at H; obtain ⟨⟨ok, hl⟩, H⟩ := H.pur
  have hb := ok.left
  refine nn (lda H (cBoth (fun hoff => ?_) (fun hoff => nn (lda H ?_))))
  · have e : D.goes = (D, false) := by simp [Disk.goes, hoff]
    rw [e] at k
    exact k _ (disk_cls H D ok rfl rfl rfl rfl hl rfl rfl)
  refine cBoth (fun h0 => ?_) (fun h0 => nn (lda H (dBoth (fun h1 => nn (lda H (nn (sta H fun w2 H => ?_)))) (fun h1 => nn (lda H ?_)))))
  · have e : D.goes = (D, true) := by
      have : ¬ 0 ≤ D.left := by simpa using h0
      rw [Disk.goes, hoff, cond_false, if_neg (show ¬ D.left = 0 by omega), if_neg (show ¬ 0 < D.left by omega)]
    rw [e] at k
    exact k _ (disk_cls H D ok rfl rfl rfl rfl hl rfl rfl)
  · have h0' : 0 ≤ D.left := by simpa using h0
    have hl' := hl h0'
    have h1' : (left : Int) > 0 := h1
    have e : D.goes = ({ D with left := D.left - 1 }, true) := by
      rw [Disk.goes, hoff, cond_false, if_neg (show ¬ D.left = 0 by omega), if_pos (show 0 < D.left by omega)]
    rw [e] at k
    rw [i64_id (by omega)] at H
    exact k _ (disk_cls (left := left - 1) (ws := ws) (sv := sv) (g := g) (n := 64 * D.has.length) (armed := decide (0 ≤ D.left)) H { D with left := D.left - 1 } ⟨ok.has, ok.size, ok.waits, by dsimp only; omega⟩ rfl rfl rfl (by rw [decide_eq_true h0', decide_eq_true]; dsimp only; omega) (fun h => by dsimp only at h ⊢; omega) rfl rfl)
  · have h0' : 0 ≤ D.left := by simpa using h0
    have hl' := hl h0'
    have h1' : ¬ (left : Int) > 0 := h1
    have e : D.goes = (D.crash D.surv, false) := by
      rw [Disk.goes, hoff, cond_false, if_pos (show D.left = 0 by omega)]
    rw [e] at k
    replace H := H.immDup (s := sv) (xs := D.surv)
    replace H := disk_cls (r := imm sv D.surv :: r) H D ok rfl rfl rfl rfl hl rfl rfl (hT := .c (.t .h) (.c (.t .h) (.c (.t .h) (.c (.t .h) .n))))
    exact disk_Crash H fun w' H => ⟨rfl, k _ (H.dr (imm sv D.surv))⟩
theorem last_drop {l : List Wr} {i : Nat} (h : i < l.length) (at_ : Int) (c : List UInt8) : Disk.last (l.drop i) at_ c = Disk.last (l.drop (i + 1)) at_ (if l[i].at_ = at_ then l[i].b else c) := by
  rw [List.drop_eq_getElem_cons h]; rfl
theorem last_mem {l : List Wr} {at_ : Int} {c : List UInt8} : Disk.last l at_ c = c ∨ ∃ x ∈ l, Disk.last l at_ c = x.b := by
  induction l generalizing c with
  | nil => exact .inl rfl
  | cons w l ih =>
    show Disk.last l at_ (if w.at_ = at_ then w.b else c) = c ∨ ∃ x ∈ w :: l, Disk.last l at_ (if w.at_ = at_ then w.b else c) = x.b
    by_cases h : w.at_ = at_
    · rw [if_pos h]
      rcases ih (c := w.b) with h | ⟨x, hx, h⟩
      · exact .inr ⟨w, by simp, h⟩
      · exact .inr ⟨x, by simp [hx], h⟩
    · rw [if_neg h]
      rcases ih (c := c) with h | ⟨x, hx, h⟩
      · exact .inl h
      · exact .inr ⟨x, by simp [hx], h⟩
theorem disk_Read (H : Heap F w l) {at_ : Int} (k : ∀ (s : Sl) w', Heap F w' (own T_uint8 s (D.read at_).1 :: DiskAt b D :: r) → Q (.tuple #[.slice s.a s.len s.cap, .int .i64 (D.read at_).2]) w') (hT : Take l (DiskAt b D) r := by repeat (first | assumption | constructor)) :
    Does Tryd.prog N_disk_Disk_Read #[.pointer (some ⟨b, 0, none⟩), .int .i64 at_] w Q := by
  refine F_disk_Disk_Read_does _ _ _ _ ?_
  unfold F_disk_Disk_Read
  refine disk_in H ⟨_, rfl, ?_⟩ hT
  refine cBoth (fun hin => ?_) (fun hin => ?_)
  · have e : D.read at_ = ([], 4) := by simp at hin; simp [Disk.read, hin]
    rw [e] at k
    exact k ⟨none, 0, 0⟩ _ ((H.take hT).own_nil T_uint8)
  replace hin : D.inB at_ = true := by simpa using hin
  have hin' : 0 ≤ at_ ∧ at_ < D.has.length := by simpa [Disk.inB] using hin
  obtain ⟨⟨g, ws, sv, left⟩, H⟩ := (H.take hT).opn; dsimp only [List.cons_append, List.nil_append] at H; obtain ⟨⟨ok, hl⟩, H⟩ := H.pur
  refine nn (lda H (cBoth (fun hoff => ?_) (fun hoff => ?_)))
  · have e : D.read at_ = ([], 9) := by simp [Disk.read, hin, hoff]
    rw [e] at k
    exact k ⟨none, 0, 0⟩ _ ((disk_cls H D ok rfl rfl rfl rfl hl rfl rfl).own_nil T_uint8)
  have hsz := ok.size
  have hwl := H.lenO (s := ws) (xs := D.waits)
  have hwb := H.bndO (s := ws) (xs := D.waits)
  have e : D.read at_ = (Disk.last D.waits at_ (D.has.getD at_.toNat []), 0) := by simp [Disk.read, hin, hoff]
  rw [e] at k
  refine disk_sector H (n := 64 * D.has.length) (by omega) (by omega) (by omega) ⟨⟨_, _, _⟩, rfl, ?_⟩
  refine nn (lda H ?_)
  have hh : D.has.getD at_.toNat [] = D.has[at_.toNat]'(by omega) := by simp [List.getD_eq_getElem?_getD, List.getElem?_eq_getElem (show at_.toNat < D.has.length by omega)]
  have hs64 : (D.has[at_.toNat]'(by omega)).length = 64 := ok.has _ (List.getElem_mem _)
  have hflat := flat_get64 D.has ok.has at_.toNat (by omega)
  have hsrc : ∀ (l' : List SP) (w' : World), Heap F w' l' → Has l' (blk g T_uint8 (D.has.flatten.map Sc.enc)) → ∀ (s' : Sl) {K : Sl → World → Prop}, s' = ⟨some ⟨g, at_.toNat * 64, none⟩, 64, 64 * D.has.length - at_.toNat * 64⟩ →
      (∀ (s2 : Sl) (w2 : World), Heap F w2 (own T_uint8 s2 (D.has[at_.toNat]'(by omega)) :: l') → K s2 w2) → runG .sl Tryd.prog w' (Builtin.append_ #[T_l_uint8, T_l_uint8] T_l_uint8 #[.slice none 0 0, .slice s'.a s'.len s'.cap]) K := fun l' w' H' hB s' K e k => by
    subst e
    have B := H'.Blk hB
    refine app (s := ⟨none, 0, 0⟩) (xs := []) (ys := D.has[at_.toNat]'(by omega)) S_l_uint8 (H'.own_nil (α := UInt8) T_uint8) (fun ro _ hro _ => ⟨hs64, .inr ⟨g, at_.toNat * 64, rfl, fun i y hy => ⟨[Sc.enc y], rfl, fun j u hj => ?_⟩⟩⟩) (bnd (by simp [hs64]) (by decide)) (mx (by simp [hs64])) k .h
    cases j with
    | succ j => simp at hj
    | zero =>
      simp at hj; subst hj
      have hi : i < 64 := by rw [← hs64]; exact (List.getElem?_eq_some_iff.1 hy).1
      rw [B.cell]
      simp only [Rep.n, Nat.mul_one, Nat.add_zero, List.getElem?_toArray, List.getElem?_map]
      have : D.has.flatten[at_.toNat * 64 + i]? = some y := by
        rw [← hflat, List.getElem?_take, if_pos hi, List.getElem?_drop] at hy
        rw [← hy]; congr 1; omega
      rw [this]; rfl
  refine ⟨fun bb x w' => ∃ (i : Nat) (c : List UInt8) (l' : List SP), x = i ∧ i ≤ D.waits.length ∧ Disk.last (D.waits.drop i) at_ c = Disk.last D.waits at_ (D.has[at_.toNat]'(by omega)) ∧ c.length = 64 ∧ Heap F w' (l' ++ (blk b T_disk_Disk [(hasV g (64 * D.has.length)).v, ws.v, .bool D.off, .bool (decide (0 ≤ D.left)), .int .i64 left, sv.v] :: blk g T_uint8 (D.has.flatten.map Sc.enc) :: own T_disk_write ws D.waits :: imm sv D.surv :: r)) ∧
      ((l' = [] ∧ bb = ⟨some ⟨g, at_.toNat * 64, none⟩, 64, 64 * D.has.length - at_.toNat * 64⟩ ∧ c = D.has[at_.toNat]'(by omega)) ∨ l' = [imm bb c]), fun _ x _ => (D.waits.length - x).toNat,
    ⟨0, _, [], rfl, by omega, rfl, hs64, H, .inl ⟨rfl, rfl, rfl⟩⟩, ?_⟩
  rintro bb x w1 ⟨i, c, l', rfl, hi, hlast, hc64, H, hcase⟩
  refine dBoth (fun hlt => ?_) (fun hge => ?_)
  · have hlt' : i < D.waits.length := by omega
    have hw := ok.waits _ (List.getElem_mem hlt')
    intro J hJ
    have hown : Has (l' ++ (blk b T_disk_Disk [(hasV g (64 * D.has.length)).v, ws.v, .bool D.off, .bool (decide (0 ≤ D.left)), .int .i64 left, sv.v] :: blk g T_uint8 (D.has.flatten.map Sc.enc) :: own T_disk_write ws D.waits :: imm sv D.surv :: r)) (own T_disk_write ws D.waits) := by
      rcases hcase with ⟨rfl, _⟩ | rfl
      · exact .t (.t .h)
      · exact .t (.t (.t .h))
    refine idxO (xs := D.waits) H (by omega) (by omega) (fun a cs H hA => ?_) (hT := hown)
    simp only [Int.toNat_natCast] at H
    replace H := open_Wr H
    obtain ⟨t, rfl, H⟩ := H
    refine At.ld0 hA (At.ld hA ?_)
    refine al H (fun a14 w2 H => ?_) zc_disk_write
    refine st0 H fun w3 H => sta H fun w4 H => ld0 H ?_
    have fin : ∀ (c' : List UInt8) (b' : Sl), c' = (if D.waits[i].at_ = at_ then D.waits[i].b else c) → (b' = if D.waits[i].at_ = at_ then t else bb) → J b' w4 := by
      rintro c' b' hc' hb'
      refine hJ _ _ ⟨⟨i + 1, c', if D.waits[i].at_ = at_ then [imm t D.waits[i].b] else l', by rw [i64_id (by omega)]; omega, by omega, ?_, ?_, ?_, ?_⟩, ?_⟩
      · rw [← hlast, last_drop hlt', hc']
      · rw [hc']; split
        · exact hw.2.2
        · exact hc64
      · have H1 := H.dr (blk a14 _ _)
        split
        · have H1 := H1.take .h
          rcases hcase with ⟨rfl, _⟩ | rfl
          · exact H1
          · exact H1.dr (imm bb c) (.t .h)
        · exact H1.tl
      · rw [hc', hb']
        split
        · exact .inr rfl
        · exact hcase
      · rw [i64_id (by omega)]; dsimp only; omega
    refine cBoth (fun he => lda H (fin D.waits[i].b ⟨_, _, _⟩ ?_ ?_)) (fun he => fin c ⟨_, _, _⟩ ?_ ?_)
    · rw [if_pos (by simpa using he)]
    · rw [if_pos (by simpa using he)]
    · rw [if_neg (by simpa using he)]
    · rw [if_neg (by simpa using he)]
  · obtain rfl : i = D.waits.length := by omega
    have hc : Disk.last D.waits at_ (D.has.getD at_.toNat []) = c := by rw [hh, ← hlast, List.drop_of_length_le (Nat.le_refl _)]; rfl
    rw [hc] at k
    rcases hcase with ⟨rfl, rfl, rfl⟩ | rfl
    · refine hsrc _ _ H (.t .h) _ rfl fun s2 w2 H => k _ _ ?_
      exact (disk_cls (r := own T_uint8 s2 _ :: r) H D ok rfl rfl rfl rfl hl rfl rfl (hT := .c (.t .h) (.c (.t .h) (.c (.t .h) (.c (.t .h) .n))))).take (.t .h)
    · refine cpI (ys := c) S_l_uint8 H (by omega) (fun s2 w2 H => k _ _ ?_) (hI := .h)
      replace H := H.dr (imm bb c) (.t .h)
      exact (disk_cls (r := own T_uint8 s2 _ :: r) H D ok rfl rfl rfl rfl hl rfl rfl (hT := .c (.t .h) (.c (.t .h) (.c (.t .h) (.c (.t .h) .n))))).take (.t .h)
theorem disk_Write (H : Heap F w l) {at_ : Int} {s : Sl} {bb : List UInt8} (hn : D.waits.length < 1000000) (k : ∀ w', Heap F w' (DiskAt b (D.write at_ bb).1 :: r) → Q (.int .i64 (D.write at_ bb).2) w') (hT : Take l (DiskAt b D) r := by repeat (first | assumption | constructor)) (hS : Has r (imm s bb) := by repeat (first | assumption | constructor)) :
    Does Tryd.prog N_disk_Disk_Write #[.pointer (some ⟨b, 0, none⟩), .int .i64 at_, .slice s.a s.len s.cap] w Q := by
  refine F_disk_Disk_Write_does _ _ _ _ _ ?_
  unfold F_disk_Disk_Write
  refine disk_in H ⟨_, rfl, ?_⟩ hT
  replace H := H.take hT
  have hsl := H.len (s := s) (xs := bb) (.t hS)
  refine cBoth (fun hin => ?_) (fun hin => ?_)
  · have e : D.write at_ bb = (D, 4) := by simp at hin; simp [Disk.write, hin]
    rw [e] at k
    exact k _ H
  replace hin : D.inB at_ = true := by simpa using hin
  have hin' : 0 ≤ at_ ∧ at_ < D.has.length := by simpa [Disk.inB] using hin
  refine cBoth (fun h64 => ?_) (fun h64 => ?_)
  · have : bb.length ≠ 64 := by simp at h64; omega
    have e : D.write at_ bb = (D, 1) := by simp [Disk.write, hin, this]
    rw [e] at k
    exact k _ H
  have h64' : bb.length = 64 := by simp at h64; omega
  refine disk_goes H (fun w2 H => ⟨_, rfl, ?_⟩)
  have hgl := Disk.goes_length D
  have hgw := Disk.goes_waits D
  cases hg : D.goes.2
  · have e : D.write at_ bb = (D.goes.1, 9) := by simp [Disk.write, hin, h64', hg]
    rw [e] at k
    exact k _ H
  have e : D.write at_ bb = ({ D.goes.1 with waits := D.goes.1.waits ++ [⟨at_, bb⟩] }, 0) := by simp [Disk.write, hin, h64', hg]
  rw [e] at k
  generalize D.goes.1 = E at *
  obtain ⟨⟨g, ws, sv, left⟩, H⟩ := H.opn
  dsimp only [List.cons_append, List.nil_append] at H
  obtain ⟨⟨ok, hl⟩, H⟩ := H.pur
  refine nn (lda H.drew ?_)
  refine cpI (ys := bb) S_l_uint8 H.drew (by omega) (fun l9 w10 H => ?_) (hI := .t (.t (.t (.t hS))))
  refine ⟨cella H, ?_⟩
  refine al H (fun a11 w12 H => ?_)
  refine ⟨cella H, ?_⟩
  replace H := H.share (α := UInt8) (s := l9) (xs := bb)
  replace H := close_Wr (x := ⟨at_, bb⟩) (s := l9) H
  have hlen := H.lenO (s := ws) (xs := E.waits)
  refine psh (xs := E.waits) (y := (⟨at_, bb⟩ : Wr)) (s := ws) (b := a11) S_l_disk_write H (by omega) fun l13 w14 H => ?_
  refine nn (sta H fun w16 H => k _ ?_)
  have H := ((H.dr (rep _ (⟨at_, bb⟩ : Wr))).dr (imm l9 bb)).dr (blk a11 _ _)
  exact disk_cls (ws := l13) (sv := sv) (g := g) (left := left) (armed := decide (0 ≤ E.left)) (n := 64 * E.has.length) H { E with waits := E.waits ++ [⟨at_, bb⟩] } ⟨ok.has, ok.size, fun x hx => by
    rcases List.mem_append.1 hx with h | h
    · exact ok.waits x h
    · simp at h; subst h; exact ⟨hin'.1, by dsimp only; omega, h64'⟩, ok.left⟩ rfl rfl rfl rfl hl rfl rfl
theorem disk_Flush (H : Heap F w l) (k : ∀ w', Heap F w' (DiskAt b D.flush.1 :: r) → Q (.int .i64 D.flush.2) w') (hT : Take l (DiskAt b D) r := by repeat (first | assumption | constructor)) : Does Tryd.prog N_disk_Disk_Flush #[.pointer (some ⟨b, 0, none⟩)] w Q := by
  refine F_disk_Disk_Flush_does _ _ _ ?_
  unfold F_disk_Disk_Flush
  refine disk_goes H (fun w2 H => ⟨_, rfl, ?_⟩) hT
  unfold Disk.flush at k
  generalize D.goes = DE at *
  obtain ⟨E, g2⟩ := DE
  dsimp only at *
  cases g2
  · exact k _ H
  obtain ⟨⟨g, ws, sv, left⟩, H⟩ := H.opn
  dsimp only [List.cons_append, List.nil_append] at H
  obtain ⟨⟨ok, hl⟩, H⟩ := H.pur
  rw [cond_true] at k
  refine nn (lda H ?_)
  have hsz := ok.size
  have hwl := H.lenO (s := ws) (xs := E.waits)
  have hwb := H.bndO (s := ws) (xs := E.waits)
  refine ⟨fun x w' => ∃ (i : Nat) (cur : List (List UInt8)), x = i ∧ i ≤ E.waits.length ∧ cur.length = E.has.length ∧ (∀ s ∈ cur, s.length = 64) ∧ Disk.layAll cur (E.waits.drop i) = Disk.layAll E.has E.waits ∧
      Heap F w' (blk b T_disk_Disk [(hasV g (64 * E.has.length)).v, ws.v, .bool E.off, .bool (decide (0 ≤ E.left)), .int .i64 left, sv.v] :: blk g T_uint8 (cur.flatten.map Sc.enc) :: own T_disk_write ws E.waits :: imm sv E.surv :: r), fun x _ => (E.waits.length - x).toNat,
    ⟨0, E.has, rfl, by omega, rfl, ok.has, rfl, H⟩, ?_⟩
  rintro x w1 ⟨i, cur, rfl, hi, hcl, hc64, hlay, H⟩
  refine dBoth (fun hlt => ?_) (fun hge => ?_)
  · have hlt' : i < E.waits.length := by omega
    have hw := ok.waits _ (List.getElem_mem hlt')
    refine idxO (xs := E.waits) H (by omega) (by omega) fun a cs H hA => ?_
    simp only [Int.toNat_natCast] at H
    replace H := open_Wr H
    obtain ⟨t, rfl, H⟩ := H
    refine At.ld0 hA (At.ld hA ?_)
    refine al H (fun a14 w2 H => ?_) zc_disk_write
    refine st0 H fun w3 H => sta H fun w4 H => ?_
    refine ld0 H.drew (lda H.drew ?_)
    refine disk_sector H.drew (n := 64 * E.has.length) (by omega) (by omega) (by omega) ?_
    refine ⟨⟨_, _, _⟩, rfl, cella H, ?_⟩
    replace H := H.drew
    refine copyB (xs := E.waits[i].b) (x := t) (cur := cur.flatten.map Sc.enc) (o := E.waits[i].at_.toNat * 64) (dl := 64) S_l_uint8 H (by rw [List.length_map, flat_len64 cur hc64]; omega) fun w6 H => ?_
    refine ⟨⟨i + 1, Disk.lay cur E.waits[i], by rw [i64_id (by omega)]; omega, by omega, by rw [Disk.lay_length]; exact hcl, Disk.lay_all64 hc64 hw.2.2, ?_, ?_⟩, ?_⟩
    · rw [← hlay, List.drop_eq_getElem_cons hlt']; rfl
    · have e : (Disk.lay cur E.waits[i]).flatten.map Sc.enc = (cur.flatten.map Sc.enc).take (E.waits[i].at_.toNat * 64) ++ (E.waits[i].b.take 64).map Sc.enc ++ (cur.flatten.map (Sc.enc : UInt8 → Value)).drop (E.waits[i].at_.toNat * 64 + min E.waits[i].b.length 64) := by
        rw [Disk.lay, flat_set hw.2.2 cur hc64 _ (by omega), List.map_append, List.map_append, List.map_take, List.map_drop, hw.2.2, Nat.min_self, List.take_of_length_le (Nat.le_of_eq hw.2.2), Nat.mul_comm 64]
      rw [e]
      exact ((H.dr (blk a14 _ _)).dr (imm t _)).take (by repeat constructor)
    · rw [i64_id (by omega)]; dsimp only; omega
  · obtain rfl : i = E.waits.length := by omega
    have e1 : Disk.layAll E.has E.waits = cur := by rw [← hlay, List.drop_of_length_le (Nat.le_refl _)]; rfl
    rw [e1] at k
    refine nn (sta H fun w2 H => k _ ?_)
    have H := (H.dr (own _ _ E.waits)).own_nil (α := Wr) T_disk_write
    exact disk_cls (ws := ⟨none, 0, 0⟩) (sv := sv) (g := g) (left := left) (armed := decide (0 ≤ E.left)) (n := 64 * E.has.length) H { E with has := cur, waits := [] } ⟨hc64, by show cur.length ≤ 256; omega, fun w hw => by simp at hw, ok.left⟩ rfl (by rw [hcl]) rfl rfl hl rfl rfl
theorem disk_Arm (H : Heap F w l) {n : Int} {s : Sl} {surv : List Bool} (hn : n ≤ 9223372036854775807) (hs : surv.length ≤ 140737488355328) (k : ∀ w', Heap F w' (DiskAt b (D.arm n surv) :: r) → Q (.tuple #[]) w') (hT : Take l (DiskAt b D) r := by repeat (first | assumption | constructor)) (hS : Has r (imm s surv) := by repeat (first | assumption | constructor)) :
    Does Tryd.prog N_disk_Disk_Arm #[.pointer (some ⟨b, 0, none⟩), .int .i64 n, .slice s.a s.len s.cap] w Q := by
  refine F_disk_Disk_Arm_does _ _ _ _ _ ?_
  unfold F_disk_Disk_Arm
  obtain ⟨⟨g, ws, sv, left⟩, H⟩ := (H.take hT).opn; dsimp only [List.cons_append, List.nil_append] at H; obtain ⟨⟨ok, hl⟩, H⟩ := H.pur
  unfold Disk.arm at k
  refine nn (lda H (cBoth (fun hoff => ?_) (fun hoff => ?_)))
  · rw [hoff, cond_true] at k
    exact k w (disk_cls H D ok rfl rfl rfl rfl hl rfl rfl)
  rw [hoff, cond_false] at k
  refine cpIb (ys := surv) S_l_bool H (by omega) (fun s2 w2 H => ?_) (hI := .t (.t (.t (.t hS))))
  refine nn (sta H fun w3 H => nn (sta H fun w4 H => nn (sta H fun w5 H => k _ ?_)))
  replace H := (H.dr (imm sv _)).share (s := s2) (xs := surv)
  exact disk_cls (ws := ws) (sv := s2) (g := g) (left := n) (off := D.off) (armed := decide (n ≥ 0)) (n := 64 * D.has.length) H _ ⟨ok.has, ok.size, ok.waits, by dsimp only; split <;> omega⟩ rfl rfl hoff (by dsimp only; split <;> simp_all) (fun h => by dsimp only at h ⊢; split at h <;> simp_all) rfl rfl
theorem disk_Power (H : Heap F w l) (k : ∀ w', Heap F w' (DiskAt b D.power :: r) → Q (.tuple #[]) w') (hT : Take l (DiskAt b D) r := by repeat (first | assumption | constructor)) : Does Tryd.prog N_disk_Disk_Power #[.pointer (some ⟨b, 0, none⟩)] w Q := by
  refine F_disk_Disk_Power_does _ _ _ ?_
  unfold F_disk_Disk_Power
  obtain ⟨⟨g, ws, sv, left⟩, H⟩ := (H.take hT).opn; dsimp only [List.cons_append, List.nil_append] at H; obtain ⟨⟨ok, hl⟩, H⟩ := H.pur
  refine nn (sta H fun w3 H => nn (sta H fun w4 H => nn (sta H fun w5 H => k _ ?_)))
  replace H := (H.dr (own _ _ D.waits)).own_nil (α := Wr) T_disk_write
  exact disk_cls (ws := ⟨none, 0, 0⟩) (sv := sv) (g := g) (left := left) (armed := false) (n := 64 * D.has.length) H D.power ⟨ok.has, ok.size, fun w hw => by simp [Disk.power] at hw, by simp [Disk.power]⟩ rfl rfl rfl (by simp [Disk.power]) (fun h => by simp [Disk.power] at h) rfl rfl
theorem disk_New (H : Heap F w l) {n : Int} (h1 : 1 ≤ n) (h2 : n ≤ 256) (k : ∀ (b : Nat) w', Heap F w' (DiskAt b (Disk.new n.toNat) :: l) → Q (.tuple #[.pointer (some ⟨b, 0, none⟩), .int .i64 0]) w') : Does Tryd.prog N_disk_New #[.int .i64 n] w Q := by
  refine F_disk_New_does _ _ _ ?_
  unfold F_disk_New
  intro J hJ
  refine dF (by omega) (dF (by omega) (hJ _ ?_))
  rw [i64_id (by omega)]
  refine mk (d := (0 : UInt8)) Z_l_uint8 H (by omega) (by omega) (by simp only [maxLen]; omega) fun g w2 H => ?_
  refine al H (cs := [(hasV g (n * 64).toNat).v, (Sl.v ⟨none, 0, 0⟩), .bool false, .bool false, .int .i64 0, (Sl.v ⟨none, 0, 0⟩)]) (fun b w3 H => k b w3 ?_) rfl
  replace H := (H.own_nil (α := Wr) T_disk_write).imm_nil (α := Bool)
  have e : List.replicate (n * 64).toNat (0 : UInt8) = (Disk.new n.toNat).has.flatten := by
    rw [show (n * 64).toNat = n.toNat * 64 by omega]
    exact List.flatten_replicate_replicate.symm
  rw [e] at H
  exact disk_cls (ws := ⟨none, 0, 0⟩) (sv := ⟨none, 0, 0⟩) (g := g) (left := 0) (armed := false) (n := (n * 64).toNat) H (Disk.new n.toNat) ⟨fun s hs => by simp [Disk.new] at hs; rw [hs.2]; simp, by simp [Disk.new]; omega, fun w hw => by simp [Disk.new] at hw, by simp [Disk.new]⟩ rfl (by simp [Disk.new]; omega) rfl rfl (fun h => by simp [Disk.new] at h) rfl rfl
end
end Go.Proofs.YtkfcmpngcanffaaDoor.G

set_option linter.unusedVariables false
set_option linter.unusedSimpArgs false
namespace Go.Proofs.YtkfcmpngcanffaaDoor.G
open Go Go.VC Go.RowKit Go.Proofs Go.Proofs.YtkfcmpngcanffaaDoor Nac
def isIf (P : Program) (t : TypeId) : Bool := match P.underlying t with
  | some (.interface _) => true
  | _ => false
theorem isIf_ex {P : Program} {t : TypeId} (h : isIf P t = true) : ∃ ms, P.underlying t = some (.interface ms) := by
  unfold isIf at h
  split at h
  · exact ⟨_, by assumption⟩
  · cases h
theorem nil_equalIn {P : Program} {w : World} {t : Nat} (d : Nat) (h : isIf P t = true) : (Op.equalIn (d + 1) t .nilIface .nilIface).run P w = .ok true w := by
  obtain ⟨ms, hm⟩ := isIf_ex h
  simp [Op.equalIn, run_underlying hm]
theorem nil_run {P : Program} {w : World} {t x : Nat} (h : isIf P t = true) : (do eqGuard .neq t (.tmp x) (.const (.nilIface)) (.nilIface) (.nilIface); binOp .neq t (.nilIface) (.nilIface) : Sem Value).run P w = .ok (.bool false) w := by
  obtain ⟨ms, hm⟩ := isIf_ex h
  rw [eqGuard_nil_constR]
  have e := nil_equalIn (P := P) (w := w) 9999 h
  simp only [pure_bind, binOp]
  show ((Op.equalIn 10000 t .nilIface .nilIface) >>= fun a => pure (Value.bool (!a)) : Sem Value).run P w = _
  rw [Sem.run_bind, e]; rfl
theorem nil_run' {P : Program} {w : World} {t x : Nat} (h : isIf P t = true) : (do eqGuard .eql t (.tmp x) (.const (.nilIface)) (.nilIface) (.nilIface); binOp .eql t (.nilIface) (.nilIface) : Sem Value).run P w = .ok (.bool true) w := by
  obtain ⟨ms, hm⟩ := isIf_ex h
  rw [eqGuard_nil_constR]
  have e := nil_equalIn (P := P) (w := w) 9999 h
  simp only [pure_bind, binOp]
  show ((Op.equalIn 10000 t .nilIface .nilIface) >>= fun a => pure (Value.bool a) : Sem Value).run P w = _
  rw [Sem.run_bind, e]; rfl
theorem if_err : isIf Tryd.prog T_error = true := by kernel_rfl
theorem nil_ne {w : World} {K : Bool → World → Prop} {x : Nat} (k : K false w) : runG (.bool) Tryd.prog w (do eqGuard .neq T_error (.tmp x) (.const (.nilIface)) (.nilIface) (.nilIface); binOp .neq T_error (.nilIface) (.nilIface)) K :=
  ⟨.bool false, w, nil_run if_err, _, rfl, k⟩
theorem nil_eq {w : World} {K : Bool → World → Prop} {x : Nat} (k : K true w) : runG (.bool) Tryd.prog w (do eqGuard .eql T_error (.tmp x) (.const (.nilIface)) (.nilIface) (.nilIface); binOp .eql T_error (.nilIface) (.nilIface)) K :=
  ⟨.bool true, w, nil_run' if_err, _, rfl, k⟩
attribute [local irreducible] Tryd.prog
section
variable {F : Bs} {w : World} {l r : List SP} {b d : Nat} {D : Disk} {Q : Value → World → Prop} {x : Ext}
/-! ### extent -/
theorem ext_Lies (H : Heap F w l) {n : Int} (h1 : 0 ≤ n) (h2 : n ≤ 1000000) (k : ∀ w', Heap F w' l → Q (.bool (lies x n)) w') : Does Tryd.prog N_extent_Lies #[.agg #[.int .i64 x.from_, .int .i64 x.count], .int .i64 n] w Q := by
  refine F_extent_Lies_does _ _ _ _ _ ?_
  unfold F_extent_Lies
  refine al H (cs := [.int .i64 x.from_, .int .i64 x.count]) (fun a w H => ?_) rfl
  refine lda H (dBoth (fun c1 => ld0 H (dBoth (fun c2 => lda H (dBoth (fun c3 => ld0 H (lda H ?_)) (fun c3 => ?_))) (fun c2 => ?_))) (fun c1 => ?_))
  · have c1' : (1 : Int) ≤ x.count := c1
    have c2' : (0 : Int) ≤ x.from_ := c2
    have c3' : x.count ≤ n := c3
    rw [i64_id (by omega), show decide (x.from_ ≤ n - x.count) = lies x n by simp [lies, c1', c2', c3']]
    exact k _ H.tl
  all_goals
    rw [show false = lies x n by
      simp only [lies]
      first
        | rw [decide_eq_false (show ¬ 1 ≤ x.count from c1)]; simp
        | rw [decide_eq_false (show ¬ 0 ≤ x.from_ from c2)]; simp
        | rw [decide_eq_false (show ¬ x.count ≤ n from c3)]; simp]
    exact k _ H.tl
/-- a part of a disk -/
def PartAt (b : Nat) (d : Nat) (x : Ext) : SP := SP.of fun _ : Unit => [pur (0 ≤ x.from_ ∧ x.from_ + x.count ≤ 1000000 ∧ 0 ≤ x.count), blk b T_extent_Part [.int .i64 x.from_, .int .i64 x.count, .pointer (some ⟨d, 0, none⟩)]]
theorem part_cls (H : Heap F w l) (okP : 0 ≤ x.from_ ∧ x.from_ + x.count ≤ 1000000 ∧ 0 ≤ x.count) (hT : Take l (blk b T_extent_Part [.int .i64 x.from_, .int .i64 x.count, .pointer (some ⟨d, 0, none⟩)]) r := by repeat (first | assumption | constructor)) : Heap F w (PartAt b d x :: r) := ((H.take hT).addp okP).cls ()
theorem ext_Place (H : Heap F w l) {n : Int} (hx : 0 ≤ x.from_ ∧ x.from_ + x.count ≤ 1000000) (k : ∀ w', Heap F w' l → Q (if 0 ≤ n ∧ n < x.count then .tuple #[.int .i64 (x.from_ + n), .int .i64 0] else .tuple #[.int .i64 0, .int .i64 4]) w') :
    Does Tryd.prog N_extent_Place #[.agg #[.int .i64 x.from_, .int .i64 x.count], .int .i64 n] w Q := by
  refine F_extent_Place_does _ _ _ _ _ ?_
  unfold F_extent_Place
  refine al H (cs := [.int .i64 x.from_, .int .i64 x.count]) (fun a w H => ?_) rfl
  intro J hJ
  refine dBoth (fun c1 => ?_) (fun c1 => lda H (dBoth (fun c2 => ?_) (fun c2 => ?_)))
  · have := k _ H.tl
    rwa [if_neg (by omega)] at this
  · have := k _ H.tl
    have c2' : x.count ≤ n := c2
    rwa [if_neg (by omega)] at this
  · have c2' : ¬ x.count ≤ n := c2
    have hj : J w := by
      refine hJ _ (ld0 H ?_)
      rw [i64_id (by omega)]
      have := k _ H.tl
      rwa [if_pos (by omega)] at this
    refine ld0 H (dBoth (fun c3 => ld0 H (dF ?_ hj)) (fun c3 => hj))
    have c3' : (0 : Int) < x.from_ := c3
    rw [i64_id (by omega)]
    omega
theorem ext_New (H : Heap F w l) (h0 : 0 ≤ x.from_ ∧ x.from_ ≤ 1000 ∧ x.count ≤ 1000) (k1 : lies x D.has.length = true → ∀ (b : Nat) w', Heap F w' (PartAt b d x :: DiskAt d D :: r) → Q (.tuple #[.pointer (some ⟨b, 0, none⟩), .int .i64 0]) w')
    (k2 : lies x D.has.length = false → ∀ w', Heap F w' (DiskAt d D :: r) → Q (.tuple #[.pointer none, .int .i64 1]) w') (hT : Take l (DiskAt d D) r := by repeat (first | assumption | constructor)) :
    Does Tryd.prog N_extent_New #[.pointer (some ⟨d, 0, none⟩), .agg #[.int .i64 x.from_, .int .i64 x.count]] w Q := by
  refine F_extent_New_does _ _ _ _ _ ?_
  unfold F_extent_New
  replace H := H.take hT
  have hsz := (disk_ok H).size
  refine al H (cs := [.int .i64 x.from_, .int .i64 x.count]) (fun a w H => ?_) rfl
  refine ld0 H.drew (lda H.drew ?_)
  refine disk_Size H.drew ⟨_, rfl, ⟨rfl, ?_⟩, ?_⟩
  · intro j v hj
    rw [add_mk]
    refine H.drew.cell (b := a) (cs := [.int .i64 x.from_, .int .i64 x.count]) (by repeat constructor) ?_
    simpa using hj
  refine ext_Lies H.drew (by omega) (by omega) fun w H => ⟨_, rfl, ?_⟩
  cases hl : lies x D.has.length
  · refine cT rfl ?_
    exact k2 hl _ (H.dr (blk a _ _))
  · refine cF rfl ?_
    refine ld0 H (lda H ?_)
    refine al H (cs := [.int .i64 x.from_, .int .i64 x.count, .pointer (some ⟨d, 0, none⟩)]) (fun b w H => ?_) rfl
    refine k1 hl b _ (part_cls (H.dr (blk a _ _) (.t .h)) ?_)
    simp [lies] at hl
    omega
theorem part_Size (H : Heap F w l) (k : Q (.int .i64 x.count) w) (hP : Take l (PartAt b d x) r := by repeat (first | assumption | constructor)) : Does Tryd.prog N_extent_Part_Size #[.pointer (some ⟨b, 0, none⟩)] w Q := by
  refine F_extent_Part_Size_does _ _ _ ?_
  unfold F_extent_Part_Size
  obtain ⟨_, H⟩ := (H.take hP).opn; dsimp only [List.cons_append, List.nil_append] at H; obtain ⟨okP, H⟩ := H.pur
  exact nn (lda H k)
theorem part_Read {r2 : List SP} (H : Heap F w l) {n : Int} (k : ∀ (s : Sl) w', Heap F w' (own T_uint8 s (pread D x n).1 :: PartAt b d x :: DiskAt d D :: r2) → Q (.tuple #[.slice s.a s.len s.cap, .int .i64 (pread D x n).2]) w')
    (hP : Take l (PartAt b d x) r := by repeat (first | assumption | constructor)) (hD : Take r (DiskAt d D) r2 := by repeat (first | assumption | constructor)) : Does Tryd.prog N_extent_Part_Read #[.pointer (some ⟨b, 0, none⟩), .int .i64 n] w Q := by
  refine F_extent_Part_Read_does _ _ _ _ ?_
  unfold F_extent_Part_Read
  obtain ⟨_, H⟩ := (H.take hP).opn; dsimp only [List.cons_append, List.nil_append] at H; obtain ⟨okP, H⟩ := H.pur
  refine nn (ld0 H (lda H ?_))
  refine ext_Place H ⟨okP.1, okP.2.1⟩ fun w H => ?_
  unfold pread at k
  by_cases h : 0 ≤ n ∧ n < x.count
  · rw [if_pos h]
    simp only [if_pos h] at k
    refine ⟨_, _, rfl, nn (lda H ?_)⟩
    refine disk_Read H (fun s w H => ⟨_, _, rfl, k s w ?_⟩) (.t hD)
    exact (part_cls (r := own T_uint8 s (D.read (x.from_ + n)).1 :: DiskAt d D :: r2) H okP (.t (.t .h))).take (.t .h)
  · rw [if_neg h]
    simp only [if_neg h] at k
    refine ⟨_, _, rfl, ?_⟩
    refine k ⟨none, 0, 0⟩ _ ?_
    have H1 := (part_cls H okP)
    exact ((H1.take (.t hD)).take (.t .h)).own_nil T_uint8
theorem part_Write {r2 : List SP} (H : Heap F w l) {n : Int} {s : Sl} {bb : List UInt8} (hn : D.waits.length < 1000000) (k : ∀ w', Heap F w' (PartAt b d x :: DiskAt d (pwrite D x n bb).1 :: r2) → Q (.int .i64 (pwrite D x n bb).2) w')
    (hP : Take l (PartAt b d x) r := by repeat (first | assumption | constructor)) (hD : Take r (DiskAt d D) r2 := by repeat (first | assumption | constructor)) (hS : Has r2 (imm s bb) := by repeat (first | assumption | constructor)) : Does Tryd.prog N_extent_Part_Write #[.pointer (some ⟨b, 0, none⟩), .int .i64 n, .slice s.a s.len s.cap] w Q := by
  refine F_extent_Part_Write_does _ _ _ _ _ ?_
  unfold F_extent_Part_Write
  obtain ⟨_, H⟩ := (H.take hP).opn; dsimp only [List.cons_append, List.nil_append] at H; obtain ⟨okP, H⟩ := H.pur
  refine nn (ld0 H (lda H ?_))
  refine ext_Place H ⟨okP.1, okP.2.1⟩ fun w H => ?_
  unfold pwrite at k
  by_cases h : 0 ≤ n ∧ n < x.count
  · rw [if_pos h]
    simp only [if_pos h] at k
    refine ⟨_, _, rfl, nn (lda H ?_)⟩
    refine disk_Write H hn (fun w H => ⟨_, rfl, k w ?_⟩) (.t hD) (.t hS)
    exact part_cls H okP (.t .h)
  · rw [if_neg h]
    simp only [if_neg h] at k
    refine ⟨_, _, rfl, ?_⟩
    have H1 := (part_cls H okP)
    exact k _ ((H1.take (.t hD)).take (.t .h))
theorem part_Flush {r2 : List SP} (H : Heap F w l) (k : ∀ w', Heap F w' (PartAt b d x :: DiskAt d D.flush.1 :: r2) → Q (.int .i64 D.flush.2) w')
    (hP : Take l (PartAt b d x) r := by repeat (first | assumption | constructor)) (hD : Take r (DiskAt d D) r2 := by repeat (first | assumption | constructor)) : Does Tryd.prog N_extent_Part_Flush #[.pointer (some ⟨b, 0, none⟩)] w Q := by
  refine F_extent_Part_Flush_does _ _ _ ?_
  unfold F_extent_Part_Flush
  obtain ⟨_, H⟩ := (H.take hP).opn; dsimp only [List.cons_append, List.nil_append] at H; obtain ⟨okP, H⟩ := H.pur
  refine nn (lda H ?_)
  refine disk_Flush H (fun w H => ⟨_, rfl, k w ?_⟩) (.t hD)
  exact part_cls H okP (.t .h)
/-! ### octet -/
theorem oct_Put (H : Heap F w l) {n : UInt64} {k : Nat} (h1 : 1 ≤ k) (h8 : k ≤ 8) {K : Value → World → Prop} (kk : ∀ (s : Sl) w', Heap F w' (own T_uint8 s (put n k) :: l) → K (.slice s.a s.len s.cap) w') :
    Does Tryd.prog N_octet_Put #[.int .u64 (n.toNat : Int), .int .i64 (k : Int)] w K := by
  refine F_octet_Put_does _ _ _ _ ?_
  unfold F_octet_Put
  intro J hJ
  refine dF (by omega) (dF (by omega) (hJ _ ?_))
  refine mk (d := (0 : UInt8)) Z_l_uint8 H (by omega) (by omega) (by simp only [maxLen]; omega) fun g w H => ?_
  replace H := H.blk_own (n := k) (cs := List.map Sc.enc (List.replicate (k : Int).toNat (0 : UInt8))) (List.replicate k (0 : UInt8)) (by simp) (mx (by simp; omega)) (by simp)
  simp only [Int.toNat_natCast]
  refine ⟨fun m x w' => ∃ (i : Nat) (q : UInt64) (done : List UInt8), x = i ∧ m = (q.toNat : Int) ∧ i ≤ k ∧ done.length = i ∧ done ++ put q (k - i) = put n k ∧ Heap F w' (own T_uint8 ⟨some ⟨g, 0, none⟩, k, k⟩ (done ++ List.replicate (k - i) 0) :: l), fun _ x _ => (k - x).toNat,
    ⟨0, n, [], rfl, rfl, by omega, rfl, rfl, H⟩, ?_⟩
  rintro m x w1 ⟨i, q, done, rfl, rfl, hi, hdl, hd, H⟩
  refine dBoth (fun hlt => ?_) (fun hge => ?_)
  · have hlt' : i < k := by omega
    refine idxW (s := ⟨some ⟨g, 0, none⟩, k, k⟩) (xs := done ++ List.replicate (k - i) (0 : UInt8)) H (by omega) (by simp; omega) fun g' hg => ?_
    rw [wrap8_64, Int.toNat_natCast]
    refine stO (s := ⟨some ⟨g, 0, none⟩, k, k⟩) (xs := done ++ List.replicate (k - i) (0 : UInt8)) H hg (by simp; omega) q.toUInt8 rfl fun w2 H => ?_
    rw [shr64_8]
    refine ⟨by decide, ⟨i + 1, q >>> 8, done ++ [q.toUInt8], by rw [i64_id (by omega)]; omega, rfl, by omega, by simp [hdl], ?_, ?_⟩, by rw [i64_id (by omega)]; dsimp only; omega⟩
    · rw [← hd, show k - i = (k - (i + 1)) + 1 by omega, put]; simp
    · have e : (done ++ List.replicate (k - i) (0 : UInt8)).set i q.toUInt8 = done ++ [q.toUInt8] ++ List.replicate (k - (i + 1)) 0 := by
        rw [show k - i = (k - (i + 1)) + 1 by omega, List.replicate_succ, List.set_append_right _ _ (by omega), show i - done.length = 0 by omega]; simp
      rw [← e]; exact H
  · obtain rfl : i = k := by omega
    rw [Nat.sub_self] at hd H
    simp only [put, List.append_nil, List.replicate_zero] at hd H
    subst hd
    exact kk ⟨some ⟨g, 0, none⟩, i, i⟩ _ H
theorem oct_Get (H : Heap F w l) {s : Sl} {bb : List UInt8} (h1 : 1 ≤ bb.length) (h8 : bb.length ≤ 8) (k : Q (.tuple #[.int .u64 ((Nac.get bb).toNat : Int), .int .i64 0]) w) (hI : Has l (imm s bb) := by repeat (first | assumption | constructor)) :
    Does Tryd.prog N_octet_Get #[.slice s.a s.len s.cap] w Q := by
  refine F_octet_Get_does _ _ _ ?_
  unfold F_octet_Get
  have hl := H.len hI
  intro J hJ
  refine dF (by omega) (dF (by omega) (hJ _ ?_))
  rw [i64_id (by omega)]
  refine ⟨fun m x w' => ∃ (i : Nat), x = (i : Int) - 1 ∧ m = ((Nac.get (bb.drop i)).toNat : Int) ∧ i ≤ bb.length ∧ w' = w, fun _ x _ => (x + 1).toNat, ⟨bb.length, by omega, by rw [List.drop_of_length_le (Nat.le_refl _)]; rfl, by omega, rfl⟩, ?_⟩
  rintro m x w1 ⟨i, rfl, rfl, hi, rfl⟩
  refine dBoth (fun hlt => ?_) (fun hge => ?_)
  · refine ⟨by decide, idxI1 (xs := bb) H (by omega) (by omega) (fun a ha => ldT_cell _ ha ?_) hI⟩
    have e : ((i : Int) - 1).toNat = i - 1 := by omega
    simp only [e]
    rw [shl64_8, wrap64_8, or64]
    refine ⟨⟨i - 1, by rw [i64_id (by omega)]; omega, ?_, by omega, (by first | rfl | trivial)⟩, by rw [i64_id (by omega)]; (try dsimp only); omega⟩
    rw [List.drop_eq_getElem_cons (show i - 1 < bb.length by omega), Nac.get, show i - 1 + 1 = i by omega]
  · obtain rfl : i = 0 := by omega
    exact k
/-- a reader that has not failed -/
def RdAt (b : Nat) (bb : List UInt8) (n : Nat) : SP := SP.of fun s : Sl => [blk b T_octet_Reader [s.v, .int .i64 (n : Int), .nilIface], imm s bb]
theorem oct_Read (H : Heap F w l) {s : Sl} {bb : List UInt8} (hn : bb.length ≤ 1000000) (k : ∀ (b : Nat) w', Heap F w' (RdAt b bb 0 :: l) → Q (.pointer (some ⟨b, 0, none⟩)) w') (hI : Has l (imm s bb) := by repeat (first | assumption | constructor)) : Does Tryd.prog N_octet_Read #[.slice s.a s.len s.cap] w Q := by
  refine F_octet_Read_does _ _ _ ?_
  unfold F_octet_Read
  refine cpI (ys := bb) S_l_uint8 H (by omega) (fun s2 w H => ?_) hI
  replace H := H.share (s := s2) (xs := bb)
  refine al H (cs := [s2.v, .int .i64 0, .nilIface]) (fun b w H => k b w ?_) rfl
  exact H.cls (f := fun s : Sl => [blk b T_octet_Reader [s.v, .int .i64 ((0 : Nat) : Int), .nilIface], imm s bb]) s2
theorem oct_Left (H : Heap F w l) {bb : List UInt8} {n : Nat} (hn : n ≤ bb.length) (k : Heap F w.drew l → Q (.int .i64 ((bb.length - n : Nat) : Int)) w.drew) (hT : Take l (RdAt b bb n) r := by repeat (first | assumption | constructor)) : Does Tryd.prog N_octet_Reader_Left #[.pointer (some ⟨b, 0, none⟩)] w Q := by
  refine F_octet_Reader_Left_does _ _ _ ?_
  unfold F_octet_Reader_Left
  have H0 := H
  obtain ⟨s, H⟩ := (H.take hT).opn
  dsimp only [List.cons_append, List.nil_append] at H
  refine nn (ld0 H.drew (nn (lda H.drew ?_)))
  have hl := H.len (s := s) (xs := bb)
  have hb := H.bndI (s := s) (xs := bb)
  have e : IntKind.wrap .i64 (((s.len : Nat) : Int) - (n : Int)) = ((bb.length - n : Nat) : Int) := by rw [i64_id (by omega)]; omega
  rw [e]
  exact k H0.drew
theorem oct_Bytes (H : Heap F w l) {bb : List UInt8} {n m : Nat} (hn : n + m ≤ bb.length) (hm : m ≤ 1000000) (k : ∀ (s : Sl) w', Heap F w' (own T_uint8 s ((bb.drop n).take m) :: RdAt b bb (n + m) :: r) → Q (.slice s.a s.len s.cap) w') (hT : Take l (RdAt b bb n) r := by repeat (first | assumption | constructor)) :
    Does Tryd.prog N_octet_Reader_Bytes #[.pointer (some ⟨b, 0, none⟩), .int .i64 (m : Int)] w Q := by
  refine F_octet_Reader_Bytes_does _ _ _ _ ?_
  unfold F_octet_Reader_Bytes
  have H0 := H.take hT
  obtain ⟨s, H⟩ := H0.opn
  dsimp only [List.cons_append, List.nil_append] at H
  refine nn (lda H (nil_ne (cF rfl (dF (by omega) ?_))))
  have hl := H.len (s := s) (xs := bb)
  have hb := H.bndI (s := s) (xs := bb)
  refine oct_Left (n := n) (bb := bb) H0 (by omega) (fun H0 => ⟨_, rfl, dF (by omega) ?_⟩)
  replace H := H.drew
  refine nn (ld0 H.drew (nn (lda H.drew (nn (lda H.drew ?_)))))
  rw [i64_id (by omega)]
  refine slcI (s := s) (xs := bb) H.drew (by omega) (by omega) (by omega) fun t H => ?_
  have e : ((n : Int) + (m : Int)).toNat - (n : Int).toNat = m := by omega
  rw [e, Int.toNat_natCast] at H
  refine cpI (ys := (bb.drop n).take m) S_l_uint8 H (by simp; omega) fun s2 w H => ?_
  refine nn (lda H (nn (sta H fun w H => k s2 w ?_)))
  replace H := H.dr (imm t _)
  rw [i64_id (by omega), show (n : Int) + (m : Int) = ((n + m : Nat) : Int) by omega] at H
  exact (H.cls (f := fun s : Sl => [blk b T_octet_Reader [s.v, .int .i64 ((n + m : Nat) : Int), .nilIface], imm s bb]) s).take (.t .h)
theorem oct_Num (H : Heap F w l) {bb : List UInt8} {n m : Nat} (h1 : 1 ≤ m) (h8 : m ≤ 8) (hn : n + m ≤ bb.length) (k : ∀ w', Heap F w' (RdAt b bb (n + m) :: r) → Q (.int .u64 ((Nac.get ((bb.drop n).take m)).toNat : Int)) w') (hT : Take l (RdAt b bb n) r := by repeat (first | assumption | constructor)) :
    Does Tryd.prog N_octet_Reader_Num #[.pointer (some ⟨b, 0, none⟩), .int .i64 (m : Int)] w Q := by
  refine F_octet_Reader_Num_does _ _ _ _ ?_
  unfold F_octet_Reader_Num
  intro J hJ J2 hJ2
  refine dF (by omega) (hJ2 _ _ (dF (by omega) (hJ _ ?_)))
  refine oct_Bytes H hn (by omega) (fun s w H => ⟨_, rfl, ?_⟩) hT
  have hlen : ((bb.drop n).take m).length = m := by simp; omega
  replace H := H.share (s := s) (xs := (bb.drop n).take m)
  refine oct_Get H (bb := (bb.drop n).take m) (by omega) (by omega) ⟨_, _, rfl, k _ (H.dr (imm s _))⟩
/-! ### crc -/
def Half : SP := ⟨fun ro _ => ∀ (i : Nat) (v : UInt32), half[i]? = some v → roCell ro 0 i = some (.int .u32 (v.toNat : Int)), fun hr _ h i v hv => roCell.mono hr (h i v hv)⟩
theorem half_ld (H : Heap F w l) {r0 : UInt32} {K : Int → Prop} (k : K ((half.getD (r0 &&& 15).toNat 0).toNat : Int)) (hI : Has l Half := by repeat (first | assumption | constructor)) :
    idxR 16 ((r0 &&& 15).toNat : Int) (ldT (.int .u32) w (((⟨0, 0, none⟩ : Addr)).add (Int.toNat ((r0 &&& 15).toNat : Int) * 1)) K) := by
  have hlt : (r0 &&& 15).toNat < 16 := by
    rw [UInt32.toNat_and]
    exact Nat.lt_of_le_of_lt Nat.and_le_right (by decide)
  obtain ⟨ro, g, hro, _, h⟩ := H.get hI
  refine ⟨by omega, by omega, _, ?_, k⟩
  rw [add_mk, Int.toNat_natCast, Nat.mul_one, Nat.zero_add]
  refine roCell.cell hro (h _ _ ?_)
  rw [List.getD_eq_getElem?_getD, List.getElem?_eq_getElem (show (r0 &&& 15).toNat < half.length from hlt)]; rfl
theorem shr32_4 (a : UInt32) : Int.fdiv (a.toNat : Int) (2 ^ (min (Int.toNat (4)) (IntKind.bits .u32))) = ((a >>> 4).toNat : Int) := shr32 a 4 (by decide)
theorem crc_On (H : Heap F w l) {s : Sl} {bb : List UInt8} {s0 : UInt32} (k : Q (.int .u32 ((crcOn s0 bb).toNat : Int)) w) (hI : Has l (imm s bb) := by repeat (first | assumption | constructor)) (hH : Has l Half := by repeat (first | assumption | constructor)) :
    Does Tryd.prog N_crc_On #[.int .u32 (s0.toNat : Int), .slice s.a s.len s.cap] w Q := by
  refine F_crc_On_does _ _ _ _ ?_
  unfold F_crc_On
  have hl := H.len hI
  have hb := H.bndI hI
  rw [not32]
  refine ⟨fun m x w' => ∃ (i : Nat) (q : UInt32), x = i ∧ m = (q.toNat : Int) ∧ i ≤ bb.length ∧ (bb.drop i).foldl crcB q = bb.foldl crcB (~~~ s0) ∧ w' = w, fun _ x _ => (bb.length - x).toNat, ⟨0, ~~~ s0, rfl, rfl, by omega, rfl, rfl⟩, ?_⟩
  rintro m x w1 ⟨i, q, rfl, rfl, hi, hq, rfl⟩
  refine dBoth (fun hlt => ?_) (fun hge => ?_)
  · have hlt' : i < bb.length := by omega
    refine idxI1 (xs := bb) H (by omega) (by omega) (fun a ha => ldT_cell _ ha ?_) hI
    simp only [Int.toNat_natCast]
    have e15 : (15 : Int) = ((15 : UInt32).toNat : Int) := by decide
    refine ⟨by decide, ?_⟩
    rw [wrap32_8, xor32, e15, and32]
    refine half_ld H ?_ hH
    refine ⟨by decide, ?_⟩
    rw [shr32_4, xor32, and32]
    refine half_ld H ?_ hH
    rw [shr32_4, xor32]
    refine ⟨⟨i + 1, crcB q bb[i], by rw [i64_id (by omega)]; omega, rfl, by omega, by rw [← hq, List.drop_eq_getElem_cons hlt']; rfl, (by first | rfl | trivial)⟩, by rw [i64_id (by omega)]; (try dsimp only); omega⟩
  · obtain rfl : i = bb.length := by omega
    rw [List.drop_of_length_le (Nat.le_refl _)] at hq
    rw [not32, show q = bb.foldl crcB (~~~ s0) from hq]
    exact k
theorem crc_Of (H : Heap F w l) {s : Sl} {bb : List UInt8} (k : Q (.int .u32 ((crc bb).toNat : Int)) w) (hI : Has l (imm s bb) := by repeat (first | assumption | constructor)) (hH : Has l Half := by repeat (first | assumption | constructor)) :
    Does Tryd.prog N_crc_Of #[.slice s.a s.len s.cap] w Q := by
  refine F_crc_Of_does _ _ _ ?_
  unfold F_crc_Of
  exact crc_On (s0 := 0) H ⟨_, rfl, k⟩ hI hH
theorem crc_Seal (H : Heap F w l) {s : Sl} {bb : List UInt8} (hn : bb.length ≤ 1000000) (k : ∀ (s' : Sl) w', Heap F w' (own T_uint8 s' (seal_ bb) :: l) → Q (.slice s'.a s'.len s'.cap) w') (hI : Has l (imm s bb) := by repeat (first | assumption | constructor)) (hH : Has l Half := by repeat (first | assumption | constructor)) :
    Does Tryd.prog N_crc_Seal #[.slice s.a s.len s.cap] w Q := by
  refine F_crc_Seal_does _ _ _ ?_
  unfold F_crc_Seal
  refine cpI (ys := bb) S_l_uint8 H (by omega) (fun s1 w H => ?_) hI
  refine crc_Of (s := s) (bb := bb) H ⟨_, rfl, ?_⟩ (.t hI) (.t hH)
  rw [wrap64_32]
  refine oct_Put H (k := 4) (by decide) (by decide) fun s2 w H => ⟨_, rfl, ?_⟩
  replace H := H.share (s := s2) (xs := put (crc bb).toUInt64 4)
  refine apI (s := s1) (xs := bb) (ys := put (crc bb).toUInt64 4) S_l_uint8 H (by simp; omega) fun s3 w H => k s3 w (H.dr (imm s2 _))
end
end Go.Proofs.YtkfcmpngcanffaaDoor.G

set_option linter.unusedVariables false
set_option linter.unusedSimpArgs false
namespace Go.Proofs.YtkfcmpngcanffaaDoor.G
open Go Go.VC Go.RowKit Go.Proofs Go.Proofs.YtkfcmpngcanffaaDoor Nac
def encE (x : Entry) : List Value := [.int .i64 x.kind, .int .i64 x.part, .int .u32 (x.version.toNat : Int), .int .i64 x.code]
instance : Rep Entry where
  n := 4
  r := fun _ cs x => cs = encE x
  mono := fun _ h => h
  len := fun h => by rw [h]; rfl
  one := fun h u hu => by rw [h] at hu; simp [encE] at hu; rcases hu with rfl | rfl | rfl | rfl <;> rfl
theorem flatE : FlatT Tryd.prog T_api_Entry := ⟨by kernel_rfl, by kernel_rfl, by kernel_rfl⟩
theorem flatE_eq (a1 a2 : Int) (a3 : Int) (a4 : Int) (b1 b2 b3 b4 : Int) : eqFlat Tryd.prog #[.int .i64 a1, .int .i64 a2, .int .u32 a3, .int .i64 a4] #[.int .i64 b1, .int .i64 b2, .int .u32 b3, .int .i64 b4] (Tryd.prog.fieldsOf T_api_Entry).toList =
    some (cond (a1 == b1) (cond (a2 == b2) (cond (a3 == b3) (cond (a4 == b4) true false) false) false) false) := by kernel_rfl
theorem entEq (x y : Entry) : eqFlat Tryd.prog (encE x).toArray (encE y).toArray (Tryd.prog.fieldsOf T_api_Entry).toList = some (decide (x = y)) := by
  refine (flatE_eq _ _ _ _ _ _ _ _).trans ?_
  congr 1
  obtain ⟨a1, a2, a3, a4⟩ := x
  obtain ⟨b1, b2, b3, b4⟩ := y
  have e3 : ((a3.toNat : Int) == (b3.toNat : Int)) = (a3 == b3) := by
    rw [Bool.eq_iff_iff]; simp [← UInt32.toNat_inj]; omega
  simp only [Entry.mk.injEq, e3]
  by_cases h1 : a1 = b1 <;> by_cases h2 : a2 = b2 <;> by_cases h3 : a3 = b3 <;> by_cases h4 : a4 = b4 <;> simp [h1, h2, h3, h4]
attribute [local irreducible] Tryd.prog
section
variable {F : Bs} {w : World} {l r : List SP} {b d p : Nat} {D : Disk} {Q : Value → World → Prop} {X : Ext}
theorem aud_may (H : Heap F w l) (x : Entry) (k : ∀ w', Heap F w' l → Q (.bool (may x)) w') : Does Tryd.prog N_audit_may #[.agg #[.int .i64 x.kind, .int .i64 x.part, .int .u32 (x.version.toNat : Int), .int .i64 x.code]] w Q := by
  refine F_audit_may_does _ _ _ _ _ _ ?_
  unfold F_audit_may
  refine al H (cs := encE x) (fun a w H => ?_) rfl
  refine ld0 H (dBoth (fun c1 => ld0 H (dBoth (fun c2 => lda H (dBoth (fun c3 => lda H (dBoth (fun c4 => lda H (dBoth (fun c5 => lda H ?_) (fun c5 => ?_))) (fun c4 => ?_))) (fun c3 => ?_))) (fun c2 => ?_))) (fun c1 => ?_))
  · have c1' : (1 : Int) ≤ x.kind := c1
    have c2' : x.kind ≤ 4 := c2
    have c3' : (0 : Int) ≤ x.part := c3
    have c4' : x.part < 8 := c4
    have c5' : (0 : Int) ≤ x.code := c5
    rw [show decide (x.code ≤ 255) = may x by simp [may, c1', c2', c3', c4', c5']]
    exact k _ H.tl
  all_goals
    rw [show false = may x by
      simp only [may]
      first
        | rw [decide_eq_false (show ¬ 1 ≤ x.kind from c1)]; simp
        | rw [decide_eq_false (show ¬ x.kind ≤ 4 from c2)]; simp
        | rw [decide_eq_false (show ¬ 0 ≤ x.part from c3)]; simp
        | rw [decide_eq_false (show ¬ x.part < 8 from c4)]; simp
        | rw [decide_eq_false (show ¬ 0 ≤ x.code from c5)]; simp]
    exact k _ H.tl
theorem aud_sector (H : Heap F w l) (n : Nat) (x : Entry) (k : ∀ (s : Sl) w', Heap F w' (own T_uint8 s (asec n x) :: l) → Q (.slice s.a s.len s.cap) w') (hH : Has l Half := by repeat (first | assumption | constructor)) :
    Does Tryd.prog N_audit_sector #[.int .i64 (n : Int), .agg #[.int .i64 x.kind, .int .i64 x.part, .int .u32 (x.version.toNat : Int), .int .i64 x.code]] w Q := by
  refine F_audit_sector_does _ _ _ _ _ _ _ ?_
  unfold F_audit_sector
  refine al H (cs := encE x) (fun a1 w H => ?_) rfl
  refine al H (cs := [.int .u8 65]) (fun a3 w H => ?_) rfl
  replace H := H.blk_own (n := 1) (cs := [.int .u8 65]) [(65 : UInt8)] rfl (mx (by decide)) rfl
  rw [Go.VC.wrap64]
  refine oct_Put H (k := 4) (by decide) (by decide) fun s2 w H => ⟨_, rfl, ?_⟩
  replace H := H.share (s := s2) (xs := put (u64 n) 4)
  refine apI (s := ⟨some ⟨a3, 0, none⟩, 1, 1⟩) (xs := [(65 : UInt8)]) (ys := put (u64 n) 4) S_l_uint8 H (by simp) fun s3 w H => ?_
  refine ld0 H (lda H ?_)
  rw [Go.VC.wrap8, Go.VC.wrap8]
  refine al H (cs := [.int .u8 ((b8 x.kind).toNat : Int), .int .u8 ((b8 x.part).toNat : Int)]) (fun a4 w H => ?_) rfl
  refine apB (s := s3) (xs := [(65 : UInt8)] ++ put (u64 n) 4) [b8 x.kind, b8 x.part] S_l_uint8 H (by simp) rfl rfl fun s4 w H => ?_
  refine lda H ?_
  rw [wrap64_32]
  refine oct_Put H (k := 4) (by decide) (by decide) fun s5 w H => ⟨_, rfl, ?_⟩
  replace H := H.share (s := s5) (xs := put x.version.toUInt64 4)
  refine apI (s := s4) (xs := [(65 : UInt8)] ++ put (u64 n) 4 ++ [b8 x.kind, b8 x.part]) (ys := put x.version.toUInt64 4) S_l_uint8 H (by simp) fun s6 w H => ?_
  refine lda H ?_
  rw [Go.VC.wrap8]
  refine al H (cs := [.int .u8 ((b8 x.code).toNat : Int)]) (fun a7 w H => ?_) rfl
  refine apB (s := s6) (xs := [(65 : UInt8)] ++ put (u64 n) 4 ++ [b8 x.kind, b8 x.part] ++ put x.version.toUInt64 4) [b8 x.code] S_l_uint8 H (by simp) rfl rfl fun s8 w H => ?_
  have hl := H.lenO (s := s8) (xs := [(65 : UInt8)] ++ put (u64 n) 4 ++ [b8 x.kind, b8 x.part] ++ put x.version.toUInt64 4 ++ [b8 x.code])
  simp at hl
  rw [show ((s8.len : Nat) : Int) = 12 by omega, i64_id (by omega)]
  refine appZ (s := s8) (xs := [(65 : UInt8)] ++ put (u64 n) 4 ++ [b8 x.kind, b8 x.part] ++ put x.version.toUInt64 4 ++ [b8 x.code]) (d := (0 : UInt8)) Z_l_uint8 und_i H (by omega) (by simp) (mx (by simp)) fun s9 w H => ?_
  replace H := H.share (s := s9) (xs := [(65 : UInt8)] ++ put (u64 n) 4 ++ [b8 x.kind, b8 x.part] ++ put x.version.toUInt64 4 ++ [b8 x.code] ++ List.replicate (60 - 12 : Int).toNat 0)
  refine crc_Seal (s := s9) (bb := [(65 : UInt8)] ++ put (u64 n) 4 ++ [b8 x.kind, b8 x.part] ++ put x.version.toUInt64 4 ++ [b8 x.code] ++ List.replicate (60 - 12 : Int).toNat 0) H (by simp) (fun s10 w H => ⟨_, rfl, k s10 _ ?_⟩)
  have e : seal_ ([(65 : UInt8)] ++ put (u64 n) 4 ++ [b8 x.kind, b8 x.part] ++ put x.version.toUInt64 4 ++ [b8 x.code] ++ List.replicate (60 - 12 : Int).toNat 0) = asec n x := rfl
  rw [e] at H
  exact (((H.dr2 (imm s9 _) (blk a7 _ _)).dr2 (imm s5 _) (blk a4 _ _)).dr2 (imm s2 _) (blk a1 _ _)).take (.h)
def LogAt (b p : Nat) (L : List Entry) (dead : Bool) : SP := SP.of fun s : Sl => [blk b T_audit_Log [.pointer (some ⟨p, 0, none⟩), s.v, .bool dead], own T_api_Entry s L]
theorem log_cls {dead : Bool} {s : Sl} {L : List Entry} (H : Heap F w l) (hT : Takes l [blk b T_audit_Log [.pointer (some ⟨p, 0, none⟩), s.v, .bool dead], own T_api_Entry s L] r := by repeat (first | assumption | constructor)) : Heap F w (LogAt b p L dead :: r) :=
  H.cls (f := fun s : Sl => [blk b T_audit_Log [.pointer (some ⟨p, 0, none⟩), s.v, .bool dead], own T_api_Entry s L]) s hT
theorem wrapE (l : List UInt8) : IntKind.wrap .i64 ((Nac.get (l.take 1)).toNat : Int) = ((Nac.get (l.take 1)).toNat : Int) := by
  have := get_one l
  rw [i64_id (by omega)]
/-- a sector is looked at -/
theorem aud_at {s : Value} {dv : Value} {r1 r2 r3 : List SP} (H : Heap F w l) (n : Nat) (hx : ∀ x ∈ D.has, x.length = 64) (hread : (pread D X n).2 = 0 → (pread D X n).1.length = 64)
    (k1 : (pread D X n).2 ≠ 0 → ∀ w', Heap F w' (blk b T_audit_Log [.pointer (some ⟨p, 0, none⟩), s, dv] :: PartAt p d X :: DiskAt d D :: r3) → Q (.tuple #[.agg #[.int .i64 0, .int .i64 0, .int .u32 0, .int .i64 0], .bool false, .int .i64 (pread D X n).2]) w')
    (k2 : (pread D X n).2 = 0 → ∀ w', Heap F w' (blk b T_audit_Log [.pointer (some ⟨p, 0, none⟩), s, dv] :: PartAt p d X :: DiskAt d D :: r3) →
      Q (.tuple #[.agg #[.int .i64 (ent (pread D X n).1).kind, .int .i64 (ent (pread D X n).1).part, .int .u32 ((ent (pread D X n).1).version.toNat : Int), .int .i64 (ent (pread D X n).1).code], .bool (said n (pread D X n).1), .int .i64 0]) w')
    (hT : Take l (blk b T_audit_Log [.pointer (some ⟨p, 0, none⟩), s, dv]) r1 := by repeat (first | assumption | constructor)) (hP : Take r1 (PartAt p d X) r2 := by repeat (first | assumption | constructor)) (hD : Take r2 (DiskAt d D) r3 := by repeat (first | assumption | constructor)) (hH : Has r3 Half := by repeat (first | assumption | constructor)) :
    Does Tryd.prog N_audit_Log_at #[.pointer (some ⟨b, 0, none⟩), .int .i64 (n : Int)] w Q := by
  refine F_audit_Log_at_does _ _ _ _ ?_
  unfold F_audit_Log_at
  refine al (H.take hT) (cs := [.int .i64 0, .int .i64 0, .int .u32 0, .int .i64 0]) (fun a1 w H => ?_) zc_api_Entry
  refine nn (ld0 H ?_)
  refine part_Read (D := D) (x := X) (d := d) H (fun s1 w H => ⟨s1, _, rfl, ?_⟩) (.t (.t hP)) (.t (.t hD))
  by_cases he : (pread D X n).2 = 0
  · rw [he]
    refine cF rfl ?_
    have k := k2 he
    have h64 := hread he
    generalize (pread D X n).1 = bb at *
    clear k1 k2
    replace H := H.share (s := s1) (xs := bb)
    have hl := H.len (s := s1) (xs := bb)
    refine slcI (s := s1) (xs := bb) H (by omega) (by omega) (by omega) fun t H => ?_
    rw [show (5 : Int).toNat = 5 from rfl, show ((s1.len : Nat) : Int).toNat - 5 = 59 by omega] at H
    have e59 : (bb.drop 5).take 59 = bb.drop 5 := List.take_of_length_le (by simp; omega)
    rw [e59] at H
    have hrl : (bb.drop 5).length = 59 := by simp; omega
    refine oct_Read (bb := bb.drop 5) H (by omega) fun o w H => ⟨_, rfl, ?_⟩
    refine oct_Num (b := o) (bb := bb.drop 5) (n := 0) (m := 1) H (by decide) (by decide) (by omega) fun w H => ⟨_, rfl, ?_⟩
    refine oct_Num (b := o) (bb := bb.drop 5) (n := 1) (m := 1) H (by decide) (by decide) (by omega) fun w H => ⟨_, rfl, ?_⟩
    refine oct_Num (b := o) (bb := bb.drop 5) (n := 2) (m := 4) H (by decide) (by decide) (by omega) fun w H => ⟨_, rfl, ?_⟩
    refine oct_Num (b := o) (bb := bb.drop 5) (n := 6) (m := 1) H (by decide) (by decide) (by omega) fun w H => ⟨_, rfl, ?_⟩
    rw [wrapE, wrapE, wrapE, wrap32_64]
    refine al H (cs := [.int .i64 0, .int .i64 0, .int .u32 0, .int .i64 0]) (fun a2 w H => ?_) zc_api_Entry
    refine st0 H fun w H => sta H fun w H => sta H fun w H => sta H fun w H => ?_
    refine ld0 H.drew (lda H.drew (lda H.drew (lda H.drew (ld0 H.drew (lda H.drew (lda H.drew (lda H.drew ?_)))))))
    refine aud_may H.drew (ent bb) fun w H => ⟨_, rfl, ⟨rfl, rowB H⟩, ?_⟩
    cases hm : may (ent bb)
    · refine cF rfl ?_
      refine st0 H fun w H => sta H fun w H => sta H fun w H => sta H fun w H => ?_
      refine ld0 H (lda H (lda H (lda H ?_)))
      have := k w ?_
      · rw [show said n bb = false by simp [said, hm]] at this
        exact this
      · replace H := ((H.dr2 (blk a1 _ _) (blk a2 _ _)).dr2 (RdAt o _ _) (imm t _)).dr (imm s1 _)
        exact (H.take (.t (.t .h)))
    · refine cT rfl ?_
      refine ld0 H (lda H (lda H (lda H ?_)))
      refine ⟨_, cvI (s := s1) (xs := bb) H und_l8 und_8 und_s, ?_⟩
      refine aud_sector H n (ent bb) (fun s5 w H => ⟨_, rfl, cvI (s := s1) (xs := bb) H und_l8 und_8 und_s, ⟨rfl, rowB H⟩, _, cvO (s := s5) (xs := asec n (ent bb)) H und_l8 und_8 und_s, ?_⟩) ?_
      · refine st0 H fun w H => sta H fun w H => sta H fun w H => sta H fun w H => ?_
        refine ⟨cvO (s := s5) (xs := asec n (ent bb)) H und_l8 und_8 und_s, cvI (s := s1) (xs := bb) H und_l8 und_8 und_s, ?_⟩
        refine ld0 H (lda H (lda H (lda H ?_)))
        have := k w ?_
        · rw [show said n bb = ((bs (asec n (ent bb))).toList == (bs bb).toList) by simp [said, hm]] at this
          exact this
        · replace H := (((H.dr2 (blk a1 _ _) (blk a2 _ _)).dr2 (RdAt o _ _) (imm t _)).dr (imm s1 _)).dr (own T_uint8 s5 _)
          exact (H.take (.t (.t .h)))
      · repeat (first | assumption | constructor)
  · refine cT (by simpa using he) ?_
    refine st0 H fun w H => sta H fun w H => sta H fun w H => sta H fun w H => ?_
    refine ld0 H (lda H (lda H (lda H ?_)))
    refine k1 he w ?_
    replace H := (H.dr2 (blk a1 _ _) (own T_uint8 s1 _))
    exact (H.take (.t (.t .h)))
end
end Go.Proofs.YtkfcmpngcanffaaDoor.G

set_option linter.unusedVariables false
set_option linter.unusedSimpArgs false
namespace Nac
theorem last_len {l : List Wr} (h : ∀ w ∈ l, w.b.length = 64) {at_ : Int} {c : List UInt8} (hc : c.length = 64) : (Disk.last l at_ c).length = 64 := by
  induction l generalizing c with
  | nil => exact hc
  | cons w l ih =>
    refine ih (fun x hx => h x (by simp [hx])) ?_
    dsimp only
    split
    · exact h w (by simp)
    · exact hc
theorem read_len {D : Disk} (ok : D.ok) {n : Int} (h : (D.read n).2 = 0) : (D.read n).1.length = 64 := by
  unfold Disk.read at *
  cases hi : D.inB n
  · rw [hi] at h; cases h
  · rw [hi] at h
    cases ho : D.off
    · simp only [cond_true, cond_false]
      refine last_len (fun w hw => (ok.waits w hw).2.2) ?_
      simp [Disk.inB] at hi
      rw [List.getD_eq_getElem?_getD, List.getElem?_eq_getElem (by omega)]
      exact ok.has _ (List.getElem_mem _)
    · rw [ho] at h; cases h
theorem pread_len {D : Disk} (ok : D.ok) {X : Ext} {n : Int} (h : (pread D X n).2 = 0) : (pread D X n).1.length = 64 := by
  unfold pread at *
  by_cases hn : 0 ≤ n ∧ n < X.count
  · rw [if_pos hn] at *; exact read_len ok h
  · rw [if_neg hn] at h; cases h
theorem scan_len (D : Disk) (X : Ext) : ∀ k n, (scan D X k n).1.length ≤ k
  | 0, _ => Nat.le_refl _
  | k + 1, n => by
    rw [scan]; split
    · simp
    · split
      · simp only [List.length_cons]; have := scan_len D X k (n + 1); omega
      · simp
end Nac
namespace Go.Proofs.YtkfcmpngcanffaaDoor.G
open Go Go.VC Go.RowKit Go.Proofs Go.Proofs.YtkfcmpngcanffaaDoor Nac
attribute [local irreducible] Tryd.prog
section
variable {F : Bs} {w : World} {l r : List SP} {b d p : Nat} {D : Disk} {Q : Value → World → Prop} {X : Nac.Ext}
theorem Heap.e4 {cs : List Value} {x : Entry} (H : Heap F w (rep cs x :: l)) : cs = encE x := H.pure .h fun _ _ h => h
theorem Heap.mkE (H : Heap F w l) (x : Entry) : Heap F w (rep (encE x) x :: l) := H.add0 fun _ => rfl
theorem aud_Open {r1 r2 : List SP} (H : Heap F w l)
    (k1 : (scan D X X.count.toNat 0).2 = 0 → ∀ (b : Nat) w', Heap F w' (LogAt b p (scan D X X.count.toNat 0).1 false :: PartAt p d X :: DiskAt d D :: r2) → Q (.tuple #[.pointer (some ⟨b, 0, none⟩), .int .i64 0]) w')
    (k2 : (scan D X X.count.toNat 0).2 ≠ 0 → ∀ w', Heap F w' (PartAt p d X :: DiskAt d D :: r2) → Q (.tuple #[.pointer none, .int .i64 (scan D X X.count.toNat 0).2]) w')
    (hP : Take l (PartAt p d X) r1 := by repeat (first | assumption | constructor)) (hD : Take r1 (DiskAt d D) r2 := by repeat (first | assumption | constructor)) (hH : Has r2 Half := by repeat (first | assumption | constructor)) :
    Does Tryd.prog N_audit_Open #[.pointer (some ⟨p, 0, none⟩)] w Q := by
  refine F_audit_Open_does _ _ _ ?_
  unfold F_audit_Open
  replace H := ((H.take hP).take (.t hD))
  have ok := disk_ok H .h
  replace H := H.take (.t .h)
  have okX : 0 ≤ X.from_ ∧ X.from_ + X.count ≤ 1000000 ∧ 0 ≤ X.count := H.pure (c := PartAt p d X) .h fun ro h ⟨x, h1, h2, _, _, _, hc, _⟩ => hc
  refine al H (cs := [.pointer (some ⟨p, 0, none⟩), (Sl.v ⟨none, 0, 0⟩), .bool false]) (fun a1 w H => ?_) rfl
  refine part_Size (x := X) (d := d) H ⟨_, rfl, ?_⟩
  refine ⟨fun x w' => ∃ (i : Nat) (done : List Entry) (s : Sl), x = i ∧ i ≤ X.count.toNat ∧ done.length = i ∧ scan D X X.count.toNat 0 = (done ++ (scan D X (X.count.toNat - i) i).1, (scan D X (X.count.toNat - i) i).2) ∧
      Heap F w' (blk a1 T_audit_Log [.pointer (some ⟨p, 0, none⟩), s.v, .bool false] :: own T_api_Entry s done :: PartAt p d X :: DiskAt d D :: r2), fun x _ => (X.count - x).toNat,
    ⟨0, [], ⟨none, 0, 0⟩, rfl, by omega, rfl, rfl, ?_⟩, ?_⟩
  · exact (H.own_nil (α := Entry) T_api_Entry).take (.t .h)
  rintro x w1 ⟨i, done, s, rfl, hi, hdl, hsc, H⟩
  refine dBoth (fun hlt => ?_) (fun hge => ?_)
  · have hlt' : i < X.count.toNat := by omega
    have hk : X.count.toNat - i = (X.count.toNat - (i + 1)) + 1 := by omega
    rw [hk, scan] at hsc
    refine aud_at (D := D) (X := X) (d := d) (p := p) (r3 := own T_api_Entry s done :: r2) H i ok.has (pread_len ok) (fun he w H => ?_) (fun he w H => ?_) .h (.t .h) (.t .h) (.t hH)
    · rw [if_pos he] at hsc
      refine ⟨_, _, _, _, _, _, rfl, ?_⟩
      refine al H (cs := [.int .i64 0, .int .i64 0, .int .u32 0, .int .i64 0]) (fun a2 w H => ?_) zc_api_Entry
      refine st0 H fun w H => sta H fun w H => sta H fun w H => sta H fun w H => ?_
      refine cT (by simpa using he) ?_
      have := k2 (by rw [hsc]; exact he) w
      rw [hsc] at this
      exact this ((((H.dr (blk a2 _ _)).dr (blk a1 _ _)).dr (own _ s done)))
    · rw [if_neg (by simpa using he)] at hsc
      refine ⟨_, _, _, _, _, _, rfl, ?_⟩
      refine al H (cs := [.int .i64 0, .int .i64 0, .int .u32 0, .int .i64 0]) (fun a2 w H => ?_) zc_api_Entry
      refine st0 H fun w H => sta H fun w H => sta H fun w H => sta H fun w H => ?_
      refine cF rfl ?_
      cases hs : said i (pread D X i).1
      · rw [hs, if_neg (by decide)] at hsc
        refine cT rfl ?_
        have := k1 (by rw [hsc]) a1 w
        rw [hsc] at this
        simp only [List.append_nil] at this
        exact this (log_cls (H.dr (blk a2 _ _)))
      · rw [hs, if_pos rfl] at hsc
        refine cF rfl ?_
        refine nn (lda H.drew (ld0 H.drew (lda H.drew (lda H.drew (lda H.drew ?_)))))
        refine al H.drew (cs := encE (ent (pread D X i).1)) (fun a3 w H => ?_) rfl
        refine ⟨cella H, ?_⟩
        replace H := Heap.mkE H (ent (pread D X i).1)
        refine psh (s := s) (xs := done) (y := ent (pread D X i).1) S_l_api_Entry H (by omega) fun s2 w H => ?_
        refine nn (sta H fun w H => ?_)
        refine ⟨⟨i + 1, done ++ [ent (pread D X i).1], s2, by rw [i64_id (by omega)]; omega, by omega, by simp [hdl], by rw [hsc]; simp, ?_⟩, by rw [i64_id (by omega)]; dsimp only; omega⟩
        replace H := H.dr (rep _ (ent (pread D X i).1))
        replace H := H.dr (blk a3 _ _)
        replace H := H.dr (blk a2 _ _)
        exact H
  · obtain rfl : i = X.count.toNat := by omega
    rw [Nat.sub_self, scan, List.append_nil] at hsc
    have := k1 (by rw [hsc]) a1 w1
    rw [hsc] at this
    exact this (log_cls H)
theorem aud_Entries {L : List Entry} {dead : Bool} (H : Heap F w l) (hn : L.length ≤ 1000000) (k : ∀ (s : Sl) w', Heap F w' (own T_api_Entry s L :: LogAt b p L dead :: r) → Q (.slice s.a s.len s.cap) w') (hT : Take l (LogAt b p L dead) r := by repeat (first | assumption | constructor)) :
    Does Tryd.prog N_audit_Log_Entries #[.pointer (some ⟨b, 0, none⟩)] w Q := by
  refine F_audit_Log_Entries_does _ _ _ ?_
  unfold F_audit_Log_Entries
  obtain ⟨s, H⟩ := (H.take hT).opn
  dsimp only [List.cons_append, List.nil_append] at H
  refine nn (lda H ?_)
  refine cpO (ys := L) (x := s) S_l_api_Entry H (by omega) fun s2 w H => k s2 w ?_
  exact (log_cls (r := own T_api_Entry s2 L :: r) H (.c (.t .h) (.c (.t .h) .n))).take (.t .h)
theorem aud_Add {L : List Entry} {dead : Bool} {r0 r1 r2 : List SP} {x : Entry} (H : Heap F w l) (hw : D.waits.length < 100000) (hn : L.length ≤ 1000000)
    (k : ∀ w', Heap F w' (LogAt b p (aadd D X L dead x).2.1 (aadd D X L dead x).2.2.1 :: PartAt p d X :: DiskAt d (aadd D X L dead x).1 :: r2) → Q (.int .i64 (aadd D X L dead x).2.2.2) w')
    (hL : Take l (LogAt b p L dead) r0 := by repeat (first | assumption | constructor)) (hP : Take r0 (PartAt p d X) r1 := by repeat (first | assumption | constructor)) (hD : Take r1 (DiskAt d D) r2 := by repeat (first | assumption | constructor)) (hH : Has r2 Half := by repeat (first | assumption | constructor)) :
    Does Tryd.prog N_audit_Log_Add #[.pointer (some ⟨b, 0, none⟩), .agg #[.int .i64 x.kind, .int .i64 x.part, .int .u32 (x.version.toNat : Int), .int .i64 x.code]] w Q := by
  refine F_audit_Log_Add_does _ _ _ _ _ _ _ ?_
  unfold F_audit_Log_Add
  replace H := ((H.take hL).take (.t hP)).take (.t (.t hD))
  replace H := (H.take (.t .h)).take (.t (.t .h))
  obtain ⟨s, H⟩ := H.opn
  dsimp only [List.cons_append, List.nil_append] at H
  unfold aadd at k
  refine al H (cs := encE x) (fun a1 w H => ?_) rfl
  refine nn (lda H (cBoth (fun hd => ?_) (fun hd => ?_)))
  · subst hd
    refine k _ ?_
    exact log_cls (H.dr (blk a1 _ _))
  subst hd
  rw [cond_false] at k
  refine ld0 H (lda H (lda H (lda H ?_)))
  refine aud_may H x fun w H => ⟨_, rfl, ?_⟩
  cases hm : may x
  · rw [hm, cond_false] at k
    refine cT rfl (k _ ?_)
    exact log_cls (H.dr (blk a1 _ _))
  rw [hm, cond_true] at k
  refine cF rfl ?_
  have hl := H.lenO (s := s) (xs := L)
  refine nn (lda H.drew (nn (ld0 H.drew ?_)))
  refine part_Size (x := X) (d := d) H.drew ⟨_, rfl, cella H.drew, ?_⟩
  by_cases hfull : (L.length : Int) = X.count
  · rw [if_pos hfull] at k
    refine cT (by rw [← hl]; simpa using hfull) (k _ ?_)
    exact log_cls (H.drew.dr (blk a1 _ _))
  rw [if_neg hfull] at k
  refine cF (by rw [← hl]; simpa using hfull) ?_
  replace H := H.drew
  refine nn (ld0 H.drew (nn (lda H.drew (nn (lda H.drew ?_)))))
  refine ld0 H.drew (lda H.drew (lda H.drew (lda H.drew ?_)))
  rw [← hl]
  refine aud_sector H.drew L.length x (fun s2 w H => ⟨_, rfl, ?_⟩)
  refine ⟨by rw [hl]; exact cella H, cell0 H, ?_⟩
  replace H := H.share (s := s2) (xs := asec L.length x)
  refine part_Write (x := X) (d := d) (D := D) (bb := asec L.length x) H (by omega) fun w H => ⟨_, rfl, ?_⟩
  have hwl : (pwrite D X L.length (asec L.length x)).1.waits.length ≤ D.waits.length + 1 := by
    unfold pwrite; split
    · unfold Disk.write
      have := Disk.goes_waits D
      cases D.inB _ <;> simp
      split
      · cases D.goes.2 <;> simp <;> omega
      · simp
    · simp
  generalize pwrite D X L.length (asec L.length x) = W at *
  obtain ⟨D1, e1⟩ := W
  dsimp only at *
  intro J hJ
  have bad : ∀ (D2 : Disk) (e : Int) w' (lst : List SP), e ≠ 0 → Heap F w' (PartAt p d X :: DiskAt d D2 :: imm s2 (asec L.length x) :: blk a1 T_api_Entry (encE x) :: blk b T_audit_Log [.pointer (some ⟨p, 0, none⟩), s.v, .bool false] :: own T_api_Entry s L :: r2) →
      (∀ w', Heap F w' (LogAt b p L true :: PartAt p d X :: DiskAt d D2 :: r2) → Q (.int .i64 e) w') → J e w' := fun D2 e w' _ he H kk => by
    refine hJ e w' (cT (by simpa using he) (nn (sta H fun w H => kk _ ?_)))
    replace H := H.dr2 (imm s2 _) (blk a1 _ _)
    exact log_cls H
  by_cases he : e1 = 0
  · subst he
    refine cT rfl (nn (ld0 H ?_))
    simp only [if_true] at k
    refine part_Flush (x := X) (d := d) (D := D1) H fun w H => ⟨_, rfl, ?_⟩
    generalize D1.flush = W2 at *
    obtain ⟨D2, e2⟩ := W2
    dsimp only at *
    by_cases he2 : e2 = 0
    · subst he2
      simp only [if_true] at k
      refine hJ 0 w (cF rfl ?_)
      refine nn (lda H.drew (ld0 H.drew (lda H.drew (lda H.drew (lda H.drew ?_)))))
      refine al H.drew (cs := encE x) (fun a3 w H => ?_) rfl
      refine ⟨cella H, ?_⟩
      replace H := Heap.mkE H x
      refine psh (s := s) (xs := L) (y := x) S_l_api_Entry H (by omega) fun s3 w H => ?_
      refine nn (sta H fun w H => k w ?_)
      replace H := (H.dr2 (blk a3 _ _) (rep _ x)).dr2 (imm s2 _) (blk a1 _ _)
      exact log_cls H
    · rw [if_neg he2] at k
      exact bad D2 e2 w [] he2 H k
  · rw [if_neg he] at k
    refine cF (by simpa using he) ?_
    exact bad D1 e1 w [] he H k
end
end Go.Proofs.YtkfcmpngcanffaaDoor.G
