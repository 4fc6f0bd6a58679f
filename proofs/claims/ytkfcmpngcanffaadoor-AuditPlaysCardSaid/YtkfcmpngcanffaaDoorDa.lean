import Derived.Test.YtkfcmpngcanffaaDoorGenz
import Derived.Test.YtkfcmpngcanffaaDoorSg
import Derived.Test.YtkfcmpngcanffaaDoorNa
set_option linter.unusedVariables false
set_option linter.unusedSimpArgs false
namespace Go.Proofs.YtkfcmpngcanffaaDoor.G
open Go Go.VC Go.RowKit Go.Proofs Go.Proofs.YtkfcmpngcanffaaDoor Nac
instance : Rep Wr where
  n := 2
  r := fun ro cs x => ∃ s : Sl, cs = [.int .i64 x.at_, s.v] ∧ immL ro s x.b
  mono := fun h ⟨s, e, hi⟩ => ⟨s, e, hi.mono h⟩
  len := fun ⟨s, e, _⟩ => by rw [e]; rfl
  one := fun ⟨s, e, _⟩ u hu => by rw [e] at hu; simp at hu; rcases hu with rfl | rfl <;> rfl
theorem open_Wr {F : Bs} {w : World} {l : List SP} {cs : List Value} {x : Wr} (H : Heap F w (rep cs x :: l)) : ∃ t : Sl, cs = [.int .i64 x.at_, t.v] ∧ Heap F w (imm t x.b :: l) := by
  obtain ⟨t, H⟩ := H.ex (c' := fun t : Sl => [pur (cs = [.int .i64 x.at_, t.v]), imm t x.b]) fun ro h ⟨t, e, hi⟩ => ⟨t, PH.emp, PH.emp, fun _ => .inl rfl, PH.emp_le _, PH.emp_le _, e, PH.emp, PH.emp, fun _ => .inl rfl, PH.le.refl _, PH.le.refl _, hi, trivial⟩
  exact ⟨t, H.pur.1, H.pur.2⟩
theorem close_Wr {F : Bs} {w : World} {l : List SP} {x : Wr} {s : Sl} (H : Heap F w l) (hT : Has l (imm s x.b) := by repeat (first | assumption | constructor)) : Heap F w (rep [.int .i64 x.at_, s.v] x :: l) := H.add hT fun ro h hi => ⟨s, rfl, hi⟩
def hasV (g n : Nat) : Sl := ⟨some ⟨g, 0, none⟩, n, n⟩
def DiskAt (b : Nat) (D : Disk) : SP := SP.of fun x : Nat × Sl × Sl × Int =>
  [pur (D.ok ∧ (0 ≤ D.left → x.2.2.2 = D.left)), blk b T_disk_Disk [(hasV x.1 (64 * D.has.length)).v, x.2.1.v, .bool D.off, .bool (decide (0 ≤ D.left)), .int .i64 x.2.2.2, x.2.2.1.v],
   blk x.1 T_uint8 (D.has.flatten.map Sc.enc), own T_disk_write x.2.1 D.waits, imm x.2.2.1 D.surv]
theorem flat_set {b : List UInt8} (hb : b.length = 64) : ∀ (L : List (List UInt8)), (∀ s ∈ L, s.length = 64) → ∀ i, i < L.length → (L.set i b).flatten = L.flatten.take (64 * i) ++ b ++ L.flatten.drop (64 * i + 64)
  | [], _, i, hi => by simp at hi
  | s :: L, h, 0, _ => by
    have hs : s.length = 64 := h s (by simp)
    simp only [List.set_cons_zero, List.flatten_cons, Nat.mul_zero, List.take_zero, List.nil_append, Nat.zero_add]
    rw [List.drop_append, hs, Nat.sub_self, List.drop_zero, List.drop_of_length_le (by omega), List.nil_append]
  | s :: L, h, i + 1, hi => by
    have hs : s.length = 64 := h s (by simp)
    simp only [List.set_cons_succ, List.flatten_cons]
    rw [flat_set hb L (fun x hx => h x (by simp [hx])) i (by simpa using hi), List.take_append, List.drop_append, hs, List.take_of_length_le (show s.length ≤ 64 * (i + 1) by omega), List.drop_of_length_le (show s.length ≤ 64 * (i + 1) + 64 by omega)]
    rw [show 64 * (i + 1) - 64 = 64 * i by omega, show 64 * (i + 1) + 64 - 64 = 64 * i + 64 by omega]
    simp
theorem flat_len64 : ∀ (L : List (List UInt8)), (∀ s ∈ L, s.length = 64) → L.flatten.length = 64 * L.length
  | [], _ => rfl
  | s :: L, h => by
    rw [List.flatten_cons, List.length_append, h s (by simp), flat_len64 L fun x hx => h x (by simp [hx]), List.length_cons]; omega
theorem flat_get64 : ∀ (L : List (List UInt8)), (∀ s ∈ L, s.length = 64) → ∀ i (hi : i < L.length), (L.flatten.drop (64 * i)).take 64 = L[i]
  | [], _, i, hi => by simp at hi
  | s :: L, h, 0, _ => by
    have hs : s.length = 64 := h s (by simp)
    simp [List.take_append, hs]
  | s :: L, h, i + 1, hi => by
    have hs : s.length = 64 := h s (by simp)
    rw [List.flatten_cons, List.drop_append, hs, List.drop_of_length_le (by omega), show 64 * (i + 1) - 64 = 64 * i by omega, List.nil_append, flat_get64 L (fun x hx => h x (by simp [hx])) i (by simpa using hi)]
    rfl
theorem und_l8 : Tryd.prog.underlying T_l_uint8 = some (.slice T_uint8) := by kernel_rfl
theorem und_8 : Tryd.prog.underlying T_uint8 = some (.int .u8) := by kernel_rfl
theorem und_s : Tryd.prog.underlying T_string = some .string := by kernel_rfl
theorem und_i : Tryd.prog.underlying T_int = some (.int .i64) := by kernel_rfl
attribute [local irreducible] Tryd.prog
section
variable {F : Bs} {w : World} {l r : List SP} {b : Nat} {D : Disk} {Q : Value → World → Prop}
theorem disk_cls {has : List UInt8} {n g : Nat} {off armed : Bool} {left : Int} {ws sv : Sl} {waits : List Wr} {surv : List Bool} (H : Heap F w l) (D : Disk) (ok : D.ok) (h1 : has = D.has.flatten) (hn : n = 64 * D.has.length) (h2 : off = D.off)
    (h3 : armed = decide (0 ≤ D.left)) (h4 : 0 ≤ D.left → left = D.left) (h5 : waits = D.waits) (h6 : surv = D.surv)
    (hT : Takes l [blk b T_disk_Disk [(hasV g n).v, ws.v, .bool off, .bool armed, .int .i64 left, sv.v], blk g T_uint8 (has.map Sc.enc), own T_disk_write ws waits, imm sv surv] r := by repeat (first | assumption | constructor)) : Heap F w (DiskAt b D :: r) := by
  subst h1; subst hn; subst h2; subst h3; subst h5; subst h6
  exact ((H.takes hT).addp (φ := D.ok ∧ (0 ≤ D.left → left = D.left)) ⟨ok, h4⟩).cls (g, ws, sv, left)
theorem disk_ok (H : Heap F w l) (hT : Has l (DiskAt b D) := by repeat (first | assumption | constructor)) : D.ok := H.pure hT fun ro h ⟨x, h1, h2, _, _, _, hc, _⟩ => hc.1
theorem disk_On (H : Heap F w l) (k : Q (.bool (!D.off)) w) (hT : Take l (DiskAt b D) r := by repeat (first | assumption | constructor)) : Does Tryd.prog N_disk_Disk_On #[.pointer (some ⟨b, 0, none⟩)] w Q := by
  refine F_disk_Disk_On_does _ _ _ ?_
  unfold F_disk_Disk_On
  obtain ⟨⟨g, ws, sv, left⟩, H⟩ := (H.take hT).opn; dsimp only [List.cons_append, List.nil_append] at H; obtain ⟨⟨ok, hl⟩, H⟩ := H.pur
  refine nn (lda H ?_)
  exact k
theorem disk_Size (H : Heap F w l) (k : Q (.int .i64 (D.has.length : Int)) w) (hT : Take l (DiskAt b D) r := by repeat (first | assumption | constructor)) : Does Tryd.prog N_disk_Disk_Size #[.pointer (some ⟨b, 0, none⟩)] w Q := by
  refine F_disk_Disk_Size_does _ _ _ ?_
  unfold F_disk_Disk_Size
  obtain ⟨⟨g, ws, sv, left⟩, H⟩ := (H.take hT).opn; dsimp only [List.cons_append, List.nil_append] at H; obtain ⟨⟨ok, hl⟩, H⟩ := H.pur
  refine nn (ld0 H ⟨by decide, ?_⟩)
  have := ok.size
  rw [show IntKind.wrap .i64 (Int.tdiv (((hasV g (64 * D.has.length)).len : Nat) : Int) 64) = (D.has.length : Int) by
    rw [show ((hasV g (64 * D.has.length)).len : Int) = 64 * (D.has.length : Int) by simp [hasV], Int.mul_comm, Int.mul_tdiv_cancel _ (by decide), i64_id (by omega)]]
  exact k
theorem disk_in (H : Heap F w l) {at_ : Int} (k : Q (.bool (D.inB at_)) w) (hT : Take l (DiskAt b D) r := by repeat (first | assumption | constructor)) : Does Tryd.prog N_disk_Disk_in #[.pointer (some ⟨b, 0, none⟩), .int .i64 at_] w Q := by
  refine F_disk_Disk_in_does _ _ _ _ ?_
  unfold F_disk_Disk_in
  refine dBoth (fun h0 => disk_Size H ⟨_, rfl, ?_⟩ hT) (fun h0 => ?_)
  · rw [show decide (at_ < (D.has.length : Int)) = D.inB at_ by simp [Disk.inB, show 0 ≤ at_ from h0]]; exact k
  · rw [show false = D.inB at_ by simp [Disk.inB]; omega]; exact k
theorem disk_sector {g : Nat} {ws sv : Value} {v1 v2 v3 : Value} {n : Nat} (H : Heap F w l) {at_ : Int} (h0 : 0 ≤ at_) (h1 : 64 * at_ + 64 ≤ n) (hn : n ≤ 100000)
    (k : Q (.slice (some ⟨g, at_.toNat * 64, none⟩) 64 (n - at_.toNat * 64)) w) (hT : Has l (blk b T_disk_Disk [(hasV g n).v, ws, v1, v2, v3, sv]) := by repeat (first | assumption | constructor)) :
    Does Tryd.prog N_disk_Disk_sector #[.pointer (some ⟨b, 0, none⟩), .int .i64 at_] w Q := by
  refine F_disk_Disk_sector_does _ _ _ _ ?_
  unfold F_disk_Disk_sector
  refine nn (ld0 H ?_ hT)
  rw [i64_id (n := at_ + 1) (by omega), i64_id (by omega), i64_id (by omega)]
  refine ⟨by omega, by simp [hasV]; omega, by omega, by omega, ?_⟩
  have e1 : (at_ * 64).toNat = at_.toNat * 64 := by omega
  have e2 : ((at_ + 1) * 64).toNat - at_.toNat * 64 = 64 := by omega
  have e3 : ¬ n = at_.toNat * 64 := by omega
  simp only [hasV, e1, e2, e3, if_false, Option.map_some, add_mk, Nat.zero_add, Nat.mul_one]
  exact k
theorem layS_drop {l : List Wr} {s : List Bool} {i : Nat} (h : i < l.length) (cur : List (List UInt8)) : Disk.layS cur (l.drop i) (s.drop i) = Disk.layS (if i < s.length ∧ s.getD i false = true then Disk.lay cur l[i] else cur) (l.drop (i + 1)) (s.drop (i + 1)) := by
  rw [List.drop_eq_getElem_cons h]
  by_cases hs : i < s.length
  · rw [List.drop_eq_getElem_cons hs, Disk.layS]
    congr 1
    simp only [hs, true_and, List.getD_eq_getElem?_getD, List.getElem?_eq_getElem hs, Option.getD_some]
    cases s[i] <;> rfl
  · have e1 : s.drop i = [] := List.drop_of_length_le (by omega)
    have e2 : s.drop (i + 1) = [] := List.drop_of_length_le (by omega)
    rw [if_neg (by simp [hs]), e1, e2]
    cases l.drop (i + 1) <;> rfl
theorem disk_Crash (H : Heap F w l) {s : Sl} {surv : List Bool} (k : ∀ w', Heap F w' (DiskAt b (D.crash surv) :: r) → Q (.tuple #[]) w') (hT : Take l (DiskAt b D) r := by repeat (first | assumption | constructor)) (hS : Has r (imm s surv) := by repeat (first | assumption | constructor)) :
    Does Tryd.prog N_disk_Disk_Crash #[.pointer (some ⟨b, 0, none⟩), .slice s.a s.len s.cap] w Q := by
  refine F_disk_Disk_Crash_does _ _ _ _ ?_
  unfold F_disk_Disk_Crash
  obtain ⟨⟨g, ws, sv, left⟩, H⟩ := (H.take hT).opn; dsimp only [List.cons_append, List.nil_append] at H; obtain ⟨⟨ok, hl⟩, H⟩ := H.pur
  refine nn (lda H (cBoth (fun hoff => ?_) (fun hoff => ?_)))
  · have e : D.crash surv = D := by simp [Disk.crash, hoff]
    rw [e] at k
    exact k w (disk_cls H D ok rfl rfl rfl rfl hl rfl rfl)
  refine nn (lda H ?_)
  have hcr : D.crash surv = { D with has := Disk.layS D.has D.waits surv, waits := [], off := true, left := -1 } := by simp [Disk.crash, hoff]
  rw [hcr] at k
  have hsz := ok.size
  have hwl := H.lenO (s := ws) (xs := D.waits)
  have hwb := H.bndO (s := ws) (xs := D.waits)
  have hsl := H.len (s := s) (xs := surv) (hT := .t (.t (.t (.t hS))))
  refine ⟨fun x w' => ∃ (i : Nat) (cur : List (List UInt8)), x = i ∧ i ≤ D.waits.length ∧ cur.length = D.has.length ∧ (∀ s ∈ cur, s.length = 64) ∧ Disk.layS cur (D.waits.drop i) (surv.drop i) = Disk.layS D.has D.waits surv ∧
      Heap F w' (blk b T_disk_Disk [(hasV g (64 * D.has.length)).v, ws.v, .bool D.off, .bool (decide (0 ≤ D.left)), .int .i64 left, sv.v] :: blk g T_uint8 (cur.flatten.map Sc.enc) :: own T_disk_write ws D.waits :: imm sv D.surv :: r), fun x _ => (D.waits.length - x).toNat,
    ⟨0, D.has, rfl, by omega, rfl, ok.has, rfl, H⟩, ?_⟩
  rintro x w1 ⟨i, cur, rfl, hi, hcl, hc64, hlay, H⟩
  refine dBoth (fun hlt => ?_) (fun hge => ?_)
  · have hlt' : i < D.waits.length := by omega
    intro J hJ
    have hw := ok.waits _ (List.getElem_mem hlt')
    refine idxO (xs := D.waits) H (by omega) (by omega) fun a cs H hA => ?_
    simp only [Int.toNat_natCast] at H
    replace H := open_Wr H
    obtain ⟨t, rfl, H⟩ := H
    refine At.ld0 hA (At.ld hA ?_)
    refine al H (fun a14 w2 H => ?_) zc_disk_write
    refine st0 H fun w3 H => sta H fun w4 H => ?_
    intro J2 hJ2
    have hnext : ∀ (c : Bool) w5, c = decide (i < surv.length ∧ surv.getD i false = true) → w5 = w4 → J2 c w5 := by
      rintro c w5 hc rfl
      refine hJ2 _ _ ?_
      refine cBoth (fun hb => ?_) (fun hb => ?_)
      · refine ld0 H.drew (lda H.drew ?_)
        refine disk_sector H.drew (n := 64 * D.has.length) (by omega) (by omega) (by omega) ?_
        refine ⟨⟨_, _, _⟩, rfl, cella H, ?_⟩
        replace H := H.drew
        refine copyB (xs := D.waits[i].b) (x := t) (cur := cur.flatten.map Sc.enc) (o := D.waits[i].at_.toNat * 64) (dl := 64) S_l_uint8 H (by rw [List.length_map, flat_len64 cur hc64]; omega) fun w6 H => ?_
        refine hJ _ ⟨⟨i + 1, Disk.lay cur D.waits[i], by rw [i64_id (by omega)]; omega, by omega, by rw [Disk.lay_length]; exact hcl, Disk.lay_all64 hc64 hw.2.2, ?_, ?_⟩, ?_⟩
        · rw [← hlay, layS_drop hlt', if_pos (by rw [hb] at hc; simpa using hc.symm)]
        · have e : (Disk.lay cur D.waits[i]).flatten.map Sc.enc = (cur.flatten.map Sc.enc).take (D.waits[i].at_.toNat * 64) ++ (D.waits[i].b.take 64).map Sc.enc ++ (cur.flatten.map (Sc.enc : UInt8 → Value)).drop (D.waits[i].at_.toNat * 64 + min D.waits[i].b.length 64) := by
            rw [Disk.lay, flat_set hw.2.2 cur hc64 _ (by omega), List.map_append, List.map_append, List.map_take, List.map_drop, hw.2.2, Nat.min_self, List.take_of_length_le (Nat.le_of_eq hw.2.2), Nat.mul_comm 64]
          rw [e]
          exact ((H.dr (blk a14 _ _)).dr (imm t _)).take (by repeat constructor)
        · rw [i64_id (by omega)]; dsimp only; omega
      · refine hJ _ ⟨⟨i + 1, cur, by rw [i64_id (by omega)]; omega, by omega, hcl, hc64, ?_, (H.dr (blk a14 _ _)).tl⟩, ?_⟩
        · rw [← hlay, layS_drop hlt']
          rw [hb] at hc
          rw [if_neg (by simpa using hc.symm)]
        · rw [i64_id (by omega)]; dsimp only; omega
    refine dBoth (fun hs => ?_) (fun hs => ?_)
    · refine idxI1 (xs := surv) H (by omega) (by omega) (fun a ha => ldT_cell _ ha ?_) (hT := .t (.t (.t (.t (.t (.t hS))))))
      refine hnext _ _ ?_ rfl
      simp [show i < surv.length by omega, List.getD_eq_getElem?_getD]
    · exact hnext _ _ (by simp; omega) rfl
  · obtain rfl : i = D.waits.length := by omega
    have e1 : Disk.layS D.has D.waits surv = cur := by rw [← hlay, List.drop_of_length_le (Nat.le_refl _)]; simp [Disk.layS]
    rw [e1] at k
    refine nn (sta H fun w2 H => nn (sta H fun w3 H => nn (sta H fun w4 H => k _ ?_)))
    have H := (H.dr (own _ _ D.waits)).own_nil (α := Wr) T_disk_write
    exact disk_cls (ws := ⟨none, 0, 0⟩) (sv := sv) (g := g) (left := left) (armed := false) (n := 64 * D.has.length) H _ ⟨hc64, by show cur.length ≤ 256; omega, fun w hw => by simp at hw, by simp⟩ rfl (by rw [hcl]) rfl (by simp) (fun h => by simp at h) rfl rfl
theorem disk_goes (H : Heap F w l) (k : ∀ w', Heap F w' (DiskAt b D.goes.1 :: r) → Q (.bool D.goes.2) w') (hT : Take l (DiskAt b D) r := by repeat (first | assumption | constructor)) : Does Tryd.prog N_disk_Disk_goes #[.pointer (some ⟨b, 0, none⟩)] w Q := by
  refine F_disk_Disk_goes_does _ _ _ ?_
  unfold F_disk_Disk_goes
  obtain ⟨⟨g, ws, sv, left⟩, H⟩ := (H.take hT).opn; dsimp only [List.cons_append, List.nil_append] at H; obtain ⟨⟨ok, hl⟩, H⟩ := H.pur
  have hb := ok.left
  refine nn (lda H (cBoth (fun hoff => ?_) (fun hoff => nn (lda H ?_))))
  · have e : D.goes = (D, false) := by simp [Disk.goes, hoff]
    rw [e] at k
    exact k _ (disk_cls H D ok rfl rfl rfl rfl hl rfl rfl)
  refine cBoth (fun h0 => ?_) (fun h0 => nn (lda H (dBoth (fun h1 => nn (lda H (nn (sta H fun w2 H => ?_)))) (fun h1 => nn (lda H ?_)))))
  · have e : D.goes = (D, true) := by
      have : ¬ 0 ≤ D.left := by simpa using h0
      rw [Disk.goes, hoff, cond_false, if_neg (show ¬ D.left = 0 by omega), if_neg (show ¬ 0 < D.left by omega)]
    rw [e] at k
    exact k _ (disk_cls H D ok rfl rfl rfl rfl hl rfl rfl)
  · have h0' : 0 ≤ D.left := by simpa using h0
    have hl' := hl h0'
    have h1' : (left : Int) > 0 := h1
    have e : D.goes = ({ D with left := D.left - 1 }, true) := by
      rw [Disk.goes, hoff, cond_false, if_neg (show ¬ D.left = 0 by omega), if_pos (show 0 < D.left by omega)]
    rw [e] at k
    rw [i64_id (by omega)] at H
    exact k _ (disk_cls (left := left - 1) (ws := ws) (sv := sv) (g := g) (n := 64 * D.has.length) (armed := decide (0 ≤ D.left)) H { D with left := D.left - 1 } ⟨ok.has, ok.size, ok.waits, by dsimp only; omega⟩ rfl rfl rfl (by rw [decide_eq_true h0', decide_eq_true]; dsimp only; omega) (fun h => by dsimp only at h ⊢; omega) rfl rfl)
  · have h0' : 0 ≤ D.left := by simpa using h0
    have hl' := hl h0'
    have h1' : ¬ (left : Int) > 0 := h1
    have e : D.goes = (D.crash D.surv, false) := by
      rw [Disk.goes, hoff, cond_false, if_pos (show D.left = 0 by omega)]
    rw [e] at k
    replace H := H.immDup (s := sv) (xs := D.surv)
    replace H := disk_cls (r := imm sv D.surv :: r) H D ok rfl rfl rfl rfl hl rfl rfl (hT := .c (.t .h) (.c (.t .h) (.c (.t .h) (.c (.t .h) .n))))
    exact disk_Crash H fun w' H => ⟨rfl, k _ (H.dr (imm sv D.surv))⟩
theorem last_drop {l : List Wr} {i : Nat} (h : i < l.length) (at_ : Int) (c : List UInt8) : Disk.last (l.drop i) at_ c = Disk.last (l.drop (i + 1)) at_ (if l[i].at_ = at_ then l[i].b else c) := by
  rw [List.drop_eq_getElem_cons h]; rfl
theorem last_mem {l : List Wr} {at_ : Int} {c : List UInt8} : Disk.last l at_ c = c ∨ ∃ x ∈ l, Disk.last l at_ c = x.b := by
  induction l generalizing c with
  | nil => exact .inl rfl
  | cons w l ih =>
    show Disk.last l at_ (if w.at_ = at_ then w.b else c) = c ∨ ∃ x ∈ w :: l, Disk.last l at_ (if w.at_ = at_ then w.b else c) = x.b
    by_cases h : w.at_ = at_
    · rw [if_pos h]
      rcases ih (c := w.b) with h | ⟨x, hx, h⟩
      · exact .inr ⟨w, by simp, h⟩
      · exact .inr ⟨x, by simp [hx], h⟩
    · rw [if_neg h]
      rcases ih (c := c) with h | ⟨x, hx, h⟩
      · exact .inl h
      · exact .inr ⟨x, by simp [hx], h⟩
theorem disk_Read (H : Heap F w l) {at_ : Int} (k : ∀ (s : Sl) w', Heap F w' (own T_uint8 s (D.read at_).1 :: DiskAt b D :: r) → Q (.tuple #[.slice s.a s.len s.cap, .int .i64 (D.read at_).2]) w') (hT : Take l (DiskAt b D) r := by repeat (first | assumption | constructor)) :
    Does Tryd.prog N_disk_Disk_Read #[.pointer (some ⟨b, 0, none⟩), .int .i64 at_] w Q := by
  refine F_disk_Disk_Read_does _ _ _ _ ?_
  unfold F_disk_Disk_Read
  refine disk_in H ⟨_, rfl, ?_⟩ hT
  refine cBoth (fun hin => ?_) (fun hin => ?_)
  · have e : D.read at_ = ([], 4) := by simp at hin; simp [Disk.read, hin]
    rw [e] at k
    exact k ⟨none, 0, 0⟩ _ ((H.take hT).own_nil T_uint8)
  replace hin : D.inB at_ = true := by simpa using hin
  have hin' : 0 ≤ at_ ∧ at_ < D.has.length := by simpa [Disk.inB] using hin
  obtain ⟨⟨g, ws, sv, left⟩, H⟩ := (H.take hT).opn; dsimp only [List.cons_append, List.nil_append] at H; obtain ⟨⟨ok, hl⟩, H⟩ := H.pur
  refine nn (lda H (cBoth (fun hoff => ?_) (fun hoff => ?_)))
  · have e : D.read at_ = ([], 9) := by simp [Disk.read, hin, hoff]
    rw [e] at k
    exact k ⟨none, 0, 0⟩ _ ((disk_cls H D ok rfl rfl rfl rfl hl rfl rfl).own_nil T_uint8)
  have hsz := ok.size
  have hwl := H.lenO (s := ws) (xs := D.waits)
  have hwb := H.bndO (s := ws) (xs := D.waits)
  have e : D.read at_ = (Disk.last D.waits at_ (D.has.getD at_.toNat []), 0) := by simp [Disk.read, hin, hoff]
  rw [e] at k
  refine disk_sector H (n := 64 * D.has.length) (by omega) (by omega) (by omega) ⟨⟨_, _, _⟩, rfl, ?_⟩
  refine nn (lda H ?_)
  have hh : D.has.getD at_.toNat [] = D.has[at_.toNat]'(by omega) := by simp [List.getD_eq_getElem?_getD, List.getElem?_eq_getElem (show at_.toNat < D.has.length by omega)]
  have hs64 : (D.has[at_.toNat]'(by omega)).length = 64 := ok.has _ (List.getElem_mem _)
  have hflat := flat_get64 D.has ok.has at_.toNat (by omega)
  have hsrc : ∀ (l' : List SP) (w' : World), Heap F w' l' → Has l' (blk g T_uint8 (D.has.flatten.map Sc.enc)) → ∀ (s' : Sl) {K : Sl → World → Prop}, s' = ⟨some ⟨g, at_.toNat * 64, none⟩, 64, 64 * D.has.length - at_.toNat * 64⟩ →
      (∀ (s2 : Sl) (w2 : World), Heap F w2 (own T_uint8 s2 (D.has[at_.toNat]'(by omega)) :: l') → K s2 w2) → runG .sl Tryd.prog w' (Builtin.append_ #[T_l_uint8, T_l_uint8] T_l_uint8 #[.slice none 0 0, .slice s'.a s'.len s'.cap]) K := fun l' w' H' hB s' K e k => by
    subst e
    have B := H'.Blk hB
    refine app (s := ⟨none, 0, 0⟩) (xs := []) (ys := D.has[at_.toNat]'(by omega)) S_l_uint8 (H'.own_nil (α := UInt8) T_uint8) (fun ro _ hro _ => ⟨hs64, .inr ⟨g, at_.toNat * 64, rfl, fun i y hy => ⟨[Sc.enc y], rfl, fun j u hj => ?_⟩⟩⟩) (bnd (by simp [hs64]) (by decide)) (mx (by simp [hs64])) k .h
    cases j with
    | succ j => simp at hj
    | zero =>
      simp at hj; subst hj
      have hi : i < 64 := by rw [← hs64]; exact (List.getElem?_eq_some_iff.1 hy).1
      rw [B.cell]
      simp only [Rep.n, Nat.mul_one, Nat.add_zero, List.getElem?_toArray, List.getElem?_map]
      have : D.has.flatten[at_.toNat * 64 + i]? = some y := by
        rw [← hflat, List.getElem?_take, if_pos hi, List.getElem?_drop] at hy
        rw [← hy]; congr 1; omega
      rw [this]; rfl
  refine ⟨fun bb x w' => ∃ (i : Nat) (c : List UInt8) (l' : List SP), x = i ∧ i ≤ D.waits.length ∧ Disk.last (D.waits.drop i) at_ c = Disk.last D.waits at_ (D.has[at_.toNat]'(by omega)) ∧ c.length = 64 ∧ Heap F w' (l' ++ (blk b T_disk_Disk [(hasV g (64 * D.has.length)).v, ws.v, .bool D.off, .bool (decide (0 ≤ D.left)), .int .i64 left, sv.v] :: blk g T_uint8 (D.has.flatten.map Sc.enc) :: own T_disk_write ws D.waits :: imm sv D.surv :: r)) ∧
      ((l' = [] ∧ bb = ⟨some ⟨g, at_.toNat * 64, none⟩, 64, 64 * D.has.length - at_.toNat * 64⟩ ∧ c = D.has[at_.toNat]'(by omega)) ∨ l' = [imm bb c]), fun _ x _ => (D.waits.length - x).toNat,
    ⟨0, _, [], rfl, by omega, rfl, hs64, H, .inl ⟨rfl, rfl, rfl⟩⟩, ?_⟩
  rintro bb x w1 ⟨i, c, l', rfl, hi, hlast, hc64, H, hcase⟩
  refine dBoth (fun hlt => ?_) (fun hge => ?_)
  · have hlt' : i < D.waits.length := by omega
    have hw := ok.waits _ (List.getElem_mem hlt')
    intro J hJ
    have hown : Has (l' ++ (blk b T_disk_Disk [(hasV g (64 * D.has.length)).v, ws.v, .bool D.off, .bool (decide (0 ≤ D.left)), .int .i64 left, sv.v] :: blk g T_uint8 (D.has.flatten.map Sc.enc) :: own T_disk_write ws D.waits :: imm sv D.surv :: r)) (own T_disk_write ws D.waits) := by
      rcases hcase with ⟨rfl, _⟩ | rfl
      · exact .t (.t .h)
      · exact .t (.t (.t .h))
    refine idxO (xs := D.waits) H (by omega) (by omega) (fun a cs H hA => ?_) (hT := hown)
    simp only [Int.toNat_natCast] at H
    replace H := open_Wr H
    obtain ⟨t, rfl, H⟩ := H
    refine At.ld0 hA (At.ld hA ?_)
    refine al H (fun a14 w2 H => ?_) zc_disk_write
    refine st0 H fun w3 H => sta H fun w4 H => ld0 H ?_
    have fin : ∀ (c' : List UInt8) (b' : Sl), c' = (if D.waits[i].at_ = at_ then D.waits[i].b else c) → (b' = if D.waits[i].at_ = at_ then t else bb) → J b' w4 := by
      rintro c' b' hc' hb'
      refine hJ _ _ ⟨⟨i + 1, c', if D.waits[i].at_ = at_ then [imm t D.waits[i].b] else l', by rw [i64_id (by omega)]; omega, by omega, ?_, ?_, ?_, ?_⟩, ?_⟩
      · rw [← hlast, last_drop hlt', hc']
      · rw [hc']; split
        · exact hw.2.2
        · exact hc64
      · have H1 := H.dr (blk a14 _ _)
        split
        · have H1 := H1.take .h
          rcases hcase with ⟨rfl, _⟩ | rfl
          · exact H1
          · exact H1.dr (imm bb c) (.t .h)
        · exact H1.tl
      · rw [hc', hb']
        split
        · exact .inr rfl
        · exact hcase
      · rw [i64_id (by omega)]; dsimp only; omega
    refine cBoth (fun he => lda H (fin D.waits[i].b ⟨_, _, _⟩ ?_ ?_)) (fun he => fin c ⟨_, _, _⟩ ?_ ?_)
    · rw [if_pos (by simpa using he)]
    · rw [if_pos (by simpa using he)]
    · rw [if_neg (by simpa using he)]
    · rw [if_neg (by simpa using he)]
  · obtain rfl : i = D.waits.length := by omega
    have hc : Disk.last D.waits at_ (D.has.getD at_.toNat []) = c := by rw [hh, ← hlast, List.drop_of_length_le (Nat.le_refl _)]; rfl
    rw [hc] at k
    rcases hcase with ⟨rfl, rfl, rfl⟩ | rfl
    · refine hsrc _ _ H (.t .h) _ rfl fun s2 w2 H => k _ _ ?_
      exact (disk_cls (r := own T_uint8 s2 _ :: r) H D ok rfl rfl rfl rfl hl rfl rfl (hT := .c (.t .h) (.c (.t .h) (.c (.t .h) (.c (.t .h) .n))))).take (.t .h)
    · refine cpI (ys := c) S_l_uint8 H (by omega) (fun s2 w2 H => k _ _ ?_) (hI := .h)
      replace H := H.dr (imm bb c) (.t .h)
      exact (disk_cls (r := own T_uint8 s2 _ :: r) H D ok rfl rfl rfl rfl hl rfl rfl (hT := .c (.t .h) (.c (.t .h) (.c (.t .h) (.c (.t .h) .n))))).take (.t .h)
theorem disk_Write (H : Heap F w l) {at_ : Int} {s : Sl} {bb : List UInt8} (hn : D.waits.length < 1000000) (k : ∀ w', Heap F w' (DiskAt b (D.write at_ bb).1 :: r) → Q (.int .i64 (D.write at_ bb).2) w') (hT : Take l (DiskAt b D) r := by repeat (first | assumption | constructor)) (hS : Has r (imm s bb) := by repeat (first | assumption | constructor)) :
    Does Tryd.prog N_disk_Disk_Write #[.pointer (some ⟨b, 0, none⟩), .int .i64 at_, .slice s.a s.len s.cap] w Q := by
  refine F_disk_Disk_Write_does _ _ _ _ _ ?_
  unfold F_disk_Disk_Write
  refine disk_in H ⟨_, rfl, ?_⟩ hT
  replace H := H.take hT
  have hsl := H.len (s := s) (xs := bb) (.t hS)
  refine cBoth (fun hin => ?_) (fun hin => ?_)
  · have e : D.write at_ bb = (D, 4) := by simp at hin; simp [Disk.write, hin]
    rw [e] at k
    exact k _ H
  replace hin : D.inB at_ = true := by simpa using hin
  have hin' : 0 ≤ at_ ∧ at_ < D.has.length := by simpa [Disk.inB] using hin
  refine cBoth (fun h64 => ?_) (fun h64 => ?_)
  · have : bb.length ≠ 64 := by simp at h64; omega
    have e : D.write at_ bb = (D, 1) := by simp [Disk.write, hin, this]
    rw [e] at k
    exact k _ H
  have h64' : bb.length = 64 := by simp at h64; omega
  refine disk_goes H (fun w2 H => ⟨_, rfl, ?_⟩)
  have hgl := Disk.goes_length D
  have hgw := Disk.goes_waits D
  cases hg : D.goes.2
  · have e : D.write at_ bb = (D.goes.1, 9) := by simp [Disk.write, hin, h64', hg]
    rw [e] at k
    exact k _ H
  have e : D.write at_ bb = ({ D.goes.1 with waits := D.goes.1.waits ++ [⟨at_, bb⟩] }, 0) := by simp [Disk.write, hin, h64', hg]
  rw [e] at k
  generalize D.goes.1 = E at *
  obtain ⟨⟨g, ws, sv, left⟩, H⟩ := H.opn
  dsimp only [List.cons_append, List.nil_append] at H
  obtain ⟨⟨ok, hl⟩, H⟩ := H.pur
  refine nn (lda H.drew ?_)
  refine cpI (ys := bb) S_l_uint8 H.drew (by omega) (fun l9 w10 H => ?_) (hI := .t (.t (.t (.t hS))))
  refine ⟨cella H, ?_⟩
  refine al H (fun a11 w12 H => ?_)
  refine ⟨cella H, ?_⟩
  replace H := H.share (α := UInt8) (s := l9) (xs := bb)
  replace H := close_Wr (x := ⟨at_, bb⟩) (s := l9) H
  have hlen := H.lenO (s := ws) (xs := E.waits)
  refine psh (xs := E.waits) (y := (⟨at_, bb⟩ : Wr)) (s := ws) (b := a11) S_l_disk_write H (by omega) fun l13 w14 H => ?_
  refine nn (sta H fun w16 H => k _ ?_)
  have H := ((H.dr (rep _ (⟨at_, bb⟩ : Wr))).dr (imm l9 bb)).dr (blk a11 _ _)
  exact disk_cls (ws := l13) (sv := sv) (g := g) (left := left) (armed := decide (0 ≤ E.left)) (n := 64 * E.has.length) H { E with waits := E.waits ++ [⟨at_, bb⟩] } ⟨ok.has, ok.size, fun x hx => by
    rcases List.mem_append.1 hx with h | h
    · exact ok.waits x h
    · simp at h; subst h; exact ⟨hin'.1, by dsimp only; omega, h64'⟩, ok.left⟩ rfl rfl rfl rfl hl rfl rfl
theorem disk_Flush (H : Heap F w l) (k : ∀ w', Heap F w' (DiskAt b D.flush.1 :: r) → Q (.int .i64 D.flush.2) w') (hT : Take l (DiskAt b D) r := by repeat (first | assumption | constructor)) : Does Tryd.prog N_disk_Disk_Flush #[.pointer (some ⟨b, 0, none⟩)] w Q := by
  refine F_disk_Disk_Flush_does _ _ _ ?_
  unfold F_disk_Disk_Flush
  refine disk_goes H (fun w2 H => ⟨_, rfl, ?_⟩) hT
  unfold Disk.flush at k
  generalize D.goes = DE at *
  obtain ⟨E, g2⟩ := DE
  dsimp only at *
  cases g2
  · exact k _ H
  obtain ⟨⟨g, ws, sv, left⟩, H⟩ := H.opn
  dsimp only [List.cons_append, List.nil_append] at H
  obtain ⟨⟨ok, hl⟩, H⟩ := H.pur
  rw [cond_true] at k
  refine nn (lda H ?_)
  have hsz := ok.size
  have hwl := H.lenO (s := ws) (xs := E.waits)
  have hwb := H.bndO (s := ws) (xs := E.waits)
  refine ⟨fun x w' => ∃ (i : Nat) (cur : List (List UInt8)), x = i ∧ i ≤ E.waits.length ∧ cur.length = E.has.length ∧ (∀ s ∈ cur, s.length = 64) ∧ Disk.layAll cur (E.waits.drop i) = Disk.layAll E.has E.waits ∧
      Heap F w' (blk b T_disk_Disk [(hasV g (64 * E.has.length)).v, ws.v, .bool E.off, .bool (decide (0 ≤ E.left)), .int .i64 left, sv.v] :: blk g T_uint8 (cur.flatten.map Sc.enc) :: own T_disk_write ws E.waits :: imm sv E.surv :: r), fun x _ => (E.waits.length - x).toNat,
    ⟨0, E.has, rfl, by omega, rfl, ok.has, rfl, H⟩, ?_⟩
  rintro x w1 ⟨i, cur, rfl, hi, hcl, hc64, hlay, H⟩
  refine dBoth (fun hlt => ?_) (fun hge => ?_)
  · have hlt' : i < E.waits.length := by omega
    have hw := ok.waits _ (List.getElem_mem hlt')
    refine idxO (xs := E.waits) H (by omega) (by omega) fun a cs H hA => ?_
    simp only [Int.toNat_natCast] at H
    replace H := open_Wr H
    obtain ⟨t, rfl, H⟩ := H
    refine At.ld0 hA (At.ld hA ?_)
    refine al H (fun a14 w2 H => ?_) zc_disk_write
    refine st0 H fun w3 H => sta H fun w4 H => ?_
    refine ld0 H.drew (lda H.drew ?_)
    refine disk_sector H.drew (n := 64 * E.has.length) (by omega) (by omega) (by omega) ?_
    refine ⟨⟨_, _, _⟩, rfl, cella H, ?_⟩
    replace H := H.drew
    refine copyB (xs := E.waits[i].b) (x := t) (cur := cur.flatten.map Sc.enc) (o := E.waits[i].at_.toNat * 64) (dl := 64) S_l_uint8 H (by rw [List.length_map, flat_len64 cur hc64]; omega) fun w6 H => ?_
    refine ⟨⟨i + 1, Disk.lay cur E.waits[i], by rw [i64_id (by omega)]; omega, by omega, by rw [Disk.lay_length]; exact hcl, Disk.lay_all64 hc64 hw.2.2, ?_, ?_⟩, ?_⟩
    · rw [← hlay, List.drop_eq_getElem_cons hlt']; rfl
    · have e : (Disk.lay cur E.waits[i]).flatten.map Sc.enc = (cur.flatten.map Sc.enc).take (E.waits[i].at_.toNat * 64) ++ (E.waits[i].b.take 64).map Sc.enc ++ (cur.flatten.map (Sc.enc : UInt8 → Value)).drop (E.waits[i].at_.toNat * 64 + min E.waits[i].b.length 64) := by
        rw [Disk.lay, flat_set hw.2.2 cur hc64 _ (by omega), List.map_append, List.map_append, List.map_take, List.map_drop, hw.2.2, Nat.min_self, List.take_of_length_le (Nat.le_of_eq hw.2.2), Nat.mul_comm 64]
      rw [e]
      exact ((H.dr (blk a14 _ _)).dr (imm t _)).take (by repeat constructor)
    · rw [i64_id (by omega)]; dsimp only; omega
  · obtain rfl : i = E.waits.length := by omega
    have e1 : Disk.layAll E.has E.waits = cur := by rw [← hlay, List.drop_of_length_le (Nat.le_refl _)]; rfl
    rw [e1] at k
    refine nn (sta H fun w2 H => k _ ?_)
    have H := (H.dr (own _ _ E.waits)).own_nil (α := Wr) T_disk_write
    exact disk_cls (ws := ⟨none, 0, 0⟩) (sv := sv) (g := g) (left := left) (armed := decide (0 ≤ E.left)) (n := 64 * E.has.length) H { E with has := cur, waits := [] } ⟨hc64, by show cur.length ≤ 256; omega, fun w hw => by simp at hw, ok.left⟩ rfl (by rw [hcl]) rfl rfl hl rfl rfl
theorem disk_Arm (H : Heap F w l) {n : Int} {s : Sl} {surv : List Bool} (hn : n ≤ 9223372036854775807) (hs : surv.length ≤ 140737488355328) (k : ∀ w', Heap F w' (DiskAt b (D.arm n surv) :: r) → Q (.tuple #[]) w') (hT : Take l (DiskAt b D) r := by repeat (first | assumption | constructor)) (hS : Has r (imm s surv) := by repeat (first | assumption | constructor)) :
    Does Tryd.prog N_disk_Disk_Arm #[.pointer (some ⟨b, 0, none⟩), .int .i64 n, .slice s.a s.len s.cap] w Q := by
  refine F_disk_Disk_Arm_does _ _ _ _ _ ?_
  unfold F_disk_Disk_Arm
  obtain ⟨⟨g, ws, sv, left⟩, H⟩ := (H.take hT).opn; dsimp only [List.cons_append, List.nil_append] at H; obtain ⟨⟨ok, hl⟩, H⟩ := H.pur
  unfold Disk.arm at k
  refine nn (lda H (cBoth (fun hoff => ?_) (fun hoff => ?_)))
  · rw [hoff, cond_true] at k
    exact k w (disk_cls H D ok rfl rfl rfl rfl hl rfl rfl)
  rw [hoff, cond_false] at k
  refine cpIb (ys := surv) S_l_bool H (by omega) (fun s2 w2 H => ?_) (hI := .t (.t (.t (.t hS))))
  refine nn (sta H fun w3 H => nn (sta H fun w4 H => nn (sta H fun w5 H => k _ ?_)))
  replace H := (H.dr (imm sv _)).share (s := s2) (xs := surv)
  exact disk_cls (ws := ws) (sv := s2) (g := g) (left := n) (off := D.off) (armed := decide (n ≥ 0)) (n := 64 * D.has.length) H _ ⟨ok.has, ok.size, ok.waits, by dsimp only; split <;> omega⟩ rfl rfl hoff (by dsimp only; split <;> simp_all) (fun h => by dsimp only at h ⊢; split at h <;> simp_all) rfl rfl
theorem disk_Power (H : Heap F w l) (k : ∀ w', Heap F w' (DiskAt b D.power :: r) → Q (.tuple #[]) w') (hT : Take l (DiskAt b D) r := by repeat (first | assumption | constructor)) : Does Tryd.prog N_disk_Disk_Power #[.pointer (some ⟨b, 0, none⟩)] w Q := by
  refine F_disk_Disk_Power_does _ _ _ ?_
  unfold F_disk_Disk_Power
  obtain ⟨⟨g, ws, sv, left⟩, H⟩ := (H.take hT).opn; dsimp only [List.cons_append, List.nil_append] at H; obtain ⟨⟨ok, hl⟩, H⟩ := H.pur
  refine nn (sta H fun w3 H => nn (sta H fun w4 H => nn (sta H fun w5 H => k _ ?_)))
  replace H := (H.dr (own _ _ D.waits)).own_nil (α := Wr) T_disk_write
  exact disk_cls (ws := ⟨none, 0, 0⟩) (sv := sv) (g := g) (left := left) (armed := false) (n := 64 * D.has.length) H D.power ⟨ok.has, ok.size, fun w hw => by simp [Disk.power] at hw, by simp [Disk.power]⟩ rfl rfl rfl (by simp [Disk.power]) (fun h => by simp [Disk.power] at h) rfl rfl
theorem disk_New (H : Heap F w l) {n : Int} (h1 : 1 ≤ n) (h2 : n ≤ 256) (k : ∀ (b : Nat) w', Heap F w' (DiskAt b (Disk.new n.toNat) :: l) → Q (.tuple #[.pointer (some ⟨b, 0, none⟩), .int .i64 0]) w') : Does Tryd.prog N_disk_New #[.int .i64 n] w Q := by
  refine F_disk_New_does _ _ _ ?_
  unfold F_disk_New
  intro J hJ
  refine dF (by omega) (dF (by omega) (hJ _ ?_))
  rw [i64_id (by omega)]
  refine mk (d := (0 : UInt8)) Z_l_uint8 H (by omega) (by omega) (by simp only [maxLen]; omega) fun g w2 H => ?_
  refine al H (cs := [(hasV g (n * 64).toNat).v, (Sl.v ⟨none, 0, 0⟩), .bool false, .bool false, .int .i64 0, (Sl.v ⟨none, 0, 0⟩)]) (fun b w3 H => k b w3 ?_) rfl
  replace H := (H.own_nil (α := Wr) T_disk_write).imm_nil (α := Bool)
  have e : List.replicate (n * 64).toNat (0 : UInt8) = (Disk.new n.toNat).has.flatten := by
    rw [show (n * 64).toNat = n.toNat * 64 by omega]
    exact List.flatten_replicate_replicate.symm
  rw [e] at H
  exact disk_cls (ws := ⟨none, 0, 0⟩) (sv := ⟨none, 0, 0⟩) (g := g) (left := 0) (armed := false) (n := (n * 64).toNat) H (Disk.new n.toNat) ⟨fun s hs => by simp [Disk.new] at hs; rw [hs.2]; simp, by simp [Disk.new]; omega, fun w hw => by simp [Disk.new] at hw, by simp [Disk.new]⟩ rfl (by simp [Disk.new]; omega) rfl rfl (fun h => by simp [Disk.new] at h) rfl rfl
end
end Go.Proofs.YtkfcmpngcanffaaDoor.G
