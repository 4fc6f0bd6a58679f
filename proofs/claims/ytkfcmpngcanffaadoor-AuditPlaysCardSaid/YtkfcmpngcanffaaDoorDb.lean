import Derived.Test.YtkfcmpngcanffaaDoorDa
import Derived.Test.YtkfcmpngcanffaaDoorNc
set_option linter.unusedVariables false
set_option linter.unusedSimpArgs false
namespace Go.Proofs.YtkfcmpngcanffaaDoor.G
open Go Go.VC Go.RowKit Go.Proofs Go.Proofs.YtkfcmpngcanffaaDoor Nac
def isIf (P : Program) (t : TypeId) : Bool := match P.underlying t with
  | some (.interface _) => true
  | _ => false
theorem isIf_ex {P : Program} {t : TypeId} (h : isIf P t = true) : ∃ ms, P.underlying t = some (.interface ms) := by
  unfold isIf at h
  split at h
  · exact ⟨_, by assumption⟩
  · cases h
theorem nil_equalIn {P : Program} {w : World} {t : Nat} (d : Nat) (h : isIf P t = true) : (Op.equalIn (d + 1) t .nilIface .nilIface).run P w = .ok true w := by
  obtain ⟨ms, hm⟩ := isIf_ex h
  simp [Op.equalIn, run_underlying hm]
theorem nil_run {P : Program} {w : World} {t x : Nat} (h : isIf P t = true) : (do eqGuard .neq t (.tmp x) (.const (.nilIface)) (.nilIface) (.nilIface); binOp .neq t (.nilIface) (.nilIface) : Sem Value).run P w = .ok (.bool false) w := by
  obtain ⟨ms, hm⟩ := isIf_ex h
  rw [eqGuard_nil_constR]
  have e := nil_equalIn (P := P) (w := w) 9999 h
  simp only [pure_bind, binOp]
  show ((Op.equalIn 10000 t .nilIface .nilIface) >>= fun a => pure (Value.bool (!a)) : Sem Value).run P w = _
  rw [Sem.run_bind, e]; rfl
theorem nil_run' {P : Program} {w : World} {t x : Nat} (h : isIf P t = true) : (do eqGuard .eql t (.tmp x) (.const (.nilIface)) (.nilIface) (.nilIface); binOp .eql t (.nilIface) (.nilIface) : Sem Value).run P w = .ok (.bool true) w := by
  obtain ⟨ms, hm⟩ := isIf_ex h
  rw [eqGuard_nil_constR]
  have e := nil_equalIn (P := P) (w := w) 9999 h
  simp only [pure_bind, binOp]
  show ((Op.equalIn 10000 t .nilIface .nilIface) >>= fun a => pure (Value.bool a) : Sem Value).run P w = _
  rw [Sem.run_bind, e]; rfl
theorem if_err : isIf Tryd.prog T_error = true := by kernel_rfl
theorem nil_ne {w : World} {K : Bool → World → Prop} {x : Nat} (k : K false w) : runG (.bool) Tryd.prog w (do eqGuard .neq T_error (.tmp x) (.const (.nilIface)) (.nilIface) (.nilIface); binOp .neq T_error (.nilIface) (.nilIface)) K :=
  ⟨.bool false, w, nil_run if_err, _, rfl, k⟩
theorem nil_eq {w : World} {K : Bool → World → Prop} {x : Nat} (k : K true w) : runG (.bool) Tryd.prog w (do eqGuard .eql T_error (.tmp x) (.const (.nilIface)) (.nilIface) (.nilIface); binOp .eql T_error (.nilIface) (.nilIface)) K :=
  ⟨.bool true, w, nil_run' if_err, _, rfl, k⟩
attribute [local irreducible] Tryd.prog
section
variable {F : Bs} {w : World} {l r : List SP} {b d : Nat} {D : Disk} {Q : Value → World → Prop} {x : Ext}
/-! ### extent -/
theorem ext_Lies (H : Heap F w l) {n : Int} (h1 : 0 ≤ n) (h2 : n ≤ 1000000) (k : ∀ w', Heap F w' l → Q (.bool (lies x n)) w') : Does Tryd.prog N_extent_Lies #[.agg #[.int .i64 x.from_, .int .i64 x.count], .int .i64 n] w Q := by
  refine F_extent_Lies_does _ _ _ _ _ ?_
  unfold F_extent_Lies
  refine al H (cs := [.int .i64 x.from_, .int .i64 x.count]) (fun a w H => ?_) rfl
  refine lda H (dBoth (fun c1 => ld0 H (dBoth (fun c2 => lda H (dBoth (fun c3 => ld0 H (lda H ?_)) (fun c3 => ?_))) (fun c2 => ?_))) (fun c1 => ?_))
  · have c1' : (1 : Int) ≤ x.count := c1
    have c2' : (0 : Int) ≤ x.from_ := c2
    have c3' : x.count ≤ n := c3
    rw [i64_id (by omega), show decide (x.from_ ≤ n - x.count) = lies x n by simp [lies, c1', c2', c3']]
    exact k _ H.tl
  all_goals
    rw [show false = lies x n by
      simp only [lies]
      first
        | rw [decide_eq_false (show ¬ 1 ≤ x.count from c1)]; simp
        | rw [decide_eq_false (show ¬ 0 ≤ x.from_ from c2)]; simp
        | rw [decide_eq_false (show ¬ x.count ≤ n from c3)]; simp]
    exact k _ H.tl
/-- a part of a disk -/
def PartAt (b : Nat) (d : Nat) (x : Ext) : SP := SP.of fun _ : Unit => [pur (0 ≤ x.from_ ∧ x.from_ + x.count ≤ 1000000 ∧ 0 ≤ x.count), blk b T_extent_Part [.int .i64 x.from_, .int .i64 x.count, .pointer (some ⟨d, 0, none⟩)]]
theorem part_cls (H : Heap F w l) (okP : 0 ≤ x.from_ ∧ x.from_ + x.count ≤ 1000000 ∧ 0 ≤ x.count) (hT : Take l (blk b T_extent_Part [.int .i64 x.from_, .int .i64 x.count, .pointer (some ⟨d, 0, none⟩)]) r := by repeat (first | assumption | constructor)) : Heap F w (PartAt b d x :: r) := ((H.take hT).addp okP).cls ()
theorem ext_Place (H : Heap F w l) {n : Int} (hx : 0 ≤ x.from_ ∧ x.from_ + x.count ≤ 1000000) (k : ∀ w', Heap F w' l → Q (if 0 ≤ n ∧ n < x.count then .tuple #[.int .i64 (x.from_ + n), .int .i64 0] else .tuple #[.int .i64 0, .int .i64 4]) w') :
    Does Tryd.prog N_extent_Place #[.agg #[.int .i64 x.from_, .int .i64 x.count], .int .i64 n] w Q := by
  refine F_extent_Place_does _ _ _ _ _ ?_
  unfold F_extent_Place
  refine al H (cs := [.int .i64 x.from_, .int .i64 x.count]) (fun a w H => ?_) rfl
  intro J hJ
  refine dBoth (fun c1 => ?_) (fun c1 => lda H (dBoth (fun c2 => ?_) (fun c2 => ?_)))
  · have := k _ H.tl
    rwa [if_neg (by omega)] at this
  · have := k _ H.tl
    have c2' : x.count ≤ n := c2
    rwa [if_neg (by omega)] at this
  · have c2' : ¬ x.count ≤ n := c2
    have hj : J w := by
      refine hJ _ (ld0 H ?_)
      rw [i64_id (by omega)]
      have := k _ H.tl
      rwa [if_pos (by omega)] at this
    refine ld0 H (dBoth (fun c3 => ld0 H (dF ?_ hj)) (fun c3 => hj))
    have c3' : (0 : Int) < x.from_ := c3
    rw [i64_id (by omega)]
    omega
theorem ext_New (H : Heap F w l) (h0 : 0 ≤ x.from_ ∧ x.from_ ≤ 1000 ∧ x.count ≤ 1000) (k1 : lies x D.has.length = true → ∀ (b : Nat) w', Heap F w' (PartAt b d x :: DiskAt d D :: r) → Q (.tuple #[.pointer (some ⟨b, 0, none⟩), .int .i64 0]) w')
    (k2 : lies x D.has.length = false → ∀ w', Heap F w' (DiskAt d D :: r) → Q (.tuple #[.pointer none, .int .i64 1]) w') (hT : Take l (DiskAt d D) r := by repeat (first | assumption | constructor)) :
    Does Tryd.prog N_extent_New #[.pointer (some ⟨d, 0, none⟩), .agg #[.int .i64 x.from_, .int .i64 x.count]] w Q := by
  refine F_extent_New_does _ _ _ _ _ ?_
  unfold F_extent_New
  replace H := H.take hT
  have hsz := (disk_ok H).size
  refine al H (cs := [.int .i64 x.from_, .int .i64 x.count]) (fun a w H => ?_) rfl
  refine ld0 H.drew (lda H.drew ?_)
  refine disk_Size H.drew ⟨_, rfl, ⟨rfl, ?_⟩, ?_⟩
  · intro j v hj
    rw [add_mk]
    refine H.drew.cell (b := a) (cs := [.int .i64 x.from_, .int .i64 x.count]) (by repeat constructor) ?_
    simpa using hj
  refine ext_Lies H.drew (by omega) (by omega) fun w H => ⟨_, rfl, ?_⟩
  cases hl : lies x D.has.length
  · refine cT rfl ?_
    exact k2 hl _ (H.dr (blk a _ _))
  · refine cF rfl ?_
    refine ld0 H (lda H ?_)
    refine al H (cs := [.int .i64 x.from_, .int .i64 x.count, .pointer (some ⟨d, 0, none⟩)]) (fun b w H => ?_) rfl
    refine k1 hl b _ (part_cls (H.dr (blk a _ _) (.t .h)) ?_)
    simp [lies] at hl
    omega
theorem part_Size (H : Heap F w l) (k : Q (.int .i64 x.count) w) (hP : Take l (PartAt b d x) r := by repeat (first | assumption | constructor)) : Does Tryd.prog N_extent_Part_Size #[.pointer (some ⟨b, 0, none⟩)] w Q := by
  refine F_extent_Part_Size_does _ _ _ ?_
  unfold F_extent_Part_Size
  obtain ⟨_, H⟩ := (H.take hP).opn; dsimp only [List.cons_append, List.nil_append] at H; obtain ⟨okP, H⟩ := H.pur
  exact nn (lda H k)
theorem part_Read {r2 : List SP} (H : Heap F w l) {n : Int} (k : ∀ (s : Sl) w', Heap F w' (own T_uint8 s (pread D x n).1 :: PartAt b d x :: DiskAt d D :: r2) → Q (.tuple #[.slice s.a s.len s.cap, .int .i64 (pread D x n).2]) w')
    (hP : Take l (PartAt b d x) r := by repeat (first | assumption | constructor)) (hD : Take r (DiskAt d D) r2 := by repeat (first | assumption | constructor)) : Does Tryd.prog N_extent_Part_Read #[.pointer (some ⟨b, 0, none⟩), .int .i64 n] w Q := by
  refine F_extent_Part_Read_does _ _ _ _ ?_
  unfold F_extent_Part_Read
  obtain ⟨_, H⟩ := (H.take hP).opn; dsimp only [List.cons_append, List.nil_append] at H; obtain ⟨okP, H⟩ := H.pur
  refine nn (ld0 H (lda H ?_))
  refine ext_Place H ⟨okP.1, okP.2.1⟩ fun w H => ?_
  unfold pread at k
  by_cases h : 0 ≤ n ∧ n < x.count
  · rw [if_pos h]
    simp only [if_pos h] at k
    refine ⟨_, _, rfl, nn (lda H ?_)⟩
    refine disk_Read H (fun s w H => ⟨_, _, rfl, k s w ?_⟩) (.t hD)
    exact (part_cls (r := own T_uint8 s (D.read (x.from_ + n)).1 :: DiskAt d D :: r2) H okP (.t (.t .h))).take (.t .h)
  · rw [if_neg h]
    simp only [if_neg h] at k
    refine ⟨_, _, rfl, ?_⟩
    refine k ⟨none, 0, 0⟩ _ ?_
    have H1 := (part_cls H okP)
    exact ((H1.take (.t hD)).take (.t .h)).own_nil T_uint8
theorem part_Write {r2 : List SP} (H : Heap F w l) {n : Int} {s : Sl} {bb : List UInt8} (hn : D.waits.length < 1000000) (k : ∀ w', Heap F w' (PartAt b d x :: DiskAt d (pwrite D x n bb).1 :: r2) → Q (.int .i64 (pwrite D x n bb).2) w')
    (hP : Take l (PartAt b d x) r := by repeat (first | assumption | constructor)) (hD : Take r (DiskAt d D) r2 := by repeat (first | assumption | constructor)) (hS : Has r2 (imm s bb) := by repeat (first | assumption | constructor)) : Does Tryd.prog N_extent_Part_Write #[.pointer (some ⟨b, 0, none⟩), .int .i64 n, .slice s.a s.len s.cap] w Q := by
  refine F_extent_Part_Write_does _ _ _ _ _ ?_
  unfold F_extent_Part_Write
  obtain ⟨_, H⟩ := (H.take hP).opn; dsimp only [List.cons_append, List.nil_append] at H; obtain ⟨okP, H⟩ := H.pur
  refine nn (ld0 H (lda H ?_))
  refine ext_Place H ⟨okP.1, okP.2.1⟩ fun w H => ?_
  unfold pwrite at k
  by_cases h : 0 ≤ n ∧ n < x.count
  · rw [if_pos h]
    simp only [if_pos h] at k
    refine ⟨_, _, rfl, nn (lda H ?_)⟩
    refine disk_Write H hn (fun w H => ⟨_, rfl, k w ?_⟩) (.t hD) (.t hS)
    exact part_cls H okP (.t .h)
  · rw [if_neg h]
    simp only [if_neg h] at k
    refine ⟨_, _, rfl, ?_⟩
    have H1 := (part_cls H okP)
    exact k _ ((H1.take (.t hD)).take (.t .h))
theorem part_Flush {r2 : List SP} (H : Heap F w l) (k : ∀ w', Heap F w' (PartAt b d x :: DiskAt d D.flush.1 :: r2) → Q (.int .i64 D.flush.2) w')
    (hP : Take l (PartAt b d x) r := by repeat (first | assumption | constructor)) (hD : Take r (DiskAt d D) r2 := by repeat (first | assumption | constructor)) : Does Tryd.prog N_extent_Part_Flush #[.pointer (some ⟨b, 0, none⟩)] w Q := by
  refine F_extent_Part_Flush_does _ _ _ ?_
  unfold F_extent_Part_Flush
  obtain ⟨_, H⟩ := (H.take hP).opn; dsimp only [List.cons_append, List.nil_append] at H; obtain ⟨okP, H⟩ := H.pur
  refine nn (lda H ?_)
  refine disk_Flush H (fun w H => ⟨_, rfl, k w ?_⟩) (.t hD)
  exact part_cls H okP (.t .h)
/-! ### octet -/
theorem oct_Put (H : Heap F w l) {n : UInt64} {k : Nat} (h1 : 1 ≤ k) (h8 : k ≤ 8) {K : Value → World → Prop} (kk : ∀ (s : Sl) w', Heap F w' (own T_uint8 s (put n k) :: l) → K (.slice s.a s.len s.cap) w') :
    Does Tryd.prog N_octet_Put #[.int .u64 (n.toNat : Int), .int .i64 (k : Int)] w K := by
  refine F_octet_Put_does _ _ _ _ ?_
  unfold F_octet_Put
  intro J hJ
  refine dF (by omega) (dF (by omega) (hJ _ ?_))
  refine mk (d := (0 : UInt8)) Z_l_uint8 H (by omega) (by omega) (by simp only [maxLen]; omega) fun g w H => ?_
  replace H := H.blk_own (n := k) (cs := List.map Sc.enc (List.replicate (k : Int).toNat (0 : UInt8))) (List.replicate k (0 : UInt8)) (by simp) (mx (by simp; omega)) (by simp)
  simp only [Int.toNat_natCast]
  refine ⟨fun m x w' => ∃ (i : Nat) (q : UInt64) (done : List UInt8), x = i ∧ m = (q.toNat : Int) ∧ i ≤ k ∧ done.length = i ∧ done ++ put q (k - i) = put n k ∧ Heap F w' (own T_uint8 ⟨some ⟨g, 0, none⟩, k, k⟩ (done ++ List.replicate (k - i) 0) :: l), fun _ x _ => (k - x).toNat,
    ⟨0, n, [], rfl, rfl, by omega, rfl, rfl, H⟩, ?_⟩
  rintro m x w1 ⟨i, q, done, rfl, rfl, hi, hdl, hd, H⟩
  refine dBoth (fun hlt => ?_) (fun hge => ?_)
  · have hlt' : i < k := by omega
    refine idxW (s := ⟨some ⟨g, 0, none⟩, k, k⟩) (xs := done ++ List.replicate (k - i) (0 : UInt8)) H (by omega) (by simp; omega) fun g' hg => ?_
    rw [wrap8_64, Int.toNat_natCast]
    refine stO (s := ⟨some ⟨g, 0, none⟩, k, k⟩) (xs := done ++ List.replicate (k - i) (0 : UInt8)) H hg (by simp; omega) q.toUInt8 rfl fun w2 H => ?_
    rw [shr64_8]
    refine ⟨by decide, ⟨i + 1, q >>> 8, done ++ [q.toUInt8], by rw [i64_id (by omega)]; omega, rfl, by omega, by simp [hdl], ?_, ?_⟩, by rw [i64_id (by omega)]; dsimp only; omega⟩
    · rw [← hd, show k - i = (k - (i + 1)) + 1 by omega, put]; simp
    · have e : (done ++ List.replicate (k - i) (0 : UInt8)).set i q.toUInt8 = done ++ [q.toUInt8] ++ List.replicate (k - (i + 1)) 0 := by
        rw [show k - i = (k - (i + 1)) + 1 by omega, List.replicate_succ, List.set_append_right _ _ (by omega), show i - done.length = 0 by omega]; simp
      rw [← e]; exact H
  · obtain rfl : i = k := by omega
    rw [Nat.sub_self] at hd H
    simp only [put, List.append_nil, List.replicate_zero] at hd H
    subst hd
    exact kk ⟨some ⟨g, 0, none⟩, i, i⟩ _ H
theorem oct_Get (H : Heap F w l) {s : Sl} {bb : List UInt8} (h1 : 1 ≤ bb.length) (h8 : bb.length ≤ 8) (k : Q (.tuple #[.int .u64 ((Nac.get bb).toNat : Int), .int .i64 0]) w) (hI : Has l (imm s bb) := by repeat (first | assumption | constructor)) :
    Does Tryd.prog N_octet_Get #[.slice s.a s.len s.cap] w Q := by
  refine F_octet_Get_does _ _ _ ?_
  unfold F_octet_Get
  have hl := H.len hI
  intro J hJ
  refine dF (by omega) (dF (by omega) (hJ _ ?_))
  rw [i64_id (by omega)]
  refine ⟨fun m x w' => ∃ (i : Nat), x = (i : Int) - 1 ∧ m = ((Nac.get (bb.drop i)).toNat : Int) ∧ i ≤ bb.length ∧ w' = w, fun _ x _ => (x + 1).toNat, ⟨bb.length, by omega, by rw [List.drop_of_length_le (Nat.le_refl _)]; rfl, by omega, rfl⟩, ?_⟩
  rintro m x w1 ⟨i, rfl, rfl, hi, rfl⟩
  refine dBoth (fun hlt => ?_) (fun hge => ?_)
  · refine ⟨by decide, idxI1 (xs := bb) H (by omega) (by omega) (fun a ha => ldT_cell _ ha ?_) hI⟩
    have e : ((i : Int) - 1).toNat = i - 1 := by omega
    simp only [e]
    rw [shl64_8, wrap64_8, or64]
    refine ⟨⟨i - 1, by rw [i64_id (by omega)]; omega, ?_, by omega, (by first | rfl | trivial)⟩, by rw [i64_id (by omega)]; (try dsimp only); omega⟩
    rw [List.drop_eq_getElem_cons (show i - 1 < bb.length by omega), Nac.get, show i - 1 + 1 = i by omega]
  · obtain rfl : i = 0 := by omega
    exact k
/-- a reader that has not failed -/
def RdAt (b : Nat) (bb : List UInt8) (n : Nat) : SP := SP.of fun s : Sl => [blk b T_octet_Reader [s.v, .int .i64 (n : Int), .nilIface], imm s bb]
theorem oct_Read (H : Heap F w l) {s : Sl} {bb : List UInt8} (hn : bb.length ≤ 1000000) (k : ∀ (b : Nat) w', Heap F w' (RdAt b bb 0 :: l) → Q (.pointer (some ⟨b, 0, none⟩)) w') (hI : Has l (imm s bb) := by repeat (first | assumption | constructor)) : Does Tryd.prog N_octet_Read #[.slice s.a s.len s.cap] w Q := by
  refine F_octet_Read_does _ _ _ ?_
  unfold F_octet_Read
  refine cpI (ys := bb) S_l_uint8 H (by omega) (fun s2 w H => ?_) hI
  replace H := H.share (s := s2) (xs := bb)
  refine al H (cs := [s2.v, .int .i64 0, .nilIface]) (fun b w H => k b w ?_) rfl
  exact H.cls (f := fun s : Sl => [blk b T_octet_Reader [s.v, .int .i64 ((0 : Nat) : Int), .nilIface], imm s bb]) s2
theorem oct_Left (H : Heap F w l) {bb : List UInt8} {n : Nat} (hn : n ≤ bb.length) (k : Heap F w.drew l → Q (.int .i64 ((bb.length - n : Nat) : Int)) w.drew) (hT : Take l (RdAt b bb n) r := by repeat (first | assumption | constructor)) : Does Tryd.prog N_octet_Reader_Left #[.pointer (some ⟨b, 0, none⟩)] w Q := by
  refine F_octet_Reader_Left_does _ _ _ ?_
  unfold F_octet_Reader_Left
  have H0 := H
  obtain ⟨s, H⟩ := (H.take hT).opn
  dsimp only [List.cons_append, List.nil_append] at H
  refine nn (ld0 H.drew (nn (lda H.drew ?_)))
  have hl := H.len (s := s) (xs := bb)
  have hb := H.bndI (s := s) (xs := bb)
  have e : IntKind.wrap .i64 (((s.len : Nat) : Int) - (n : Int)) = ((bb.length - n : Nat) : Int) := by rw [i64_id (by omega)]; omega
  rw [e]
  exact k H0.drew
theorem oct_Bytes (H : Heap F w l) {bb : List UInt8} {n m : Nat} (hn : n + m ≤ bb.length) (hm : m ≤ 1000000) (k : ∀ (s : Sl) w', Heap F w' (own T_uint8 s ((bb.drop n).take m) :: RdAt b bb (n + m) :: r) → Q (.slice s.a s.len s.cap) w') (hT : Take l (RdAt b bb n) r := by repeat (first | assumption | constructor)) :
    Does Tryd.prog N_octet_Reader_Bytes #[.pointer (some ⟨b, 0, none⟩), .int .i64 (m : Int)] w Q := by
  refine F_octet_Reader_Bytes_does _ _ _ _ ?_
  unfold F_octet_Reader_Bytes
  have H0 := H.take hT
  obtain ⟨s, H⟩ := H0.opn
  dsimp only [List.cons_append, List.nil_append] at H
  refine nn (lda H (nil_ne (cF rfl (dF (by omega) ?_))))
  have hl := H.len (s := s) (xs := bb)
  have hb := H.bndI (s := s) (xs := bb)
  refine oct_Left (n := n) (bb := bb) H0 (by omega) (fun H0 => ⟨_, rfl, dF (by omega) ?_⟩)
  replace H := H.drew
  refine nn (ld0 H.drew (nn (lda H.drew (nn (lda H.drew ?_)))))
  rw [i64_id (by omega)]
  refine slcI (s := s) (xs := bb) H.drew (by omega) (by omega) (by omega) fun t H => ?_
  have e : ((n : Int) + (m : Int)).toNat - (n : Int).toNat = m := by omega
  rw [e, Int.toNat_natCast] at H
  refine cpI (ys := (bb.drop n).take m) S_l_uint8 H (by simp; omega) fun s2 w H => ?_
  refine nn (lda H (nn (sta H fun w H => k s2 w ?_)))
  replace H := H.dr (imm t _)
  rw [i64_id (by omega), show (n : Int) + (m : Int) = ((n + m : Nat) : Int) by omega] at H
  exact (H.cls (f := fun s : Sl => [blk b T_octet_Reader [s.v, .int .i64 ((n + m : Nat) : Int), .nilIface], imm s bb]) s).take (.t .h)
theorem oct_Num (H : Heap F w l) {bb : List UInt8} {n m : Nat} (h1 : 1 ≤ m) (h8 : m ≤ 8) (hn : n + m ≤ bb.length) (k : ∀ w', Heap F w' (RdAt b bb (n + m) :: r) → Q (.int .u64 ((Nac.get ((bb.drop n).take m)).toNat : Int)) w') (hT : Take l (RdAt b bb n) r := by repeat (first | assumption | constructor)) :
    Does Tryd.prog N_octet_Reader_Num #[.pointer (some ⟨b, 0, none⟩), .int .i64 (m : Int)] w Q := by
  refine F_octet_Reader_Num_does _ _ _ _ ?_
  unfold F_octet_Reader_Num
  intro J hJ J2 hJ2
  refine dF (by omega) (hJ2 _ _ (dF (by omega) (hJ _ ?_)))
  refine oct_Bytes H hn (by omega) (fun s w H => ⟨_, rfl, ?_⟩) hT
  have hlen : ((bb.drop n).take m).length = m := by simp; omega
  replace H := H.share (s := s) (xs := (bb.drop n).take m)
  refine oct_Get H (bb := (bb.drop n).take m) (by omega) (by omega) ⟨_, _, rfl, k _ (H.dr (imm s _))⟩
/-! ### crc -/
def Half : SP := ⟨fun ro _ => ∀ (i : Nat) (v : UInt32), half[i]? = some v → roCell ro 0 i = some (.int .u32 (v.toNat : Int)), fun hr _ h i v hv => roCell.mono hr (h i v hv)⟩
theorem half_ld (H : Heap F w l) {r0 : UInt32} {K : Int → Prop} (k : K ((half.getD (r0 &&& 15).toNat 0).toNat : Int)) (hI : Has l Half := by repeat (first | assumption | constructor)) :
    idxR 16 ((r0 &&& 15).toNat : Int) (ldT (.int .u32) w (((⟨0, 0, none⟩ : Addr)).add (Int.toNat ((r0 &&& 15).toNat : Int) * 1)) K) := by
  have hlt : (r0 &&& 15).toNat < 16 := by
    rw [UInt32.toNat_and]
    exact Nat.lt_of_le_of_lt Nat.and_le_right (by decide)
  obtain ⟨ro, g, hro, _, h⟩ := H.get hI
  refine ⟨by omega, by omega, _, ?_, k⟩
  rw [add_mk, Int.toNat_natCast, Nat.mul_one, Nat.zero_add]
  refine roCell.cell hro (h _ _ ?_)
  rw [List.getD_eq_getElem?_getD, List.getElem?_eq_getElem (show (r0 &&& 15).toNat < half.length from hlt)]; rfl
theorem shr32_4 (a : UInt32) : Int.fdiv (a.toNat : Int) (2 ^ (min (Int.toNat (4)) (IntKind.bits .u32))) = ((a >>> 4).toNat : Int) := shr32 a 4 (by decide)
theorem crc_On (H : Heap F w l) {s : Sl} {bb : List UInt8} {s0 : UInt32} (k : Q (.int .u32 ((crcOn s0 bb).toNat : Int)) w) (hI : Has l (imm s bb) := by repeat (first | assumption | constructor)) (hH : Has l Half := by repeat (first | assumption | constructor)) :
    Does Tryd.prog N_crc_On #[.int .u32 (s0.toNat : Int), .slice s.a s.len s.cap] w Q := by
  refine F_crc_On_does _ _ _ _ ?_
  unfold F_crc_On
  have hl := H.len hI
  have hb := H.bndI hI
  rw [not32]
  refine ⟨fun m x w' => ∃ (i : Nat) (q : UInt32), x = i ∧ m = (q.toNat : Int) ∧ i ≤ bb.length ∧ (bb.drop i).foldl crcB q = bb.foldl crcB (~~~ s0) ∧ w' = w, fun _ x _ => (bb.length - x).toNat, ⟨0, ~~~ s0, rfl, rfl, by omega, rfl, rfl⟩, ?_⟩
  rintro m x w1 ⟨i, q, rfl, rfl, hi, hq, rfl⟩
  refine dBoth (fun hlt => ?_) (fun hge => ?_)
  · have hlt' : i < bb.length := by omega
    refine idxI1 (xs := bb) H (by omega) (by omega) (fun a ha => ldT_cell _ ha ?_) hI
    simp only [Int.toNat_natCast]
    have e15 : (15 : Int) = ((15 : UInt32).toNat : Int) := by decide
    refine ⟨by decide, ?_⟩
    rw [wrap32_8, xor32, e15, and32]
    refine half_ld H ?_ hH
    refine ⟨by decide, ?_⟩
    rw [shr32_4, xor32, and32]
    refine half_ld H ?_ hH
    rw [shr32_4, xor32]
    refine ⟨⟨i + 1, crcB q bb[i], by rw [i64_id (by omega)]; omega, rfl, by omega, by rw [← hq, List.drop_eq_getElem_cons hlt']; rfl, (by first | rfl | trivial)⟩, by rw [i64_id (by omega)]; (try dsimp only); omega⟩
  · obtain rfl : i = bb.length := by omega
    rw [List.drop_of_length_le (Nat.le_refl _)] at hq
    rw [not32, show q = bb.foldl crcB (~~~ s0) from hq]
    exact k
theorem crc_Of (H : Heap F w l) {s : Sl} {bb : List UInt8} (k : Q (.int .u32 ((crc bb).toNat : Int)) w) (hI : Has l (imm s bb) := by repeat (first | assumption | constructor)) (hH : Has l Half := by repeat (first | assumption | constructor)) :
    Does Tryd.prog N_crc_Of #[.slice s.a s.len s.cap] w Q := by
  refine F_crc_Of_does _ _ _ ?_
  unfold F_crc_Of
  exact crc_On (s0 := 0) H ⟨_, rfl, k⟩ hI hH
theorem crc_Seal (H : Heap F w l) {s : Sl} {bb : List UInt8} (hn : bb.length ≤ 1000000) (k : ∀ (s' : Sl) w', Heap F w' (own T_uint8 s' (seal_ bb) :: l) → Q (.slice s'.a s'.len s'.cap) w') (hI : Has l (imm s bb) := by repeat (first | assumption | constructor)) (hH : Has l Half := by repeat (first | assumption | constructor)) :
    Does Tryd.prog N_crc_Seal #[.slice s.a s.len s.cap] w Q := by
  refine F_crc_Seal_does _ _ _ ?_
  unfold F_crc_Seal
  refine cpI (ys := bb) S_l_uint8 H (by omega) (fun s1 w H => ?_) hI
  refine crc_Of (s := s) (bb := bb) H ⟨_, rfl, ?_⟩ (.t hI) (.t hH)
  rw [wrap64_32]
  refine oct_Put H (k := 4) (by decide) (by decide) fun s2 w H => ⟨_, rfl, ?_⟩
  replace H := H.share (s := s2) (xs := put (crc bb).toUInt64 4)
  refine apI (s := s1) (xs := bb) (ys := put (crc bb).toUInt64 4) S_l_uint8 H (by simp; omega) fun s3 w H => k s3 w (H.dr (imm s2 _))
end
end Go.Proofs.YtkfcmpngcanffaaDoor.G
