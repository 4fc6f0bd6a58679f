import Derived.Test.YtkfcmpngcanffaaDoorDg
import Derived.Test.YtkfcmpngcanffaaDoorNe
set_option linter.unusedVariables false
set_option linter.unusedSimpArgs false
namespace Go.Proofs.YtkfcmpngcanffaaDoor.G
open Go Go.VC Go.RowKit Go.Proofs Go.Proofs.YtkfcmpngcanffaaDoor Nac
attribute [local irreducible] Tryd.prog
structure RW where
  w : Wr
instance : Rep RW where
  n := 2
  r := fun _ cs x => cs = [.int .i64 x.w.at_, .string (bs x.w.b)]
  mono := fun _ h => h
  len := fun h => by rw [h]; rfl
  one := fun h u hu => by rw [h] at hu; simp at hu; rcases hu with rfl | rfl <;> rfl
def RDk (s1 s2 s5 : Sl) (D : Disk) : SP := ⟨fun ro _ => immL ro s1 (D.has.map bs) ∧ immL ro s2 (D.waits.map RW.mk) ∧ immL ro s5 D.surv ∧ D.ok, fun hr _ ⟨a, b, c, d⟩ => ⟨a.mono hr, b.mono hr, c.mono hr, d⟩⟩
@[reducible] def dv (s1 s2 s5 : Sl) (D : Disk) : Value := .agg #[.slice s1.a s1.len s1.cap, .slice s2.a s2.len s2.cap, .bool D.off, .int .i64 D.left, .slice s5.a s5.len s5.cap]
section
variable {F : Bs} {w : World} {l r : List SP} {b d p : Nat} {D : Disk} {Q : Value → World → Prop} {X : Nac.Ext} {s1 s2 s5 : Sl}
theorem rd_open (H : Heap F w l) (hR : Has l (RDk s1 s2 s5 D)) : D.ok ∧ Heap F w (imm s1 (D.has.map bs) :: imm s2 (D.waits.map RW.mk) :: imm s5 D.surv :: l) := by
  refine ⟨H.pure hR fun _ _ h => h.2.2.2, ?_⟩
  have H := H.add (c' := imm s5 D.surv) hR fun _ _ h => h.2.2.1
  have H := H.add (c' := imm s2 (D.waits.map RW.mk)) (.t hR) fun _ _ h => h.2.1
  exact H.add (c' := imm s1 (D.has.map bs)) (.t (.t hR)) fun _ _ h => h.1
theorem rd_close (H : Heap F w l) {L1 : List ByteArray} {L2 : List RW} {L5 : List Bool} (h1 : Has l (imm s1 L1)) (h2 : Has l (imm s2 L2)) (h5 : Has l (imm s5 L5)) (D : Disk) (ok : D.ok) (e1 : L1 = D.has.map bs) (e2 : L2 = D.waits.map RW.mk) (e5 : L5 = D.surv) : Heap F w (RDk s1 s2 s5 D :: l) := by
  subst e1; subst e2; subst e5
  exact H.imp fun ro h hs => by
    obtain ⟨_, _, g1⟩ := sep.has h1 hs
    obtain ⟨_, _, g2⟩ := sep.has h2 hs
    obtain ⟨_, _, g5⟩ := sep.has h5 hs
    exact ⟨PH.emp, h, fun _ => .inl rfl, PH.emp_le _, PH.le.refl _, ⟨g1, g2, g5, ok⟩, hs⟩
theorem rd_with (H : Heap F w l) {s : Sl} {L : List (List UInt8)} (hI : Has l (imm s (L.map bs))) {at_ : Int} {c : List UInt8} (h0 : 0 ≤ at_) (h1 : at_ < L.length) (hn : L.length ≤ 100000)
    (k : ∀ (s' : Sl) w', Heap F w' (imm s' ((L.set at_.toNat c).map bs) :: l) → Q (.slice s'.a s'.len s'.cap) w') : Does Tryd.prog N_ref05_with #[.slice s.a s.len s.cap, .int .i64 at_, .string (bs c)] w Q := by
  refine F_ref05_with_does _ _ _ _ _ ?_
  unfold F_ref05_with
  refine al H (cs := []) (fun a w H => ?_) rfl
  replace H := H.blk_own (α := ByteArray) (n := 0) (cs := []) (e := T_string) [] rfl (mx (by decide)) rfl
  refine apI (s := ⟨some ⟨a, 0, none⟩, 0, 0⟩) (xs := ([] : List ByteArray)) (ys := L.map bs) S_l_string H (by simp; omega) (fun s3 w H => ?_) (hI := .t hI)
  rw [List.nil_append] at H
  refine idxW (s := s3) (xs := L.map bs) H h0 (by simpa using h1) fun g hg => ?_
  refine stO (s := s3) (xs := L.map bs) H hg (by simp; omega) (bs c) rfl fun w H => k s3 w ?_
  rw [← List.map_set] at H
  exact H.share
theorem rd_laid (H : Heap F w l) (hR : Has l (RDk s1 s2 s5 D)) {all : Bool} {sv : Sl} {surv : List Bool} (hS : Has l (imm sv surv))
    (k : ∀ (s' : Sl) w', Heap F w' (RDk s' ⟨none, 0, 0⟩ s5 { D with has := cond all (Disk.layAll D.has D.waits) (Disk.layS D.has D.waits surv), waits := [] } :: l) → Q (.agg #[.slice s'.a s'.len s'.cap, .slice none 0 0, .bool D.off, .int .i64 D.left, .slice s5.a s5.len s5.cap]) w') :
    Does Tryd.prog N_ref05_Disk_laid #[dv s1 s2 s5 D, .bool all, .slice sv.a sv.len sv.cap] w Q := by
  refine F_ref05_Disk_laid_does _ _ _ _ _ _ _ _ _ ?_
  unfold F_ref05_Disk_laid
  obtain ⟨ok, H⟩ := rd_open H hR
  have hsz := ok.size
  have l2 := H.len (s := s2) (xs := D.waits.map RW.mk)
  have lv := H.len (.t (.t (.t hS)))
  have b2 := H.bndI (s := s2) (xs := D.waits.map RW.mk)
  simp only [List.length_map] at l2 b2
  refine al H (cs := [s1.v, s2.v, .bool D.off, .int .i64 D.left, s5.v]) (fun a1 w H => ?_) rfl
  refine al H (cs := [(Sl.v ⟨none, 0, 0⟩), (Sl.v ⟨none, 0, 0⟩), .bool false, .int .i64 0, (Sl.v ⟨none, 0, 0⟩)]) (fun a3 w H => ?_) zc_ref05_Disk
  refine ⟨fun x w' => ∃ (i : Nat) (cur : List (List UInt8)) (s : Sl), x = i ∧ i ≤ D.waits.length ∧ cur.length = D.has.length ∧ (∀ s ∈ cur, s.length = 64) ∧ (all = true → Disk.layAll cur (D.waits.drop i) = Disk.layAll D.has D.waits) ∧ (all = false → Disk.layS cur (D.waits.drop i) (surv.drop i) = Disk.layS D.has D.waits surv) ∧
      Heap F w' (blk a1 T_ref05_Disk [s.v, s2.v, .bool D.off, .int .i64 D.left, s5.v] :: imm s (cur.map bs) :: blk a3 T_ref05_Disk [(Sl.v ⟨none, 0, 0⟩), (Sl.v ⟨none, 0, 0⟩), .bool false, .int .i64 0, (Sl.v ⟨none, 0, 0⟩)] :: imm s2 (D.waits.map RW.mk) :: imm s5 D.surv :: l), fun x _ => (D.waits.length - x).toNat,
    ⟨0, D.has, s1, rfl, by omega, rfl, ok.has, fun _ => rfl, fun _ => rfl, ?_⟩, ?_⟩
  · have H := H.ord5 (a := blk a1 _ _) (b := imm s1 _) (c := blk a3 _ _) (d := imm s2 _) (e := imm s5 _)
    exact H
  rintro x w1 ⟨i, cur, s, rfl, hi, hcl, hc64, hA, hB, H⟩
  refine lda H (dBoth (fun hlt => ?_) (fun hge => ?_))
  · have hlt' : i < D.waits.length := by omega
    have hw := ok.waits _ (List.getElem_mem hlt')
    intro J hJ J2 hJ2
    have yes : (all = true ∨ (i < surv.length ∧ surv.getD i false = true)) → J2 true w1 := fun hc => by
      refine hJ2 _ _ (cT rfl ?_)
      replace H := H.drew
      refine ld0 H (lda H ?_)
      have e : (D.waits.map RW.mk)[i]'(by simpa using hlt') = RW.mk D.waits[i] := by simp
      refine idxI (s := s2) (xs := D.waits.map RW.mk) H (by omega) (by simp; omega) fun a cs H1 hAt => ?_
      simp only [Int.toNat_natCast, e] at H1
      have ecs : cs = [.int .i64 D.waits[i].at_, .string (bs D.waits[i].b)] := H1.pure .h fun _ _ h => h
      subst ecs
      refine At.ld0 hAt (lda H ?_)
      refine idxI (s := s2) (xs := D.waits.map RW.mk) H (by omega) (by simp; omega) fun a cs H1 hAt => ?_
      simp only [Int.toNat_natCast, e] at H1
      have ecs : cs = [.int .i64 D.waits[i].at_, .string (bs D.waits[i].b)] := H1.pure .h fun _ _ h => h
      subst ecs
      refine At.ld hAt ?_
      refine rd_with (L := cur) (c := D.waits[i].b) H (.t .h) (by omega) (by omega) (by omega) fun s' w H => ⟨_, rfl, ?_⟩
      refine st0 H fun w H => hJ _ ⟨⟨i + 1, Disk.lay cur D.waits[i], s', by rw [i64_id (by omega)]; omega, by omega, by rw [Disk.lay_length]; exact hcl, Disk.lay_all64 hc64 hw.2.2, fun ha => ?_, fun ha => ?_, ?_⟩, by rw [i64_id (by omega)]; dsimp only; omega⟩
      · rw [← hA ha, List.drop_eq_getElem_cons hlt']; rfl
      · rw [← hB ha, layS_drop hlt', if_pos]
        rcases hc with h | h
        · rw [ha] at h; cases h
        · exact h
      · exact H.dr (imm s (cur.map bs))
    have no : all = false → ¬ (i < surv.length ∧ surv.getD i false = true) → J2 false w1 := fun ha hc => by
      refine hJ2 _ _ (cF rfl (hJ _ ⟨⟨i + 1, cur, s, by rw [i64_id (by omega)]; omega, by omega, hcl, hc64, fun h => (by rw [ha] at h; cases h), fun _ => ?_, H⟩, by rw [i64_id (by omega)]; dsimp only; omega⟩))
      rw [← hB ha, layS_drop hlt', if_neg hc]
    refine cBoth (fun h => yes (.inl h)) (fun ha => ?_)
    refine dBoth (fun hs => ?_) (fun hs => no ha fun h => by omega)
    have hs' : i < surv.length := by omega
    refine idxI1 (s := sv) (xs := surv) H (by omega) (by omega) (fun a hc => ldT_cell _ hc ?_) (.t (.t (.t (.t (.t hS)))))
    simp only [Int.toNat_natCast]
    have e : surv.getD i false = surv[i] := by simp [List.getD_eq_getElem?_getD, hs']
    cases hb : surv[i]
    · exact no ha (by rw [e, hb]; simp)
    · exact yes (.inr ⟨hs', by rw [e, hb]⟩)
  · obtain rfl : i = D.waits.length := by omega
    have e1 : cond all (Disk.layAll D.has D.waits) (Disk.layS D.has D.waits surv) = cur := by
      cases all
      · rw [cond_false, ← hB rfl, List.drop_of_length_le (Nat.le_refl _)]; cases List.drop D.waits.length surv <;> rfl
      · rw [cond_true, ← hA rfl, List.drop_of_length_le (Nat.le_refl _)]; rfl
    rw [e1] at k
    repeat (first | refine lda H ?_ | refine ld0 H ?_ | refine ldaN H ?_ | refine ld0N H ?_ | refine sta H fun w H => ?_ | refine st0 H fun w H => ?_)
    refine k s _ ?_
    replace H := H.dr2 (blk a1 _ _) (blk a3 _ _)
    replace H := H.imm_nil (α := RW)
    replace H := rd_close H (s1 := s) (s2 := ⟨none, 0, 0⟩) (s5 := s5) (.t .h) .h (.t (.t (.t .h))) { D with has := cur, waits := [] } ⟨hc64, by show cur.length ≤ 256; omega, fun w hw => by simp at hw, ok.left⟩ rfl rfl rfl
    replace H := H.dr2 (imm (⟨none, 0, 0⟩ : Sl) ([] : List RW)) (imm s _)
    exact H.dr2 (imm s2 _) (imm s5 _)
end
end Go.Proofs.YtkfcmpngcanffaaDoor.G
