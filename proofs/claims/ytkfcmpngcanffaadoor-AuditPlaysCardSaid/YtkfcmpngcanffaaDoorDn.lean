import Derived.Test.YtkfcmpngcanffaaDoorDm
import Derived.Test.YtkfcmpngcanffaaDoorDg
import Derived.Laws.Pointers
set_option linter.unusedVariables false
set_option linter.unusedSimpArgs false
namespace Nac
theorem write_waits (D : Disk) (a : Int) (b : List UInt8) : (D.write a b).1.waits.length ≤ D.waits.length + 1 := by
  have := Disk.goes_waits D
  unfold Disk.write
  cases D.inB a
  · simp
  · simp only [cond_true]
    split
    · cases D.goes.2
      · simp only [cond_false]; omega
      · simp only [cond_true, List.length_append, List.length_singleton]; omega
    · simp
theorem flush_waits (D : Disk) : D.flush.1.waits.length ≤ D.waits.length := by
  have := Disk.goes_waits D
  unfold Disk.flush
  cases D.goes.2
  · exact this
  · simp
theorem pwrite_waits (D : Disk) (X : Ext) (a : Int) (b : List UInt8) : (pwrite D X a b).1.waits.length ≤ D.waits.length + 1 := by
  unfold pwrite
  split
  · exact write_waits _ _ _
  · simp
theorem aadd_waits (D : Disk) (X : Ext) (L : List Entry) (dead : Bool) (x : Entry) : (aadd D X L dead x).1.waits.length ≤ D.waits.length + 1 := by
  have h1 := pwrite_waits D X L.length (asec L.length x)
  have h2 := flush_waits (pwrite D X L.length (asec L.length x)).1
  unfold aadd
  cases dead
  · simp only [cond_false]
    cases may x
    · simp
    · simp only [cond_true]
      split
      · simp
      · split
        · split
          · simp only; omega
          · simp only; omega
        · simp only; omega
  · simp
theorem aadd_len {D : Disk} {X : Ext} {L : List Entry} {dead : Bool} {x : Entry} (h : (L.length : Int) ≤ X.count) : ((aadd D X L dead x).2.1.length : Int) ≤ X.count := by
  unfold aadd
  cases dead
  · simp only [cond_false]
    cases may x
    · simpa using h
    · simp only [cond_true]
      split
      · exact h
      · split
        · split
          · simp only [List.length_append, List.length_singleton]; omega
          · exact h
        · exact h
  · exact h
theorem scan_len2 (D : Disk) (X : Ext) : ∀ k n, (scan D X k n).1.length ≤ k
  | 0, n => by simp [scan]
  | k + 1, n => by
    rw [scan]
    split
    · simp
    · split
      · have := scan_len2 D X k (n + 1); simp only [List.length_cons]; omega
      · simp
end Nac
namespace Go.VC
open Go Go.RowKit
theorem ptr_eql {P : Program} {w : World} {t x : Nat} {p : Option Addr} {K : Bool → World → Prop} (h : P.underlying t = some (.pointer (P.pointee t))) (k : K p.isNone w) :
    runG (.bool) P w (do eqGuard .eql t (.tmp x) (.const (.pointer none)) (.pointer p) (.pointer none); binOp .eql t (.pointer p) (.pointer none)) K :=
  ⟨.bool p.isNone, w, by
    have e : eqGuard .eql t (.tmp x) (.const (.pointer none)) (.pointer p) (.pointer none) = pure () := by cases p <;> rfl
    rw [e, pure_bind]
    exact run_eql_pointer_nil w t p h, _, rfl, k⟩
end Go.VC
namespace Go.Proofs.YtkfcmpngcanffaaDoor.G
open Go Go.VC Go.RowKit Go.Proofs Go.Proofs.YtkfcmpngcanffaaDoor Nac
theorem ptr_log : Tryd.prog.underlying T_p_audit_Log = some (.pointer (Tryd.prog.pointee T_p_audit_Log)) := by kernel_rfl
attribute [local irreducible] Tryd.prog
section
variable {F : Bs} {w : World} {l r : List SP} {b d p : Nat} {D : Disk} {Q : Value → World → Prop} {X : Nac.Ext}
@[reducible] def lk (c : Nat) (s1 s2 s5 sL : Sl) (D : Disk) (dead : Bool) : List Value := [s1.v, s2.v, .bool D.off, .int .i64 D.left, s5.v, .int .i64 2, .int .i64 (c : Int), sL.v, .bool dead]
set_option maxHeartbeats 2000000 in
theorem law_Plays (H : Heap F w l) {n : Int} {s : Sl} {xs : List Act20} (hS : Has l (imm s xs)) (hH : Has l Half) (hg : ∀ x ∈ xs, x.n ≤ 9223372036854775807 ∧ x.keep.length ≤ reachBytes) (k : ∀ w', Heap F w' l → Q (.bool true) w') : Does Tryd.prog N_law20_AuditPlays #[.int .i64 n, .slice s.a s.len s.cap] w Q := by
  refine F_law20_AuditPlays_does _ _ _ _ ?_
  unfold F_law20_AuditPlays
  have hsl := H.len hS
  refine law_count n ?_
  obtain ⟨c, hc⟩ : ∃ c : Nat, (if n < 1 ∨ n > 9 then (6 : Int) else n) = (c : Int) := ⟨(if n < 1 ∨ n > 9 then (6 : Int) else n).toNat, by split <;> omega⟩
  have hc1 : 1 ≤ c ∧ c ≤ 9 := by split at hc <;> omega
  rw [hc]
  refine ⟨_, rfl, ?_⟩
  refine law_part H (n := (c : Int)) (by omega) (by omega) fun d p w H => ⟨_, _, _, rfl, ?_⟩
  refine ref_New H (n := 12) (by decide) (by decide) fun s1 w H => ⟨s1, ⟨none, 0, 0⟩, _, _, ⟨none, 0, 0⟩, _, rfl, ?_⟩
  refine al H (cs := [(Sl.v ⟨none, 0, 0⟩), (Sl.v ⟨none, 0, 0⟩), .bool false, .int .i64 0, (Sl.v ⟨none, 0, 0⟩)]) (fun a17 w H => ?_) zc_ref05_Disk
  repeat (first | refine lda H ?_ | refine ld0 H ?_ | refine ldaa H ?_ | refine ldaN H ?_ | refine ld0N H ?_ | refine sta H fun w H => ?_ | refine st0 H fun w H => ?_)
  refine cF rfl ?_
  have K0 : KI c (Disk.new 12) [] := KI_new hc1.2
  refine open_KI (c := c) (d := d) K0 H fun b w H => ⟨_, _, rfl, ?_⟩
  intro J hJ
  have fin0 : ∀ (r9 : Nat) (sL : Sl) w', Heap F w' (blk r9 T_ref20_Log (lk c s1 ⟨none, 0, 0⟩ ⟨none, 0, 0⟩ sL (Disk.new 12) false) :: LogAt b p [] false :: PartAt p d ⟨2, (c : Int)⟩ :: DiskAt d (Disk.new 12) :: RDk s1 ⟨none, 0, 0⟩ ⟨none, 0, 0⟩ (Disk.new 12) :: imm sL ([] : List Entry) :: l) → J ⟨r9, 0, none⟩ 0 w' := by
    intro r9 sL w' H
    refine hJ _ _ _ ?_
    intro J2 hJ2
    refine cF rfl (cF rfl (hJ2 _ ?_))
    intro J3 hJ3
    have out : ∀ (b : Nat) (D : Disk) (L : List Entry) (dead : Bool) (s1 s2 s5 sL : Sl) w', Heap F w' (blk r9 T_ref20_Log (lk c s1 s2 s5 sL D dead) :: LogAt b p L dead :: PartAt p d ⟨2, (c : Int)⟩ :: DiskAt d D :: RDk s1 s2 s5 D :: imm sL L :: l) → J3 w' := fun b D L dead s1 s2 s5 sL w' H =>
      hJ3 _ (law_awake H (.t (.t (.t (.t (.t (.t hH)))))) fun w H => ⟨_, rfl, k w (H.tln 6)⟩)
    refine ⟨fun lg i w' => ∃ (m : Nat) (b : Nat) (D : Disk) (L : List Entry) (dead : Bool) (s1 s2 s5 sL : Sl), lg = some ⟨b, 0, none⟩ ∧ i = m ∧ m ≤ xs.length ∧ m ≤ 30 ∧ D.waits.length ≤ m ∧ L.length ≤ c ∧
        Heap F w' (blk r9 T_ref20_Log (lk c s1 s2 s5 sL D dead) :: LogAt b p L dead :: PartAt p d ⟨2, (c : Int)⟩ :: DiskAt d D :: RDk s1 s2 s5 D :: imm sL L :: l), fun _ i _ => (30 - i).toNat,
      ⟨0, b, Disk.new 12, [], false, s1, ⟨none, 0, 0⟩, ⟨none, 0, 0⟩, sL, rfl, rfl, by omega, by omega, by simp [Disk.new], by simp, H⟩, ?_⟩
    clear H
    rintro lg i w1 ⟨m, b, D, L, dead, s1, s2, s5, sL, rfl, rfl, hm, hm30, hwt, hLc, H⟩
    intro J4 hJ4
    refine dBoth (fun hlt => dBoth (fun hlt2 => hJ4 _ ?_) (fun h => hJ3 _ ?_)) (fun h => hJ3 _ ?_)
    rotate_left
    · exact law_awake H (.t (.t (.t (.t (.t (.t hH)))))) fun w H => ⟨_, rfl, k w (H.tln 6)⟩
    · exact law_awake H (.t (.t (.t (.t (.t (.t hH)))))) fun w H => ⟨_, rfl, k w (H.tln 6)⟩
    have hlt' : m < xs.length := by omega
    have hm' : m < 30 := by omega
    have hgm := hg xs[m] (List.getElem_mem hlt')
    intro J5 hJ5
    refine idxI (s := s) (xs := xs) H (by omega) (by omega) (fun a cs H hA => ?_) (.t (.t (.t (.t (.t (.t hS))))))
    simp only [Int.toNat_natCast] at H
    replace H := open_Act H
    obtain ⟨kp, rfl, H⟩ := H
    generalize xs[m] = A at *
    refine At.ld0 hA (At.ld hA (At.ld hA (At.ld hA (At.ld hA (At.ld hA (At.ld hA ?_))))))
    refine al H (cs := [.int .i64 0, .int .i64 0, .int .i64 0, .int .i64 0, .int .u32 0, .int .i64 0, (Sl.v ⟨none, 0, 0⟩)]) (fun a2 w H => ?_) zc_law20_Act
    refine st0 H fun w H => sta H fun w H => sta H fun w H => sta H fun w H => sta H fun w H => sta H fun w H => sta H fun w H => ?_
    intro J6 hJ6
    have next : ∀ (b : Nat) (D : Disk) (L : List Entry) (dead : Bool) (s1 s2 s5 sL : Sl) w' (lst : List SP), D.waits.length ≤ m + 1 → L.length ≤ c → Heap F w' lst → Takes lst [blk r9 T_ref20_Log (lk c s1 s2 s5 sL D dead), LogAt b p L dead, PartAt p d ⟨2, (c : Int)⟩, DiskAt d D, RDk s1 s2 s5 D, imm sL L] l → J6 (some ⟨b, 0, none⟩) w' := by
      intro b D L dead s1 s2 s5 sL w' lst hwt' hLc' H hT
      replace H := H.takes hT
      dsimp only [List.cons_append, List.nil_append] at H
      refine hJ6 _ _ ?_
      replace H := H.drew
      refine lda H ?_
      refine aud_Entries (L := L) H (by omega) fun se w H => ⟨_, rfl, cella H, ?_⟩
      refine law_same (s1 := se) (s2 := sL) (a := L) (b := L) H (.o .h) (.i (by repeat (first | assumption | constructor))) fun w H => ⟨_, rfl, cF (by simp) ?_⟩
      refine lda H ?_
      refine aud_Dead (p := p) (L := L) (dead := dead) H ⟨_, rfl, cella H, cF (by simp) ?_⟩
      repeat (first | refine lda H ?_ | refine ld0 H ?_ | refine ldaa H ?_ | refine ldaN H ?_ | refine ld0N H ?_ | refine sta H fun w H => ?_ | refine st0 H fun w H => ?_)
      have ok := H.pure (c := RDk s1 s2 s5 D) (by repeat (first | assumption | constructor)) fun _ _ h => h.2.2.2
      refine disk_Image (D := D) H fun si w H => ?_
      refine ⟨_, rfl, ⟨rfl, rowN 5 H (ty := T_ref20_Log) (cs := lk c s1 s2 s5 sL D dead)⟩, _, cvO (s := si) (xs := D.has.flatten) H und_l8 und_8 und_s, ?_⟩
      refine rd_Image H (s1 := s1) (s2 := s2) (s5 := s5) (D := D) (by repeat (first | assumption | constructor)) fun w H => ⟨_, rfl, cvO (s := si) (xs := D.has.flatten) H und_l8 und_8 und_s, cF (by simp) ?_⟩
      refine hJ5 _ _ ⟨⟨m + 1, b, D, L, dead, s1, s2, s5, sL, rfl, by rw [i64_id (by omega)]; omega, by omega, by omega, hwt', hLc', ?_⟩, by rw [i64_id (by omega)]; dsimp only; omega⟩
      replace H := (H.dr (own _ si _)).dr (own _ se _)
      exact H.takes (cs := [blk r9 T_ref20_Log (lk c s1 s2 s5 sL D dead), LogAt b p L dead, PartAt p d ⟨2, (c : Int)⟩, DiskAt d D, RDk s1 s2 s5 D, imm sL L]) (by repeat (first | assumption | constructor))
    refine ld0 H ?_
    intro J7 hJ7
    have all : ∀ bb, J7 bb w := by
      intro bb
      refine hJ7 _ _ ?_
      cases bb
      rotate_left
      · refine cT rfl ?_
        repeat (first | refine lda H ?_ | refine ld0 H ?_ | refine ldaa H ?_ | refine ldaN H ?_ | refine ld0N H ?_ | refine sta H fun w H => ?_ | refine st0 H fun w H => ?_)
        refine ref_Add H (X := ⟨2, (c : Int)⟩) (s1 := s1) (s2 := s2) (s5 := s5) (sL := sL) (D := D) (L := L) (dead := dead) (by repeat (first | assumption | constructor)) (by repeat (first | assumption | constructor)) ⟨by dsimp only; omega, by dsimp only; omega, by dsimp only; omega, by dsimp only; omega⟩ (by dsimp only; omega) (by omega) A.entry fun s1' s2' sL' w H => ⟨s1', s2', _, _, s5, _, _, sL', _, _, rfl, ?_⟩
        refine al H (cs := [(Sl.v ⟨none, 0, 0⟩), (Sl.v ⟨none, 0, 0⟩), .bool false, .int .i64 0, (Sl.v ⟨none, 0, 0⟩), .int .i64 0, .int .i64 0, (Sl.v ⟨none, 0, 0⟩), .bool false]) (fun ar w H => ?_) zc_ref20_Log
        have hw1 := aadd_waits D ⟨2, (c : Int)⟩ L dead A.entry
        have hl1 := aadd_len (D := D) (X := ⟨2, (c : Int)⟩) (L := L) (dead := dead) (x := A.entry) (by dsimp only; omega)
        repeat (first | refine lda H ?_ | refine ld0 H ?_ | refine ldaa H ?_ | refine ldaN H ?_ | refine ld0N H ?_ | refine sta H fun w H => ?_ | refine st0 H fun w H => ?_)
        refine aud_Add (d := d) (p := p) (X := ⟨2, (c : Int)⟩) (D := D) (L := L) (dead := dead) (x := A.entry) H (by omega) (by omega) (fun w H => ⟨_, rfl, cF (by simp) ?_⟩)
        generalize aadd D ⟨2, (c : Int)⟩ L dead A.entry = R at *
        obtain ⟨D1, L1, dead1, e1⟩ := R
        dsimp only at *
        replace H := (H.dr (RDk s1 s2 s5 D)).dr (imm sL L)
        replace H := ((H.dr (blk a2 _ _)).dr (blk ar _ _)).dr (imm kp A.keep)
        exact next b D1 L1 dead1 s1' s2' s5 sL' _ _ (by omega) (by omega) H (by repeat (first | assumption | constructor))
      · refine cF rfl (cBoth (fun h5 => ?_) (fun h5 => ?_))
        · repeat (first | refine lda H ?_ | refine ld0 H ?_ | refine ldaa H ?_ | refine ldaN H ?_ | refine ld0N H ?_ | refine sta H fun w H => ?_ | refine st0 H fun w H => ?_)
          refine disk_Arm (n := A.n) (s := kp) (surv := A.keep) (D := D) H hgm.1 (by have := hgm.2; simp only [reachBytes] at this; omega) (fun w H => ⟨rfl, ?_⟩)
          repeat (first | refine lda H ?_ | refine ld0 H ?_ | refine ldaa H ?_ | refine ldaN H ?_ | refine ld0N H ?_ | refine sta H fun w H => ?_ | refine st0 H fun w H => ?_)
          refine rd_Arm H (s1 := s1) (s2 := s2) (s5 := s5) (D := D) (by repeat (first | assumption | constructor)) hgm.1 (sv := kp) (surv := A.keep) (by repeat (first | assumption | constructor)) fun s5' w H => ⟨s1, s2, _, _, s5', rfl, ?_⟩
          repeat (first | refine lda H ?_ | refine ld0 H ?_ | refine ldaa H ?_ | refine ldaN H ?_ | refine ld0N H ?_ | refine sta H fun w H => ?_ | refine st0 H fun w H => ?_)
          replace H := ((H.dr (RDk s1 s2 s5 D)).dr (blk a2 _ _)).dr (imm kp A.keep)
          refine next b (D.arm A.n A.keep) L dead s1 s2 s5' sL _ _ (by rw [(arm_has D A.n A.keep).2.1]; omega) (by omega) H (by repeat (first | assumption | constructor))
        · intro J8 hJ8
          have op : ∀ (D : Disk) (s1 s2 : Sl) w' (lst : List SP), D.waits.length ≤ m + 1 → Heap F w' lst → Takes lst [blk r9 T_ref20_Log (lk c s1 s2 s5 sL D dead), LogAt b p L dead, PartAt p d ⟨2, (c : Int)⟩, DiskAt d D, RDk s1 s2 s5 D, imm sL L] l → J8 w' := by
            intro D s1 s2 w' lst hwt' H hT
            replace H := H.takes hT
            dsimp only [List.cons_append, List.nil_append] at H
            refine hJ8 _ ?_
            have hX : 0 ≤ (⟨2, (c : Int)⟩ : Nac.Ext).from_ ∧ (⟨2, (c : Int)⟩ : Nac.Ext).from_ ≤ 1000 ∧ 0 ≤ (⟨2, (c : Int)⟩ : Nac.Ext).count ∧ (⟨2, (c : Int)⟩ : Nac.Ext).count ≤ 1000 := ⟨by dsimp only; omega, by dsimp only; omega, by dsimp only; omega, by dsimp only; omega⟩
            have hsl' := scan_len2 D ⟨2, (c : Int)⟩ c 0
            refine aud_Open (D := D) (X := ⟨2, (c : Int)⟩) (p := p) (d := d) H (fun hz b2 w H => ⟨_, _, rfl, ?_⟩) (fun hnz w H => ⟨_, _, rfl, ?_⟩)
            · intro J9 hJ9
              have ec : (⟨2, (c : Int)⟩ : Nac.Ext).count.toNat = c := by simp
              rw [ec] at H hz
              have fin : ∀ (a : Nat) (sL' : Sl) w' (lst : List SP), Heap F w' lst → Takes lst [blk a T_ref20_Log (lk c s1 s2 s5 sL' D false), blk r9 T_ref20_Log (lk c s1 s2 s5 sL D dead)] (imm sL' (scan D ⟨2, (c : Int)⟩ c 0).1 :: LogAt b2 p (scan D ⟨2, (c : Int)⟩ c 0).1 false :: PartAt p d ⟨2, (c : Int)⟩ :: DiskAt d D :: LogAt b p L dead :: RDk s1 s2 s5 D :: imm sL L :: l) → J9 ⟨a, 0, none⟩ 0 w' := by
                intro a sL' w' lst H hT
                replace H := H.takes hT
                dsimp only [List.cons_append, List.nil_append] at H
                refine hJ9 _ _ _ ?_
                intro J10 hJ10
                refine cF rfl (ptr_eql ptr_log (cF rfl (hJ10 _ (cT rfl ?_))))
                replace H := H.drew
                repeat (first | refine lda H ?_ | refine ld0 H ?_ | refine ldaa H ?_ | refine ldaN H ?_ | refine ld0N H ?_ | refine sta H fun w H => ?_ | refine st0 H fun w H => ?_)
                replace H := ((H.dr (LogAt b p L dead)).dr (imm sL L)).dr (blk a _ _)
                exact next b2 D _ false s1 s2 s5 sL' _ _ hwt' hsl' H (by repeat (first | assumption | constructor))
              replace H := H.drew
              repeat (first | refine lda H ?_ | refine ld0 H ?_ | refine ldaa H ?_ | refine ldaN H ?_ | refine ld0N H ?_ | refine sta H fun w H => ?_ | refine st0 H fun w H => ?_)
              refine ⟨?_, ?_⟩
              · refine law_count n ?_
                rw [hc]
                refine ⟨_, rfl, ⟨rfl, rowN 5 H (ty := T_ref20_Log) (cs := lk c s1 s2 s5 sL D dead)⟩, ?_, ?_⟩
                · refine ref_Open H (X := ⟨2, (c : Int)⟩) (s1 := s1) (s2 := s2) (s5 := s5) (D := D) (by repeat (first | assumption | constructor)) hX (fun _ sL' w H => ⟨s1, s2, _, _, s5, _, _, sL', _, _, rfl, ?_⟩) (fun h => absurd hz h)
                  refine al H (cs := [(Sl.v ⟨none, 0, 0⟩), (Sl.v ⟨none, 0, 0⟩), .bool false, .int .i64 0, (Sl.v ⟨none, 0, 0⟩), .int .i64 0, .int .i64 0, (Sl.v ⟨none, 0, 0⟩), .bool false]) (fun ar w H => ?_) zc_ref20_Log
                  repeat (first | refine lda H ?_ | refine ld0 H ?_ | refine ldaa H ?_ | refine ldaN H ?_ | refine ld0N H ?_ | refine sta H fun w H => ?_ | refine st0 H fun w H => ?_)
                  exact fin _ sL' _ _ H (by repeat (first | assumption | constructor))
                · refine al H (cs := [(Sl.v ⟨none, 0, 0⟩), (Sl.v ⟨none, 0, 0⟩), .bool false, .int .i64 0, (Sl.v ⟨none, 0, 0⟩), .int .i64 0, .int .i64 0, (Sl.v ⟨none, 0, 0⟩), .bool false]) (fun ar w H => ?_) zc_ref20_Log
                  refine ⟨⟨rfl, rowN 5 H (ty := T_ref20_Log) (cs := lk c s1 s2 s5 sL D dead)⟩, ?_⟩
                  refine ref_Open H (X := ⟨2, (c : Int)⟩) (s1 := s1) (s2 := s2) (s5 := s5) (D := D) (by repeat (first | assumption | constructor)) hX (fun _ sL' w H => ⟨s1, s2, _, _, s5, _, _, sL', _, _, rfl, ?_⟩) (fun h => absurd hz h)
                  repeat (first | refine lda H ?_ | refine ld0 H ?_ | refine ldaa H ?_ | refine ldaN H ?_ | refine ld0N H ?_ | refine sta H fun w H => ?_ | refine st0 H fun w H => ?_)
                  exact fin _ sL' _ _ H (by repeat (first | assumption | constructor))
              · refine al H (cs := [(Sl.v ⟨none, 0, 0⟩), (Sl.v ⟨none, 0, 0⟩), .bool false, .int .i64 0, (Sl.v ⟨none, 0, 0⟩), .int .i64 0, .int .i64 0, (Sl.v ⟨none, 0, 0⟩), .bool false]) (fun ar w H => ?_) zc_ref20_Log
                refine ⟨⟨rfl, rowN 5 H (ty := T_ref20_Log) (cs := lk c s1 s2 s5 sL D dead)⟩, ?_⟩
                refine law_count n ?_
                rw [hc]
                refine ⟨_, rfl, ⟨rfl, rowN 5 H (ty := T_ref20_Log) (cs := lk c s1 s2 s5 sL D dead)⟩, ?_⟩
                refine ref_Open H (X := ⟨2, (c : Int)⟩) (s1 := s1) (s2 := s2) (s5 := s5) (D := D) (by repeat (first | assumption | constructor)) hX (fun _ sL' w H => ⟨s1, s2, _, _, s5, _, _, sL', _, _, rfl, ?_⟩) (fun h => absurd hz h)
                repeat (first | refine lda H ?_ | refine ld0 H ?_ | refine ldaa H ?_ | refine ldaN H ?_ | refine ld0N H ?_ | refine sta H fun w H => ?_ | refine st0 H fun w H => ?_)
                exact fin _ sL' _ _ H (by repeat (first | assumption | constructor))
            · intro J9 hJ9
              have fin : ∀ (a : Nat) w' (lst : List SP), Heap F w' lst → Takes lst [blk a T_ref20_Log [(Sl.v ⟨none, 0, 0⟩), (Sl.v ⟨none, 0, 0⟩), .bool false, .int .i64 0, (Sl.v ⟨none, 0, 0⟩), .int .i64 0, .int .i64 0, (Sl.v ⟨none, 0, 0⟩), .bool false], blk r9 T_ref20_Log (lk c s1 s2 s5 sL D dead)] (PartAt p d ⟨2, (c : Int)⟩ :: DiskAt d D :: LogAt b p L dead :: RDk s1 s2 s5 D :: imm sL L :: l) → J9 ⟨a, 0, none⟩ (scan D ⟨2, (c : Int)⟩ (⟨2, (c : Int)⟩ : Nac.Ext).count.toNat 0).2 w' := by
                intro a w' lst H hT
                replace H := H.takes hT
                dsimp only [List.cons_append, List.nil_append] at H
                refine hJ9 _ _ _ ?_
                intro J10 hJ10
                refine cF (by simp) (ptr_eql ptr_log (cF (by simpa using hnz) (hJ10 _ (cF (by simpa using hnz) ?_))))
                exact next b D L dead s1 s2 s5 sL _ _ hwt' hLc (H.dr (blk a _ _)) (by repeat (first | assumption | constructor))
              replace H := H.drew
              repeat (first | refine lda H ?_ | refine ld0 H ?_ | refine ldaa H ?_ | refine ldaN H ?_ | refine ld0N H ?_ | refine sta H fun w H => ?_ | refine st0 H fun w H => ?_)
              refine ⟨?_, ?_⟩
              · refine law_count n ?_
                rw [hc]
                refine ⟨_, rfl, ⟨rfl, rowN 5 H (ty := T_ref20_Log) (cs := lk c s1 s2 s5 sL D dead)⟩, ?_, ?_⟩
                · refine ref_Open H (X := ⟨2, (c : Int)⟩) (s1 := s1) (s2 := s2) (s5 := s5) (D := D) (by repeat (first | assumption | constructor)) hX (fun h => absurd h hnz) (fun _ w H => ⟨⟨none, 0, 0⟩, ⟨none, 0, 0⟩, _, _, ⟨none, 0, 0⟩, _, _, ⟨none, 0, 0⟩, _, _, rfl, ?_⟩)
                  refine al H (cs := [(Sl.v ⟨none, 0, 0⟩), (Sl.v ⟨none, 0, 0⟩), .bool false, .int .i64 0, (Sl.v ⟨none, 0, 0⟩), .int .i64 0, .int .i64 0, (Sl.v ⟨none, 0, 0⟩), .bool false]) (fun ar w H => ?_) zc_ref20_Log
                  repeat (first | refine lda H ?_ | refine ld0 H ?_ | refine ldaa H ?_ | refine ldaN H ?_ | refine ld0N H ?_ | refine sta H fun w H => ?_ | refine st0 H fun w H => ?_)
                  exact fin _ _ _ H (by repeat (first | assumption | constructor))
                · refine al H (cs := [(Sl.v ⟨none, 0, 0⟩), (Sl.v ⟨none, 0, 0⟩), .bool false, .int .i64 0, (Sl.v ⟨none, 0, 0⟩), .int .i64 0, .int .i64 0, (Sl.v ⟨none, 0, 0⟩), .bool false]) (fun ar w H => ?_) zc_ref20_Log
                  refine ⟨⟨rfl, rowN 5 H (ty := T_ref20_Log) (cs := lk c s1 s2 s5 sL D dead)⟩, ?_⟩
                  refine ref_Open H (X := ⟨2, (c : Int)⟩) (s1 := s1) (s2 := s2) (s5 := s5) (D := D) (by repeat (first | assumption | constructor)) hX (fun h => absurd h hnz) (fun _ w H => ⟨⟨none, 0, 0⟩, ⟨none, 0, 0⟩, _, _, ⟨none, 0, 0⟩, _, _, ⟨none, 0, 0⟩, _, _, rfl, ?_⟩)
                  repeat (first | refine lda H ?_ | refine ld0 H ?_ | refine ldaa H ?_ | refine ldaN H ?_ | refine ld0N H ?_ | refine sta H fun w H => ?_ | refine st0 H fun w H => ?_)
                  exact fin _ _ _ H (by repeat (first | assumption | constructor))
              · refine al H (cs := [(Sl.v ⟨none, 0, 0⟩), (Sl.v ⟨none, 0, 0⟩), .bool false, .int .i64 0, (Sl.v ⟨none, 0, 0⟩), .int .i64 0, .int .i64 0, (Sl.v ⟨none, 0, 0⟩), .bool false]) (fun ar w H => ?_) zc_ref20_Log
                refine ⟨⟨rfl, rowN 5 H (ty := T_ref20_Log) (cs := lk c s1 s2 s5 sL D dead)⟩, ?_⟩
                refine law_count n ?_
                rw [hc]
                refine ⟨_, rfl, ⟨rfl, rowN 5 H (ty := T_ref20_Log) (cs := lk c s1 s2 s5 sL D dead)⟩, ?_⟩
                refine ref_Open H (X := ⟨2, (c : Int)⟩) (s1 := s1) (s2 := s2) (s5 := s5) (D := D) (by repeat (first | assumption | constructor)) hX (fun h => absurd h hnz) (fun _ w H => ⟨⟨none, 0, 0⟩, ⟨none, 0, 0⟩, _, _, ⟨none, 0, 0⟩, _, _, ⟨none, 0, 0⟩, _, _, rfl, ?_⟩)
                repeat (first | refine lda H ?_ | refine ld0 H ?_ | refine ldaa H ?_ | refine ldaN H ?_ | refine ld0N H ?_ | refine sta H fun w H => ?_ | refine st0 H fun w H => ?_)
                exact fin _ _ _ H (by repeat (first | assumption | constructor))
          refine ld0 H (cBoth (fun h6 => ?_) (fun h6 => ?_))
          · repeat (first | refine lda H ?_ | refine ld0 H ?_ | refine ldaa H ?_ | refine ldaN H ?_ | refine ld0N H ?_ | refine sta H fun w H => ?_ | refine st0 H fun w H => ?_)
            refine disk_Crash (D := D) (s := kp) (surv := A.keep) H (fun w H => ⟨rfl, ?_⟩)
            refine disk_Power (D := D.crash A.keep) H fun w H => ⟨rfl, ?_⟩
            repeat (first | refine lda H ?_ | refine ld0 H ?_ | refine ldaa H ?_ | refine ldaN H ?_ | refine ld0N H ?_ | refine sta H fun w H => ?_ | refine st0 H fun w H => ?_)
            refine rd_Crash H (s1 := s1) (s2 := s2) (s5 := s5) (D := D) (by repeat (first | assumption | constructor)) (sv := kp) (surv := A.keep) (by repeat (first | assumption | constructor)) fun s1' s2' w H => ⟨s1', s2', _, _, s5, rfl, ?_⟩
            refine rd_Power H (s1 := s1') (s2 := s2') (s5 := s5) (D := D.crash A.keep) .h fun w H => ⟨s1', ⟨none, 0, 0⟩, _, _, s5, rfl, ?_⟩
            repeat (first | refine lda H ?_ | refine ld0 H ?_ | refine ldaa H ?_ | refine ldaN H ?_ | refine ld0N H ?_ | refine sta H fun w H => ?_ | refine st0 H fun w H => ?_)
            replace H := (((H.dr (RDk s1' s2' s5 (D.crash A.keep))).dr (RDk s1 s2 s5 D)).dr (blk a2 _ _)).dr (imm kp A.keep)
            exact op (D.crash A.keep).power s1' ⟨none, 0, 0⟩ _ _ (by simp [Disk.power]) H (by repeat (first | assumption | constructor))
          · exact op D s1 s2 _ _ (by omega) ((H.dr (blk a2 _ _)).dr (imm kp A.keep)) (by repeat (first | assumption | constructor))
    refine cBoth (fun _ => all _) (fun _ => cBoth (fun _ => all _) (fun _ => cBoth (fun _ => all _) (fun _ => cBoth (fun _ => all _) (fun _ => all _))))
  have hz : (scan (Disk.new 12) ⟨2, (c : Int)⟩ (⟨2, (c : Int)⟩ : Nac.Ext).count.toNat 0) = ([], 0) := scan_all K0
  have hX : 0 ≤ (⟨2, (c : Int)⟩ : Nac.Ext).from_ ∧ (⟨2, (c : Int)⟩ : Nac.Ext).from_ ≤ 1000 ∧ 0 ≤ (⟨2, (c : Int)⟩ : Nac.Ext).count ∧ (⟨2, (c : Int)⟩ : Nac.Ext).count ≤ 1000 := ⟨by dsimp only; omega, by dsimp only; omega, by dsimp only; omega, by dsimp only; omega⟩
  have fin : ∀ (a : Nat) (sL' : Sl) w' (lst : List SP), Heap F w' lst → Takes lst [blk a T_ref20_Log (lk c s1 ⟨none, 0, 0⟩ ⟨none, 0, 0⟩ sL' (Disk.new 12) false), LogAt b p [] false, PartAt p d ⟨2, (c : Int)⟩, DiskAt d (Disk.new 12), RDk s1 ⟨none, 0, 0⟩ ⟨none, 0, 0⟩ (Disk.new 12), imm sL' (scan (Disk.new 12) ⟨2, (c : Int)⟩ (⟨2, (c : Int)⟩ : Nac.Ext).count.toNat 0).1] l → J ⟨a, 0, none⟩ 0 w' := by
    intro a sL' w' lst H hT
    replace H := H.takes hT
    dsimp only [List.cons_append, List.nil_append] at H
    rw [hz] at H
    exact fin0 a sL' w' H
  replace H := H.drew
  repeat (first | refine lda H ?_ | refine ld0 H ?_ | refine ldaa H ?_ | refine ldaN H ?_ | refine ld0N H ?_ | refine sta H fun w H => ?_ | refine st0 H fun w H => ?_)
  refine ⟨?_, ?_⟩
  · refine law_count n ?_
    rw [hc]
    refine ⟨_, rfl, ⟨rfl, rowB H⟩, ?_, ?_⟩
    · refine ref_Open H (X := ⟨2, (c : Int)⟩) (s1 := s1) (s2 := ⟨none, 0, 0⟩) (s5 := ⟨none, 0, 0⟩) (D := Disk.new 12) (by repeat (first | assumption | constructor)) hX (fun _ sL' w H => ⟨s1, ⟨none, 0, 0⟩, _, _, ⟨none, 0, 0⟩, _, _, sL', _, _, rfl, ?_⟩) (fun h => absurd (by rw [hz]) h)
      refine al H (cs := [(Sl.v ⟨none, 0, 0⟩), (Sl.v ⟨none, 0, 0⟩), .bool false, .int .i64 0, (Sl.v ⟨none, 0, 0⟩), .int .i64 0, .int .i64 0, (Sl.v ⟨none, 0, 0⟩), .bool false]) (fun ar w H => ?_) zc_ref20_Log
      repeat (first | refine lda H ?_ | refine ld0 H ?_ | refine ldaa H ?_ | refine ldaN H ?_ | refine ld0N H ?_ | refine sta H fun w H => ?_ | refine st0 H fun w H => ?_)
      exact fin _ sL' _ _ (H.dr (blk a17 _ _)) (by repeat (first | assumption | constructor))
    · refine al H (cs := [(Sl.v ⟨none, 0, 0⟩), (Sl.v ⟨none, 0, 0⟩), .bool false, .int .i64 0, (Sl.v ⟨none, 0, 0⟩), .int .i64 0, .int .i64 0, (Sl.v ⟨none, 0, 0⟩), .bool false]) (fun ar w H => ?_) zc_ref20_Log
      refine ⟨⟨rfl, rowB H⟩, ?_⟩
      refine ref_Open H (X := ⟨2, (c : Int)⟩) (s1 := s1) (s2 := ⟨none, 0, 0⟩) (s5 := ⟨none, 0, 0⟩) (D := Disk.new 12) (by repeat (first | assumption | constructor)) hX (fun _ sL' w H => ⟨s1, ⟨none, 0, 0⟩, _, _, ⟨none, 0, 0⟩, _, _, sL', _, _, rfl, ?_⟩) (fun h => absurd (by rw [hz]) h)
      repeat (first | refine lda H ?_ | refine ld0 H ?_ | refine ldaa H ?_ | refine ldaN H ?_ | refine ld0N H ?_ | refine sta H fun w H => ?_ | refine st0 H fun w H => ?_)
      exact fin _ sL' _ _ (H.dr (blk a17 _ _)) (by repeat (first | assumption | constructor))
  · refine al H (cs := [(Sl.v ⟨none, 0, 0⟩), (Sl.v ⟨none, 0, 0⟩), .bool false, .int .i64 0, (Sl.v ⟨none, 0, 0⟩), .int .i64 0, .int .i64 0, (Sl.v ⟨none, 0, 0⟩), .bool false]) (fun ar w H => ?_) zc_ref20_Log
    refine ⟨⟨rfl, rowB H⟩, ?_⟩
    refine law_count n ?_
    rw [hc]
    refine ⟨_, rfl, ⟨rfl, rowB H⟩, ?_⟩
    refine ref_Open H (X := ⟨2, (c : Int)⟩) (s1 := s1) (s2 := ⟨none, 0, 0⟩) (s5 := ⟨none, 0, 0⟩) (D := Disk.new 12) (by repeat (first | assumption | constructor)) hX (fun _ sL' w H => ⟨s1, ⟨none, 0, 0⟩, _, _, ⟨none, 0, 0⟩, _, _, sL', _, _, rfl, ?_⟩) (fun h => absurd (by rw [hz]) h)
    repeat (first | refine lda H ?_ | refine ld0 H ?_ | refine ldaa H ?_ | refine ldaN H ?_ | refine ld0N H ?_ | refine sta H fun w H => ?_ | refine st0 H fun w H => ?_)
    exact fin _ sL' _ _ (H.dr (blk a17 _ _)) (by repeat (first | assumption | constructor))
end
end Go.Proofs.YtkfcmpngcanffaaDoor.G
