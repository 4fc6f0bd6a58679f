import Derived.Test.YtkfcmpngcanffaaDoorDb
import Derived.Test.YtkfcmpngcanffaaDoorSf
set_option linter.unusedVariables false
set_option linter.unusedSimpArgs false
namespace Go.Proofs.YtkfcmpngcanffaaDoor.G
open Go Go.VC Go.RowKit Go.Proofs Go.Proofs.YtkfcmpngcanffaaDoor Nac
def encE (x : Entry) : List Value := [.int .i64 x.kind, .int .i64 x.part, .int .u32 (x.version.toNat : Int), .int .i64 x.code]
instance : Rep Entry where
  n := 4
  r := fun _ cs x => cs = encE x
  mono := fun _ h => h
  len := fun h => by rw [h]; rfl
  one := fun h u hu => by rw [h] at hu; simp [encE] at hu; rcases hu with rfl | rfl | rfl | rfl <;> rfl
theorem flatE : FlatT Tryd.prog T_api_Entry := ⟨by kernel_rfl, by kernel_rfl, by kernel_rfl⟩
theorem flatE_eq (a1 a2 : Int) (a3 : Int) (a4 : Int) (b1 b2 b3 b4 : Int) : eqFlat Tryd.prog #[.int .i64 a1, .int .i64 a2, .int .u32 a3, .int .i64 a4] #[.int .i64 b1, .int .i64 b2, .int .u32 b3, .int .i64 b4] (Tryd.prog.fieldsOf T_api_Entry).toList =
    some (cond (a1 == b1) (cond (a2 == b2) (cond (a3 == b3) (cond (a4 == b4) true false) false) false) false) := by kernel_rfl
theorem entEq (x y : Entry) : eqFlat Tryd.prog (encE x).toArray (encE y).toArray (Tryd.prog.fieldsOf T_api_Entry).toList = some (decide (x = y)) := by
  refine (flatE_eq _ _ _ _ _ _ _ _).trans ?_
  congr 1
  obtain ⟨a1, a2, a3, a4⟩ := x
  obtain ⟨b1, b2, b3, b4⟩ := y
  have e3 : ((a3.toNat : Int) == (b3.toNat : Int)) = (a3 == b3) := by
    rw [Bool.eq_iff_iff]; simp [← UInt32.toNat_inj]; omega
  simp only [Entry.mk.injEq, e3]
  by_cases h1 : a1 = b1 <;> by_cases h2 : a2 = b2 <;> by_cases h3 : a3 = b3 <;> by_cases h4 : a4 = b4 <;> simp [h1, h2, h3, h4]
attribute [local irreducible] Tryd.prog
section
variable {F : Bs} {w : World} {l r : List SP} {b d p : Nat} {D : Disk} {Q : Value → World → Prop} {X : Ext}
theorem aud_may (H : Heap F w l) (x : Entry) (k : ∀ w', Heap F w' l → Q (.bool (may x)) w') : Does Tryd.prog N_audit_may #[.agg #[.int .i64 x.kind, .int .i64 x.part, .int .u32 (x.version.toNat : Int), .int .i64 x.code]] w Q := by
  refine F_audit_may_does _ _ _ _ _ _ ?_
  unfold F_audit_may
  refine al H (cs := encE x) (fun a w H => ?_) rfl
  refine ld0 H (dBoth (fun c1 => ld0 H (dBoth (fun c2 => lda H (dBoth (fun c3 => lda H (dBoth (fun c4 => lda H (dBoth (fun c5 => lda H ?_) (fun c5 => ?_))) (fun c4 => ?_))) (fun c3 => ?_))) (fun c2 => ?_))) (fun c1 => ?_))
  · have c1' : (1 : Int) ≤ x.kind := c1
    have c2' : x.kind ≤ 4 := c2
    have c3' : (0 : Int) ≤ x.part := c3
    have c4' : x.part < 8 := c4
    have c5' : (0 : Int) ≤ x.code := c5
    rw [show decide (x.code ≤ 255) = may x by simp [may, c1', c2', c3', c4', c5']]
    exact k _ H.tl
  all_goals
    rw [show false = may x by
      simp only [may]
      first
        | rw [decide_eq_false (show ¬ 1 ≤ x.kind from c1)]; simp
        | rw [decide_eq_false (show ¬ x.kind ≤ 4 from c2)]; simp
        | rw [decide_eq_false (show ¬ 0 ≤ x.part from c3)]; simp
        | rw [decide_eq_false (show ¬ x.part < 8 from c4)]; simp
        | rw [decide_eq_false (show ¬ 0 ≤ x.code from c5)]; simp]
    exact k _ H.tl
theorem aud_sector (H : Heap F w l) (n : Nat) (x : Entry) (k : ∀ (s : Sl) w', Heap F w' (own T_uint8 s (asec n x) :: l) → Q (.slice s.a s.len s.cap) w') (hH : Has l Half := by repeat (first | assumption | constructor)) :
    Does Tryd.prog N_audit_sector #[.int .i64 (n : Int), .agg #[.int .i64 x.kind, .int .i64 x.part, .int .u32 (x.version.toNat : Int), .int .i64 x.code]] w Q := by
  refine F_audit_sector_does _ _ _ _ _ _ _ ?_
  unfold F_audit_sector
  refine al H (cs := encE x) (fun a1 w H => ?_) rfl
  refine al H (cs := [.int .u8 65]) (fun a3 w H => ?_) rfl
  replace H := H.blk_own (n := 1) (cs := [.int .u8 65]) [(65 : UInt8)] rfl (mx (by decide)) rfl
  rw [Go.VC.wrap64]
  refine oct_Put H (k := 4) (by decide) (by decide) fun s2 w H => ⟨_, rfl, ?_⟩
  replace H := H.share (s := s2) (xs := put (u64 n) 4)
  refine apI (s := ⟨some ⟨a3, 0, none⟩, 1, 1⟩) (xs := [(65 : UInt8)]) (ys := put (u64 n) 4) S_l_uint8 H (by simp) fun s3 w H => ?_
  refine ld0 H (lda H ?_)
  rw [Go.VC.wrap8, Go.VC.wrap8]
  refine al H (cs := [.int .u8 ((b8 x.kind).toNat : Int), .int .u8 ((b8 x.part).toNat : Int)]) (fun a4 w H => ?_) rfl
  refine apB (s := s3) (xs := [(65 : UInt8)] ++ put (u64 n) 4) [b8 x.kind, b8 x.part] S_l_uint8 H (by simp) rfl rfl fun s4 w H => ?_
  refine lda H ?_
  rw [wrap64_32]
  refine oct_Put H (k := 4) (by decide) (by decide) fun s5 w H => ⟨_, rfl, ?_⟩
  replace H := H.share (s := s5) (xs := put x.version.toUInt64 4)
  refine apI (s := s4) (xs := [(65 : UInt8)] ++ put (u64 n) 4 ++ [b8 x.kind, b8 x.part]) (ys := put x.version.toUInt64 4) S_l_uint8 H (by simp) fun s6 w H => ?_
  refine lda H ?_
  rw [Go.VC.wrap8]
  refine al H (cs := [.int .u8 ((b8 x.code).toNat : Int)]) (fun a7 w H => ?_) rfl
  refine apB (s := s6) (xs := [(65 : UInt8)] ++ put (u64 n) 4 ++ [b8 x.kind, b8 x.part] ++ put x.version.toUInt64 4) [b8 x.code] S_l_uint8 H (by simp) rfl rfl fun s8 w H => ?_
  have hl := H.lenO (s := s8) (xs := [(65 : UInt8)] ++ put (u64 n) 4 ++ [b8 x.kind, b8 x.part] ++ put x.version.toUInt64 4 ++ [b8 x.code])
  simp at hl
  rw [show ((s8.len : Nat) : Int) = 12 by omega, i64_id (by omega)]
  refine appZ (s := s8) (xs := [(65 : UInt8)] ++ put (u64 n) 4 ++ [b8 x.kind, b8 x.part] ++ put x.version.toUInt64 4 ++ [b8 x.code]) (d := (0 : UInt8)) Z_l_uint8 und_i H (by omega) (by simp) (mx (by simp)) fun s9 w H => ?_
  replace H := H.share (s := s9) (xs := [(65 : UInt8)] ++ put (u64 n) 4 ++ [b8 x.kind, b8 x.part] ++ put x.version.toUInt64 4 ++ [b8 x.code] ++ List.replicate (60 - 12 : Int).toNat 0)
  refine crc_Seal (s := s9) (bb := [(65 : UInt8)] ++ put (u64 n) 4 ++ [b8 x.kind, b8 x.part] ++ put x.version.toUInt64 4 ++ [b8 x.code] ++ List.replicate (60 - 12 : Int).toNat 0) H (by simp) (fun s10 w H => ⟨_, rfl, k s10 _ ?_⟩)
  have e : seal_ ([(65 : UInt8)] ++ put (u64 n) 4 ++ [b8 x.kind, b8 x.part] ++ put x.version.toUInt64 4 ++ [b8 x.code] ++ List.replicate (60 - 12 : Int).toNat 0) = asec n x := rfl
  rw [e] at H
  exact (((H.dr2 (imm s9 _) (blk a7 _ _)).dr2 (imm s5 _) (blk a4 _ _)).dr2 (imm s2 _) (blk a1 _ _)).take (.h)
def LogAt (b p : Nat) (L : List Entry) (dead : Bool) : SP := SP.of fun s : Sl => [blk b T_audit_Log [.pointer (some ⟨p, 0, none⟩), s.v, .bool dead], own T_api_Entry s L]
theorem log_cls {dead : Bool} {s : Sl} {L : List Entry} (H : Heap F w l) (hT : Takes l [blk b T_audit_Log [.pointer (some ⟨p, 0, none⟩), s.v, .bool dead], own T_api_Entry s L] r := by repeat (first | assumption | constructor)) : Heap F w (LogAt b p L dead :: r) :=
  H.cls (f := fun s : Sl => [blk b T_audit_Log [.pointer (some ⟨p, 0, none⟩), s.v, .bool dead], own T_api_Entry s L]) s hT
theorem wrapE (l : List UInt8) : IntKind.wrap .i64 ((Nac.get (l.take 1)).toNat : Int) = ((Nac.get (l.take 1)).toNat : Int) := by
  have := get_one l
  rw [i64_id (by omega)]
/-- a sector is looked at -/
theorem aud_at {s : Value} {dv : Value} {r1 r2 r3 : List SP} (H : Heap F w l) (n : Nat) (hx : ∀ x ∈ D.has, x.length = 64) (hread : (pread D X n).2 = 0 → (pread D X n).1.length = 64)
    (k1 : (pread D X n).2 ≠ 0 → ∀ w', Heap F w' (blk b T_audit_Log [.pointer (some ⟨p, 0, none⟩), s, dv] :: PartAt p d X :: DiskAt d D :: r3) → Q (.tuple #[.agg #[.int .i64 0, .int .i64 0, .int .u32 0, .int .i64 0], .bool false, .int .i64 (pread D X n).2]) w')
    (k2 : (pread D X n).2 = 0 → ∀ w', Heap F w' (blk b T_audit_Log [.pointer (some ⟨p, 0, none⟩), s, dv] :: PartAt p d X :: DiskAt d D :: r3) →
      Q (.tuple #[.agg #[.int .i64 (ent (pread D X n).1).kind, .int .i64 (ent (pread D X n).1).part, .int .u32 ((ent (pread D X n).1).version.toNat : Int), .int .i64 (ent (pread D X n).1).code], .bool (said n (pread D X n).1), .int .i64 0]) w')
    (hT : Take l (blk b T_audit_Log [.pointer (some ⟨p, 0, none⟩), s, dv]) r1 := by repeat (first | assumption | constructor)) (hP : Take r1 (PartAt p d X) r2 := by repeat (first | assumption | constructor)) (hD : Take r2 (DiskAt d D) r3 := by repeat (first | assumption | constructor)) (hH : Has r3 Half := by repeat (first | assumption | constructor)) :
    Does Tryd.prog N_audit_Log_at #[.pointer (some ⟨b, 0, none⟩), .int .i64 (n : Int)] w Q := by
  refine F_audit_Log_at_does _ _ _ _ ?_
  unfold F_audit_Log_at
  refine al (H.take hT) (cs := [.int .i64 0, .int .i64 0, .int .u32 0, .int .i64 0]) (fun a1 w H => ?_) zc_api_Entry
  refine nn (ld0 H ?_)
  refine part_Read (D := D) (x := X) (d := d) H (fun s1 w H => ⟨s1, _, rfl, ?_⟩) (.t (.t hP)) (.t (.t hD))
  by_cases he : (pread D X n).2 = 0
  · rw [he]
    refine cF rfl ?_
    have k := k2 he
    have h64 := hread he
    generalize (pread D X n).1 = bb at *
    clear k1 k2
    replace H := H.share (s := s1) (xs := bb)
    have hl := H.len (s := s1) (xs := bb)
    refine slcI (s := s1) (xs := bb) H (by omega) (by omega) (by omega) fun t H => ?_
    rw [show (5 : Int).toNat = 5 from rfl, show ((s1.len : Nat) : Int).toNat - 5 = 59 by omega] at H
    have e59 : (bb.drop 5).take 59 = bb.drop 5 := List.take_of_length_le (by simp; omega)
    rw [e59] at H
    have hrl : (bb.drop 5).length = 59 := by simp; omega
    refine oct_Read (bb := bb.drop 5) H (by omega) fun o w H => ⟨_, rfl, ?_⟩
    refine oct_Num (b := o) (bb := bb.drop 5) (n := 0) (m := 1) H (by decide) (by decide) (by omega) fun w H => ⟨_, rfl, ?_⟩
    refine oct_Num (b := o) (bb := bb.drop 5) (n := 1) (m := 1) H (by decide) (by decide) (by omega) fun w H => ⟨_, rfl, ?_⟩
    refine oct_Num (b := o) (bb := bb.drop 5) (n := 2) (m := 4) H (by decide) (by decide) (by omega) fun w H => ⟨_, rfl, ?_⟩
    refine oct_Num (b := o) (bb := bb.drop 5) (n := 6) (m := 1) H (by decide) (by decide) (by omega) fun w H => ⟨_, rfl, ?_⟩
    rw [wrapE, wrapE, wrapE, wrap32_64]
    refine al H (cs := [.int .i64 0, .int .i64 0, .int .u32 0, .int .i64 0]) (fun a2 w H => ?_) zc_api_Entry
    refine st0 H fun w H => sta H fun w H => sta H fun w H => sta H fun w H => ?_
    refine ld0 H.drew (lda H.drew (lda H.drew (lda H.drew (ld0 H.drew (lda H.drew (lda H.drew (lda H.drew ?_)))))))
    refine aud_may H.drew (ent bb) fun w H => ⟨_, rfl, ⟨rfl, rowB H⟩, ?_⟩
    cases hm : may (ent bb)
    · refine cF rfl ?_
      refine st0 H fun w H => sta H fun w H => sta H fun w H => sta H fun w H => ?_
      refine ld0 H (lda H (lda H (lda H ?_)))
      have := k w ?_
      · rw [show said n bb = false by simp [said, hm]] at this
        exact this
      · replace H := ((H.dr2 (blk a1 _ _) (blk a2 _ _)).dr2 (RdAt o _ _) (imm t _)).dr (imm s1 _)
        exact (H.take (.t (.t .h)))
    · refine cT rfl ?_
      refine ld0 H (lda H (lda H (lda H ?_)))
      refine ⟨_, cvI (s := s1) (xs := bb) H und_l8 und_8 und_s, ?_⟩
      refine aud_sector H n (ent bb) (fun s5 w H => ⟨_, rfl, cvI (s := s1) (xs := bb) H und_l8 und_8 und_s, ⟨rfl, rowB H⟩, _, cvO (s := s5) (xs := asec n (ent bb)) H und_l8 und_8 und_s, ?_⟩) ?_
      · refine st0 H fun w H => sta H fun w H => sta H fun w H => sta H fun w H => ?_
        refine ⟨cvO (s := s5) (xs := asec n (ent bb)) H und_l8 und_8 und_s, cvI (s := s1) (xs := bb) H und_l8 und_8 und_s, ?_⟩
        refine ld0 H (lda H (lda H (lda H ?_)))
        have := k w ?_
        · rw [show said n bb = ((bs (asec n (ent bb))).toList == (bs bb).toList) by simp [said, hm]] at this
          exact this
        · replace H := (((H.dr2 (blk a1 _ _) (blk a2 _ _)).dr2 (RdAt o _ _) (imm t _)).dr (imm s1 _)).dr (own T_uint8 s5 _)
          exact (H.take (.t (.t .h)))
      · repeat (first | assumption | constructor)
  · refine cT (by simpa using he) ?_
    refine st0 H fun w H => sta H fun w H => sta H fun w H => sta H fun w H => ?_
    refine ld0 H (lda H (lda H (lda H ?_)))
    refine k1 he w ?_
    replace H := (H.dr2 (blk a1 _ _) (own T_uint8 s1 _))
    exact (H.take (.t (.t .h)))
end
end Go.Proofs.YtkfcmpngcanffaaDoor.G
