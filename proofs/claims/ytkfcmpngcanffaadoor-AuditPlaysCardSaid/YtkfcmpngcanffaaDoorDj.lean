import Derived.Test.YtkfcmpngcanffaaDoorDi
import Derived.Test.YtkfcmpngcanffaaDoorDc
set_option linter.unusedVariables false
set_option linter.unusedSimpArgs false
namespace Nac
theorem get_cons (c : UInt8) (l : List UInt8) : get (c :: l) = get l * 256 + c.toUInt64 := by
  apply UInt64.toNat_inj.1
  have hc := c.toNat_lt
  have hg := (get l).toNat_lt
  show ((get l <<< 8) ||| c.toUInt64).toNat = _
  rw [UInt64.toNat_or, UInt64.toNat_shiftLeft, UInt64.toNat_add, UInt64.toNat_mul, UInt8.toNat_toUInt64, show (8 : UInt64).toNat % 64 = 8 from rfl, show (256 : UInt64).toNat = 256 from rfl, Nat.shiftLeft_eq, show (2 : Nat) ^ 64 = 18446744073709551616 from rfl]
  have e : (get l).toNat * 2 ^ 8 % 18446744073709551616 = 2 ^ 8 * ((get l).toNat % 2 ^ 56) := by omega
  rw [e, ← Nat.two_pow_add_eq_or_of_lt (by omega)]
  omega
theorem get_step (n u g : UInt64) (c : UInt64) : (n + c * u) + u * 256 * g = n + u * (g * 256 + c) := by
  rw [UInt64.mul_add, UInt64.mul_comm c u, UInt64.add_assoc, UInt64.add_comm (u * c), UInt64.mul_assoc, UInt64.mul_comm 256 g]
end Nac
namespace Go.VC
open Go Go.RowKit
theorem mul64 (a b : UInt64) : IntKind.wrap .u64 ((a.toNat : Int) * (b.toNat : Int)) = ((a * b).toNat : Int) := by
  rw [IntKind.wrap_u64, UInt64.toNat_mul]
  rw [← Int.natCast_mul, Int.natCast_emod]; rfl
theorem add64 (a b : UInt64) : IntKind.wrap .u64 ((a.toNat : Int) + (b.toNat : Int)) = ((a + b).toNat : Int) := by
  rw [IntKind.wrap_u64, UInt64.toNat_add]
  rw [← Int.natCast_add, Int.natCast_emod]; rfl
theorem mod256 (a : UInt64) : IntKind.wrap .u8 (Int.tmod (a.toNat : Int) 256) = (a.toUInt8.toNat : Int) := by
  rw [IntKind.wrap_u8, UInt64.toNat_toUInt8, Int.tmod_eq_emod_of_nonneg (by omega)]
  show ((a.toNat : Int) % 256) % 256 = ((a.toNat % 256 : Nat) : Int)
  omega
theorem div256 (a : UInt64) : IntKind.wrap .u64 (Int.tdiv (a.toNat : Int) 256) = ((a >>> 8).toNat : Int) := by
  have := a.toNat_lt
  rw [IntKind.wrap_u64, UInt64.toNat_shiftRight, show (8 : UInt64).toNat % 64 = 8 from rfl, Nat.shiftRight_eq_div_pow, Int.tdiv_eq_ediv_of_nonneg (by omega)]
  show ((a.toNat : Int) / 256) % 18446744073709551616 = ((a.toNat / 256 : Nat) : Int)
  omega
end Go.VC
namespace Go.Proofs.YtkfcmpngcanffaaDoor.G
open Go Go.VC Go.RowKit Go.Proofs Go.Proofs.YtkfcmpngcanffaaDoor Nac
attribute [local irreducible] Tryd.prog
section
variable {F : Bs} {w : World} {l r : List SP} {b d p : Nat} {D : Disk} {Q : Value → World → Prop} {X : Nac.Ext}
theorem ref_Number (H : Heap F w l) {s : Sl} {bb : List UInt8} (k : Q (.int .u64 ((Nac.get bb).toNat : Int)) w) (hI : Has l (imm s bb) := by repeat (first | assumption | constructor)) : Does Tryd.prog N_ref02_Number #[.slice s.a s.len s.cap] w Q := by
  refine F_ref02_Number_does _ _ _ ?_
  unfold F_ref02_Number
  have hl := H.len hI
  have hb := H.bndI hI
  refine ⟨fun m u x w' => ∃ (i : Nat) (q v : UInt64), x = i ∧ m = (q.toNat : Int) ∧ u = (v.toNat : Int) ∧ i ≤ bb.length ∧ q + v * Nac.get (bb.drop i) = Nac.get bb ∧ w' = w, fun _ _ x _ => (bb.length - x).toNat, ⟨0, 0, 1, rfl, rfl, rfl, by omega, by simp, rfl⟩, ?_⟩
  rintro m u x w1 ⟨i, q, v, rfl, rfl, rfl, hi, hq, rfl⟩
  refine dBoth (fun hlt => ?_) (fun hge => ?_)
  · have hlt' : i < bb.length := by omega
    refine idxI1 (xs := bb) H (by omega) (by omega) (fun a ha => ldT_cell _ ha ?_) hI
    simp only [Int.toNat_natCast]
    rw [wrap64_8, mul64, add64, show (256 : Int) = ((256 : UInt64).toNat : Int) by decide, mul64]
    refine ⟨⟨i + 1, q + bb[i].toUInt64 * v, v * 256, by rw [i64_id (by omega)]; omega, rfl, rfl, by omega, ?_, (by first | rfl | trivial)⟩, by rw [i64_id (by omega)]; (try dsimp only); omega⟩
    rw [← hq, List.drop_eq_getElem_cons hlt', get_cons, get_step]
  · obtain rfl : i = bb.length := by omega
    rw [List.drop_of_length_le (Nat.le_refl _)] at hq
    have : q = Nac.get bb := by rw [← hq]; simp [Nac.get]
    rw [this]
    exact k
theorem ref_Put (H : Heap F w l) {n : UInt64} {k : Nat} (h8 : k ≤ 8) {K : Value → World → Prop} (kk : ∀ (s : Sl) w', Heap F w' (own T_uint8 s (put n k) :: l) → K (.slice s.a s.len s.cap) w') :
    Does Tryd.prog N_ref02_Put #[.int .u64 (n.toNat : Int), .int .i64 (k : Int)] w K := by
  refine F_ref02_Put_does _ _ _ _ ?_
  unfold F_ref02_Put
  refine dF (by omega) ?_
  replace H := H.own_nil (α := UInt8) T_uint8
  refine ⟨fun m s x w' => ∃ (i : Nat) (q : UInt64) (done : List UInt8), x = i ∧ m = (q.toNat : Int) ∧ i ≤ k ∧ done.length = i ∧ done ++ put q (k - i) = put n k ∧ Heap F w' (own T_uint8 s done :: l), fun _ _ x _ => (k - x).toNat,
    ⟨0, n, [], rfl, rfl, by omega, rfl, rfl, H⟩, ?_⟩
  rintro m s x w1 ⟨i, q, done, rfl, rfl, hi, hdl, hd, H⟩
  refine dBoth (fun hlt => ?_) (fun hge => ?_)
  · have hlt' : i < k := by omega
    refine ⟨by decide, ?_⟩
    rw [mod256, div256]
    refine al H (cs := [.int .u8 (q.toUInt8.toNat : Int)]) (fun a w H => ?_) rfl
    refine psh1 (s := s) (xs := done) q.toUInt8 S_l_uint8 H (by omega) fun s' w H => ⟨by decide, ⟨i + 1, q >>> 8, done ++ [q.toUInt8], by rw [i64_id (by omega)]; omega, rfl, by omega, by simp [hdl], ?_, H.dr (blk a _ _)⟩, by rw [i64_id (by omega)]; dsimp only; omega⟩
    rw [← hd, show k - i = (k - (i + 1)) + 1 by omega, put]; simp
  · obtain rfl : i = k := by omega
    rw [Nat.sub_self] at hd
    simp only [put, List.append_nil] at hd
    subst hd
    exact kk s _ H
theorem bit_ref (q : UInt32) (c : UInt8) (k : Nat) (hk : k < 8) : (Int.tmod (IntKind.wrap .u32 ((Int.tmod (q.toNat : Int) 2) + (Int.tmod (IntKind.wrap .u32 (Int.fdiv (c.toNat : Int) (2 ^ (min (Int.toNat ((IntKind.wrap .u64 (k : Int)))) (IntKind.bits .u8))))) 2))) 2) = (((q.toNat % 2 + c.toNat / 2 ^ k % 2) % 2 : Nat) : Int) := by
  have hc := c.toNat_lt
  have hm : min (Int.toNat (IntKind.wrap .u64 (k : Int))) (IntKind.bits .u8) = k := by
    rw [wrap_u64n _ (by omega)]; show min (Int.toNat (k : Int)) 8 = k; omega
  rw [hm, Int.fdiv_eq_ediv_of_nonneg _ (Int.le_of_lt (Int.pow_pos (by decide)))]
  have e : ((c.toNat : Int) / 2 ^ k) = ((c.toNat / 2 ^ k : Nat) : Int) := by simp
  have hq : c.toNat / 2 ^ k ≤ c.toNat := Nat.div_le_self _ _
  rw [e]
  generalize c.toNat / 2 ^ k = z at *
  rw [Int.tmod_eq_emod_of_nonneg (a := (q.toNat : Int)) (by omega), IntKind.wrap_u32 (z : Int), Int.tmod_eq_emod_of_nonneg (a := (z : Int) % 4294967296) (by omega), IntKind.wrap_u32 (_ + _), Int.tmod_eq_emod_of_nonneg (by omega)]
  omega
theorem half32 (q : UInt32) : IntKind.wrap .u32 (Int.tdiv (q.toNat : Int) 2) = ((q >>> 1).toNat : Int) := by
  have := q.toNat_lt
  rw [IntKind.wrap_u32, UInt32.toNat_shiftRight, show (1 : UInt32).toNat % 32 = 1 from rfl, Nat.shiftRight_eq_div_pow, Int.tdiv_eq_ediv_of_nonneg (by omega)]
  show ((q.toNat : Int) / 2) % 4294967296 = ((q.toNat / 2 : Nat) : Int)
  omega
theorem compl32 (q : UInt32) : IntKind.wrap .u32 (4294967295 - (q.toNat : Int)) = ((~~~ q).toNat : Int) := by
  have := q.toNat_lt
  have h : (~~~ q).toNat = 4294967295 - q.toNat := by rw [UInt32.toNat_not]; rfl
  rw [IntKind.wrap_u32, h]
  omega
theorem ref_On (H : Heap F w l) {s : Sl} {bb : List UInt8} {s0 : UInt32} (k : Q (.int .u32 ((crcOn s0 bb).toNat : Int)) w) (hI : Has l (imm s bb) := by repeat (first | assumption | constructor)) :
    Does Tryd.prog N_ref03_On #[.int .u32 (s0.toNat : Int), .slice s.a s.len s.cap] w Q := by
  refine F_ref03_On_does _ _ _ _ ?_
  unfold F_ref03_On
  have hl := H.len hI
  have hb := H.bndI hI
  rw [compl32]
  refine ⟨fun m x w' => ∃ (i : Nat) (q : UInt32), x = i ∧ m = (q.toNat : Int) ∧ i ≤ bb.length ∧ (bb.drop i).foldl crcB q = bb.foldl crcB (~~~ s0) ∧ w' = w, fun _ x _ => (bb.length - x).toNat, ⟨0, ~~~ s0, rfl, rfl, by omega, rfl, rfl⟩, ?_⟩
  rintro m x w1 ⟨i, q, rfl, rfl, hi, hq, rfl⟩
  refine dBoth (fun hlt => ?_) (fun hge => ?_)
  · have hlt' : i < bb.length := by omega
    refine ⟨fun m x w' => ∃ (j : Nat), x = j ∧ m = ((refBits q bb[i] j).toNat : Int) ∧ j ≤ 8 ∧ w' = w1, fun _ x _ => (8 - x).toNat, ⟨0, rfl, rfl, by omega, rfl⟩, ?_⟩
    rintro m x w2 ⟨j, rfl, rfl, hj, rfl⟩
    refine dBoth (fun hlt => ?_) (fun hge => ?_)
    · intro J hJ
      refine idxI1 (xs := bb) H (by omega) (by omega) (fun a ha => ldT_cell _ ha ?_) hI
      simp only [Int.toNat_natCast]
      refine ⟨by rw [wrap_u64n _ (by omega)]; omega, by decide, by decide, by decide, by decide, ?_⟩
      have e1 := bit_ref (refBits q bb[i] j) bb[i] j (by omega)
      rw [half32]
      rw [e1]
      have st : refBits q bb[i] (j + 1) = ((refBits q bb[i] j) >>> 1) ^^^ (if ((refBits q bb[i] j).toNat % 2 + bb[i].toNat / 2 ^ j % 2) % 2 = 1 then poly else 0) := rfl
      have nx : ∀ w', w' = w2 → J ((refBits q bb[i] (j + 1)).toNat : Int) w' := by
        rintro w' rfl
        exact hJ _ _ ⟨⟨j + 1, by rw [i64_id (by omega)]; omega, rfl, by omega, rfl⟩, by rw [i64_id (by omega)]; dsimp only; omega⟩
      refine cBoth (fun h => ?_) (fun h => ?_)
      · rw [show (2197175160 : Int) = ((poly).toNat : Int) by decide, xor32]
        rw [if_pos (by have : ((((refBits q bb[i] j).toNat % 2 + bb[i].toNat / 2 ^ j % 2) % 2 : Nat) : Int) = 1 := by simpa using h
                       omega)] at st
        rw [← st]; exact nx _ rfl
      · rw [if_neg (by have : ¬ ((((refBits q bb[i] j).toNat % 2 + bb[i].toNat / 2 ^ j % 2) % 2 : Nat) : Int) = 1 := by simpa using h
                       omega), UInt32.xor_zero] at st
        rw [← st]; exact nx _ rfl
    · obtain rfl : j = 8 := by omega
      rw [refByte]
      exact ⟨⟨i + 1, crcB q bb[i], by rw [i64_id (by omega)]; omega, rfl, by omega, by rw [← hq, List.drop_eq_getElem_cons hlt']; rfl, (by first | rfl | trivial)⟩, by rw [i64_id (by omega)]; (try dsimp only); omega⟩
  · obtain rfl : i = bb.length := by omega
    rw [List.drop_of_length_le (Nat.le_refl _)] at hq
    rw [compl32, show q = bb.foldl crcB (~~~ s0) from hq]
    exact k
theorem ref_Of (H : Heap F w l) {s : Sl} {bb : List UInt8} (k : Q (.int .u32 ((crc bb).toNat : Int)) w) (hI : Has l (imm s bb) := by repeat (first | assumption | constructor)) :
    Does Tryd.prog N_ref03_Of #[.slice s.a s.len s.cap] w Q := by
  refine F_ref03_Of_does _ _ _ ?_
  unfold F_ref03_Of
  exact ref_On (s0 := 0) H ⟨_, rfl, k⟩ hI
theorem ref_Seal (H : Heap F w l) {s : Sl} {bb : List UInt8} (hn : bb.length ≤ 1000000) (k : ∀ (s' : Sl) w', Heap F w' (own T_uint8 s' (seal_ bb) :: l) → Q (.slice s'.a s'.len s'.cap) w') (hI : Has l (imm s bb) := by repeat (first | assumption | constructor)) :
    Does Tryd.prog N_ref03_Seal #[.slice s.a s.len s.cap] w Q := by
  refine F_ref03_Seal_does _ _ _ ?_
  unfold F_ref03_Seal
  refine al H (cs := []) (fun a w H => ?_) rfl
  replace H := H.blk_own0 (α := UInt8) (b := a)
  refine apI (s := ⟨some ⟨a, 0, none⟩, 0, 0⟩) (xs := ([] : List UInt8)) (ys := bb) S_l_uint8 H (by simp; omega) (fun s1 w H => ?_) (hI := .t hI)
  rw [List.nil_append] at H
  refine ref_Of (s := s) (bb := bb) H ⟨_, rfl, ?_⟩ (.t hI)
  rw [wrap64_32]
  refine ref_Put H (k := 4) (by decide) fun s2 w H => ⟨_, rfl, ?_⟩
  replace H := H.share (s := s2) (xs := put (crc bb).toUInt64 4)
  refine apI (s := s1) (xs := bb) (ys := put (crc bb).toUInt64 4) S_l_uint8 H (by simp; omega) fun s3 w H => k s3 w (H.dr (imm s2 _))
theorem ref_Noughts16 (H : Heap F w l) {n : Nat} (hn : n ≤ 1000000) (k : Heap F w l → Q (.string (bs (List.replicate n 0))) w) : Does Tryd.prog N_ref16_Noughts #[.int .i64 (n : Int)] w Q := by
  refine F_ref16_Noughts_does _ _ _ ?_
  unfold F_ref16_Noughts
  refine ⟨fun s x w' => ∃ i : Nat, x = (i : Int) ∧ s = bs (List.replicate i 0) ∧ i ≤ n ∧ w' = w, fun _ x _ => (n - x).toNat, ⟨0, rfl, rfl, by omega, rfl⟩, ?_⟩
  rintro _ x w1 ⟨i, rfl, rfl, hi, rfl⟩
  refine dBoth (fun hlt => ?_) (fun hge => ?_)
  · have e : bs (List.replicate i 0) ++ (⟨#[0]⟩ : ByteArray) = bs (List.replicate (i + 1) 0) := by
      rw [show (⟨#[0]⟩ : ByteArray) = bs [0] from rfl, bs_append, ← List.replicate_succ']
    rw [e]
    refine ⟨?_, ⟨i + 1, by rw [i64_id (by omega)]; omega, rfl, by omega, (by first | rfl | trivial)⟩, by rw [i64_id (by omega)]; dsimp only; omega⟩
    rw [show (⟨#[0]⟩ : ByteArray) = bs [0] from rfl]
    simp only [bs_size, List.length_replicate, List.length_cons, List.length_nil]; omega
  · obtain rfl : i = n := by omega
    exact k H
theorem aud_Dead {L : List Entry} {dead : Bool} (H : Heap F w l) (k : Q (.bool dead) w) (hT : Take l (LogAt b p L dead) r := by repeat (first | assumption | constructor)) : Does Tryd.prog N_audit_Log_Dead #[.pointer (some ⟨b, 0, none⟩)] w Q := by
  refine F_audit_Log_Dead_does _ _ _ ?_
  unfold F_audit_Log_Dead
  obtain ⟨s, H⟩ := (H.take hT).opn
  dsimp only [List.cons_append, List.nil_append] at H
  exact nn (lda H k)
theorem disk_Image (H : Heap F w l) (k : ∀ (s : Sl) w', Heap F w' (own T_uint8 s D.has.flatten :: DiskAt b D :: r) → Q (.slice s.a s.len s.cap) w') (hT : Take l (DiskAt b D) r := by repeat (first | assumption | constructor)) :
    Does Tryd.prog N_disk_Disk_Image #[.pointer (some ⟨b, 0, none⟩)] w Q := by
  refine F_disk_Disk_Image_does _ _ _ ?_
  unfold F_disk_Disk_Image
  obtain ⟨⟨g, ws, sv, left⟩, H⟩ := (H.take hT).opn
  dsimp only [List.cons_append, List.nil_append] at H
  obtain ⟨⟨ok, hl⟩, H⟩ := H.pur
  have hsz := ok.size
  have hfl := flat_len64 D.has ok.has
  refine nn (ld0 H ?_)
  refine apB (s := ⟨none, 0, 0⟩) (xs := ([] : List UInt8)) D.has.flatten S_l_uint8 (H.own_nil (α := UInt8) T_uint8) (by simp only [List.length_nil]; omega) rfl hfl (fun s w H => k s w ?_)
  rw [List.nil_append] at H
  exact (disk_cls (r := own T_uint8 s D.has.flatten :: r) H D ok rfl rfl rfl rfl hl rfl rfl (hT := .c (.t .h) (.c (.t .h) (.c (.t .h) (.c (.t .h) .n))))).take (.t .h)
end
end Go.Proofs.YtkfcmpngcanffaaDoor.G
