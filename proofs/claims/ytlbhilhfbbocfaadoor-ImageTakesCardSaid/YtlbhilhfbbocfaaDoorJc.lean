import Derived.Test.YtlbhilhfbbocfaaDoorJb
import Derived.Test.YtlbhilhfbbocfaaDoorNb
import Derived.Test.YtlbhilhfbbocfaaDoorQc
set_option linter.unusedVariables false
set_option linter.unusedSimpArgs false
namespace Go.Proofs.YtlbhilhfbbocfaaDoor.G
open Go Go.VC Go.RowKit Go.Proofs Go.Proofs.YtlbhilhfbbocfaaDoor Nac
attribute [local irreducible] Tryd.prog
section
variable {F : Bs} {w : World} {l r : List SP} {Q : Value → World → Prop} {s t : Sl} {is js : List Ins} {bb : List UInt8} {v : Value} {fl : List (Int × Int)} {b : Nat} {st : Nat × Fl}
theorem oct_Put (H : Heap F w l) {n : UInt64} {k : Nat} (h1 : 1 ≤ k) (h8 : k ≤ 8) {K : Value → World → Prop} (kk : ∀ (s : Sl) w', Heap F w' (own T_uint8 s (put n k) :: l) → K (.slice s.a s.len s.cap) w') :
    Does Tryd.prog N_octet_Put #[.int .u64 (n.toNat : Int), .int .i64 (k : Int)] w K := by
  refine F_octet_Put_does _ _ _ _ ?_
  unfold F_octet_Put
  intro J hJ
  refine dF (by omega) (dF (by omega) (hJ _ ?_))
  refine mk (d := (0 : UInt8)) Z_l_uint8 H (by omega) (by omega) (by simp only [maxLen]; omega) fun g w H => ?_
  replace H := H.blk_own (n := k) (cs := List.map Sc.enc (List.replicate (k : Int).toNat (0 : UInt8))) (List.replicate k (0 : UInt8)) (by simp) (mx (by simp; omega)) (by simp)
  simp only [Int.toNat_natCast]
  refine ⟨fun m x w' => ∃ (i : Nat) (q : UInt64) (done : List UInt8), x = i ∧ m = (q.toNat : Int) ∧ i ≤ k ∧ done.length = i ∧ done ++ put q (k - i) = put n k ∧ Heap F w' (own T_uint8 ⟨some ⟨g, 0, none⟩, k, k⟩ (done ++ List.replicate (k - i) 0) :: l), fun _ x _ => (k - x).toNat,
    ⟨0, n, [], rfl, rfl, by omega, rfl, rfl, H⟩, ?_⟩
  rintro m x w1 ⟨i, q, done, rfl, rfl, hi, hdl, hd, H⟩
  refine dBoth (fun hlt => ?_) (fun hge => ?_)
  · have hlt' : i < k := by omega
    refine idxW (s := ⟨some ⟨g, 0, none⟩, k, k⟩) (xs := done ++ List.replicate (k - i) (0 : UInt8)) H (by omega) (by simp; omega) fun g' hg => ?_
    rw [wrap8_64, Int.toNat_natCast]
    refine stO (s := ⟨some ⟨g, 0, none⟩, k, k⟩) (xs := done ++ List.replicate (k - i) (0 : UInt8)) H hg (by simp; omega) q.toUInt8 rfl fun w2 H => ?_
    rw [shr64_8]
    refine ⟨by decide, ⟨i + 1, q >>> 8, done ++ [q.toUInt8], by rw [i64_id (by omega)]; omega, rfl, by omega, by simp [hdl], ?_, ?_⟩, by rw [i64_id (by omega)]; dsimp only; omega⟩
    · rw [← hd, show k - i = (k - (i + 1)) + 1 by omega, put]; simp
    · have e : (done ++ List.replicate (k - i) (0 : UInt8)).set i q.toUInt8 = done ++ [q.toUInt8] ++ List.replicate (k - (i + 1)) 0 := by
        rw [show k - i = (k - (i + 1)) + 1 by omega, List.replicate_succ, List.set_append_right _ _ (by omega), show i - done.length = 0 by omega]; simp
      rw [← e]; exact H
  · obtain rfl : i = k := by omega
    rw [Nat.sub_self] at hd H
    simp only [put, List.append_nil, List.replicate_zero] at hd H
    subst hd
    exact kk ⟨some ⟨g, 0, none⟩, i, i⟩ _ H
theorem oct_Get0 (H : Heap F w l) {s : Sl} (k : Q (.tuple #[.int .u64 0, .int .i64 1]) w) (hI : Has l (imm s ([] : List UInt8)) := by repeat (first | assumption | constructor)) :
    Does Tryd.prog N_octet_Get #[.slice s.a s.len s.cap] w Q := by
  refine F_octet_Get_does _ _ _ ?_
  unfold F_octet_Get
  have hl := H.len hI
  simp only [List.length_nil] at hl
  intro J hJ
  refine dT (by omega) k
/-- a reader: its bytes, where it stands, its fault -/
@[reducible] def rdL (b : Nat) (bb : List UInt8) (st : Nat × Fl) (x : Sl × Value) : List SP := [blk b T_octet_Reader [x.1.v, .int .i64 (st.1 : Int), x.2], imm x.1 bb, Err x.2 st.2]
def RdE (b : Nat) (bb : List UInt8) (st : Nat × Fl) : SP := SP.of (rdL b bb st)
theorem oct_Read (H : Heap F w l) {s : Sl} (k : ∀ (b : Nat) w', Heap F w' (RdE b bb (0, []) :: l) → Q (.pointer (some ⟨b, 0, none⟩)) w') (hb : bb.length ≤ 140737488355328) (hI : Has l (imm s bb) := by repeat (first | assumption | constructor)) : Does Tryd.prog N_octet_Read #[.slice s.a s.len s.cap] w Q := by
  refine F_octet_Read_does _ _ _ ?_
  unfold F_octet_Read
  refine cpIb (ys := bb) S_l_uint8 H (by omega) (fun s2 w H => ?_) hI
  replace H := H.share (s := s2) (xs := bb)
  refine al H (cs := [s2.v, .int .i64 0, .nilIface]) (fun b w H => k b w ?_) rfl
  replace H := err_nil H
  exact H.cls (f := rdL b bb (0, [])) (s2, .nilIface)
theorem err_one (H : Heap F w l) (hE : Has l (Err v fl)) : oneC v = true := by
  rcases err_val H hE with ⟨_, rfl⟩ | ⟨c, a, t, b, u, _, rfl, _⟩ <;> rfl
theorem oct_fail (H : Heap F w l) {c : Int} (hc : c ≠ 0) (k : ∀ w', Heap F w' (RdE b bb (failB c st) :: r) → Q (.tuple #[]) w') (hT : Take l (RdE b bb st) r := by repeat (first | assumption | constructor)) : Does Tryd.prog N_octet_Reader_fail #[.pointer (some ⟨b, 0, none⟩), .int .i64 c] w Q := by
  refine F_octet_Reader_fail_does _ _ _ _ ?_
  unfold F_octet_Reader_fail
  replace H := H.take hT
  obtain ⟨⟨s, v⟩, H⟩ := H.opn
  dsimp only [rdL, List.cons_append, List.nil_append] at H
  refine nn (lda (t := .raw) (x := v) H ?_)
  refine err_eq H (.t (.t .h)) ?_
  unfold failB at k
  by_cases hf : st.2 = []
  · rw [decide_eq_true hf]
    rw [if_pos hf] at k
    refine cT rfl (nn (lda H ?_))
    refine fault_New H fun v9 w H => ⟨_, rfl, nn ?_⟩
    rw [if_neg hc] at H
    refine stan (cs' := [s.v, .int .i64 (st.1 : Int), v9]) H rfl (by simp) (fun w H => k w ?_) (.t .h) ?_
    · exact (H.cls (f := rdL b bb (st.1, [(c, (st.1 : Int))])) (s, v9)).dr (Err v st.2) (by repeat (first | assumption | constructor))
    · exact err_one H .h
  · rw [decide_eq_false hf]
    rw [if_neg hf] at k
    exact cF rfl (k w (H.cls (f := rdL b bb st) (s, v)))
theorem oct_Left (H : Heap F w l) (hn : st.1 ≤ bb.length) (k : Heap F w.drew l → Q (.int .i64 ((bb.length - st.1 : Nat) : Int)) w.drew) (hT : Take l (RdE b bb st) r := by repeat (first | assumption | constructor)) : Does Tryd.prog N_octet_Reader_Left #[.pointer (some ⟨b, 0, none⟩)] w Q := by
  refine F_octet_Reader_Left_does _ _ _ ?_
  unfold F_octet_Reader_Left
  have H0 := H
  obtain ⟨⟨s, v⟩, H⟩ := (H.take hT).opn
  dsimp only [rdL, List.cons_append, List.nil_append] at H
  refine nn (ld0 (t := .sl) (x := s) H.drew (nn (lda H.drew ?_)))
  have hl := H.len (s := s) (xs := bb)
  have hb := H.bndI (s := s) (xs := bb)
  have e : IntKind.wrap .i64 (((s.len : Nat) : Int) - (st.1 : Int)) = ((bb.length - st.1 : Nat) : Int) := by rw [i64_id (by omega)]; omega
  rw [e]
  exact k H0.drew
theorem oct_Bytes (H : Heap F w l) {m : Nat} (hn : st.1 ≤ bb.length) (hm : m ≤ 1000000) (k : ∀ (s : Sl) w', Heap F w' (own T_uint8 s (rdB bb m st).1 :: RdE b bb (rdB bb m st).2 :: r) → Q (.slice s.a s.len s.cap) w') (hT : Take l (RdE b bb st) r := by repeat (first | assumption | constructor)) :
    Does Tryd.prog N_octet_Reader_Bytes #[.pointer (some ⟨b, 0, none⟩), .int .i64 (m : Int)] w Q := by
  refine F_octet_Reader_Bytes_does _ _ _ _ ?_
  unfold F_octet_Reader_Bytes
  have H0 := H.take hT
  obtain ⟨⟨s, v⟩, H⟩ := H0.opn
  dsimp only [rdL, List.cons_append, List.nil_append] at H
  refine nn (lda (t := .raw) (x := v) H ?_)
  refine err_ne H (.t (.t .h)) ?_
  unfold rdB at k
  by_cases hf : st.2 = []
  case neg =>
    rw [decide_eq_true hf]
    rw [if_pos hf] at k
    exact cT rfl (k ⟨none, 0, 0⟩ w (H0.own_nil T_uint8))
  rw [decide_eq_false (by simpa using hf)]
  rw [if_neg (by simpa using hf)] at k
  refine cF rfl (dF (by omega) ?_)
  have hl := H.len (s := s) (xs := bb)
  have hb := H.bndI (s := s) (xs := bb)
  refine oct_Left (st := st) (bb := bb) H0 hn fun H0 => ⟨_, rfl, ?_⟩
  by_cases hs : bb.length < st.1 + m
  · rw [if_pos hs] at k
    refine dT (by omega) (oct_fail (st := st) (bb := bb) (c := 2) H0 (by decide) fun w H => ⟨rfl, k ⟨none, 0, 0⟩ w ?_⟩)
    rw [failB, if_pos hf] at H
    exact H.own_nil T_uint8
  rw [if_neg hs] at k
  refine dF (by omega) ?_
  replace H := H.drew
  refine nn (ld0 (t := .sl) (x := s) H.drew (nn (lda H.drew (nn (lda H.drew ?_)))))
  rw [i64_id (by omega)]
  refine slcI (s := s) (xs := bb) H.drew (by omega) (by omega) (by omega) fun t H => ?_
  have e : ((st.1 : Int) + (m : Int)).toNat - (st.1 : Int).toNat = m := by omega
  rw [e, Int.toNat_natCast] at H
  refine cpI (ys := (bb.drop st.1).take m) S_l_uint8 H (by simp; omega) fun s2 w H => ?_
  refine nn (lda H (nn ?_))
  rw [i64_id (by omega), show (st.1 : Int) + (m : Int) = ((st.1 + m : Nat) : Int) by omega]
  refine stan (cs' := [s.v, .int .i64 ((st.1 + m : Nat) : Int), v]) H rfl (by simp) (fun w H => k s2 w ?_) (.t (.t .h))
  rw [hf] at H
  replace H := H.cls (f := rdL b bb (st.1 + m, [])) (s, v)
  replace H := H.dr (imm t _)
  exact H.take (.t .h)
theorem oct_Num (H : Heap F w l) {m : Nat} (h1 : 1 ≤ m) (h8 : m ≤ 8) (hn : st.1 ≤ bb.length) (k : ∀ w', Heap F w' (RdE b bb (rdB bb m st).2 :: r) → Q (.int .u64 ((Nac.get (rdB bb m st).1).toNat : Int)) w') (hT : Take l (RdE b bb st) r := by repeat (first | assumption | constructor)) :
    Does Tryd.prog N_octet_Reader_Num #[.pointer (some ⟨b, 0, none⟩), .int .i64 (m : Int)] w Q := by
  refine F_octet_Reader_Num_does _ _ _ _ ?_
  unfold F_octet_Reader_Num
  intro J hJ J2 hJ2
  refine dF (by omega) ?_
  rw [decide_eq_false (by omega)]
  refine hJ2 _ _ (cF rfl (hJ _ ?_))
  refine oct_Bytes H hn (by omega) (fun s w H => ⟨_, rfl, ?_⟩) hT
  have hlen : (rdB bb m st).1 = [] ∨ (rdB bb m st).1.length = m := by
    unfold rdB; split
    · exact .inl rfl
    · split
      · exact .inl rfl
      · right; simp; omega
  replace H := H.share (s := s) (xs := (rdB bb m st).1)
  rcases hlen with h0 | hm
  · rw [h0] at H k
    exact oct_Get0 H ⟨_, _, rfl, k _ (H.dr (imm s _))⟩
  · exact oct_Get H (bb := (rdB bb m st).1) (by omega) (by omega) ⟨_, _, rfl, k _ (H.dr (imm s _))⟩
theorem oct_Must (H : Heap F w l) {ok : Bool} {c : Int} (hc : c ≠ 0) (k : ∀ w', Heap F w' (RdE b bb (mustB ok c st) :: r) → Q (.tuple #[]) w') (hT : Take l (RdE b bb st) r := by repeat (first | assumption | constructor)) :
    Does Tryd.prog N_octet_Reader_Must #[.pointer (some ⟨b, 0, none⟩), .bool ok, .int .i64 c] w Q := by
  refine F_octet_Reader_Must_does _ _ _ _ _ ?_
  unfold F_octet_Reader_Must
  unfold mustB at k
  cases ok with
  | true => exact cT rfl (k w (H.take hT))
  | false =>
    refine cF rfl ?_
    intro J hJ
    refine dEq (fun e => absurd e hc) (fun _ => hJ _ _ ?_)
    exact oct_fail H hc (fun w H => ⟨rfl, k w H⟩) hT
theorem oct_At (H : Heap F w l) (k : Q (.int .i64 (st.1 : Int)) w) (hT : Take l (RdE b bb st) r := by repeat (first | assumption | constructor)) :
    Does Tryd.prog N_octet_Reader_At #[.pointer (some ⟨b, 0, none⟩)] w Q := by
  refine F_octet_Reader_At_does _ _ _ ?_
  unfold F_octet_Reader_At
  obtain ⟨⟨s, v⟩, H⟩ := (H.take hT).opn
  dsimp only [rdL, List.cons_append, List.nil_append] at H
  exact nn (lda H k)
theorem oct_End (H : Heap F w l) (hn : st.1 ≤ bb.length) (k : ∀ v w', Heap F w' (Err v (endB bb st) :: r) → Q v w') (hT : Take l (RdE b bb st) r := by repeat (first | assumption | constructor)) :
    Does Tryd.prog N_octet_Reader_End #[.pointer (some ⟨b, 0, none⟩)] w Q := by
  refine F_octet_Reader_End_does _ _ _ ?_
  unfold F_octet_Reader_End
  have H0 := H.take hT
  obtain ⟨⟨s, v⟩, H⟩ := H0.opn
  dsimp only [rdL, List.cons_append, List.nil_append] at H
  refine nn (lda (t := .raw) (x := v) H ?_)
  refine err_ne H (.t (.t .h)) ?_
  unfold endB at k
  by_cases hf : st.2 = []
  case neg =>
    rw [decide_eq_true hf]
    rw [if_pos hf] at k
    exact cT rfl (nn (lda (t := .raw) (x := v) H (k v w (H.dr2 (blk b T_octet_Reader _) (imm s bb)))))
  rw [decide_eq_false (by simpa using hf)]
  rw [if_neg (by simpa using hf)] at k
  refine cF rfl ?_
  refine oct_Left (st := st) (bb := bb) H0 hn fun H0 => ⟨_, rfl, ?_⟩
  replace H := H.drew
  by_cases hs : st.1 < bb.length
  · rw [if_pos hs] at k
    refine dT (by omega) (nn (lda H ?_))
    refine fault_New H fun v9 w H => ⟨_, rfl, k v9 w ?_⟩
    rw [if_neg (by decide)] at H
    exact Heap.kp 3 H
  · rw [if_neg hs] at k
    exact dF (by omega) (k _ _ (err_nil H0.tl))
end
end Go.Proofs.YtlbhilhfbbocfaaDoor.G

set_option linter.unusedVariables false
set_option linter.unusedSimpArgs false
namespace Nac
open Go Go.VC Go.RowKit
def Stg.cs (s : Stg) (t : Sl) : List Value := s.man.cs ++ [t.v]
end Nac
namespace Go.Proofs.YtlbhilhfbbocfaaDoor.G
open Go Go.VC Go.RowKit Go.Proofs Go.Proofs.YtlbhilhfbbocfaaDoor Nac
theorem list32 {α : Type} {l0 : List α} (h0 : l0.length = 32) : ∃ x0 x1 x2 x3 x4 x5 x6 x7 x8 x9 x10 x11 x12 x13 x14 x15 x16 x17 x18 x19 x20 x21 x22 x23 x24 x25 x26 x27 x28 x29 x30 x31, l0 = [x0, x1, x2, x3, x4, x5, x6, x7, x8, x9, x10, x11, x12, x13, x14, x15, x16, x17, x18, x19, x20, x21, x22, x23, x24, x25, x26, x27, x28, x29, x30, x31] := by
  obtain ⟨x0, l1, rfl⟩ := List.exists_cons_of_length_eq_add_one (h0 : _ = 31 + 1)
  have h1 : l1.length = 31 := by simpa using h0
  obtain ⟨x1, l2, rfl⟩ := List.exists_cons_of_length_eq_add_one (h1 : _ = 30 + 1)
  have h2 : l2.length = 30 := by simpa using h1
  obtain ⟨x2, l3, rfl⟩ := List.exists_cons_of_length_eq_add_one (h2 : _ = 29 + 1)
  have h3 : l3.length = 29 := by simpa using h2
  obtain ⟨x3, l4, rfl⟩ := List.exists_cons_of_length_eq_add_one (h3 : _ = 28 + 1)
  have h4 : l4.length = 28 := by simpa using h3
  obtain ⟨x4, l5, rfl⟩ := List.exists_cons_of_length_eq_add_one (h4 : _ = 27 + 1)
  have h5 : l5.length = 27 := by simpa using h4
  obtain ⟨x5, l6, rfl⟩ := List.exists_cons_of_length_eq_add_one (h5 : _ = 26 + 1)
  have h6 : l6.length = 26 := by simpa using h5
  obtain ⟨x6, l7, rfl⟩ := List.exists_cons_of_length_eq_add_one (h6 : _ = 25 + 1)
  have h7 : l7.length = 25 := by simpa using h6
  obtain ⟨x7, l8, rfl⟩ := List.exists_cons_of_length_eq_add_one (h7 : _ = 24 + 1)
  have h8 : l8.length = 24 := by simpa using h7
  obtain ⟨x8, l9, rfl⟩ := List.exists_cons_of_length_eq_add_one (h8 : _ = 23 + 1)
  have h9 : l9.length = 23 := by simpa using h8
  obtain ⟨x9, l10, rfl⟩ := List.exists_cons_of_length_eq_add_one (h9 : _ = 22 + 1)
  have h10 : l10.length = 22 := by simpa using h9
  obtain ⟨x10, l11, rfl⟩ := List.exists_cons_of_length_eq_add_one (h10 : _ = 21 + 1)
  have h11 : l11.length = 21 := by simpa using h10
  obtain ⟨x11, l12, rfl⟩ := List.exists_cons_of_length_eq_add_one (h11 : _ = 20 + 1)
  have h12 : l12.length = 20 := by simpa using h11
  obtain ⟨x12, l13, rfl⟩ := List.exists_cons_of_length_eq_add_one (h12 : _ = 19 + 1)
  have h13 : l13.length = 19 := by simpa using h12
  obtain ⟨x13, l14, rfl⟩ := List.exists_cons_of_length_eq_add_one (h13 : _ = 18 + 1)
  have h14 : l14.length = 18 := by simpa using h13
  obtain ⟨x14, l15, rfl⟩ := List.exists_cons_of_length_eq_add_one (h14 : _ = 17 + 1)
  have h15 : l15.length = 17 := by simpa using h14
  obtain ⟨x15, l16, rfl⟩ := List.exists_cons_of_length_eq_add_one (h15 : _ = 16 + 1)
  have h16 : l16.length = 16 := by simpa using h15
  obtain ⟨x16, l17, rfl⟩ := List.exists_cons_of_length_eq_add_one (h16 : _ = 15 + 1)
  have h17 : l17.length = 15 := by simpa using h16
  obtain ⟨x17, l18, rfl⟩ := List.exists_cons_of_length_eq_add_one (h17 : _ = 14 + 1)
  have h18 : l18.length = 14 := by simpa using h17
  obtain ⟨x18, l19, rfl⟩ := List.exists_cons_of_length_eq_add_one (h18 : _ = 13 + 1)
  have h19 : l19.length = 13 := by simpa using h18
  obtain ⟨x19, l20, rfl⟩ := List.exists_cons_of_length_eq_add_one (h19 : _ = 12 + 1)
  have h20 : l20.length = 12 := by simpa using h19
  obtain ⟨x20, l21, rfl⟩ := List.exists_cons_of_length_eq_add_one (h20 : _ = 11 + 1)
  have h21 : l21.length = 11 := by simpa using h20
  obtain ⟨x21, l22, rfl⟩ := List.exists_cons_of_length_eq_add_one (h21 : _ = 10 + 1)
  have h22 : l22.length = 10 := by simpa using h21
  obtain ⟨x22, l23, rfl⟩ := List.exists_cons_of_length_eq_add_one (h22 : _ = 9 + 1)
  have h23 : l23.length = 9 := by simpa using h22
  obtain ⟨x23, l24, rfl⟩ := List.exists_cons_of_length_eq_add_one (h23 : _ = 8 + 1)
  have h24 : l24.length = 8 := by simpa using h23
  obtain ⟨x24, l25, rfl⟩ := List.exists_cons_of_length_eq_add_one (h24 : _ = 7 + 1)
  have h25 : l25.length = 7 := by simpa using h24
  obtain ⟨x25, l26, rfl⟩ := List.exists_cons_of_length_eq_add_one (h25 : _ = 6 + 1)
  have h26 : l26.length = 6 := by simpa using h25
  obtain ⟨x26, l27, rfl⟩ := List.exists_cons_of_length_eq_add_one (h26 : _ = 5 + 1)
  have h27 : l27.length = 5 := by simpa using h26
  obtain ⟨x27, l28, rfl⟩ := List.exists_cons_of_length_eq_add_one (h27 : _ = 4 + 1)
  have h28 : l28.length = 4 := by simpa using h27
  obtain ⟨x28, l29, rfl⟩ := List.exists_cons_of_length_eq_add_one (h28 : _ = 3 + 1)
  have h29 : l29.length = 3 := by simpa using h28
  obtain ⟨x29, l30, rfl⟩ := List.exists_cons_of_length_eq_add_one (h29 : _ = 2 + 1)
  have h30 : l30.length = 2 := by simpa using h29
  obtain ⟨x30, l31, rfl⟩ := List.exists_cons_of_length_eq_add_one (h30 : _ = 1 + 1)
  have h31 : l31.length = 1 := by simpa using h30
  obtain ⟨x31, l32, rfl⟩ := List.exists_cons_of_length_eq_add_one (h31 : _ = 0 + 1)
  have h32 : l32.length = 0 := by simpa using h31
  obtain rfl := List.eq_nil_of_length_eq_zero h32
  exact ⟨x0, x1, x2, x3, x4, x5, x6, x7, x8, x9, x10, x11, x12, x13, x14, x15, x16, x17, x18, x19, x20, x21, x22, x23, x24, x25, x26, x27, x28, x29, x30, x31, rfl⟩
theorem list35 {α : Type} {l0 : List α} (h0 : l0.length = 35) : ∃ y0 y1 y2 y3 y4 y5 y6 y7 y8 y9 y10 y11 y12 y13 y14 y15 y16 y17 y18 y19 y20 y21 y22 y23 y24 y25 y26 y27 y28 y29 y30 y31 y32 y33 y34, l0 = [y0, y1, y2, y3, y4, y5, y6, y7, y8, y9, y10, y11, y12, y13, y14, y15, y16, y17, y18, y19, y20, y21, y22, y23, y24, y25, y26, y27, y28, y29, y30, y31, y32, y33, y34] := by
  obtain ⟨y0, l1, rfl⟩ := List.exists_cons_of_length_eq_add_one (h0 : _ = 34 + 1)
  have h1 : l1.length = 34 := by simpa using h0
  obtain ⟨y1, l2, rfl⟩ := List.exists_cons_of_length_eq_add_one (h1 : _ = 33 + 1)
  have h2 : l2.length = 33 := by simpa using h1
  obtain ⟨y2, l3, rfl⟩ := List.exists_cons_of_length_eq_add_one (h2 : _ = 32 + 1)
  have h3 : l3.length = 32 := by simpa using h2
  obtain ⟨y3, l4, rfl⟩ := List.exists_cons_of_length_eq_add_one (h3 : _ = 31 + 1)
  have h4 : l4.length = 31 := by simpa using h3
  obtain ⟨y4, l5, rfl⟩ := List.exists_cons_of_length_eq_add_one (h4 : _ = 30 + 1)
  have h5 : l5.length = 30 := by simpa using h4
  obtain ⟨y5, l6, rfl⟩ := List.exists_cons_of_length_eq_add_one (h5 : _ = 29 + 1)
  have h6 : l6.length = 29 := by simpa using h5
  obtain ⟨y6, l7, rfl⟩ := List.exists_cons_of_length_eq_add_one (h6 : _ = 28 + 1)
  have h7 : l7.length = 28 := by simpa using h6
  obtain ⟨y7, l8, rfl⟩ := List.exists_cons_of_length_eq_add_one (h7 : _ = 27 + 1)
  have h8 : l8.length = 27 := by simpa using h7
  obtain ⟨y8, l9, rfl⟩ := List.exists_cons_of_length_eq_add_one (h8 : _ = 26 + 1)
  have h9 : l9.length = 26 := by simpa using h8
  obtain ⟨y9, l10, rfl⟩ := List.exists_cons_of_length_eq_add_one (h9 : _ = 25 + 1)
  have h10 : l10.length = 25 := by simpa using h9
  obtain ⟨y10, l11, rfl⟩ := List.exists_cons_of_length_eq_add_one (h10 : _ = 24 + 1)
  have h11 : l11.length = 24 := by simpa using h10
  obtain ⟨y11, l12, rfl⟩ := List.exists_cons_of_length_eq_add_one (h11 : _ = 23 + 1)
  have h12 : l12.length = 23 := by simpa using h11
  obtain ⟨y12, l13, rfl⟩ := List.exists_cons_of_length_eq_add_one (h12 : _ = 22 + 1)
  have h13 : l13.length = 22 := by simpa using h12
  obtain ⟨y13, l14, rfl⟩ := List.exists_cons_of_length_eq_add_one (h13 : _ = 21 + 1)
  have h14 : l14.length = 21 := by simpa using h13
  obtain ⟨y14, l15, rfl⟩ := List.exists_cons_of_length_eq_add_one (h14 : _ = 20 + 1)
  have h15 : l15.length = 20 := by simpa using h14
  obtain ⟨y15, l16, rfl⟩ := List.exists_cons_of_length_eq_add_one (h15 : _ = 19 + 1)
  have h16 : l16.length = 19 := by simpa using h15
  obtain ⟨y16, l17, rfl⟩ := List.exists_cons_of_length_eq_add_one (h16 : _ = 18 + 1)
  have h17 : l17.length = 18 := by simpa using h16
  obtain ⟨y17, l18, rfl⟩ := List.exists_cons_of_length_eq_add_one (h17 : _ = 17 + 1)
  have h18 : l18.length = 17 := by simpa using h17
  obtain ⟨y18, l19, rfl⟩ := List.exists_cons_of_length_eq_add_one (h18 : _ = 16 + 1)
  have h19 : l19.length = 16 := by simpa using h18
  obtain ⟨y19, l20, rfl⟩ := List.exists_cons_of_length_eq_add_one (h19 : _ = 15 + 1)
  have h20 : l20.length = 15 := by simpa using h19
  obtain ⟨y20, l21, rfl⟩ := List.exists_cons_of_length_eq_add_one (h20 : _ = 14 + 1)
  have h21 : l21.length = 14 := by simpa using h20
  obtain ⟨y21, l22, rfl⟩ := List.exists_cons_of_length_eq_add_one (h21 : _ = 13 + 1)
  have h22 : l22.length = 13 := by simpa using h21
  obtain ⟨y22, l23, rfl⟩ := List.exists_cons_of_length_eq_add_one (h22 : _ = 12 + 1)
  have h23 : l23.length = 12 := by simpa using h22
  obtain ⟨y23, l24, rfl⟩ := List.exists_cons_of_length_eq_add_one (h23 : _ = 11 + 1)
  have h24 : l24.length = 11 := by simpa using h23
  obtain ⟨y24, l25, rfl⟩ := List.exists_cons_of_length_eq_add_one (h24 : _ = 10 + 1)
  have h25 : l25.length = 10 := by simpa using h24
  obtain ⟨y25, l26, rfl⟩ := List.exists_cons_of_length_eq_add_one (h25 : _ = 9 + 1)
  have h26 : l26.length = 9 := by simpa using h25
  obtain ⟨y26, l27, rfl⟩ := List.exists_cons_of_length_eq_add_one (h26 : _ = 8 + 1)
  have h27 : l27.length = 8 := by simpa using h26
  obtain ⟨y27, l28, rfl⟩ := List.exists_cons_of_length_eq_add_one (h27 : _ = 7 + 1)
  have h28 : l28.length = 7 := by simpa using h27
  obtain ⟨y28, l29, rfl⟩ := List.exists_cons_of_length_eq_add_one (h28 : _ = 6 + 1)
  have h29 : l29.length = 6 := by simpa using h28
  obtain ⟨y29, l30, rfl⟩ := List.exists_cons_of_length_eq_add_one (h29 : _ = 5 + 1)
  have h30 : l30.length = 5 := by simpa using h29
  obtain ⟨y30, l31, rfl⟩ := List.exists_cons_of_length_eq_add_one (h30 : _ = 4 + 1)
  have h31 : l31.length = 4 := by simpa using h30
  obtain ⟨y31, l32, rfl⟩ := List.exists_cons_of_length_eq_add_one (h31 : _ = 3 + 1)
  have h32 : l32.length = 3 := by simpa using h31
  obtain ⟨y32, l33, rfl⟩ := List.exists_cons_of_length_eq_add_one (h32 : _ = 2 + 1)
  have h33 : l33.length = 2 := by simpa using h32
  obtain ⟨y33, l34, rfl⟩ := List.exists_cons_of_length_eq_add_one (h33 : _ = 1 + 1)
  have h34 : l34.length = 1 := by simpa using h33
  obtain ⟨y34, l35, rfl⟩ := List.exists_cons_of_length_eq_add_one (h34 : _ = 0 + 1)
  have h35 : l35.length = 0 := by simpa using h34
  obtain rfl := List.eq_nil_of_length_eq_zero h35
  exact ⟨y0, y1, y2, y3, y4, y5, y6, y7, y8, y9, y10, y11, y12, y13, y14, y15, y16, y17, y18, y19, y20, y21, y22, y23, y24, y25, y26, y27, y28, y29, y30, y31, y32, y33, y34, rfl⟩
theorem zc_man : zc Tryd.prog T_api_Manifest = (Man.zero.cs).toArray := by kernel_rfl
theorem zc_stg : zc Tryd.prog T_api_Staging = (Stg.zero.cs ⟨none, 0, 0⟩).toArray := by kernel_rfl
theorem buildK_of {P : Program} {ty : TypeId} {parts : Array (Nat × Value)} {cs cs' : Array Value} {K : Array Value → Prop} (h : buildCells P ty parts = some cs) (e : cs' = cs) (k : K cs') : buildK P ty parts K := by
  unfold buildK; rw [h]; subst e; exact k
theorem bm32 (a b c : Int) (x0 x1 x2 x3 x4 x5 x6 x7 x8 x9 x10 x11 x12 x13 x14 x15 x16 x17 x18 x19 x20 x21 x22 x23 x24 x25 x26 x27 x28 x29 x30 x31 : UInt8) : buildCells Tryd.prog T_api_Manifest #[(0, .int .i64 a), (1, .int .u32 b), (2, .int .i64 c), (3, .agg (bytes [x0, x1, x2, x3, x4, x5, x6, x7, x8, x9, x10, x11, x12, x13, x14, x15, x16, x17, x18, x19, x20, x21, x22, x23, x24, x25, x26, x27, x28, x29, x30, x31]))] = some (Man.mk a b c [x0, x1, x2, x3, x4, x5, x6, x7, x8, x9, x10, x11, x12, x13, x14, x15, x16, x17, x18, x19, x20, x21, x22, x23, x24, x25, x26, x27, x28, x29, x30, x31]).cs.toArray := by kernel_rfl
theorem bs35 (y0 y1 y2 y3 y4 y5 y6 y7 y8 y9 y10 y11 y12 y13 y14 y15 y16 y17 y18 y19 y20 y21 y22 y23 y24 y25 y26 y27 y28 y29 y30 y31 y32 y33 y34 : Value) : buildCells Tryd.prog T_api_Staging #[(0, .agg [y0, y1, y2, y3, y4, y5, y6, y7, y8, y9, y10, y11, y12, y13, y14, y15, y16, y17, y18, y19, y20, y21, y22, y23, y24, y25, y26, y27, y28, y29, y30, y31, y32, y33, y34].toArray)] = some ([y0, y1, y2, y3, y4, y5, y6, y7, y8, y9, y10, y11, y12, y13, y14, y15, y16, y17, y18, y19, y20, y21, y22, y23, y24, y25, y26, y27, y28, y29, y30, y31, y32, y33, y34] ++ [Sl.v ⟨none, 0, 0⟩]).toArray := by kernel_rfl
theorem bs36 (t : Sl) (y0 y1 y2 y3 y4 y5 y6 y7 y8 y9 y10 y11 y12 y13 y14 y15 y16 y17 y18 y19 y20 y21 y22 y23 y24 y25 y26 y27 y28 y29 y30 y31 y32 y33 y34 : Value) : buildCells Tryd.prog T_api_Staging #[(0, .agg [y0, y1, y2, y3, y4, y5, y6, y7, y8, y9, y10, y11, y12, y13, y14, y15, y16, y17, y18, y19, y20, y21, y22, y23, y24, y25, y26, y27, y28, y29, y30, y31, y32, y33, y34].toArray), (1, .slice t.a t.len t.cap)] = some ([y0, y1, y2, y3, y4, y5, y6, y7, y8, y9, y10, y11, y12, y13, y14, y15, y16, y17, y18, y19, y20, y21, y22, y23, y24, y25, y26, y27, y28, y29, y30, y31, y32, y33, y34] ++ [t.v]).toArray := by kernel_rfl
set_option maxRecDepth 20000 in
theorem build_man {K : Array Value → Prop} {a b c : Int} {l : List UInt8} (hl : l.length = 32) (k : K (Man.mk a b c l).cs.toArray) : buildK Tryd.prog T_api_Manifest #[(0, .int .i64 a), (1, .int .u32 b), (2, .int .i64 c), (3, .agg (bytes l))] K := by
  obtain ⟨x0, x1, x2, x3, x4, x5, x6, x7, x8, x9, x10, x11, x12, x13, x14, x15, x16, x17, x18, x19, x20, x21, x22, x23, x24, x25, x26, x27, x28, x29, x30, x31, rfl⟩ := list32 hl
  exact buildK_of (bm32 a b c x0 x1 x2 x3 x4 x5 x6 x7 x8 x9 x10 x11 x12 x13 x14 x15 x16 x17 x18 x19 x20 x21 x22 x23 x24 x25 x26 x27 x28 x29 x30 x31) rfl k
set_option maxRecDepth 20000 in
theorem build_stg0 {K : Array Value → Prop} {c : List Value} (hl : c.length = 35) (k : K (c ++ [Sl.v ⟨none, 0, 0⟩]).toArray) : buildK Tryd.prog T_api_Staging #[(0, .agg c.toArray)] K := by
  obtain ⟨y0, y1, y2, y3, y4, y5, y6, y7, y8, y9, y10, y11, y12, y13, y14, y15, y16, y17, y18, y19, y20, y21, y22, y23, y24, y25, y26, y27, y28, y29, y30, y31, y32, y33, y34, rfl⟩ := list35 hl
  exact buildK_of (bs35 y0 y1 y2 y3 y4 y5 y6 y7 y8 y9 y10 y11 y12 y13 y14 y15 y16 y17 y18 y19 y20 y21 y22 y23 y24 y25 y26 y27 y28 y29 y30 y31 y32 y33 y34) rfl k
set_option maxRecDepth 20000 in
theorem build_stg {K : Array Value → Prop} {c : List Value} {t : Sl} (hl : c.length = 35) (k : K (c ++ [t.v]).toArray) : buildK Tryd.prog T_api_Staging #[(0, .agg c.toArray), (1, .slice t.a t.len t.cap)] K := by
  have e : buildCells Tryd.prog T_api_Staging #[(0, .agg c.toArray), (1, .slice t.a t.len t.cap)] = some (c ++ [t.v]).toArray := by
    obtain ⟨y0, y1, y2, y3, y4, y5, y6, y7, y8, y9, y10, y11, y12, y13, y14, y15, y16, y17, y18, y19, y20, y21, y22, y23, y24, y25, y26, y27, y28, y29, y30, y31, y32, y33, y34, h⟩ := list35 hl
    subst h
    exact bs36 t y0 y1 y2 y3 y4 y5 y6 y7 y8 y9 y10 y11 y12 y13 y14 y15 y16 y17 y18 y19 y20 y21 y22 y23 y24 y25 y26 y27 y28 y29 y30 y31 y32 y33 y34
  exact buildK_of e rfl k
end Go.Proofs.YtlbhilhfbbocfaaDoor.G

set_option linter.unusedVariables false
set_option linter.unusedSimpArgs false
namespace Nac
namespace Man
theorem cs35 {m : Man} (h : m.sum.length = 32) : m.cs.length = 35 := by rw [cs_length, h]
theorem cs_drop {m : Man} (h : m.sum.length = 32) {r : List Go.Value} : ((m.cs ++ r).drop 3).take 32 = m.sum.map fun x => .int .u8 (x.toNat : Int) := by
  show ((m.sum.map fun x => Go.Value.int .u8 (x.toNat : Int)) ++ r).take 32 = _
  exact List.take_left' (by simpa using h)
end Man
end Nac
namespace Go.VC
open Go Go.RowKit
theorem ldArr0 {F : Bs} {w : World} {l : List SP} {b n : Nat} {ty : TypeId} {cs : List Value} (H : Heap F w l) {K : Array Value → Prop} (hn : n ≤ cs.length) (k : K (cs.take n).toArray) (hT : Has l (blk b ty cs) := by repeat (first | assumption | constructor)) : ldArr w ⟨b, 0, none⟩ n K := by
  have h := ldArra (o := 0) (n := n) H (by omega) (by simpa using k) hT
  rwa [add_zero'] at h
end Go.VC
namespace Go.Proofs.YtlbhilhfbbocfaaDoor.G
open Go Go.VC Go.RowKit Go.Proofs Go.Proofs.YtlbhilhfbbocfaaDoor Nac
attribute [local irreducible] Tryd.prog
section
variable {F : Bs} {w : World} {l r : List SP} {Q : Value → World → Prop} {s t : Sl} {is js : List Ins} {bb : List UInt8} {v : Value} {fl : List (Int × Int)} {b : Nat} {ty : TypeId} {m : Man}
/-- the manifest in a block, with what stands behind -/
theorem ldMan (H : Heap F w l) {K : Array Value → Prop} {x : List Value} (h : m.sum.length = 32) (k : K m.cs.toArray) (hT : Has l (blk b ty (m.cs ++ x)) := by repeat (first | assumption | constructor)) : ldArr w ⟨b, 0, none⟩ 35 K := by
  refine ldArr0 H (by rw [List.length_append, Man.cs35 h]; omega) ?_ hT
  rw [List.take_left' (Man.cs35 h)]; exact k
theorem ldMan0 (H : Heap F w l) {K : Array Value → Prop} (h : m.sum.length = 32) (k : K m.cs.toArray) (hT : Has l (blk b ty m.cs) := by repeat (first | assumption | constructor)) : ldArr w ⟨b, 0, none⟩ 35 K := by
  refine ldArr0 H (by rw [Man.cs35 h]; omega) ?_ hT
  rw [List.take_of_length_le (by rw [Man.cs35 h]; omega)]; exact k
theorem ldSum0 (H : Heap F w l) {K : Array Value → Prop} (h : m.sum.length = 32) (k : K (bytes m.sum)) (hT : Has l (blk b ty m.cs) := by repeat (first | assumption | constructor)) : ldArr w ((⟨b, 0, none⟩ : Addr).add 3) 32 K := by
  refine ldArra (o := 3) (n := 32) H (by rw [Man.cs35 h]; omega) ?_ hT
  have := Man.cs_drop h (r := [])
  rw [List.append_nil] at this
  rw [this]; exact k
theorem image_may (H : Heap F w l) (m : Man) (k : ∀ w', Heap F w' l → Q (.bool (decide m.may)) w') : Does Tryd.prog N_image_may #[.agg m.cs.toArray] w Q := by
  refine F_image_may_does _ _ _ ?_
  unfold F_image_may
  refine al H (cs := m.cs) (fun a w H => ?_) rfl
  unfold Man.cs at H
  have finT : m.may → Q (.bool true) w := fun h => decide_eq_true h ▸ k _ H.tl
  have finF : ¬ m.may → Q (.bool false) w := fun h => decide_eq_false h ▸ k _ H.tl
  unfold Man.may at finT finF
  refine ld0 H ?_
  refine dGe (fun e1 => ld0 H ?_) (fun e1 => finF (by omega))
  refine dLt (fun e2 => lda H ?_) (fun e2 => finF (by omega))
  refine dGe (fun e3 => lda H ?_) (fun e3 => finF (by omega))
  refine dLe (fun e4 => lda H ⟨by decide, ?_⟩) (fun e4 => finF (by omega))
  have e5 : Int.tmod m.size 4 = m.size % 4 := Int.tmod_eq_emod_of_nonneg (by omega)
  show Q (.bool (Int.tmod m.size 4 == 0)) w
  rw [e5]
  by_cases e6 : m.size % 4 = 0
  · rw [show (m.size % 4 == 0) = true by simp [e6]]; exact finT (by omega)
  · rw [show (m.size % 4 == 0) = false by simp [e6]]; exact finF (by omega)
theorem ref19_May (H : Heap F w l) (m : Man) (k : ∀ w', Heap F w' l → Q (.bool (decide m.may)) w') : Does Tryd.prog N_ref19_May #[.agg m.cs.toArray] w Q := by
  refine F_ref19_May_does _ _ _ ?_
  unfold F_ref19_May
  refine al H (cs := m.cs) (fun a w H => ?_) rfl
  unfold Man.cs at H
  have finT : m.may → Q (.bool true) w := fun h => decide_eq_true h ▸ k _ H.tl
  have finF : ¬ m.may → Q (.bool false) w := fun h => decide_eq_false h ▸ k _ H.tl
  unfold Man.may at finT finF
  intro J hJ
  refine ld0 H ?_
  refine dLt (fun e1 => finF (by omega)) (fun e1 => ld0 H ?_)
  refine dGt (fun e1 => finF (by omega)) (fun e2 => lda H ?_)
  refine dLt (fun e1 => finF (by omega)) (fun e3 => lda H ?_)
  refine dGt (fun e1 => finF (by omega)) (fun e4 => hJ _ (lda H ⟨by decide, lda H ?_⟩))
  have e5 : Int.tdiv m.size 4 = m.size / 4 := Int.tdiv_eq_ediv_of_nonneg (by omega)
  show Q (.bool (IntKind.wrap .i64 (IntKind.wrap .i64 (Int.tdiv m.size 4) * 4) == m.size)) w
  rw [e5, i64_id (n := m.size / 4) (by omega), i64_id (by omega)]
  by_cases e6 : m.size / 4 * 4 = m.size
  · rw [show (m.size / 4 * 4 == m.size) = true by simp [e6]]; exact finT (by omega)
  · rw [show (m.size / 4 * 4 == m.size) = false by simp [e6]]; exact finF (by omega)
theorem sum_len (l : List UInt8) : (Sha.sum l).length = 32 := sumL l
theorem oneC_bs (l : List UInt8) : ∀ v ∈ (bytes l).toList, oneC v = true := by simpa [bytes] using oneC_byte l
theorem sha_Sum (H : Heap F w l) (hn : bb.length < 1000000) (hI : Has l (imm s bb)) (hK : Has l Key) (k : ∀ w', Heap F w' l → Q (.agg (bytes (Sha.sum bb))) w') : Does Tryd.prog N_sha_Sum #[.slice s.a s.len s.cap] w Q := by
  refine F_sha_Sum_does _ _ _ ?_
  unfold F_sha_Sum
  refine al H (cs := (bytes (List.replicate 32 0)).toList) (fun a1 w H => ?_) zc24
  refine sl_new H fun hb w H => ⟨_, rfl, ?_⟩
  refine sl_write H .h (.t hI) (.t hK) rfl (by show 0 + _ < _; omega) fun w H => ⟨rfl, ?_⟩
  refine sl_sum H .h (.t (.t hK)) (by rw [Sha.Hs.write_rest]; rfl) (by rw [Sha.Hs.write_n]; show 0 + _ + _ < _; omega) fun w H => ⟨_, rfl, ?_⟩
  have hl := sum_len bb
  refine stArr0 (c := bytes (Sha.sum bb)) H (by simpa [bytes] using hl) (by simp [bytes]) (oneC_bs _) (fun w H => ?_) (.t .h)
  refine ldArr0 (cs := (bytes (Sha.sum bb)).toList) H (by simp [bytes, hl]) ?_
  rw [List.take_of_length_le (by simp [bytes, hl])]
  exact k w (H.tln 2)
theorem ref04_Sum (H : Heap F w l) (hn : bb.length ≤ 30000) (hI : Has l (imm s bb)) (k : ∀ w', Heap F w' l → Q (.agg (bytes (Sha.sum bb))) w') : Does Tryd.prog N_ref04_Sum #[.slice s.a s.len s.cap] w Q :=
  refSum H (.i hI) hn k
theorem fault_In' (H : Heap F w l) {a : Int} (hE : Has l (Err v fl)) (hT : Has l ErrTy) (k : ∀ (v : Value) w', Heap F w' (Err v (if fl = [] then [] else (fcode fl, a) :: fl) :: l) → Q v w') : Does Tryd.prog N_fault_In #[v, .int .i64 a] w Q := by
  rcases err_val H hE with ⟨rfl, rfl⟩ | ⟨c, a, t, b, u, rfl, rfl, _⟩
  · refine F_fault_In0_does _ _ _ ?_
    unfold F_fault_In0
    exact nil_eq (cT rfl (k _ _ (err_nil H)))
  · exact fault_In H hE hT k
theorem image_Of (H : Heap F w l) {part ver : Int} (hn : bb.length < 1000000) (hI : Has l (imm s bb)) (hK : Has l Key) (k : ∀ w', Heap F w' l → Q (.agg (Man.mk part ver bb.length (Sha.sum bb)).cs.toArray) w') : Does Tryd.prog N_image_Of #[.int .i64 part, .int .u32 ver, .slice s.a s.len s.cap] w Q := by
  refine F_image_Of_does _ _ _ _ _ ?_
  unfold F_image_Of
  have hl := H.len hI
  refine al H (cs := Man.zero.cs) (fun a1 w H => ?_) zc_man
  refine sha_Sum H hn (.t hI) (.t hK) fun w H => ⟨_, rfl, ?_⟩
  refine build_man (sum_len bb) ?_
  rw [← hl]
  have h35 := Man.cs35 (m := ⟨part, ver, bb.length, Sha.sum bb⟩) (sum_len bb)
  refine stArr0 H (by simpa using h35) (by decide) ?_ (fun w H => ?_) .h
  · simp [Man.cs, oneC]
  · refine ldMan0 (m := ⟨part, ver, bb.length, Sha.sum bb⟩) H (sum_len bb) ?_
    exact k w H.tl
end
end Go.Proofs.YtlbhilhfbbocfaaDoor.G

set_option linter.unusedVariables false
set_option linter.unusedSimpArgs false
namespace Go.Proofs.YtlbhilhfbbocfaaDoor.G
open Go Go.VC Go.RowKit Go.Proofs Go.Proofs.YtlbhilhfbbocfaaDoor Nac
attribute [local irreducible] Tryd.prog
section
variable {F : Bs} {w : World} {l r : List SP} {Q : Value → World → Prop} {s t : Sl} {is js : List Ins} {bb : List UInt8} {v : Value} {fl : List (Int × Int)} {b : Nat} {ty : TypeId} {m : Man}
theorem image_Encode (H : Heap F w l) (hm : m.ok) (k : ∀ (t : Sl) w', Heap F w' (own T_uint8 t (if m.may then menc m else []) :: l) → Q (.slice t.a t.len t.cap) w') : Does Tryd.prog N_image_Encode #[.agg m.cs.toArray] w Q := by
  refine F_image_Encode_does _ _ _ ?_
  unfold F_image_Encode
  have hs := hm.2.2.2
  refine al H (cs := m.cs) (fun a1 w H => ?_) rfl
  refine ldMan0 H hs ?_
  refine image_may H m fun w H => ⟨_, rfl, ?_⟩
  by_cases hmay : m.may
  case neg =>
    rw [decide_eq_false hmay]
    rw [if_neg hmay] at k
    exact cT rfl (k ⟨none, 0, 0⟩ w (H.tl.own_nil T_uint8))
  rw [decide_eq_true hmay]
  rw [if_pos hmay] at k
  refine cF rfl ?_
  have hcs : m.cs = .int .i64 m.part :: .int .u32 m.ver :: .int .i64 m.size :: m.sum.map fun x => .int .u8 (x.toNat : Int) := rfl
  rw [hcs] at H
  refine al H (cs := [.int .u8 77]) (fun a7 w H => ?_) rfl
  replace H := H.blk_own (n := 1) ([77] : List UInt8) rfl (by decide) rfl
  refine ld0 H ?_
  rw [Go.VC.wrap64]
  refine oct_Put H (k := 1) (by decide) (by decide) fun l12 w H => ⟨_, rfl, ?_⟩
  replace H := H.share (s := l12)
  refine apI (s := ⟨some ⟨a7, 0, none⟩, 1, 1⟩) (xs := [77]) (ys := put (u64 m.part) 1) S_l_uint8 H (by simp) fun l13 w H => ?_
  refine lda H ?_
  rw [Go.VC.wrap64]
  refine oct_Put H (k := 4) (by decide) (by decide) fun l18 w H => ⟨_, rfl, ?_⟩
  replace H := H.share (s := l18)
  refine apI (s := l13) (xs := [77] ++ put (u64 m.part) 1) (ys := put (u64 m.ver) 4) S_l_uint8 H (by simp) fun l19 w H => ?_
  refine lda H ?_
  rw [Go.VC.wrap64]
  refine oct_Put H (k := 2) (by decide) (by decide) fun l24 w H => ⟨_, rfl, ?_⟩
  replace H := H.share (s := l24)
  refine apI (s := l19) (xs := [77] ++ put (u64 m.part) 1 ++ put (u64 m.ver) 4) (ys := put (u64 m.size) 2) S_l_uint8 H (by simp) fun l25 w H => ?_
  refine slcA0 rfl (by decide) rfl ?_
  refine apBo (s := l25) (xs := [77] ++ put (u64 m.part) 1 ++ put (u64 m.ver) 4 ++ put (u64 m.size) 2) (o := 3) m.sum S_l_uint8 H (by rw [add_mk]) (by simp; omega) ?_ hs (fun l28 w H => ?_) (by repeat (first | assumption | constructor)) (.t (.t (.t (.t .h))))
  · show List.take m.sum.length (List.map _ _) = _
    rw [List.take_of_length_le (by simp)]; rfl
  · refine k l28 w ?_
    have e : [77] ++ put (u64 m.part) 1 ++ put (u64 m.ver) 4 ++ put (u64 m.size) 2 ++ m.sum = menc m := by simp [menc]
    rw [e] at H
    exact Heap.kp 4 H
theorem zero_arr : (#[.int .i64 (0), .int .u32 (0), .int .i64 (0), .int .u8 (0), .int .u8 (0), .int .u8 (0), .int .u8 (0), .int .u8 (0), .int .u8 (0), .int .u8 (0), .int .u8 (0), .int .u8 (0), .int .u8 (0), .int .u8 (0), .int .u8 (0), .int .u8 (0), .int .u8 (0), .int .u8 (0), .int .u8 (0), .int .u8 (0), .int .u8 (0), .int .u8 (0), .int .u8 (0), .int .u8 (0), .int .u8 (0), .int .u8 (0), .int .u8 (0), .int .u8 (0), .int .u8 (0), .int .u8 (0), .int .u8 (0), .int .u8 (0), .int .u8 (0), .int .u8 (0), .int .u8 (0)] : Array Value) = Man.zero.cs.toArray := by kernel_rfl
theorem image_Decode (H : Heap F w l) (hb : bb.length ≤ 140737488355328) (hI : Has l (imm s bb)) (hT : Has l ErrTy) (k : ∀ v y fl w', ((fl = [] ∧ heard bb ∧ y = manOf bb ∧ y.may) ∨ (fl ≠ [] ∧ ¬ (heard bb ∧ (manOf bb).may) ∧ y = Man.zero)) → Heap F w' (Err v fl :: l) → Q (.tuple #[.agg y.cs.toArray, v]) w') : Does Tryd.prog N_image_Decode #[.slice s.a s.len s.cap] w Q := by
  refine F_image_Decode_does _ _ _ ?_
  unfold F_image_Decode
  refine al H (cs := Man.zero.cs) (fun a1 w H => ?_) zc_man
  refine oct_Read H (bb := bb) (fun p w H => ⟨_, rfl, ?_⟩) hb (.t hI)
  refine oct_Num (m := 1) (st := (0, [])) H (by decide) (by decide) (Nat.zero_le _) fun w H => ⟨_, rfl, ?_⟩
  obtain ⟨c1, h1⟩ : ∃ a, a = rdB bb 1 (0, []) := ⟨_, rfl⟩
  have l1 : c1.2.1 ≤ bb.length := h1 ▸ rdB_le (Nat.zero_le _)
  rw [← h1] at H ⊢
  refine oct_Must (st := c1.2) H (by decide) fun w H => ⟨rfl, ?_⟩
  have l1' := mustB_le (ok := ((get c1.1).toNat : Int) == 77) (c := 3) l1
  refine oct_Num (m := 1) (st := mustB (((get c1.1).toNat : Int) == 77) 3 c1.2) H (by decide) (by decide) l1' fun w H => ⟨_, rfl, ?_⟩
  obtain ⟨c2, h2⟩ : ∃ a, a = rdB bb 1 (mustB (((get c1.1).toNat : Int) == 77) 3 c1.2) := ⟨_, rfl⟩
  have l2 : c2.2.1 ≤ bb.length := h2 ▸ rdB_le l1'
  rw [← h2] at H ⊢
  refine oct_Num (m := 4) (st := c2.2) H (by decide) (by decide) l2 fun w H => ⟨_, rfl, ?_⟩
  obtain ⟨c3, h3⟩ : ∃ a, a = rdB bb 4 c2.2 := ⟨_, rfl⟩
  have l3 : c3.2.1 ≤ bb.length := h3 ▸ rdB_le l2
  rw [← h3] at H ⊢
  refine oct_Num (m := 2) (st := c3.2) H (by decide) (by decide) l3 fun w H => ⟨_, rfl, ?_⟩
  obtain ⟨c4, h4⟩ : ∃ a, a = rdB bb 2 c3.2 := ⟨_, rfl⟩
  have l4 : c4.2.1 ≤ bb.length := h4 ▸ rdB_le l3
  rw [← h4] at H ⊢
  refine al H (cs := Man.zero.cs) (fun a20 w H => ?_) zc_man
  refine stArr0 H (by rfl) (by decide) (by simp [oneC]) (fun w H => ?_) .h
  replace H : Heap F w (blk a20 T_api_Manifest (Man.mk (IntKind.wrap .i64 ((get c2.1).toNat : Int)) (IntKind.wrap .u32 ((get c3.1).toNat : Int)) (IntKind.wrap .i64 ((get c4.1).toNat : Int)) (List.replicate 32 0)).cs :: _) := H
  refine slcA0 rfl (by decide) rfl ?_
  replace H := H.drew
  refine oct_Bytes (m := 32) (st := c4.2) H l4 (by decide) fun l26 w H => ⟨_, rfl, ?_⟩
  obtain ⟨c5, h5⟩ : ∃ a, a = rdB bb 32 c4.2 := ⟨_, rfl⟩
  have l5 : c5.2.1 ≤ bb.length := h5 ▸ rdB_le l4
  rw [← h5] at H
  replace H := H.share (s := l26)
  refine copyBa (o := 3) (dl := 32) (xs := c5.1) (cur := (Man.mk (IntKind.wrap .i64 ((get c2.1).toNat : Int)) (IntKind.wrap .u32 ((get c3.1).toNat : Int)) (IntKind.wrap .i64 ((get c4.1).toNat : Int)) (List.replicate 32 0)).cs) S_l_uint8 H rfl (by simp [Man.cs]) (fun w H => ?_) (by repeat (first | assumption | constructor)) .h
  refine oct_At (st := c5.2) H ⟨_, rfl, ?_⟩ (by repeat (first | assumption | constructor))
  refine oct_End (st := c5.2) H l5 (fun v34 w H => ⟨_, rfl, ?_⟩) (by repeat (first | assumption | constructor))
  obtain ⟨hA, hB⟩ := Said.all ⟨h1, h2, h3, h4, h5⟩
  refine err_ne H .h ?_
  by_cases he : endB bb c5.2 = []
  case neg =>
    rw [decide_eq_true he]
    refine cT rfl (fault_In' H .h (by repeat (first | exact hT | apply Has.t)) fun v39 w H => ⟨_, rfl, ?_⟩)
    rw [if_neg he] at H
    refine stArr0 (b := a1) (cs := Man.zero.cs) (c := Man.zero.cs.toArray) H (by rfl) (by decide) (by decide) (fun w H => ?_) (by repeat (first | assumption | constructor))
    refine ldMan0 (b := a1) (m := Man.zero) H rfl ?_ (by repeat (first | assumption | constructor))
    refine k v39 Man.zero ((fcode (endB bb c5.2), 0) :: endB bb c5.2) w (.inr ⟨by simp, fun h => he (hA.2 h.1), rfl⟩) ?_
    replace H := H.takes (cs := [Err v39 ((fcode (endB bb c5.2), 0) :: endB bb c5.2)]) (by repeat (first | assumption | constructor))
    exact Heap.kp 4 H
  rw [decide_eq_false (by simpa using he)]
  have hh := hA.1 he
  obtain ⟨e2, e3, e4, e5⟩ := hB he
  rw [he] at H
  have hok := manOf_ok hh
  have hcs : List.take 3 (Man.mk (IntKind.wrap .i64 ((get c2.1).toNat : Int)) (IntKind.wrap .u32 ((get c3.1).toNat : Int)) (IntKind.wrap .i64 ((get c4.1).toNat : Int)) (List.replicate 32 0)).cs ++ List.map Sc.enc (List.take 32 c5.1) ++ List.drop (3 + min c5.1.length 32) (Man.mk (IntKind.wrap .i64 ((get c2.1).toNat : Int)) (IntKind.wrap .u32 ((get c3.1).toNat : Int)) (IntKind.wrap .i64 ((get c4.1).toNat : Int)) (List.replicate 32 0)).cs = (manOf bb).cs := by
    have q := hok
    unfold manOf Man.ok at q
    have h32 : ((bb.drop 8).take 32).length = 32 := by have := hh.1; simp; omega
    rw [e5, e2, e3, e4]
    unfold manOf
    generalize (bb.drop 8).take 32 = X at *
    dsimp only at q h32 ⊢
    have e35 : List.drop (3 + min X.length 32) (Man.mk (IntKind.wrap .i64 ((get ((bb.drop 1).take 1)).toNat : Int)) (IntKind.wrap .u32 ((get ((bb.drop 2).take 4)).toNat : Int)) (IntKind.wrap .i64 ((get ((bb.drop 6).take 2)).toNat : Int)) (List.replicate 32 0)).cs = [] := List.drop_of_length_le (by simp [Man.cs]; omega)
    rw [e35, List.append_nil, List.take_of_length_le (by omega : X.length ≤ 32), i64_id (by omega), i64_id (by omega)]
    have eu : IntKind.wrap .u32 ((get ((bb.drop 2).take 4)).toNat : Int) = ((get ((bb.drop 2).take 4)).toNat : Int) := by rw [IntKind.wrap_u32]; omega
    rw [eu]
    rfl
  rw [hcs] at H
  refine cF rfl (ldMan0 (b := a20) (m := manOf bb) H hok.2.2.2 ?_ (by repeat (first | assumption | constructor)))
  refine image_may H (manOf bb) fun w H => ⟨_, rfl, ?_⟩
  by_cases hmay : (manOf bb).may
  · rw [decide_eq_true hmay]
    refine cF rfl (ldMan0 (b := a20) (m := manOf bb) H hok.2.2.2 ?_ (by repeat (first | assumption | constructor)))
    refine stArr0 (b := a1) (cs := Man.zero.cs) (c := (manOf bb).cs.toArray) H (by simpa using Man.cs35 hok.2.2.2) (by decide) (by simp [Man.cs, oneC]) (fun w H => ?_) (by repeat (first | assumption | constructor))
    refine ldMan0 (b := a1) (m := manOf bb) H hok.2.2.2 ?_ (by repeat (first | assumption | constructor))
    refine k .nilIface (manOf bb) [] w (.inl ⟨rfl, hh, rfl, hmay⟩) ?_
    exact Heap.kp 4 (err_nil H)
  · rw [decide_eq_false hmay]
    refine cT rfl (fault_New H fun v48 w H => ⟨_, rfl, ?_⟩)
    rw [if_neg (by decide)] at H
    refine stArr0 (b := a1) (cs := Man.zero.cs) (c := Man.zero.cs.toArray) H (by rfl) (by decide) (by decide) (fun w H => ?_) (by repeat (first | assumption | constructor))
    refine ldMan0 (b := a1) (m := Man.zero) H rfl ?_ (by repeat (first | assumption | constructor))
    refine k v48 Man.zero [(1, (c5.2.1 : Int))] w (.inr ⟨by simp, fun h => hmay h.2, rfl⟩) ?_
    replace H := H.takes (cs := [Err v48 [(1, (c5.2.1 : Int))]]) (by repeat (first | assumption | constructor))
    exact Heap.kp 4 H
end
end Go.Proofs.YtlbhilhfbbocfaaDoor.G
