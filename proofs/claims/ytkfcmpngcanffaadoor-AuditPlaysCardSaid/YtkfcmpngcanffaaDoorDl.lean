import Derived.Test.YtkfcmpngcanffaaDoorDk
import Derived.Test.YtkfcmpngcanffaaDoorDd
set_option linter.unusedVariables false
set_option linter.unusedSimpArgs false
namespace Nac
theorem pread_in {D : Disk} {X : Ext} {n : Int} (h0 : 0 ≤ n) (h1 : n < X.count) : pread D X n = D.read (X.from_ + n) := by rw [pread, if_pos ⟨h0, h1⟩]
end Nac
namespace Go.Proofs.YtkfcmpngcanffaaDoor.G
open Go Go.VC Go.RowKit Go.Proofs Go.Proofs.YtkfcmpngcanffaaDoor Nac
attribute [local irreducible] Tryd.prog
@[reducible] def lv (s1 s2 s5 sL : Sl) (D : Disk) (X : Nac.Ext) (dead : Bool) : Value := .agg #[.slice s1.a s1.len s1.cap, .slice s2.a s2.len s2.cap, .bool D.off, .int .i64 D.left, .slice s5.a s5.len s5.cap, .int .i64 X.from_, .int .i64 X.count, .slice sL.a sL.len sL.cap, .bool dead]
@[reducible] def lc (s1 s2 s5 sL : Sl) (D : Disk) (X : Nac.Ext) (dead : Bool) : List Value := [s1.v, s2.v, .bool D.off, .int .i64 D.left, s5.v, .int .i64 X.from_, .int .i64 X.count, sL.v, .bool dead]
section
variable {F : Bs} {w : World} {l r : List SP} {b d p : Nat} {D : Disk} {Q : Value → World → Prop} {X : Nac.Ext} {s1 s2 s5 sL : Sl} {L : List Entry}
theorem ref_Said (H : Heap F w l) (n : Nat) (s : List UInt8) (hs : s.length = 64) (k : ∀ w', Heap F w' l → Q (.tuple #[.agg #[.int .i64 (ent s).kind, .int .i64 (ent s).part, .int .u32 ((ent s).version.toNat : Int), .int .i64 (ent s).code], .bool (said n s)]) w') :
    Does Tryd.prog N_ref20_Said #[.int .i64 (n : Int), .string (bs s)] w Q := by
  refine F_ref20_Said_does _ _ _ _ ?_
  unfold F_ref20_Said
  refine al H (cs := [.int .i64 0, .int .i64 0, .int .u32 0, .int .i64 0]) (fun a1 w H => ?_) zc_api_Entry
  intro J hJ
  have fin : ∀ (a : Nat) w', Heap F w' (blk a T_api_Entry [.int .i64 (ent s).kind, .int .i64 (ent s).part, .int .u32 ((ent s).version.toNat : Int), .int .i64 (ent s).code] :: blk a1 T_api_Entry [.int .i64 0, .int .i64 0, .int .u32 0, .int .i64 0] :: l) → J ⟨a, 0, none⟩ w' := by
    intro a w' H
    refine hJ _ _ ?_
    replace H := H.drew
    generalize hx : ent s = x at *
    repeat (first | refine lda H ?_ | refine ld0 H ?_ | refine ldaN H ?_ | refine ld0N H ?_ | refine sta H fun w H => ?_ | refine st0 H fun w H => ?_)
    refine ref_May H x fun w H => ⟨_, rfl, ⟨rfl, rowB H⟩, ?_⟩
    refine cBoth (fun hm => ?_) (fun hm => ?_)
    · repeat (first | refine lda H ?_ | refine ld0 H ?_ | refine ldaN H ?_ | refine ld0N H ?_ | refine sta H fun w H => ?_ | refine st0 H fun w H => ?_)
      refine ref_Sector H n x fun w H => ⟨_, rfl, ⟨rfl, rowB H⟩, ?_⟩
      repeat (first | refine lda H ?_ | refine ld0 H ?_ | refine ldaN H ?_ | refine ld0N H ?_ | refine sta H fun w H => ?_ | refine st0 H fun w H => ?_)
      have e : ((bs (asec n x)).toList == (bs s).toList) = said n s := by
        rw [said, hx, show may x = true from hm, bs_toList, bs_toList, Bool.true_and]
      rw [e]
      exact k _ (H.tln 2)
    · repeat (first | refine lda H ?_ | refine ld0 H ?_ | refine ldaN H ?_ | refine ld0N H ?_ | refine sta H fun w H => ?_ | refine st0 H fun w H => ?_)
      have e : false = said n s := by rw [said, hx, show may x = false by simpa using hm]; rfl
      rw [e]
      exact k _ (H.tln 2)
  have one : ∀ (i : Nat) (h : i < s.length), (s.drop i).take 1 = [s[i]] := fun i h => by rw [List.drop_eq_getElem_cons h]; rfl
  have ek : ∀ h, IntKind.wrap .i64 ((s[(5 : Int).toNat]'h).toNat : Int) = (ent s).kind := fun h => by
    have := u8_lt (s[(5 : Int).toNat]'h)
    rw [i64_id (by omega)]
    simp only [ent, List.drop_drop]
    rw [one _ (by omega), get_single]
    rfl
  have ep : ∀ h, IntKind.wrap .i64 ((s[(6 : Int).toNat]'h).toNat : Int) = (ent s).part := fun h => by
    have := u8_lt (s[(6 : Int).toNat]'h)
    rw [i64_id (by omega)]
    simp only [ent, List.drop_drop]
    rw [one _ (by omega), get_single]
    rfl
  have ec : ∀ h, IntKind.wrap .i64 ((s[(11 : Int).toNat]'h).toNat : Int) = (ent s).code := fun h => by
    have := u8_lt (s[(11 : Int).toNat]'h)
    rw [i64_id (by omega)]
    simp only [ent, List.drop_drop]
    rw [one _ (by omega), get_single]
    rfl
  have ev : IntKind.wrap .u32 ((Nac.get ((s.drop 7).take 4)).toNat : Int) = ((ent s).version.toNat : Int) := by
    rw [wrap32_64]; simp only [ent, List.drop_drop]
  refine idxS_bs (by decide) (by omega) ?_
  refine idxS_bs (by decide) (by omega) ?_
  refine slcS_bs (by decide) (by decide) (by omega) ?_
  refine idxS_bs (by decide) (by omega) ?_
  rw [ek, ep, ec, show ((s.drop (7 : Int).toNat).take ((11 : Int).toNat - (7 : Int).toNat)) = (s.drop 7).take 4 from rfl]
  replace H := H.drew
  have hm : ((s.drop 7).take 4).length ≤ maxLen := mx (by simp; omega)
  refine ⟨?_, ?_⟩
  · refine bytesOf H und_l8 und_8 und_s hm fun t w H => ⟨?_, ?_⟩
    · refine ref_Number (hI := .h) H ⟨_, rfl, ?_⟩
      rw [ev]
      refine al H (cs := [.int .i64 0, .int .i64 0, .int .u32 0, .int .i64 0]) (fun a w H => ?_) zc_api_Entry
      repeat (first | refine lda H ?_ | refine ld0 H ?_ | refine ldaN H ?_ | refine ld0N H ?_ | refine sta H fun w H => ?_ | refine st0 H fun w H => ?_)
      exact fin _ _ (H.dr (imm t _))
    · refine al H (cs := [.int .i64 0, .int .i64 0, .int .u32 0, .int .i64 0]) (fun a w H => ?_) zc_api_Entry
      refine ref_Number (hI := .t .h) H ⟨_, rfl, ?_⟩
      rw [ev]
      repeat (first | refine lda H ?_ | refine ld0 H ?_ | refine ldaN H ?_ | refine ld0N H ?_ | refine sta H fun w H => ?_ | refine st0 H fun w H => ?_)
      exact fin _ _ (H.dr (imm t _))
  · refine al H (cs := [.int .i64 0, .int .i64 0, .int .u32 0, .int .i64 0]) (fun a w H => ?_) zc_api_Entry
    refine bytesOf H und_l8 und_8 und_s hm fun t w H => ?_
    refine ref_Number (hI := .h) H ⟨_, rfl, ?_⟩
    rw [ev]
    repeat (first | refine lda H ?_ | refine ld0 H ?_ | refine ldaN H ?_ | refine ld0N H ?_ | refine sta H fun w H => ?_ | refine st0 H fun w H => ?_)
    exact fin _ _ (H.dr (imm t _))
theorem ref_Open (H : Heap F w l) (hR : Has l (RDk s1 s2 s5 D)) (hX : 0 ≤ X.from_ ∧ X.from_ ≤ 1000 ∧ 0 ≤ X.count ∧ X.count ≤ 1000)
    (k1 : (scan D X X.count.toNat 0).2 = 0 → ∀ (sL : Sl) w', Heap F w' (imm sL (scan D X X.count.toNat 0).1 :: l) → Q (.tuple #[lv s1 s2 s5 sL D X false, .int .i64 0]) w')
    (k2 : (scan D X X.count.toNat 0).2 ≠ 0 → ∀ w', Heap F w' l → Q (.tuple #[.agg #[.slice none 0 0, .slice none 0 0, .bool false, .int .i64 0, .slice none 0 0, .int .i64 0, .int .i64 0, .slice none 0 0, .bool false], .int .i64 (scan D X X.count.toNat 0).2]) w') :
    Does Tryd.prog N_ref20_Open #[dv s1 s2 s5 D, .int .i64 X.from_, .int .i64 X.count] w Q := by
  refine F_ref20_Open_does _ _ _ _ _ _ _ _ _ ?_
  unfold F_ref20_Open
  have ok := H.pure hR fun _ _ h => h.2.2.2
  obtain ⟨x0, x1, x2, x3⟩ := hX
  refine al H (cs := [s1.v, s2.v, .bool D.off, .int .i64 D.left, s5.v]) (fun a1 w H => ?_) rfl
  refine al H (cs := [(Sl.v ⟨none, 0, 0⟩), (Sl.v ⟨none, 0, 0⟩), .bool false, .int .i64 0, (Sl.v ⟨none, 0, 0⟩), .int .i64 0, .int .i64 0, (Sl.v ⟨none, 0, 0⟩), .bool false]) (fun a3 w H => ?_) zc_ref20_Log
  repeat (first | refine lda H ?_ | refine ld0 H ?_ | refine ldaN H ?_ | refine ld0N H ?_ | refine sta H fun w H => ?_ | refine st0 H fun w H => ?_)
  refine al H (cs := [(Sl.v ⟨none, 0, 0⟩), (Sl.v ⟨none, 0, 0⟩), .bool false, .int .i64 0, (Sl.v ⟨none, 0, 0⟩), .int .i64 0, .int .i64 0, (Sl.v ⟨none, 0, 0⟩), .bool false]) (fun a10 w H => ?_) zc_ref20_Log
  repeat (first | refine lda H ?_ | refine ld0 H ?_ | refine ldaN H ?_ | refine ld0N H ?_ | refine sta H fun w H => ?_ | refine st0 H fun w H => ?_)
  replace H := H.own_nil (α := Entry) T_api_Entry
  refine ⟨fun x w' => ∃ (i : Nat) (done : List Entry) (sL : Sl), x = (i : Int) ∧ i ≤ X.count.toNat ∧ done.length = i ∧ (done ++ (scan D X (X.count.toNat - i) i).1, (scan D X (X.count.toNat - i) i).2) = scan D X X.count.toNat 0 ∧
      Heap F w' (own T_api_Entry sL done :: blk a10 T_ref20_Log [s1.v, s2.v, .bool D.off, .int .i64 D.left, s5.v, .int .i64 X.from_, .int .i64 X.count, sL.v, .bool false] :: blk a3 T_ref20_Log [(Sl.v ⟨none, 0, 0⟩), (Sl.v ⟨none, 0, 0⟩), .bool false, .int .i64 0, (Sl.v ⟨none, 0, 0⟩), .int .i64 0, .int .i64 0, (Sl.v ⟨none, 0, 0⟩), .bool false] :: blk a1 T_ref05_Disk [s1.v, s2.v, .bool D.off, .int .i64 D.left, s5.v] :: l), fun x _ => (X.count.toNat - x).toNat,
    ⟨0, [], ⟨none, 0, 0⟩, rfl, by omega, rfl, rfl, H⟩, ?_⟩
  rintro x w1 ⟨i, done, sL, rfl, hi, hdl, hsc, H⟩
  have close : ∀ w', (done, (0 : Int)) = scan D X X.count.toNat 0 → ∀ (e : List SP), Heap F w' (blk a3 T_ref20_Log [s1.v, s2.v, .bool D.off, .int .i64 D.left, s5.v, .int .i64 X.from_, .int .i64 X.count, sL.v, .bool false] :: e) → Take e (own T_api_Entry sL done) (blk a10 T_ref20_Log [s1.v, s2.v, .bool D.off, .int .i64 D.left, s5.v, .int .i64 X.from_, .int .i64 X.count, sL.v, .bool false] :: blk a1 T_ref05_Disk [s1.v, s2.v, .bool D.off, .int .i64 D.left, s5.v] :: l) → Q (.tuple #[lv s1 s2 s5 sL D X false, .int .i64 0]) w' := by
    intro w' hh e H hT
    replace H := (H.tl).share (hT := hT)
    rw [← hh] at k1
    exact k1 rfl sL _ (H.kp 2)
  refine dBoth (fun hlt => ?_) (fun hge => ?_)
  · have hlt' : i < X.count.toNat := by omega
    obtain ⟨m, hm⟩ : ∃ m, X.count.toNat - i = m + 1 := ⟨X.count.toNat - i - 1, by omega⟩
    have hm' : X.count.toNat - (i + 1) = m := by omega
    rw [hm, scan, pread_in (by omega) (by omega)] at hsc
    have hlen := @pread_len D ok X (i : Int)
    rw [pread_in (by omega) (by omega)] at hlen
    repeat (first | refine lda H ?_ | refine ld0 H ?_ | refine ldaN H ?_ | refine ld0N H ?_ | refine sta H fun w H => ?_ | refine st0 H fun w H => ?_)
    rw [i64_id (by omega)]
    refine rd_Read H (at_ := X.from_ + i) (.t (.t (.t (.t hR)))) fun w H => ⟨_, _, rfl, ?_⟩
    generalize hrd : D.read (X.from_ + i) = rd at *
    obtain ⟨sec, e⟩ := rd
    dsimp only at *
    refine cBoth (fun he => ?_) (fun he => ?_)
    · have he' : e ≠ 0 := by simpa using he
      rw [if_pos he'] at hsc
      repeat (first | refine lda H ?_ | refine ld0 H ?_ | refine ldaN H ?_ | refine ld0N H ?_ | refine sta H fun w H => ?_ | refine st0 H fun w H => ?_)
      rw [← hsc] at k2
      exact k2 he' _ (H.tln 4)
    · have he' : e = 0 := by simpa using he
      rw [if_neg (by simp [he'])] at hsc
      refine ref_Said H i sec (hlen he') fun w H => ⟨_, _, _, _, _, rfl, ?_⟩
      refine al H (cs := [.int .i64 0, .int .i64 0, .int .u32 0, .int .i64 0]) (fun a61 w H => ?_) zc_api_Entry
      repeat (first | refine lda H ?_ | refine ld0 H ?_ | refine ldaN H ?_ | refine ld0N H ?_ | refine sta H fun w H => ?_ | refine st0 H fun w H => ?_)
      refine cBoth (fun hsd => ?_) (fun hsd => ?_)
      · have hsd' : said i sec = false := by simpa using hsd
        rw [if_neg (by simp [hsd'])] at hsc
        repeat (first | refine lda H ?_ | refine ld0 H ?_ | refine ldaN H ?_ | refine ld0N H ?_ | refine sta H fun w H => ?_ | refine st0 H fun w H => ?_)
        refine close _ (by rw [← hsc]; simp) _ (H.dr (blk a61 _ _)) .h
      · have hsd' : said i sec = true := by simpa using hsd
        rw [if_pos hsd'] at hsc
        repeat (first | refine lda H ?_ | refine ld0 H ?_ | refine ldaN H ?_ | refine ld0N H ?_ | refine sta H fun w H => ?_ | refine st0 H fun w H => ?_)
        refine al H (cs := encE (ent sec)) (fun a101 w H => ?_) rfl
        replace H : Heap F w (rep (encE (ent sec)) (ent sec) :: _) := H.add0 fun _ => rfl
        refine psh (xs := done) (y := ent sec) (s := sL) (b := a101) S_l_api_Entry H (by omega) fun s4 w H => ?_
        repeat (first | refine lda H ?_ | refine ld0 H ?_ | refine ldaN H ?_ | refine ld0N H ?_ | refine sta H fun w H => ?_ | refine st0 H fun w H => ?_)
        refine ⟨⟨i + 1, done ++ [ent sec], s4, by rw [i64_id (by omega)]; omega, by omega, by simp [hdl], ?_, ?_⟩, by rw [i64_id (by omega)]; (try dsimp only); omega⟩
        · rw [hm', ← hsc]; simp
        · replace H := H.dr2 (rep (encE (ent sec)) (ent sec)) (blk a101 _ _)
          replace H := H.dr (blk a61 _ _)
          exact H.ord2 (a := own T_api_Entry s4 _) (b := blk a10 _ _)
  · obtain rfl : i = X.count.toNat := by omega
    rw [Nat.sub_self, scan] at hsc
    repeat (first | refine lda H ?_ | refine ld0 H ?_ | refine ldaN H ?_ | refine ld0N H ?_ | refine sta H fun w H => ?_ | refine st0 H fun w H => ?_)
    refine close _ (by rw [← hsc]; simp) _ H (.h)
end
end Go.Proofs.YtkfcmpngcanffaaDoor.G
