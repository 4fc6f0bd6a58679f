import Derived.Test.YtkfcmpngcanffaaDoorDl
set_option linter.unusedVariables false
set_option linter.unusedSimpArgs false
namespace Go.VC
open Go Go.RowKit
theorem Heap.kp2 {F : Bs} {w : World} {c d : SP} : ∀ (n : Nat) {l : List SP}, Heap F w (c :: d :: l) → Heap F w (c :: d :: l.drop n)
  | 0, _, H => H
  | n + 1, [], H => H
  | n + 1, a :: l, H => Heap.kp2 n (H.dr a (.t (.t .h)))
theorem rowN {F : Bs} {w : World} {l : List SP} {b : Nat} {ty : TypeId} {cs : List Value} {arr : Array Value} (n : Nat) (H : Heap F w l) (hT : Has l (blk b ty cs) := by repeat (first | assumption | constructor)) (h : arr = (cs.take n).toArray := by rfl) : RowIs w ⟨b, 0, none⟩ arr := fun j v hj => by
  refine rowB H hT j v ?_
  subst h
  simp only [List.getElem?_toArray, List.getElem?_take] at hj ⊢
  split at hj
  · exact hj
  · cases hj
end Go.VC
namespace Go.Proofs.YtkfcmpngcanffaaDoor.G
open Go Go.VC Go.RowKit Go.Proofs Go.Proofs.YtkfcmpngcanffaaDoor Nac
attribute [local irreducible] Tryd.prog
section
variable {F : Bs} {w : World} {l r : List SP} {b d p : Nat} {D : Disk} {Q : Value → World → Prop} {X : Nac.Ext} {s1 s2 s5 sL : Sl} {L : List Entry} {dead : Bool}
theorem imm_re {α : Type} [Rep α] {s : Sl} {xs : List α} (H : Heap F w l) (hR : Has l (imm s xs)) : Heap F w (imm s xs :: l) := H.add hR fun _ _ h => h
set_option maxHeartbeats 1000000 in
theorem ref_Add (H : Heap F w l) (hR : Has l (RDk s1 s2 s5 D)) (hL : Has l (imm sL L)) (hX : 0 ≤ X.from_ ∧ X.from_ ≤ 1000 ∧ 0 ≤ X.count ∧ X.count ≤ 1000) (hc : (L.length : Int) ≤ X.count) (hw : D.waits.length < 100000) (x : Entry)
    (k : ∀ (s1' s2' sL' : Sl) w', Heap F w' (RDk s1' s2' s5 (aadd D X L dead x).1 :: imm sL' (aadd D X L dead x).2.1 :: l) → Q (.tuple #[lv s1' s2' s5 sL' (aadd D X L dead x).1 X (aadd D X L dead x).2.2.1, .int .i64 (aadd D X L dead x).2.2.2]) w') :
    Does Tryd.prog N_ref20_Log_Add #[lv s1 s2 s5 sL D X dead, .agg #[.int .i64 x.kind, .int .i64 x.part, .int .u32 (x.version.toNat : Int), .int .i64 x.code]] w Q := by
  refine F_ref20_Log_Add_does _ _ _ _ _ _ _ _ _ _ _ _ _ _ _ ?_
  unfold F_ref20_Log_Add
  obtain ⟨x0, x1, x2, x3⟩ := hX
  refine al H (cs := [s1.v, s2.v, .bool D.off, .int .i64 D.left, s5.v, .int .i64 X.from_, .int .i64 X.count, sL.v, .bool dead]) (fun a1 w H => ?_) rfl
  refine al H (cs := [.int .i64 x.kind, .int .i64 x.part, .int .u32 (x.version.toNat : Int), .int .i64 x.code]) (fun a3 w H => ?_) rfl
  refine al H (cs := [(Sl.v ⟨none, 0, 0⟩), (Sl.v ⟨none, 0, 0⟩), .bool false, .int .i64 0, (Sl.v ⟨none, 0, 0⟩), .int .i64 0, .int .i64 0, (Sl.v ⟨none, 0, 0⟩), .bool false]) (fun a5 w H => ?_) zc_ref20_Log
  have hlen := H.len (s := sL) (xs := L) (.t (.t (.t hL)))
  refine lda H (cBoth (fun hd => ?_) (fun hd => ?_))
  · have e : aadd D X L dead x = (D, L, dead, 9) := by rw [aadd, hd, cond_true]
    rw [e] at k
    repeat (first | refine lda H ?_ | refine ld0 H ?_ | refine ldaN H ?_ | refine ld0N H ?_ | refine sta H fun w H => ?_ | refine st0 H fun w H => ?_)
    refine k s1 s2 sL _ ?_
    exact rd_re (imm_re (H.tln 3) hL) (.t hR)
  obtain rfl : dead = false := by simpa using hd
  rw [aadd, cond_false] at k
  repeat (first | refine lda H ?_ | refine ld0 H ?_ | refine ldaN H ?_ | refine ld0N H ?_ | refine sta H fun w H => ?_ | refine st0 H fun w H => ?_)
  refine ref_May H x fun w H => ⟨_, rfl, ?_⟩
  refine cBoth (fun hm => ?_) (fun hm => ?_)
  · rw [show may x = false by simpa using hm, cond_false] at k
    repeat (first | refine lda H ?_ | refine ld0 H ?_ | refine ldaN H ?_ | refine ld0N H ?_ | refine sta H fun w H => ?_ | refine st0 H fun w H => ?_)
    refine k s1 s2 sL _ ?_
    exact rd_re (imm_re (H.tln 3) hL) (.t hR)
  rw [show may x = true by simpa using hm, cond_true] at k
  refine lda H (lda H (dBoth (fun hge => ?_) (fun hlt => ?_)))
  · rw [if_pos (by omega)] at k
    repeat (first | refine lda H ?_ | refine ld0 H ?_ | refine ldaN H ?_ | refine ld0N H ?_ | refine sta H fun w H => ?_ | refine st0 H fun w H => ?_)
    refine k s1 s2 sL _ ?_
    exact rd_re (imm_re (H.tln 3) hL) (.t hR)
  rw [if_neg (by omega)] at k
  have epw : pwrite D X L.length (asec L.length x) = D.write (X.from_ + L.length) (asec L.length x) := by rw [pwrite, if_pos ⟨by omega, by omega⟩]
  rw [epw, hlen] at k
  generalize hWr : D.write (X.from_ + sL.len) (asec sL.len x) = WR at *
  obtain ⟨D1, e1⟩ := WR
  dsimp only at k
  intro J hJ
  have fin1 : ∀ (a : Nat) (s1' s2' : Sl) w' (lst : List SP), Heap F w' lst → Takes lst [blk a T_ref05_Disk [s1'.v, s2'.v, .bool D1.off, .int .i64 D1.left, s5.v], RDk s1' s2' s5 D1, blk a5 T_ref20_Log [(Sl.v ⟨none, 0, 0⟩), (Sl.v ⟨none, 0, 0⟩), .bool false, .int .i64 0, (Sl.v ⟨none, 0, 0⟩), .int .i64 0, .int .i64 0, (Sl.v ⟨none, 0, 0⟩), .bool false], blk a3 T_api_Entry [.int .i64 x.kind, .int .i64 x.part, .int .u32 (x.version.toNat : Int), .int .i64 x.code], blk a1 T_ref20_Log [s1.v, s2.v, .bool D.off, .int .i64 D.left, s5.v, .int .i64 X.from_, .int .i64 X.count, sL.v, .bool false]] l → J ⟨a, 0, none⟩ e1 w' := by
    intro a s1' s2' w' lst H hT
    replace H := H.takes hT
    refine hJ _ _ _ ?_
    intro J2 hJ2
    have fin2 : ∀ (s1' s2' : Sl) (D2 : Disk) (e2 : Int) w', Heap F w' (blk a T_ref05_Disk [s1'.v, s2'.v, .bool D2.off, .int .i64 D2.left, s5.v] :: RDk s1' s2' s5 D2 :: blk a5 T_ref20_Log [(Sl.v ⟨none, 0, 0⟩), (Sl.v ⟨none, 0, 0⟩), .bool false, .int .i64 0, (Sl.v ⟨none, 0, 0⟩), .int .i64 0, .int .i64 0, (Sl.v ⟨none, 0, 0⟩), .bool false] :: blk a3 T_api_Entry [.int .i64 x.kind, .int .i64 x.part, .int .u32 (x.version.toNat : Int), .int .i64 x.code] :: blk a1 T_ref20_Log [s1.v, s2.v, .bool D.off, .int .i64 D.left, s5.v, .int .i64 X.from_, .int .i64 X.count, sL.v, .bool false] :: l) →
        (∀ (sL' : Sl) w'', Heap F w'' (RDk s1' s2' s5 D2 :: imm sL' (if e2 = 0 then L ++ [x] else L) :: l) → Q (.tuple #[lv s1' s2' s5 sL' D2 X (if e2 = 0 then false else true), .int .i64 e2]) w'') → J2 e2 w' := by
      intro s1' s2' D2 e2 w' H kk
      refine hJ2 _ _ ?_
      repeat (first | refine lda H ?_ | refine ld0 H ?_ | refine ldaN H ?_ | refine ld0N H ?_ | refine sta H fun w H => ?_ | refine st0 H fun w H => ?_)
      refine cBoth (fun he => ?_) (fun he => ?_)
      · have he' : e2 ≠ 0 := by simpa using he
        rw [if_neg he', if_neg he'] at kk
        repeat (first | refine lda H ?_ | refine ld0 H ?_ | refine ldaN H ?_ | refine ld0N H ?_ | refine sta H fun w H => ?_ | refine st0 H fun w H => ?_)
        refine kk sL _ ?_
        replace H := imm_re H (s := sL) (xs := L) (by repeat (first | assumption | constructor))
        replace H := H.ord2 (a := RDk s1' s2' s5 D2) (b := imm sL L)
        exact H.kp2 4
      · have he' : e2 = 0 := by simpa using he
        subst he'
        rw [if_pos rfl, if_pos rfl] at kk
        intro J3 hJ3
        have fin3 : ∀ (sn : Sl) w' (lst r' : List SP), Heap F w' lst → Takes lst [blk a5 T_ref20_Log [(Sl.v ⟨none, 0, 0⟩), (Sl.v ⟨none, 0, 0⟩), .bool false, .int .i64 0, (Sl.v ⟨none, 0, 0⟩), .int .i64 0, .int .i64 0, (Sl.v ⟨none, 0, 0⟩), .bool false], blk a1 T_ref20_Log [s1'.v, s2'.v, .bool D2.off, .int .i64 D2.left, s5.v, .int .i64 X.from_, .int .i64 X.count, sn.v, .bool false], RDk s1' s2' s5 D2, own T_api_Entry sn (L ++ [x])] r' → r'.drop 4 = l → J3 w' := by
          intro sn w' lst r' H hT hr
          replace H := H.takes hT
          refine hJ3 _ ?_
          repeat (first | refine lda H ?_ | refine ld0 H ?_ | refine ldaN H ?_ | refine ld0N H ?_ | refine sta H fun w H => ?_ | refine st0 H fun w H => ?_)
          refine kk sn _ ?_
          replace H := H.share (α := Entry) (s := sn) (xs := L ++ [x])
          replace H := H.ord2 (a := RDk s1' s2' s5 D2) (b := imm sn (L ++ [x]))
          rw [← hr]
          exact H.kp2 6
        replace H := H.drew
        repeat (first | refine lda H ?_ | refine ld0 H ?_ | refine ldaN H ?_ | refine ld0N H ?_ | refine sta H fun w H => ?_ | refine st0 H fun w H => ?_)
        refine ⟨?_, ?_⟩
        · refine al H (cs := []) (fun ae w H => ?_) rfl; replace H := H.blk_own0 (α := Entry) (b := ae)
          refine ⟨⟨rfl, rowB H⟩, cella H, ?_, ?_⟩
          · refine apI (s := ⟨some ⟨ae, 0, none⟩, 0, 0⟩) (xs := ([] : List Entry)) (ys := L) S_l_api_Entry H (by simp; omega) (fun sq w H => ?_); rw [List.nil_append] at H
            refine ⟨⟨rfl, rowB H⟩, ?_⟩
            refine al H (cs := encE x) (fun an w H => ?_) rfl; replace H : Heap F w (rep (encE x) x :: _) := H.add0 fun _ => rfl
            refine psh (s := sq) (xs := L) (y := x) (b := an) S_l_api_Entry H (by omega) fun sn w H => ?_; refine sta H fun w H => ?_
            exact fin3 _ _ _ _ H (by repeat (first | assumption | constructor)) rfl
          · refine al H (cs := encE x) (fun an w H => ?_) rfl; replace H : Heap F w (rep (encE x) x :: _) := H.add0 fun _ => rfl
            refine ⟨cella H, ?_⟩
            refine apI (s := ⟨some ⟨ae, 0, none⟩, 0, 0⟩) (xs := ([] : List Entry)) (ys := L) S_l_api_Entry H (by simp; omega) (fun sq w H => ?_); rw [List.nil_append] at H
            refine psh (s := sq) (xs := L) (y := x) (b := an) S_l_api_Entry H (by omega) fun sn w H => ?_; refine sta H fun w H => ?_
            exact fin3 _ _ _ _ H (by repeat (first | assumption | constructor)) rfl
        · refine al H (cs := encE x) (fun an w H => ?_) rfl; replace H : Heap F w (rep (encE x) x :: _) := H.add0 fun _ => rfl
          refine ⟨cella H, ?_⟩
          refine al H (cs := []) (fun ae w H => ?_) rfl; replace H := H.blk_own0 (α := Entry) (b := ae)
          refine ⟨cella H, ?_⟩
          refine apI (s := ⟨some ⟨ae, 0, none⟩, 0, 0⟩) (xs := ([] : List Entry)) (ys := L) S_l_api_Entry H (by simp; omega) (fun sq w H => ?_); rw [List.nil_append] at H
          refine psh (s := sq) (xs := L) (y := x) (b := an) S_l_api_Entry H (by omega) fun sn w H => ?_; refine sta H fun w H => ?_
          exact fin3 _ _ _ _ H (by repeat (first | assumption | constructor)) rfl
    refine cBoth (fun he => ?_) (fun he => ?_)
    · have he' : e1 = 0 := by simpa using he
      rw [if_pos he'] at k
      repeat (first | refine lda H ?_ | refine ld0 H ?_ | refine ldaN H ?_ | refine ld0N H ?_ | refine sta H fun w H => ?_ | refine st0 H fun w H => ?_)
      refine rd_Flush H (s1 := s1') (s2 := s2') (s5 := s5) (D := D1) (by repeat (first | assumption | constructor)) fun s1'' s2'' w H => ⟨s1'', s2'', _, _, s5, _, rfl, ?_⟩
      generalize D1.flush = FL at *
      obtain ⟨D2, e2⟩ := FL
      dsimp only at *
      repeat (first | refine lda H ?_ | refine ld0 H ?_ | refine ldaN H ?_ | refine ld0N H ?_ | refine sta H fun w H => ?_ | refine st0 H fun w H => ?_)
      replace H := H.dr (RDk s1' s2' s5 D1)
      refine fin2 s1'' s2'' D2 e2 _ H fun sL' w'' H => ?_
      by_cases he2 : e2 = 0
      · rw [if_pos he2] at k H ⊢
        rw [he2]
        exact k s1'' s2'' sL' w'' H
      · rw [if_neg he2] at k H
        rw [if_neg he2]
        exact k s1'' s2'' sL' w'' H
    · have he' : e1 ≠ 0 := by simpa using he
      rw [if_neg he'] at k
      refine fin2 s1' s2' D1 e1 _ H fun sL' w'' H => ?_
      rw [if_neg he'] at H
      rw [if_neg he']
      exact k s1' s2' sL' w'' H
  have ei : IntKind.wrap .i64 (X.from_ + (sL.len : Int)) = X.from_ + sL.len := i64_id (by omega)
  replace H := H.drew
  repeat (first | refine lda H ?_ | refine ld0 H ?_ | refine ldaN H ?_ | refine ld0N H ?_ | refine sta H fun w H => ?_ | refine st0 H fun w H => ?_)
  simp only [ei]
  refine ⟨?_, ?_⟩
  · refine ref_Sector H sL.len x fun w H => ⟨_, rfl, cella H, cella H, ⟨rfl, rowN 5 H⟩, ?_, ?_⟩
    · refine rd_Write H (s1 := s1) (s2 := s2) (s5 := s5) (D := D) (by repeat (first | assumption | constructor)) (by omega) fun s1' s2' w H => ⟨s1', s2', _, _, s5, _, rfl, ?_⟩; rw [hWr] at H; rw [hWr]
      refine al H (cs := [(Sl.v ⟨none, 0, 0⟩), (Sl.v ⟨none, 0, 0⟩), .bool false, .int .i64 0, (Sl.v ⟨none, 0, 0⟩)]) (fun a w H => ?_) zc_ref05_Disk
      repeat (first | refine lda H ?_ | refine ld0 H ?_ | refine ldaN H ?_ | refine ld0N H ?_ | refine sta H fun w H => ?_ | refine st0 H fun w H => ?_)
      exact fin1 _ _ _ _ _ H (by repeat (first | assumption | constructor))
    · refine al H (cs := [(Sl.v ⟨none, 0, 0⟩), (Sl.v ⟨none, 0, 0⟩), .bool false, .int .i64 0, (Sl.v ⟨none, 0, 0⟩)]) (fun a w H => ?_) zc_ref05_Disk
      refine ⟨cella H, cella H, ⟨rfl, rowN 5 H⟩, ?_⟩
      refine rd_Write H (s1 := s1) (s2 := s2) (s5 := s5) (D := D) (by repeat (first | assumption | constructor)) (by omega) fun s1' s2' w H => ⟨s1', s2', _, _, s5, _, rfl, ?_⟩; rw [hWr] at H; rw [hWr]
      repeat (first | refine lda H ?_ | refine ld0 H ?_ | refine ldaN H ?_ | refine ld0N H ?_ | refine sta H fun w H => ?_ | refine st0 H fun w H => ?_)
      exact fin1 _ _ _ _ _ H (by repeat (first | assumption | constructor))
  · refine al H (cs := [(Sl.v ⟨none, 0, 0⟩), (Sl.v ⟨none, 0, 0⟩), .bool false, .int .i64 0, (Sl.v ⟨none, 0, 0⟩)]) (fun a w H => ?_) zc_ref05_Disk
    refine ⟨⟨rfl, rowB H⟩, cella H, cella H, cella H, ⟨rfl, rowN 5 H⟩, ?_⟩
    refine ref_Sector H sL.len x fun w H => ⟨_, rfl, cella H, cella H, ⟨rfl, rowN 5 H⟩, ?_⟩
    refine rd_Write H (s1 := s1) (s2 := s2) (s5 := s5) (D := D) (by repeat (first | assumption | constructor)) (by omega) fun s1' s2' w H => ⟨s1', s2', _, _, s5, _, rfl, ?_⟩; rw [hWr] at H; rw [hWr]
    repeat (first | refine lda H ?_ | refine ld0 H ?_ | refine ldaN H ?_ | refine ld0N H ?_ | refine sta H fun w H => ?_ | refine st0 H fun w H => ?_)
    exact fin1 _ _ _ _ _ H (by repeat (first | assumption | constructor))
end
end Go.Proofs.YtkfcmpngcanffaaDoor.G
