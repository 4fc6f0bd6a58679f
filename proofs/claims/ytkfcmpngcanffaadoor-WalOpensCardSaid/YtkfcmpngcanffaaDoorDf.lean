import Derived.Test.YtkfcmpngcanffaaDoorDe
set_option linter.unusedVariables false
set_option linter.unusedSimpArgs false
namespace Go.VC
open Go Go.RowKit
theorem Heap.kp2 {F : Bs} {w : World} {c d : SP} : ∀ (n : Nat) {l : List SP}, Heap F w (c :: d :: l) → Heap F w (c :: d :: l.drop n)
  | 0, _, H => H
  | n + 1, [], H => H
  | n + 1, a :: l, H => Heap.kp2 n (H.dr a (.t (.t .h)))
theorem Heap.kp3 {F : Bs} {w : World} {c d e : SP} : ∀ (n : Nat) {l : List SP}, Heap F w (c :: d :: e :: l) → Heap F w (c :: d :: e :: l.drop n)
  | 0, _, H => H
  | n + 1, [], H => H
  | n + 1, a :: l, H => Heap.kp3 n (H.dr a (.t (.t (.t .h))))
theorem rowN {F : Bs} {w : World} {l : List SP} {b : Nat} {ty : TypeId} {cs : List Value} {arr : Array Value} (n : Nat) (H : Heap F w l) (hT : Has l (blk b ty cs) := by repeat (first | assumption | constructor)) (h : arr = (cs.take n).toArray := by rfl) : RowIs w ⟨b, 0, none⟩ arr := fun j v hj => by
  refine rowB H hT j v ?_
  subst h
  simp only [List.getElem?_toArray, List.getElem?_take] at hj ⊢
  split at hj
  · exact hj
  · cases hj
theorem cvB1 {P : Program} {t st e e' : Nat} {F : Bs} {w : World} {l : List SP} {b n m : Nat} (H : Heap F w l) {xs : List UInt8} (ht : P.underlying t = some (.slice e)) (he : P.underlying e = some (.int .u8)) (hst : P.underlying st = some .string) (hT : Has l (own e' ⟨some ⟨b, 0, none⟩, n, m⟩ xs)) :
    (convert t st (.slice (some ⟨b, 0, none⟩) n m)).run P w = .ok (.string (bs xs)) w := cvO (s := ⟨some ⟨b, 0, none⟩, n, m⟩) H ht he hst hT
end Go.VC
namespace Go.Proofs.YtkfcmpngcanffaaDoor.G
open Go Go.VC Go.RowKit Go.Proofs Go.Proofs.YtkfcmpngcanffaaDoor Nac
attribute [local irreducible] Tryd.prog
/-- the document's log as a value -/
@[reducible] def lw (s1 s2 s5 sp : Sl) (D : Disk) (fr : Int) (e : UInt32) (h u : Int) (dd : Bool) : Value := .agg #[.slice s1.a s1.len s1.cap, .slice s2.a s2.len s2.cap, .bool D.off, .int .i64 D.left, .slice s5.a s5.len s5.cap, .int .i64 fr, .slice sp.a sp.len sp.cap, .int .u32 (e.toNat : Int), .int .i64 h, .int .i64 u, .bool dd]
section
variable {F : Bs} {w : World} {l r : List SP} {b d p : Nat} {D : Disk} {Q : Value → World → Prop} {X : Nac.Ext} {s1 s2 s5 sp : Sl} {fr h u : Int} {e : UInt32} {dd : Bool}
theorem imm_re {α : Type} [Rep α] {s : Sl} {xs : List α} (H : Heap F w l) (hR : Has l (imm s xs)) : Heap F w (imm s xs :: l) := H.add hR fun _ _ h => h
theorem ref_one (H : Heap F w l) {n : Int} (k : ∀ w', Heap F w' l → Q (.string (bs [b8 n])) w') : Does Tryd.prog N_ref16_one #[.int .i64 n] w Q := by
  refine F_ref16_one_does _ _ _ ?_
  unfold F_ref16_one
  rw [Go.VC.wrap8]
  refine al H (cs := [.int .u8 ((b8 n).toNat : Int)]) (fun a w H => ?_) rfl
  replace H := H.blk_own (n := 1) (cs := [.int .u8 ((b8 n).toNat : Int)]) [b8 n] rfl (mx (by simp)) rfl
  exact ⟨_, cvB1 (xs := [b8 n]) H und_l8 und_8 und_s .h, k _ H.tl⟩
theorem ref_Sector16 (H : Heap F w l) {c : UInt8} {bb : List UInt8} (hn : bb.length ≤ 55) (k : ∀ w', Heap F w' l → Q (.string (bs (sayS c e bb))) w') : Does Tryd.prog N_ref16_Sector #[.string (bs [c]), .int .u32 (e.toNat : Int), .string (bs bb)] w Q := by
  refine F_ref16_Sector_does _ _ _ _ _ ?_
  unfold F_ref16_Sector
  rw [wrap64_32]
  refine ref_Put H (k := 4) (by decide) fun s w H => ⟨_, rfl, ⟨_, cvO (s := s) (xs := put e.toUInt64 4) H und_l8 und_8 und_s, ?_⟩⟩
  simp only [bs_append, bs_size, List.length_append, put_length, List.length_cons, List.length_nil]
  refine ⟨by omega, by omega, ?_⟩
  rw [i64_id (by omega), show (60 - ((0 + 1 + 4 + bb.length : Nat) : Int)) = ((55 - bb.length : Nat) : Int) by omega]
  refine ref_Noughts16 H (by omega) fun H => ⟨_, rfl, by (try simp only [bs_size, List.length_replicate]); omega, ?_⟩
  rw [bs_append]
  refine bytesOf H und_l8 und_8 und_s (mx (by simp; omega)) fun s w H => ?_
  refine ref_Seal (hI := .h) H (by simp; omega) fun s' w H => ⟨_, rfl, ⟨_, cvO H und_l8 und_8 und_s, ?_⟩⟩
  exact k _ (H.tln 3)
theorem ref_write16 (H : Heap F w l) (hR : Has l (RDk s1 s2 s5 D)) (hX : X.from_ = fr ∧ 0 ≤ fr ∧ fr ≤ 1000 ∧ X.count = 52) {at_ : Int} (ha : 0 ≤ at_ ∧ at_ < 52) {bb : List UInt8} (hn : D.waits.length < 100000)
    (k : ∀ (s1' s2' : Sl) w', Heap F w' (RDk s1' s2' s5 (pwrite D X at_ bb).1 :: l) → Q (.tuple #[lw s1' s2' s5 sp (pwrite D X at_ bb).1 fr e h u dd, .int .i64 (pwrite D X at_ bb).2]) w') :
    Does Tryd.prog N_ref16_Log_write #[lw s1 s2 s5 sp D fr e h u dd, .int .i64 at_, .string (bs bb)] w Q := by
  refine F_ref16_Log_write_does _ _ _ _ _ _ _ _ _ _ _ _ _ _ _ ?_
  unfold F_ref16_Log_write
  obtain ⟨rfl, x0, x1, x2⟩ := hX
  rw [show pwrite D X at_ bb = D.write (X.from_ + at_) bb by rw [pwrite, if_pos ⟨by omega, by omega⟩]] at k
  refine al H (cs := [s1.v, s2.v, .bool D.off, .int .i64 D.left, s5.v, .int .i64 X.from_, sp.v, .int .u32 (e.toNat : Int), .int .i64 h, .int .i64 u, .bool dd]) (fun a1 w H => ?_) rfl
  refine al H (cs := [(Sl.v ⟨none, 0, 0⟩), (Sl.v ⟨none, 0, 0⟩), .bool false, .int .i64 0, (Sl.v ⟨none, 0, 0⟩), .int .i64 0, (Sl.v ⟨none, 0, 0⟩), .int .u32 0, .int .i64 0, .int .i64 0, .bool false]) (fun a3 w H => ?_) zc_ref16_Log
  repeat (first | refine lda H ?_ | refine ld0 H ?_ | refine ldaN H ?_ | refine ld0N H ?_ | refine sta H fun w H => ?_ | refine st0 H fun w H => ?_)
  rw [i64_id (by omega)]
  refine rd_Write H (s1 := s1) (s2 := s2) (s5 := s5) (D := D) (.t (.t hR)) (by omega) fun s1' s2' w H => ⟨s1', s2', _, _, s5, _, rfl, ?_⟩
  refine al H (cs := [(Sl.v ⟨none, 0, 0⟩), (Sl.v ⟨none, 0, 0⟩), .bool false, .int .i64 0, (Sl.v ⟨none, 0, 0⟩)]) (fun a19 w H => ?_) zc_ref05_Disk
  repeat (first | refine lda H ?_ | refine ld0 H ?_ | refine ldaN H ?_ | refine ld0N H ?_ | refine sta H fun w H => ?_ | refine st0 H fun w H => ?_)
  exact k s1' s2' _ (H.ord4 (a := blk a3 _ _) (b := blk a1 _ _) (c := blk a19 _ _) (d := RDk s1' s2' s5 _) |>.tln 3)
theorem ref_flush16 (H : Heap F w l) (hR : Has l (RDk s1 s2 s5 D))
    (k : ∀ (s1' s2' : Sl) w', Heap F w' (RDk s1' s2' s5 D.flush.1 :: l) → Q (.tuple #[lw s1' s2' s5 sp D.flush.1 fr e h u dd, .int .i64 D.flush.2]) w') :
    Does Tryd.prog N_ref16_Log_flush #[lw s1 s2 s5 sp D fr e h u dd] w Q := by
  refine F_ref16_Log_flush_does _ _ _ _ _ _ _ _ _ _ _ _ _ ?_
  unfold F_ref16_Log_flush
  refine al H (cs := [s1.v, s2.v, .bool D.off, .int .i64 D.left, s5.v, .int .i64 fr, sp.v, .int .u32 (e.toNat : Int), .int .i64 h, .int .i64 u, .bool dd]) (fun a1 w H => ?_) rfl
  refine al H (cs := [(Sl.v ⟨none, 0, 0⟩), (Sl.v ⟨none, 0, 0⟩), .bool false, .int .i64 0, (Sl.v ⟨none, 0, 0⟩), .int .i64 0, (Sl.v ⟨none, 0, 0⟩), .int .u32 0, .int .i64 0, .int .i64 0, .bool false]) (fun a3 w H => ?_) zc_ref16_Log
  repeat (first | refine lda H ?_ | refine ld0 H ?_ | refine ldaN H ?_ | refine ld0N H ?_ | refine sta H fun w H => ?_ | refine st0 H fun w H => ?_)
  refine rd_Flush H (s1 := s1) (s2 := s2) (s5 := s5) (D := D) (.t (.t hR)) fun s1' s2' w H => ⟨s1', s2', _, _, s5, _, rfl, ?_⟩
  refine al H (cs := [(Sl.v ⟨none, 0, 0⟩), (Sl.v ⟨none, 0, 0⟩), .bool false, .int .i64 0, (Sl.v ⟨none, 0, 0⟩)]) (fun a19 w H => ?_) zc_ref05_Disk
  repeat (first | refine lda H ?_ | refine ld0 H ?_ | refine ldaN H ?_ | refine ld0N H ?_ | refine sta H fun w H => ?_ | refine st0 H fun w H => ?_)
  exact k s1' s2' _ (H.ord4 (a := blk a3 _ _) (b := blk a1 _ _) (c := blk a19 _ _) (d := RDk s1' s2' s5 _) |>.tln 3)
end
end Go.Proofs.YtkfcmpngcanffaaDoor.G

set_option linter.unusedVariables false
set_option linter.unusedSimpArgs false
namespace Go.VC
open Go Go.RowKit
/-- an element of a row that is read alone: its cell, in every world where the row is there -/
theorem idxI1w {α : Type} [Sc α] {F : Bs} {w : World} {l : List SP} {s : Sl} {xs : List α} (H : Heap F w l) {i : Int} (h0 : 0 ≤ i) (h1 : i < xs.length) {K : Addr → Prop}
    (k : ∀ a : Addr, (∀ {F' : Bs} {w' : World} {l' : List SP}, Heap F' w' l' → Has l' (imm s xs) → w'.cell? a = some (Sc.enc (xs[i.toNat]'(by omega)))) → K a) (hT : Has l (imm s xs)) : idx s.a s.len i 1 K := by
  have hl := H.len hT
  obtain ⟨_, _, _, _, ⟨_, _, _, g4⟩⟩ := H.get hT
  refine ⟨h0, by omega, ?_⟩
  rcases g4 with g4 | ⟨b, o, ha, _⟩
  · omega
  refine ⟨_, ha, k _ fun {F' w' l'} H' hT' => ?_⟩
  obtain ⟨ro, g, hro, _, ⟨_, _, _, g4⟩⟩ := H'.get hT'
  rcases g4 with g4 | ⟨b', o', ha', hx'⟩
  · omega
  rw [ha] at ha'
  obtain ⟨rfl, rfl⟩ : b = b' ∧ o = o' := by simpa using ha'
  obtain ⟨cs, hr, hcs⟩ := hx' i.toNat (xs[i.toNat]'(by omega)) (by simp)
  have hr' : cs = [Sc.enc (xs[i.toNat]'(by omega))] := hr
  subst hr'
  have := roCell.cell hro (hcs 0 _ rfl)
  rw [add_mk]
  simpa [Rep.n] using this
end Go.VC
namespace Go.Proofs.YtkfcmpngcanffaaDoor.G
open Go Go.VC Go.RowKit Go.Proofs Go.Proofs.YtkfcmpngcanffaaDoor Nac
attribute [local irreducible] Tryd.prog
/-- the document's log as cells -/
@[reducible] def lwc (s1 s2 s5 sp : Sl) (D : Disk) (fr : Int) (e : UInt32) (h u : Int) (dd : Bool) : List Value := [.slice s1.a s1.len s1.cap, .slice s2.a s2.len s2.cap, .bool D.off, .int .i64 D.left, .slice s5.a s5.len s5.cap, .int .i64 fr, .slice sp.a sp.len sp.cap, .int .u32 (e.toNat : Int), .int .i64 h, .int .i64 u, .bool dd]
section
variable {F : Bs} {w : World} {l r : List SP} {b d p : Nat} {D : Disk} {Q : Value → World → Prop} {X : Nac.Ext} {s1 s2 s5 sp : Sl} {fr h u : Int} {e : UInt32} {dd : Bool}
theorem ref_all16 (H : Heap F w l) (hR : Has l (RDk s1 s2 s5 D)) (hX : X.from_ = fr ∧ 0 ≤ fr ∧ fr ≤ 1000 ∧ X.count = 52) {L : List (Int × List UInt8)} (ha : ∀ x ∈ L, 0 ≤ x.1 ∧ x.1 < 52) (hn : D.waits.length + L.length < 90000)
    {sa sl : Sl} (hA : Has l (imm sa (L.map (·.1)))) (hL : Has l (imm sl (L.map fun x => bs x.2)))
    (k : ∀ (s1' s2' : Sl) w', Heap F w' (RDk s1' s2' s5 (pall X L D).1 :: l) → Q (.tuple #[lw s1' s2' s5 sp (pall X L D).1 fr e h u dd, .int .i64 (pall X L D).2]) w') :
    Does Tryd.prog N_ref16_Log_all #[lw s1 s2 s5 sp D fr e h u dd, .slice sa.a sa.len sa.cap, .slice sl.a sl.len sl.cap] w Q := by
  refine F_ref16_Log_all_does _ _ _ _ _ _ _ _ _ _ _ _ _ _ _ ?_
  unfold F_ref16_Log_all
  have hla := H.len hA
  have hll := H.len hL
  simp only [List.length_map] at hla hll
  have hb := H.bndI hA
  simp only [List.length_map] at hb
  replace H := rd_re H hR
  refine al H (cs := lwc s1 s2 s5 sp D fr e h u dd) (fun a1 w H => ?_) rfl
  refine al H (cs := [(Sl.v ⟨none, 0, 0⟩), (Sl.v ⟨none, 0, 0⟩), .bool false, .int .i64 0, (Sl.v ⟨none, 0, 0⟩), .int .i64 0, (Sl.v ⟨none, 0, 0⟩), .int .u32 0, .int .i64 0, .int .i64 0, .bool false]) (fun a3 w H => ?_) zc_ref16_Log
  refine ⟨fun x w' => ∃ (i : Nat) (D' : Disk) (s1' s2' : Sl), x = i ∧ i ≤ L.length ∧ pw X (L.take i) D = (D', 0) ∧ Heap F w' (blk a3 T_ref16_Log [(Sl.v ⟨none, 0, 0⟩), (Sl.v ⟨none, 0, 0⟩), .bool false, .int .i64 0, (Sl.v ⟨none, 0, 0⟩), .int .i64 0, (Sl.v ⟨none, 0, 0⟩), .int .u32 0, .int .i64 0, .int .i64 0, .bool false] :: blk a1 T_ref16_Log (lwc s1' s2' s5 sp D' fr e h u dd) :: RDk s1' s2' s5 D' :: l), fun x _ => (L.length - x).toNat, ⟨0, D, s1, s2, rfl, by omega, rfl, H⟩, ?_⟩
  rintro x w1 ⟨i, D', s1, s2, rfl, hi, hD', H⟩
  have hw' : D'.waits.length < 100000 := by
    have := pw_waits X (L.take i) D
    rw [hD'] at this
    have h2 : (L.take i).length ≤ L.length := by simp; omega
    dsimp only at this
    omega
  refine dBoth (fun hlt => ?_) (fun hge => ?_)
  · have hlt' : i < L.length := by omega
    have hgi := ha L[i] (List.getElem_mem hlt')
    have hstep : pw X (L.take (i + 1)) D = pwrite D' X L[i].1 L[i].2 := by
      rw [List.take_succ_eq_append_getElem hlt', pw_snoc, hD', if_pos rfl]
    intro J hJ J14 hJ14
    have fin : ∀ (x : Nat) (D2 : Disk) (e2 : Int) (s1' s2' : Sl) (w : World), pwrite D' X L[i].1 L[i].2 = (D2, e2) → Heap F w (blk x T_ref16_Log (lwc s1' s2' s5 sp D2 fr e h u dd) :: blk a3 T_ref16_Log [(Sl.v ⟨none, 0, 0⟩), (Sl.v ⟨none, 0, 0⟩), .bool false, .int .i64 0, (Sl.v ⟨none, 0, 0⟩), .int .i64 0, (Sl.v ⟨none, 0, 0⟩), .int .u32 0, .int .i64 0, .int .i64 0, .bool false] :: blk a1 T_ref16_Log (lwc s1 s2 s5 sp D' fr e h u dd) :: RDk s1' s2' s5 D2 :: l) → J14 ⟨x, 0, none⟩ e2 w := fun x D2 e2 s1' s2' w he H => by
      rw [he] at hstep
      refine hJ14 _ _ _ (cBoth (fun hne => ?_) (fun h0 => ?_))
      · have hne' : ¬ e2 = 0 := by simpa using hne
        have hp : pall X L D = (D2, e2) := by
          have hall : pw X L D = if (pw X (L.take (i + 1)) D).2 = 0 then pw X (L.drop (i + 1)) (pw X (L.take (i + 1)) D).1 else pw X (L.take (i + 1)) D := by
            rw [← pw_append, List.take_append_drop]
          rw [pall_pw, hall, hstep, if_neg hne', if_neg hne']
        rw [hp] at k
        repeat (first | refine lda H ?_ | refine ld0 H ?_ | refine ldaN H ?_ | refine ld0N H ?_ | refine sta H fun w H => ?_ | refine st0 H fun w H => ?_)
        exact k s1' s2' _ (H.ord4 (a := blk a3 _ _) (b := blk x _ _) (c := blk a1 _ _) (d := RDk s1' s2' s5 _) |>.tln 3)
      · have h0' : e2 = 0 := by simpa using h0
        subst h0'
        repeat (first | refine lda H ?_ | refine ld0 H ?_ | refine ldaN H ?_ | refine ld0N H ?_ | refine sta H fun w H => ?_ | refine st0 H fun w H => ?_)
        refine hJ _ ⟨⟨i + 1, D2, s1', s2', by rw [i64_id (by omega)]; omega, by omega, hstep, ?_⟩, by rw [i64_id (by omega)]; (try dsimp only); omega⟩
        exact (H.dr (blk x _ _)).ord3 (a := blk a3 _ _) (b := blk a1 _ _) (c := RDk s1' s2' s5 _)
    replace H := H.drew
    repeat (first | refine lda H ?_ | refine ld0 H ?_ | refine ldaN H ?_ | refine ld0N H ?_ | refine sta H fun w H => ?_ | refine st0 H fun w H => ?_)
    refine idxI1w (s := sa) (xs := L.map (·.1)) H (by omega) (by simpa using hlt') (fun a83 h83 => ldc (h83 H (by repeat (first | assumption | constructor))) ?_) (by repeat (first | assumption | constructor))
    refine idxI1w (s := sl) (xs := L.map fun x => bs x.2) H (by omega) (by simpa using hlt') (fun a85 h85 => ldc (h85 H (by repeat (first | assumption | constructor))) ?_) (by repeat (first | assumption | constructor))
    have e1 : (L.map (·.1))[((i : Nat) : Int).toNat]'(by simpa using hlt') = L[i].1 := by simp
    have e2 : (L.map fun x => bs x.2)[((i : Nat) : Int).toNat]'(by simpa using hlt') = bs L[i].2 := by simp
    simp only [e1, e2] at h83 h85 ⊢
    refine ⟨?_, ?_⟩
    · refine ref_write16 (D := D') (sp := sp) (X := X) H (by repeat (first | assumption | constructor)) hX hgi (by omega) fun s1' s2' w H => ⟨s1', s2', _, _, s5, _, sp, _, _, _, _, _, rfl, ?_⟩
      refine al H (cs := [(Sl.v ⟨none, 0, 0⟩), (Sl.v ⟨none, 0, 0⟩), .bool false, .int .i64 0, (Sl.v ⟨none, 0, 0⟩), .int .i64 0, (Sl.v ⟨none, 0, 0⟩), .int .u32 0, .int .i64 0, .int .i64 0, .bool false]) (fun ax w H => ?_) zc_ref16_Log
      repeat (first | refine lda H ?_ | refine ld0 H ?_ | refine ldaN H ?_ | refine ld0N H ?_ | refine sta H fun w H => ?_ | refine st0 H fun w H => ?_)
      refine fin ax _ _ s1' s2' w rfl ?_
      exact (H.dr (RDk s1 s2 s5 D')).ord4 (a := blk ax _ _) (b := blk a3 _ _) (c := blk a1 _ _) (d := RDk s1' s2' s5 _)
    · refine al H (cs := [(Sl.v ⟨none, 0, 0⟩), (Sl.v ⟨none, 0, 0⟩), .bool false, .int .i64 0, (Sl.v ⟨none, 0, 0⟩), .int .i64 0, (Sl.v ⟨none, 0, 0⟩), .int .u32 0, .int .i64 0, .int .i64 0, .bool false]) (fun ax w H => ?_) zc_ref16_Log
      refine ⟨h85 H (by repeat (first | assumption | constructor)), h83 H (by repeat (first | assumption | constructor)), ⟨rfl, rowB H (by repeat (first | assumption | constructor))⟩, ?_⟩
      refine ref_write16 (D := D') (sp := sp) (X := X) H (by repeat (first | assumption | constructor)) hX hgi (by omega) fun s1' s2' w H => ⟨s1', s2', _, _, s5, _, sp, _, _, _, _, _, rfl, ?_⟩
      repeat (first | refine lda H ?_ | refine ld0 H ?_ | refine ldaN H ?_ | refine ld0N H ?_ | refine sta H fun w H => ?_ | refine st0 H fun w H => ?_)
      refine fin ax _ _ s1' s2' w rfl ?_
      exact (H.dr (RDk s1 s2 s5 D')).ord4 (a := blk ax _ _) (b := blk a3 _ _) (c := blk a1 _ _) (d := RDk s1' s2' s5 _)
  · obtain rfl : i = L.length := by omega
    rw [List.take_length] at hD'
    have hp : pall X L D = D'.flush := by rw [pall_pw, hD', if_pos rfl]
    rw [hp] at k
    repeat (first | refine lda H ?_ | refine ld0 H ?_ | refine ldaN H ?_ | refine ld0N H ?_ | refine sta H fun w H => ?_ | refine st0 H fun w H => ?_)
    refine ref_flush16 (D := D') (sp := sp) H (by repeat (first | assumption | constructor)) fun s1' s2' w H => ⟨s1', s2', _, _, s5, _, sp, _, _, _, _, _, rfl, ?_⟩
    repeat (first | refine lda H ?_ | refine ld0 H ?_ | refine ldaN H ?_ | refine ld0N H ?_ | refine sta H fun w H => ?_ | refine st0 H fun w H => ?_)
    exact k s1' s2' _ ((H.dr (RDk s1 s2 s5 D')).ord3 (a := blk a3 _ _) (b := blk a1 _ _) (c := RDk s1' s2' s5 _) |>.tln 2)
end
end Go.Proofs.YtkfcmpngcanffaaDoor.G
