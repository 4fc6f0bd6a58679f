import Derived.Test.YtkfcmpngcanffaaDoorDe
set_option linter.unusedVariables false
set_option linter.unusedSimpArgs false
namespace Go.Proofs.YtkfcmpngcanffaaDoor.G
open Go Go.VC Go.RowKit Go.Proofs Go.Proofs.YtkfcmpngcanffaaDoor Nac
attribute [local irreducible] Tryd.prog
section
variable {F : Bs} {w : World} {l r : List SP} {b d p : Nat} {D : Disk} {Q : Value → World → Prop} {X : Nac.Ext}
theorem open_KI {c : Nat} {L : List Entry} (K : KI c D L) (H : Heap F w l) (k1 : ∀ (b : Nat) w', Heap F w' (LogAt b p L false :: PartAt p d ⟨2, c⟩ :: DiskAt d D :: r) → Q (.tuple #[.pointer (some ⟨b, 0, none⟩), .int .i64 0]) w')
    {r1 : List SP} (hP : Take l (PartAt p d ⟨2, c⟩) r1 := by repeat (first | assumption | constructor)) (hD : Take r1 (DiskAt d D) r := by repeat (first | assumption | constructor)) (hH : Has r Half := by repeat (first | assumption | constructor)) :
    Does Tryd.prog N_audit_Open #[.pointer (some ⟨p, 0, none⟩)] w Q := by
  have hs : scan D ⟨2, c⟩ (⟨2, (c : Int)⟩ : Nac.Ext).count.toNat 0 = (L, 0) := scan_all K
  refine aud_Open H (fun _ b w H => ?_) (fun h => absurd (by rw [hs]) h) hP hD hH
  rw [hs] at H
  exact k1 b w H
theorem law_awake (H : Heap F w l) (hH : Has l Half) (k : ∀ w', Heap F w' l → Q (.bool true) w') : Does Tryd.prog N_law20_awake #[] w Q := by
  refine F_law20_awake_does _ _ ?_
  unfold F_law20_awake
  refine law_part H (n := 3) (by decide) (by decide) fun d p w H => ⟨_, _, _, rfl, cF rfl ?_⟩
  have K0 : KI 3 (Disk.new 12) [] := KI_new (by decide)
  refine open_KI (c := 3) (d := d) K0 H fun b w H => ⟨_, _, rfl, ?_⟩
  intro J hJ
  refine cF rfl ?_
  refine aud_Entries (L := []) H (by decide) fun s w H => ⟨_, rfl, cF ?_ (hJ _ ?_)⟩
  · have := H.lenO (s := s) (xs := ([] : List Entry))
    simp at this
    simp [← this]
  replace H := H.dr (own _ s _)
  refine al H (cs := [.int .i64 0, .int .i64 0, .int .u32 0, .int .i64 0]) (fun a w H => ?_) zc_api_Entry
  refine st0 H fun w H => sta H fun w H => sta H fun w H => sta H fun w H => ?_
  refine ld0 H (lda H (lda H (lda H ?_)))
  have KS := calm_step (x := ⟨1, 0, 7, 0⟩) K0
  rcases KS with ⟨h, _⟩ | ⟨_, h, _⟩ | ⟨_, _, D', hA, hh, K1⟩
  · exact absurd h (by decide)
  · exact absurd h (by decide)
  refine aud_Add (d := d) (p := p) (X := ⟨2, 3⟩) (D := Disk.new 12) (L := []) (dead := false) (x := ⟨1, 0, 7, 0⟩) H (by decide) (by decide) (fun w H => ⟨_, rfl, ?_⟩)
  rw [show (⟨2, ((3 : Nat) : Int)⟩ : Nac.Ext) = ⟨2, 3⟩ from rfl] at hA
  rw [hA] at H ⊢
  dsimp only [List.nil_append] at H K1
  refine open_KI (c := 3) (d := d) K1 H fun b2 w H => ⟨_, _, rfl, ?_⟩
  refine cT rfl (cT rfl ?_)
  replace H := H.drew
  refine ld0 H (lda H (lda H (lda H ⟨?_, ?_⟩)))
  · refine aud_Entries (b := b2) (L := [⟨1, 0, 7, 0⟩]) H (by decide) fun s w H => ⟨_, rfl, ?_⟩
    refine ⟨⟨rfl, rowB H⟩, ?_⟩
    refine al H (cs := encE ⟨1, 0, 7, 0⟩) (fun a3 w H => ?_) rfl
    replace H := H.blk_own1 (b := a3) (⟨1, 0, 7, 0⟩ : Entry) (fun _ => rfl)
    refine law_same (s1 := s) (s2 := ⟨some ⟨a3, 0, none⟩, 1, 1⟩) (a := [⟨1, 0, 7, 0⟩]) (b := [⟨1, 0, 7, 0⟩]) H (.o (.t .h)) (.o .h) fun w H => ⟨_, rfl, cT rfl (k w ?_)⟩
    replace H := (((H.dr2 (own _ ⟨some ⟨a3, 0, none⟩, 1, 1⟩ _) (own _ s _)).dr2 (LogAt b2 p _ _) (LogAt b p _ _)).dr2 (PartAt p d _) (DiskAt d _))
    exact H.dr (blk a _ _)
  · refine al H (cs := encE ⟨1, 0, 7, 0⟩) (fun a3 w H => ?_) rfl
    refine aud_Entries (b := b2) (L := [⟨1, 0, 7, 0⟩]) H (by decide) fun s w H => ⟨_, rfl, ?_⟩
    replace H := H.blk_own1 (b := a3) (⟨1, 0, 7, 0⟩ : Entry) (fun _ => rfl)
    refine law_same (s1 := s) (s2 := ⟨some ⟨a3, 0, none⟩, 1, 1⟩) (a := [⟨1, 0, 7, 0⟩]) (b := [⟨1, 0, 7, 0⟩]) H (.o (.t .h)) (.o .h) fun w H => ⟨_, rfl, cT rfl (k w ?_)⟩
    replace H := (((H.dr2 (own _ ⟨some ⟨a3, 0, none⟩, 1, 1⟩ _) (own _ s _)).dr2 (LogAt b2 p _ _) (LogAt b p _ _)).dr2 (PartAt p d _) (DiskAt d _))
    exact H.dr (blk a _ _)
theorem law_Confined (H : Heap F w l) {s : Sl} {xs : List Entry} (hS : Has l (imm s xs)) (hH : Has l Half) (k : ∀ w', Heap F w' l → Q (.bool true) w') : Does Tryd.prog N_law20_AuditConfined #[.slice s.a s.len s.cap] w Q := by
  refine F_law20_AuditConfined_does _ _ _ ?_
  unfold F_law20_AuditConfined
  have hsl := H.len hS
  refine law_part H (n := 4) (by decide) (by decide) fun d p w H => ⟨_, _, _, rfl, cF rfl ?_⟩
  have K0 : KI 4 (Disk.new 12) [] := KI_new (by decide)
  refine open_KI (c := 4) (d := d) K0 H fun b w H => ⟨_, _, rfl, cF rfl ?_⟩
  intro J hJ
  have out : ∀ (D : Disk) (L : List Entry) (w' : World), KI 4 D L → (∀ i : Nat, i < 12 → (i < 2 ∨ 2 + L.length ≤ i) → D.has[i]? = some zeros64) → Heap F w' (LogAt b p L false :: PartAt p d ⟨2, 4⟩ :: DiskAt d D :: l) → J (L.length : Int) w' := fun D L w' K hz H => by
    have hLn := K.len
    refine hJ _ _ ⟨fun i w' => ∃ n : Nat, i = n ∧ n ≤ 12 ∧ Heap F w' (LogAt b p L false :: PartAt p d ⟨2, 4⟩ :: DiskAt d D :: l), fun i _ => (12 - i).toNat, ⟨0, rfl, by omega, H⟩, ?_⟩
    rintro i w1 ⟨n, rfl, hn, H⟩
    refine dBoth (fun hlt => ?_) (fun hge => ?_)
    · intro J2 hJ2
      have hlt' : n < 12 := by omega
      obtain ⟨sec, hsec⟩ : ∃ sec, D.has[n]? = some sec := ⟨_, List.getElem?_eq_getElem (by rw [K.n12]; exact hlt')⟩
      have hrd := read_quiet K.waits K.off hsec
      have done : ∀ w', Heap F w' (LogAt b p L false :: PartAt p d ⟨2, 4⟩ :: DiskAt d D :: l) → J2 w' := fun w' H => hJ2 _ ⟨⟨n + 1, by rw [i64_id (by omega)]; omega, by omega, H⟩, by rw [i64_id (by omega)]; dsimp only; omega⟩
      refine disk_Read (D := D) (at_ := (n : Int)) H fun s1 w H => ⟨⟨s1.a, s1.len, s1.cap⟩, _, rfl, ?_⟩
      rw [hrd] at H ⊢
      refine cF rfl ?_
      have chk : (n < 2 ∨ 2 + L.length ≤ n) → ∃ s23 : ByteArray, (convert T_l_uint8 T_string (.slice s1.a s1.len s1.cap)).run Tryd.prog w.drew = .ok (.string (s23)) w.drew ∧
           Does Tryd.prog N_ref05_Noughts #[] w.drew fun r24 w25 => ∃ s26 : ByteArray, r24 = .string (s26) ∧
           (convert T_l_uint8 T_string (.slice s1.a s1.len s1.cap)).run Tryd.prog w25 = .ok (.string (s23)) w25 ∧ cond (!((s23).toList == (s26).toList))
           (Q (.bool (false)) w25)
           (J2 w25) := fun h => by
        have hz' := hz n hlt' h
        rw [hsec] at hz'
        obtain rfl : sec = zeros64 := by simpa using hz'
        have H := H.drew
        refine ⟨_, cvO (s := s1) (xs := zeros64) H und_l8 und_8 und_s, ?_⟩
        refine ref_Noughts H fun H => ⟨_, rfl, cvO (s := s1) (xs := zeros64) H und_l8 und_8 und_s, cF (by simp) (done _ ?_)⟩
        replace H := H.dr (own _ s1 _)
        exact H.ord3
      refine dBoth (fun h2 => chk ?_) (fun h2 => ?_)
      · left; omega
      · rw [i64_id (by omega)]
        refine dBoth (fun h3 => chk ?_) (fun h3 => done _ ?_)
        · right; have : (n : Int) ≥ 2 + (L.length : Int) := h3; omega
        · replace H := H.drew.dr (own _ s1 _)
          exact H.ord3
    · refine law_awake H (.t (.t (.t hH))) fun w H => ⟨_, rfl, k w ?_⟩
      exact (H.dr2 (LogAt b p _ _) (PartAt p d _)).dr (DiskAt d _)
  refine ⟨fun n i w' => ∃ (m : Nat) (D : Disk) (L : List Entry), i = m ∧ n = (L.length : Int) ∧ m ≤ xs.length ∧ m ≤ 30 ∧ KI 4 D L ∧ (∀ i : Nat, i < 12 → (i < 2 ∨ 2 + L.length ≤ i) → D.has[i]? = some zeros64) ∧ Heap F w' (LogAt b p L false :: PartAt p d ⟨2, 4⟩ :: DiskAt d D :: l), fun _ i _ => (30 - i).toNat,
    ⟨0, Disk.new 12, [], rfl, rfl, by omega, by omega, K0, fun i hi _ => by rw [Disk.new]; show (List.replicate 12 (List.replicate 64 0))[i]? = _; rw [List.getElem?_replicate, if_pos hi]; rfl, H⟩, ?_⟩
  rintro n i w1 ⟨m, D, L, rfl, rfl, hm, hm30, K, hz, H⟩
  intro J2 hJ2
  refine dBoth (fun hlt => dBoth (fun hlt2 => hJ2 _ ?_) (fun h => out D L w1 K hz H)) (fun h => out D L w1 K hz H)
  have hlt' : m < xs.length := by omega
  have hm' : m < 30 := by omega
  intro J3 hJ3
  have hLn := K.len
  refine idxI (s := s) (xs := xs) H (by omega) (by omega) (fun a cs H1 hA => ?_) (.t (.t (.t hS)))
  simp only [Int.toNat_natCast] at H1
  have e1 := Heap.e4 H1
  subst e1
  refine At.ld0 hA (At.ld hA (At.ld hA (At.ld hA ?_)))
  refine aud_Add (d := d) (p := p) (X := ⟨2, 4⟩) (D := D) (L := L) (dead := false) (x := xs[m]) H (by rw [K.waits]; decide) (by omega) (fun w H => ⟨_, rfl, ?_⟩)
  intro J4 hJ4
  have fin : ∀ (e : Int) (D' : Disk) (L' : List Entry) (w' : World), KI 4 D' L' → (∀ i : Nat, i < 12 → (i < 2 ∨ 2 + L'.length ≤ i) → D'.has[i]? = some zeros64) → (may xs[m] = (e != 1)) → (e = 5 → L'.length = 4) → Heap F w' (LogAt b p L' false :: PartAt p d ⟨2, 4⟩ :: DiskAt d D' :: l) →
      (idx (s.a) (s.len) (m : Int) 4 fun a55 =>
          ldT (.int .i64) w' (a55) fun x56 => ldT (.int .i64) w' ((a55).add 1) fun x57 => ldT (.int .u32) w' ((a55).add 2) fun x58 => ldT (.int .i64) w' ((a55).add 3) fun x59 =>
          Does Tryd.prog N_ref20_May #[.agg #[.int .i64 (x56), .int .i64 (x57), .int .u32 (x58), .int .i64 (x59)]] w' fun r60 w61 => ∃ b62 : Bool, r60 = .bool (b62) ∧
          cond (!(b62 == ((e : Int) != 1)))
          (Q (.bool (false)) w61)
          (cond ((e : Int) == 5)
           (cond ((L'.length : Int) != 4)
            (Q (.bool (false)) w61)
            (cond (decide ((L'.length : Int) > 4))
             (Q (.bool (false)) w61)
             (Does Tryd.prog N_audit_Log_Entries #[.pointer (some ⟨b, 0, none⟩)] w61 fun r63 w64 => ∃ l65 : Sl, r63 = .slice (l65.a) (l65.len) (l65.cap) ∧
              cond (((((l65.len : Nat) : Int)) : Int) != (L'.length : Int))
              (Q (.bool (false)) w64)
              (J3 (L'.length : Int) w64))))
           (cond (decide ((L'.length : Int) > 4))
            (Q (.bool (false)) w61)
            (Does Tryd.prog N_audit_Log_Entries #[.pointer (some ⟨b, 0, none⟩)] w61 fun r66 w67 => ∃ l68 : Sl, r66 = .slice (l68.a) (l68.len) (l68.cap) ∧
             cond (((((l68.len : Nat) : Int)) : Int) != (L'.length : Int))
             (Q (.bool (false)) w67)
             (J3 (L'.length : Int) w67))))) := fun e D' L' w' K' hz' hme h5 H => by
    have hLn' := K'.len
    refine idxI (s := s) (xs := xs) H (by omega) (by omega) (fun a cs H1 hA => ?_) (.t (.t (.t hS)))
    simp only [Int.toNat_natCast] at H1
    have e1 := Heap.e4 H1
    subst e1
    refine At.ld0 hA (At.ld hA (At.ld hA (At.ld hA ?_)))
    refine ref_May H xs[m] fun w H => ⟨_, rfl, cF (by rw [hme]; simp) ?_⟩
    have last : Does Tryd.prog N_audit_Log_Entries #[.pointer (some ⟨b, 0, none⟩)] w fun r66 w67 => ∃ l68 : Sl, r66 = .slice (l68.a) (l68.len) (l68.cap) ∧
             cond (((((l68.len : Nat) : Int)) : Int) != (L'.length : Int))
             (Q (.bool (false)) w67)
             (J3 (L'.length : Int) w67) := by
      refine aud_Entries (L := L') H (by omega) fun s2 w H => ⟨_, rfl, cF ?_ (hJ3 _ _ ⟨⟨m + 1, D', L', by rw [i64_id (by omega)]; omega, rfl, by omega, by omega, K', hz', H.dr (own _ s2 _)⟩, by rw [i64_id (by omega)]; dsimp only; omega⟩)⟩
      have := H.lenO (s := s2) (xs := L')
      simp [← this]
    refine cBoth (fun h => ?_) (fun h => dF (by omega) last)
    have := h5 (by simpa using h)
    exact cF (by rw [this]; rfl) (dF (by omega) last)
  rcases calm_step (x := xs[m]) K with ⟨hmay, hA⟩ | ⟨hmay, hfull, hA⟩ | ⟨hmay, hnf, D', hA, hh, K1⟩
  · have hA' : aadd D ⟨2, 4⟩ L false xs[m] = (D, L, false, 1) := hA
    rw [hA'] at H hJ4 ⊢
    refine cF rfl (hJ4 _ _ (fin 1 D L w K hz (by rw [hmay]; rfl) (fun h => by cases h) H))
  · have hA' : aadd D ⟨2, 4⟩ L false xs[m] = (D, L, false, 5) := hA
    rw [hA'] at H hJ4 ⊢
    refine cF rfl (hJ4 _ _ (fin 5 D L w K hz (by rw [hmay]; rfl) (fun _ => hfull) H))
  · have hA' : aadd D ⟨2, 4⟩ L false xs[m] = (D', L ++ [xs[m]], false, 0) := hA
    rw [hA'] at H hJ4 ⊢
    rw [i64_id (by omega), show (L.length : Int) + 1 = ((L ++ [xs[m]]).length : Int) by simp]
    refine cT rfl (hJ4 _ _ (fin 0 D' (L ++ [xs[m]]) w K1 (fun i hi hor => ?_) (by rw [hmay]; rfl) (fun h => by cases h) H))
    simp at hor
    rw [hh, List.getElem?_set_ne (by omega)]
    exact hz i hi (by omega)
end
end Go.Proofs.YtkfcmpngcanffaaDoor.G
