import Derived.Test.YtkfcmpngcanffaaDoorDd
import Derived.Test.YtkfcmpngcanffaaDoorSg
import Derived.Test.YtkfcmpngcanffaaDoorNd
set_option linter.unusedVariables false
set_option linter.unusedSimpArgs false
namespace Go.Proofs.YtkfcmpngcanffaaDoor.G
open Go Go.VC Go.RowKit Go.Proofs Go.Proofs.YtkfcmpngcanffaaDoor Nac
attribute [local irreducible] Tryd.prog
structure Act20 where
  do_ : Int
  n : Int
  entry : Entry
  keep : List Bool
instance : Rep Act20 where
  n := 7
  r := fun ro cs x => ∃ s : Sl, cs = [.int .i64 x.do_, .int .i64 x.n, .int .i64 x.entry.kind, .int .i64 x.entry.part, .int .u32 (x.entry.version.toNat : Int), .int .i64 x.entry.code, s.v] ∧ immL ro s x.keep
  mono := fun h ⟨s, e, hi⟩ => ⟨s, e, hi.mono h⟩
  len := fun ⟨s, e, _⟩ => by rw [e]; rfl
  one := fun ⟨s, e, _⟩ u hu => by rw [e] at hu; simp at hu; rcases hu with rfl | rfl | rfl | rfl | rfl | rfl | rfl <;> rfl
theorem open_Act {F : Bs} {w : World} {l : List SP} {cs : List Value} {x : Act20} (H : Heap F w (rep cs x :: l)) : ∃ s : Sl, cs = [.int .i64 x.do_, .int .i64 x.n, .int .i64 x.entry.kind, .int .i64 x.entry.part, .int .u32 (x.entry.version.toNat : Int), .int .i64 x.entry.code, s.v] ∧ Heap F w (imm s x.keep :: l) := by
  obtain ⟨t, H⟩ := H.ex (c' := fun s : Sl => [pur (cs = [.int .i64 x.do_, .int .i64 x.n, .int .i64 x.entry.kind, .int .i64 x.entry.part, .int .u32 (x.entry.version.toNat : Int), .int .i64 x.entry.code, s.v]), imm s x.keep]) fun ro h ⟨t, e, hi⟩ => ⟨t, PH.emp, PH.emp, fun _ => .inl rfl, PH.emp_le _, PH.emp_le _, e, PH.emp, PH.emp, fun _ => .inl rfl, PH.le.refl _, PH.le.refl _, hi, trivial⟩
  exact ⟨t, H.pur.1, H.pur.2⟩
section
variable {F : Bs} {w : World} {l r : List SP} {b d p : Nat} {D : Disk} {Q : Value → World → Prop} {X : Nac.Ext}
theorem ref_Noughts (H : Heap F w l) (k : Heap F w l → Q (.string (bs zeros64)) w) : Does Tryd.prog N_ref05_Noughts #[] w Q := by
  refine F_ref05_Noughts_does _ _ ?_
  unfold F_ref05_Noughts
  refine ⟨fun s i w' => ∃ n : Nat, i = n ∧ n ≤ 64 ∧ s = bs (List.replicate n 0) ∧ w' = w, fun _ i _ => (64 - i).toNat, ⟨0, rfl, by omega, rfl, rfl⟩, ?_⟩
  rintro s i w1 ⟨n, rfl, hn, rfl, rfl⟩
  refine dBoth (fun hlt => ?_) (fun hge => ?_)
  · have e : bs (List.replicate n 0) ++ (⟨#[0]⟩ : ByteArray) = bs (List.replicate (n + 1) 0) := by
      rw [show (⟨#[0]⟩ : ByteArray) = bs [0] from rfl, bs_append, List.replicate_succ']
    rw [e]
    refine ⟨by rw [show (⟨#[0]⟩ : ByteArray) = bs [0] from rfl, bs_size, bs_size, List.length_replicate]; simp; omega, ⟨n + 1, by rw [i64_id (by omega)]; omega, by omega, rfl, by first | rfl | trivial⟩, by rw [i64_id (by omega)]; (try dsimp only); omega⟩
  · obtain rfl : n = 64 := by omega
    exact k H
theorem law_count (n : Int) (k : Q (.int .i64 (if n < 1 ∨ n > 9 then 6 else n)) w) : Does Tryd.prog N_law20_count #[.int .i64 n] w Q := by
  refine F_law20_count_does _ _ _ ?_
  unfold F_law20_count
  refine dBoth (fun h => ?_) (fun h => dBoth (fun h2 => ?_) (fun h2 => ?_))
  · rwa [if_pos (.inl h)] at k
  · rwa [if_pos (.inr h2)] at k
  · rwa [if_neg (by omega)] at k
theorem law_part (H : Heap F w l) {n : Int} (h1 : 1 ≤ n) (h2 : n ≤ 10) (k : ∀ (d p : Nat) w', Heap F w' (PartAt p d ⟨2, n⟩ :: DiskAt d (Disk.new 12) :: l) → Q (.tuple #[.pointer (some ⟨d, 0, none⟩), .pointer (some ⟨p, 0, none⟩), .bool true]) w') :
    Does Tryd.prog N_law20_part #[.int .i64 n] w Q := by
  refine F_law20_part_does _ _ _ ?_
  unfold F_law20_part
  refine disk_New H (n := 12) (by decide) (by decide) fun d w H => ⟨_, _, rfl, cF rfl ?_⟩
  refine ext_New (x := ⟨2, n⟩) (D := Disk.new 12) H ⟨by dsimp only; decide, by dsimp only; decide, by dsimp only; omega⟩ (fun _ p w H => ⟨_, _, rfl, k d p w H⟩) (fun hl w H => ?_)
  have : lies ⟨2, n⟩ (Disk.new 12).has.length = true := by simp [lies, Disk.new]; omega
  rw [this] at hl; cases hl
theorem law_same (H : Heap F w l) {s1 s2 : Sl} {a b : List Entry} (h1 : Rd l s1 a) (h2 : Rd l s2 b) (k : ∀ w', Heap F w' l → Q (.bool (decide (a = b))) w') : Does Tryd.prog N_law20_same #[.slice s1.a s1.len s1.cap, .slice s2.a s2.len s2.cap] w Q := by
  refine F_law20_same_does _ _ _ _ ?_
  unfold F_law20_same
  have l1 := H.lenR h1
  have l2 := H.lenR h2
  have b1 := H.bndR h1
  refine cBoth (fun hne => ?_) (fun he => ?_)
  · have : a ≠ b := fun e => by subst e; simp at hne; omega
    have := k w H
    rwa [decide_eq_false ‹a ≠ b›] at this
  have hlen : a.length = b.length := by simp at he; omega
  refine ⟨fun x w' => ∃ i : Nat, x = i ∧ i ≤ a.length ∧ (∀ j, j < i → a[j]? = b[j]?) ∧ Heap F w' l, fun x _ => (a.length - x).toNat, ⟨0, rfl, by omega, fun j hj => by omega, H⟩, ?_⟩
  rintro x w1 ⟨i, rfl, hi, hj, H⟩
  refine dBoth (fun hlt => ?_) (fun hge => ?_)
  · have hlt' : i < a.length := by omega
    refine idxR_ (xs := a) H.drew (by omega) (by omega) (fun a1 cs H1 hA => ?_) h1
    simp only [Int.toNat_natCast] at H1
    have e1 := Heap.e4 H1
    subst e1
    refine At.ld0 hA (At.ld hA (At.ld hA (At.ld hA ?_)))
    refine idxR_ (xs := b) H.drew (by omega) (by omega) (fun a2 cs H2 hA2 => ?_) h2
    simp only [Int.toNat_natCast] at H2
    have e2 := Heap.e4 H2
    subst e2
    refine At.ld0 hA2 (At.ld hA2 (At.ld hA2 (At.ld hA2 ?_)))
    refine flat_neq flatE (entEq a[i] b[i]) ?_
    by_cases e : a[i] = b[i]
    · rw [decide_eq_true e]
      refine cF rfl ⟨⟨i + 1, by rw [i64_id (by omega)]; omega, by omega, fun j hj' => ?_, H.drew⟩, by rw [i64_id (by omega)]; dsimp only; omega⟩
      by_cases hji : j = i
      · subst hji; rw [List.getElem?_eq_getElem hlt', List.getElem?_eq_getElem (by omega), e]
      · exact hj j (by omega)
    · rw [decide_eq_false e]
      refine cT rfl ?_
      have hne : a ≠ b := fun e' => by subst e'; exact e rfl
      have := k _ H.drew
      rwa [decide_eq_false hne] at this
  · obtain rfl : i = a.length := by omega
    have : a = b := by
      apply List.ext_getElem?
      intro j
      by_cases hjl : j < a.length
      · exact hj j hjl
      · rw [List.getElem?_eq_none (by omega), List.getElem?_eq_none (by omega)]
    have k := k w1 H
    rwa [decide_eq_true this] at k
theorem ref_May (H : Heap F w l) (x : Entry) (k : ∀ w', Heap F w' l → Q (.bool (may x)) w') : Does Tryd.prog N_ref20_May #[.agg #[.int .i64 x.kind, .int .i64 x.part, .int .u32 (x.version.toNat : Int), .int .i64 x.code]] w Q := by
  refine F_ref20_May_does _ _ _ _ _ _ ?_
  unfold F_ref20_May
  refine al H (cs := encE x) (fun a w H => ?_) rfl
  have tail : 1 ≤ x.kind ∧ x.kind ≤ 4 → ldT (.int .i64) w ((⟨a, 0, none⟩ : Addr).add 1) fun x4 => cond (decide ((0 : Int) ≤ x4)) (ldT (.int .i64) w ((⟨a, 0, none⟩ : Addr).add 1) fun x5 => cond (decide ((x5 : Int) ≤ 7)) (ldT (.int .i64) w ((⟨a, 0, none⟩ : Addr).add 3) fun x6 => cond (decide ((0 : Int) ≤ x6)) (ldT (.int .i64) w ((⟨a, 0, none⟩ : Addr).add 3) fun x7 =>
      Q (.bool (decide ((x7 : Int) ≤ 255))) w) (Q (.bool (false)) w)) (Q (.bool (false)) w)) (Q (.bool (false)) w) := fun hk => by
    refine lda H (dBoth (fun c3 => lda H (dBoth (fun c4 => lda H (dBoth (fun c5 => lda H ?_) (fun c5 => ?_))) (fun c4 => ?_))) (fun c3 => ?_))
    · have c3' : (0 : Int) ≤ x.part := c3
      have c4' : x.part < 8 := by have : x.part ≤ 7 := c4; omega
      have c5' : (0 : Int) ≤ x.code := c5
      rw [show decide (x.code ≤ 255) = may x by simp [may, hk.1, hk.2, c3', c4', c5']]
      exact k _ H.tl
    all_goals
      rw [show false = may x by
        simp only [may]
        first
          | rw [decide_eq_false (show ¬ 0 ≤ x.part from c3)]; simp
          | rw [decide_eq_false (show ¬ x.part < 8 from fun h => c4 (by show x.part ≤ 7; omega))]; simp
          | rw [decide_eq_false (show ¬ 0 ≤ x.code from c5)]; simp]
      exact k _ H.tl
  refine ld0 H (cBoth (fun h => tail ?_) (fun h1 => ld0 H (cBoth (fun h => tail ?_) (fun h2 => ld0 H (cBoth (fun h => tail ?_) (fun h3 => ld0 H (cBoth (fun h => tail ?_) (fun h4 => ?_))))))))
  · have : x.kind = 1 := by simpa using h
    omega
  · have : x.kind = 2 := by simpa using h
    omega
  · have : x.kind = 3 := by simpa using h
    omega
  · have : x.kind = 4 := by simpa using h
    omega
  · have e1 : ¬ x.kind = 1 := by simpa using h1
    have e2 : ¬ x.kind = 2 := by simpa using h2
    have e3 : ¬ x.kind = 3 := by simpa using h3
    have e4 : ¬ x.kind = 4 := by simpa using h4
    rw [show false = may x by
      simp only [may]
      by_cases h : 1 ≤ x.kind
      · rw [decide_eq_false (show ¬ x.kind ≤ 4 by omega)]; simp
      · rw [decide_eq_false h]; simp]
    exact k _ H.tl
end
end Go.Proofs.YtkfcmpngcanffaaDoor.G
