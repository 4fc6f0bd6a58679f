import Derived.Test.YtaaegmmcnfeiaaaDoorSd
set_option linter.unusedVariables false
set_option linter.unusedSimpArgs false
namespace Go.VC
open Go Go.RowKit
theorem mx {n : Nat} (h : n ≤ 4000000000000) : n ≤ maxLen := by simp only [maxLen]; omega
theorem bnd {n k : Nat} (h : n ≤ 1000000000) (hk : k ≤ 1000) : n * k ≤ 140737488355328 := Nat.le_trans (Nat.mul_le_mul h hk) (by decide)
section
variable {α : Type} [Rep α] {F : Bs} {w w' : World} {l l' r : List SP} {s x : Sl} {xs ys : List α} {e : TypeId}
theorem apI {P : Program} {t bytes ty : Nat} (hS : SlT P t e (Rep.n α) bytes) (H : Heap F w l) (hb : xs.length + ys.length ≤ 1000000000) {K : Sl → World → Prop}
    (k : ∀ (s' : Sl) (w' : World), Heap F w' (own e s' (xs ++ ys) :: r) → K s' w') (hT : Take l (own e s xs) r := by repeat (first | assumption | constructor)) (hI : Has l (imm x ys) := by repeat (first | assumption | constructor)) (hk : bytes ≤ 1000 := by decide) :
    runG .sl P w (Builtin.append_ #[t, t] ty #[.slice s.a s.len s.cap, .slice x.a x.len x.cap]) K := appI hS H (bnd hb hk) (mx (by omega)) k hT hI
/-- a copy, in a row of the call's own -/
theorem cpI {P : Program} {t bytes ty : Nat} (hS : SlT P t e (Rep.n α) bytes) (H : Heap F w l) (hb : ys.length ≤ 1000000000) {K : Sl → World → Prop}
    (k : ∀ (s' : Sl) (w' : World), Heap F w' (own e s' ys :: l) → K s' w') (hI : Has l (imm x ys) := by repeat (first | assumption | constructor)) (hk : bytes ≤ 1000 := by decide) :
    runG .sl P w (Builtin.append_ #[t, t] ty #[.slice none 0 0, .slice x.a x.len x.cap]) K :=
  apI (s := ⟨none, 0, 0⟩) (xs := []) (ys := ys) hS (H.own_nil (α := α) e) (by simpa using hb) k .h (.t hI) hk
/-- what is the call's own is appended -/
theorem apO {P : Program} {t bytes ty e' : Nat} (hS : SlT P t e (Rep.n α) bytes) (H : Heap F w l) (hb : xs.length + ys.length ≤ 1000000000) {K : Sl → World → Prop}
    (k : ∀ (s' : Sl) (w' : World), Heap F w' (own e s' (xs ++ ys) :: r) → K s' w') (hT : Take l (own e s xs) r := by repeat (first | assumption | constructor)) (hI : Has l (own e' x ys) := by repeat (first | assumption | constructor)) (hk : bytes ≤ 1000 := by decide) :
    runG .sl P w (Builtin.append_ #[t, t] ty #[.slice s.a s.len s.cap, .slice x.a x.len x.cap]) K := by
  refine app hS H (fun ro _ hro ⟨g, hs, hg⟩ => ?_) (bnd hb hk) (mx (by omega)) k hT
  obtain ⟨g1, hg1, hc⟩ := sep.has hI hs
  refine ⟨hc.1, ?_⟩
  rcases hc.2 with h | ⟨b, cur, ha, hb, _, _, _, hx⟩
  · left; rw [h]
  · right
    refine ⟨b, 0, ha, fun i y hy => ?_⟩
    obtain ⟨cs, a, f⟩ := hx i y hy
    exact ⟨cs, a, fun j u hj => by rw [cell_of_row w b _ cur e' (0, 0) (hg _ _ (hg1 _ _ hb)), Nat.zero_add]; exact f j u hj⟩
theorem cpO {P : Program} {t bytes ty e' : Nat} (hS : SlT P t e (Rep.n α) bytes) (H : Heap F w l) (hb : ys.length ≤ 1000000000) {K : Sl → World → Prop}
    (k : ∀ (s' : Sl) (w' : World), Heap F w' (own e s' ys :: l) → K s' w') (hI : Has l (own e' x ys) := by repeat (first | assumption | constructor)) (hk : bytes ≤ 1000 := by decide) :
    runG .sl P w (Builtin.append_ #[t, t] ty #[.slice none 0 0, .slice x.a x.len x.cap]) K :=
  apO (s := ⟨none, 0, 0⟩) (xs := []) (ys := ys) hS (H.own_nil (α := α) e) (by simpa using hb) k .h (.t hI) hk
theorem psh {P : Program} {t bytes ty ty2 b : Nat} {cs : List Value} {y : α} (hS : SlT P t e (Rep.n α) bytes) (H : Heap F w l) (hb : xs.length + 1 ≤ 1000000000) {K : Sl → World → Prop}
    (k : ∀ (s' : Sl) (w' : World), Heap F w' (own e s' (xs ++ [y]) :: r) → K s' w') (hT : Take l (own e s xs) r := by repeat (first | assumption | constructor)) (hB : Has l (blk b ty2 cs) := by repeat (first | assumption | constructor)) (hr : Has l (rep cs y) := by repeat (first | assumption | constructor)) (hk : bytes ≤ 1000 := by decide) :
    runG .sl P w (Builtin.append_ #[t, t] ty #[.slice s.a s.len s.cap, .slice (some ⟨b, 0, none⟩) 1 1]) K := push hS H (bnd hb hk) (mx (by omega)) k hT hB hr
end
section
variable {α : Type} [Sc α] {F : Bs} {w w' : World} {l l' r : List SP} {s x : Sl} {xs ys : List α} {e : TypeId}
/-- one more, of one cell -/
theorem psh1 {P : Program} {t bytes ty ty2 b : Nat} (y : α) (hS : SlT P t e 1 bytes) (H : Heap F w l) (hb : xs.length + 1 ≤ 1000000000) {K : Sl → World → Prop}
    (k : ∀ (s' : Sl) (w' : World), Heap F w' (own e s' (xs ++ [y]) :: r) → K s' w') (hT : Take l (own e s xs) r := by repeat (first | assumption | constructor)) (hB : Has l (blk b ty2 [Sc.enc y]) := by repeat (first | assumption | constructor)) (hk : bytes ≤ 1000 := by decide) :
    runG .sl P w (Builtin.append_ #[t, t] ty #[.slice s.a s.len s.cap, .slice (some ⟨b, 0, none⟩) 1 1]) K := by
  have H' : Heap F w (rep [Sc.enc y] y :: l) := H.add0 fun _ => rfl
  exact psh (r := rep [Sc.enc y] y :: r) (y := y) hS H' hb (fun s' w' H => k s' w' (H.dr (rep [Sc.enc y] y) (.t .h))) (.t hT) (.t hB) .h hk
/-- a row of literals -/
theorem apB {P : Program} {t bytes ty ty2 b n m : Nat} (ys : List α) (hS : SlT P t e 1 bytes) (H : Heap F w l) (hb : xs.length + ys.length ≤ 1000000000) {cs : List Value} (hc : cs = ys.map Sc.enc) (hn : ys.length = n) {K : Sl → World → Prop}
    (k : ∀ (s' : Sl) (w' : World), Heap F w' (own e s' (xs ++ ys) :: r) → K s' w') (hT : Take l (own e s xs) r := by repeat (first | assumption | constructor)) (hB : Has l (blk b ty2 cs) := by repeat (first | assumption | constructor)) (hk : bytes ≤ 1000 := by decide) :
    runG .sl P w (Builtin.append_ #[t, t] ty #[.slice s.a s.len s.cap, .slice (some ⟨b, 0, none⟩) n m]) K := by
  have B := H.Blk hB
  refine app (x := ⟨some ⟨b, 0, none⟩, n, m⟩) (ys := ys) hS H (fun ro _ hro _ => ?_) (bnd hb hk) (mx (by omega)) k hT
  refine ⟨hn, .inr ⟨b, 0, rfl, fun i z hz => ⟨[Sc.enc z], rfl, fun j u hj => ?_⟩⟩⟩
  cases j with
  | zero =>
    simp at hj; subst hj
    rw [B.cell, hc]
    simp [Rep.n, hz]
  | succ j => simp at hj
end
end Go.VC
