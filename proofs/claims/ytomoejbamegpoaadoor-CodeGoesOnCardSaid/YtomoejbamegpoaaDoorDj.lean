import Derived.Test.YtomoejbamegpoaaDoorDg
import Derived.Test.YtomoejbamegpoaaDoorGd
set_option linter.unusedVariables false
set_option linter.unusedSimpArgs false
namespace Go.VC
open Go Go.RowKit
theorem least {p : Nat → Prop} : ∀ n, p n → ∃ m, p m ∧ ∀ k, p k → m ≤ k := by
  intro n
  induction n using Nat.strongRecOn with
  | ind n ih =>
    intro h
    by_cases g : ∃ k, k < n ∧ p k
    · obtain ⟨k, hk, hp⟩ := g
      exact ih k hk hp
    · exact ⟨n, h, fun k hk => Nat.le_of_not_lt fun hl => g ⟨k, hl, hk⟩⟩
/-- a loop's measure that hangs on what is known, not on the world's form -/
theorem meas {α : Type} (J : Nat → α → World → Prop) : ∃ M : α → World → Nat, ∀ n x w, J n x w → J (M x w) x w ∧ M x w ≤ n := by
  have h : ∀ x w, ∃ m, ∀ n, J n x w → J m x w ∧ m ≤ n := fun x w => by
    by_cases g : ∃ n, J n x w
    · obtain ⟨n, hn⟩ := g
      obtain ⟨m, hm, hl⟩ := least (p := fun n => J n x w) n hn
      exact ⟨m, fun n hn => ⟨hm, hl n hn⟩⟩
    · exact ⟨0, fun n hn => absurd ⟨n, hn⟩ g⟩
  exact ⟨fun x w => (h x w).choose, fun n x w hn => (h x w).choose_spec n hn⟩
theorem callV_fn {P : Program} {g : Nat} {fi ca args : Array Value} {w : World} {Q : Value → World → Prop} (hb : hasBody P g = true) (h : Does P g (fi ++ args ++ ca) w Q) : callV P (.func (.func g) fi ca) args w Q := by
  unfold callV; simp only; rw [hb]; exact h
end Go.VC
namespace Nac
theorem cadd_mem {n : Nat} {x y : Int} (h : y ∈ cadd n x) : y = x ∧ x < n := by
  unfold cadd at h
  split at h
  · simp at h; exact ⟨h, by assumption⟩
  · cases h
/-- what comes behind a place is a place -/
theorem cnext_rng {l : List Ins} {x y : Int} (h : y ∈ cnext l x) : 0 ≤ y ∧ y < l.length := by
  unfold cnext at h
  split at h
  · rename_i hx
    dsimp only at h
    have hj := Ins.num_jmp l[x.toNat]
    unfold Ins.jmp at hj
    split at h
    · cases h
    · split at h
      · obtain ⟨rfl, h2⟩ := cadd_mem h
        exact ⟨hj (by omega), h2⟩
      · split at h
        · rcases List.mem_append.1 h with h | h
          · obtain ⟨rfl, h2⟩ := cadd_mem h
            have := hj (by omega)
            exact ⟨by split <;> omega, h2⟩
          · split at h
            · cases h
            · obtain ⟨rfl, h2⟩ := cadd_mem h
              have := hj (by omega)
              exact ⟨by split <;> omega, h2⟩
        · obtain ⟨rfl, h2⟩ := cadd_mem h
          exact ⟨by omega, h2⟩
  · cases h
theorem cadd_length (n : Nat) (x : Int) : (cadd n x).length ≤ 1 := by unfold cadd; split <;> simp
theorem cnext_length (l : List Ins) (x : Int) : (cnext l x).length ≤ 2 := by
  unfold cnext
  split
  · dsimp only
    split
    · simp
    · split
      · exact Nat.le_trans (cadd_length _ _) (by decide)
      · split
        · rw [List.length_append]
          refine Nat.le_trans (Nat.add_le_add (cadd_length _ _) (?_ : _ ≤ 1)) (by decide)
          by_cases e : (l[x.toNat]).num = x + 1
          · rw [if_pos e]; simp
          · rw [if_neg e]; exact cadd_length _ _
        · exact Nat.le_trans (cadd_length _ _) (by decide)
  · simp
/-- marked -/
def mkd (xs : List Bool) (i : Int) : Prop := 0 ≤ i ∧ xs[i.toNat]? = some true
/-- all marks of xs that x0 hasn't lead to marks, or to c -/
def shut (l : List Ins) (x0 xs : List Bool) (c : Int) : Prop := ∀ i, mkd xs i → ¬ mkd x0 i → ∀ n ∈ cnext l i, mkd xs n ∨ n = c
def more (x0 xs : List Bool) : Prop := ∀ i, mkd x0 i → mkd xs i
/-- how many are not marked -/
def left (xs : List Bool) : Nat := xs.countP (fun b => !b)
theorem left_set : ∀ {xs : List Bool} {n : Nat}, xs[n]? = some false → left (xs.set n true) + 1 = left xs
  | [], n, h => by simp at h
  | b :: xs, 0, h => by simp at h; subst h; simp [left]
  | b :: xs, n + 1, h => by
    have := left_set (xs := xs) (n := n) (by simpa using h)
    simp only [left, List.set_cons_succ, List.countP_cons] at this ⊢
    omega
theorem left_more : ∀ {xs ys : List Bool}, xs.length = ys.length → (∀ n : Nat, xs[n]? = some true → ys[n]? = some true) → left ys ≤ left xs
  | [], ys, hl, _ => by cases ys with
    | nil => exact Nat.le_refl _
    | cons => simp at hl
  | b :: xs, [], hl, _ => by simp at hl
  | b :: xs, c :: ys, hl, h => by
    have := left_more (xs := xs) (ys := ys) (by simpa using hl) fun n hn => by simpa using h (n + 1) (by simpa using hn)
    have h0 := h 0
    simp only [List.getElem?_cons_zero, Option.some.injEq] at h0
    simp only [left, List.countP_cons] at this ⊢
    cases b <;> cases c <;> simp at h0 ⊢ <;> omega
theorem mkd_set {xs : List Bool} {n : Nat} (hn : n < xs.length) {i : Int} : mkd (xs.set n true) i ↔ mkd xs i ∨ i = n := by
  unfold mkd
  by_cases e : i = n
  · subst e; simp [hn]
  · by_cases h0 : 0 ≤ i
    · rw [List.getElem?_set_ne (by omega)]; simp [h0, e]
    · simp [h0]; omega
end Nac
namespace Go.Proofs.YtomoejbamegpoaaDoor.G
open Go Go.VC Go.RowKit Go.Proofs Go.Proofs.YtomoejbamegpoaaDoor Nac
theorem hb_visit : hasBody Tryd.prog N_code_Reached_1 = true := by kernel_rfl
attribute [local irreducible] Tryd.prog
section
variable {F : Bs} {w : World} {l r : List SP} {Q : Value → World → Prop} {s t : Sl} {is js : List Ins} {bb : List UInt8} {v : Value} {fl : List (Int × Int)}
theorem visit {a1 a6 a9 : Nat} {so : Sl} : ∀ (n : Nat) (l : List SP) (xs : List Bool) (x : Int) (w : World) (Q : Value → World → Prop), Rd l s is → left xs = n → xs.length = is.length → 0 ≤ x ∧ x < is.length → Heap F w (own T_bool so xs :: blk a6 T_l_bool [so.v] :: blk a1 T_l_api_Instr [s.v] :: blk a9 T_func_int [.func (.func N_code_Reached_1) #[] #[.pointer (some ⟨a6, 0, none⟩), .pointer (some ⟨a1, 0, none⟩), .pointer (some ⟨a9, 0, none⟩)]] :: l) →
    (∀ (ys : List Bool) w', ys.length = is.length → more xs ys → mkd ys x → (∀ c, shut is xs ys c) → Heap F w' (own T_bool so ys :: blk a6 T_l_bool [so.v] :: blk a1 T_l_api_Instr [s.v] :: blk a9 T_func_int [.func (.func N_code_Reached_1) #[] #[.pointer (some ⟨a6, 0, none⟩), .pointer (some ⟨a1, 0, none⟩), .pointer (some ⟨a9, 0, none⟩)]] :: l) → Q (.tuple #[]) w') →
    Does Tryd.prog N_code_Reached_1 #[.int .i64 x, .pointer (some ⟨a6, 0, none⟩), .pointer (some ⟨a1, 0, none⟩), .pointer (some ⟨a9, 0, none⟩)] w Q := by
  intro n
  induction n using Nat.strongRecOn with
  | ind n ih =>
  intro l x0 x w Q hI hn0 hlen hx H k
  refine F_code_Reached_1_does _ _ _ _ _ _ ?_
  unfold F_code_Reached_1
  have hl := H.lenR (.t (.t (.t (.t hI))))
  have hbnd := H.bndR (.t (.t (.t (.t hI))))
  obtain ⟨M, hM⟩ := meas (fun m (y : Int) w => ∃ xs : List Bool, left xs = m ∧ m ≤ n ∧ xs.length = is.length ∧ (0 ≤ y ∧ y < is.length) ∧ more x0 xs ∧ (mkd xs x ∨ y = x) ∧ shut is x0 xs y ∧ Heap F w (own T_bool so xs :: blk a6 T_l_bool [so.v] :: blk a1 T_l_api_Instr [s.v] :: blk a9 T_func_int [.func (.func N_code_Reached_1) #[] #[.pointer (some ⟨a6, 0, none⟩), .pointer (some ⟨a1, 0, none⟩), .pointer (some ⟨a9, 0, none⟩)]] :: l))
  refine ⟨fun y w => ∃ m, ∃ xs : List Bool, left xs = m ∧ m ≤ n ∧ xs.length = is.length ∧ (0 ≤ y ∧ y < is.length) ∧ more x0 xs ∧ (mkd xs x ∨ y = x) ∧ shut is x0 xs y ∧ Heap F w (own T_bool so xs :: blk a6 T_l_bool [so.v] :: blk a1 T_l_api_Instr [s.v] :: blk a9 T_func_int [.func (.func N_code_Reached_1) #[] #[.pointer (some ⟨a6, 0, none⟩), .pointer (some ⟨a1, 0, none⟩), .pointer (some ⟨a9, 0, none⟩)]] :: l), M, ⟨_, x0, rfl, by omega, hlen, hx, fun i h => h, .inr rfl, fun i h g => absurd h g, H⟩, ?_⟩
  clear H
  rintro y w ⟨m, hm⟩
  obtain ⟨⟨xs, hc, hmn, hxl, hy, hmore, hst, hsh, H⟩, _⟩ := hM m y w hm
  clear hm
  have hy' : y.toNat < xs.length := by omega
  have ey : ((y.toNat : Nat) : Int) = y := by omega
  refine ld0 (t := .sl) (x := so) H ?_
  refine idxO1 (s := so) (xs := xs) H (by omega) (by omega) (fun ad ha => ldT_cell _ ha ?_) .h
  by_cases hb : xs[y.toNat] = true
  · have hmy : mkd xs y := ⟨hy.1, by rw [List.getElem?_eq_getElem hy', hb]⟩
    refine cF (by simp [hb]) (k xs w hxl hmore ?_ ?_ H)
    · rcases hst with h | rfl
      · exact h
      · exact hmy
    · intro c i h g nx hnx
      rcases hsh i h g nx hnx with h | rfl
      · exact .inl h
      · exact .inl hmy
  have hbf : xs[y.toNat]? = some false := by rw [List.getElem?_eq_getElem hy']; simpa using hb
  refine cT (by simpa using hb) ?_
  clear hb
  refine ld0 (t := .sl) (x := so) H ?_
  refine idxW (s := so) (xs := xs) H (by omega) (by omega) (fun g hg => ?_) .h
  refine stO (s := so) (xs := xs) H hg hy' true rfl fun w H => ?_
  have hset : ∀ i, mkd (xs.set y.toNat true) i ↔ mkd xs i ∨ i = y := fun i => by rw [mkd_set hy', ey]
  have hleft := left_set hbf
  have hsl : (xs.set y.toNat true).length = is.length := by rw [List.length_set]; exact hxl
  generalize xs.set y.toNat true = zs at *
  refine ld0 (t := .sl) (x := s) H ?_
  refine code_Next (x := y) (is := is) H (.t (.t (.t (.t hI)))) fun l14 w H => ⟨_, rfl, ?_⟩
  have hl14 := H.lenO (s := l14) .h
  have hlen2 := cnext_length is y
  have hrng := fun n => cnext_rng (l := is) (x := y) (y := n)
  have hm0 : more x0 zs := fun i h => (hset i).2 (.inl (hmore i h))
  have hs0 : ∀ i, i ≠ y → mkd zs i → ¬ mkd x0 i → ∀ n ∈ cnext is i, mkd zs n := fun i hi h g n hn => by
    rcases (hset i).1 h with h | h
    · rcases hsh i h g n hn with h | rfl
      · exact (hset n).2 (.inl h)
      · exact (hset _).2 (.inr rfl)
    · exact absurd h hi
  have hzx : mkd zs x := by
    rcases hst with h | rfl
    · exact (hset x).2 (.inl h)
    · exact (hset _).2 (.inr rfl)
  have hnl : left zs < n := by omega
  -- what goes on behind the calls
  generalize hcn : cnext is y = nx at *
  match nx, hlen2 with
  | [], _ =>
    refine cT (by rw [← hl14]; rfl) (k zs w hsl hm0 hzx ?_ H.tl)
    intro c i h g n hn
    by_cases e : i = y
    · subst e; rw [hcn] at hn; cases hn
    · exact .inl (hs0 i e h g n hn)
  | [n0], _ =>
    have h0 := hrng n0 (by simp)
    refine cF (by rw [← hl14]; rfl) ?_
    intro J16 hJ16
    refine cF (by rw [← hl14]; rfl) (hJ16 _ ?_)
    refine idxO1 (s := l14) (xs := [n0]) (i := 0) H (by decide) (by simp) (fun ad ha => ldT_cell _ ha ?_) .h
    have fin : ∃ xs : List Bool, left xs = left zs ∧ left zs ≤ n ∧ xs.length = is.length ∧ (0 ≤ n0 ∧ n0 < is.length) ∧ more x0 xs ∧ (mkd xs x ∨ n0 = x) ∧ shut is x0 xs n0 ∧ Heap F w (own T_bool so xs :: blk a6 T_l_bool [so.v] :: blk a1 T_l_api_Instr [s.v] :: blk a9 T_func_int [.func (.func N_code_Reached_1) #[] #[.pointer (some ⟨a6, 0, none⟩), .pointer (some ⟨a1, 0, none⟩), .pointer (some ⟨a9, 0, none⟩)]] :: l) := by
      refine ⟨zs, rfl, by omega, hsl, h0, hm0, .inl hzx, ?_, H.tl⟩
      intro i h g n hn
      by_cases e : i = y
      · subst e; rw [hcn] at hn; simp at hn; exact .inr hn
      · exact .inl (hs0 i e h g n hn)
    exact ⟨⟨_, fin⟩, Nat.lt_of_le_of_lt (hM _ _ _ fin).2 (by omega)⟩
  | [n0, n1], _ =>
    have h0 := hrng n0 (by simp)
    have h1 := hrng n1 (by simp)
    refine cF (by rw [← hl14]; rfl) ?_
    intro J16 hJ16
    refine cT (by rw [← hl14]; rfl) ?_
    replace H := H.drew
    refine ld0 (t := .raw) (x := .func (.func N_code_Reached_1) #[] #[.pointer (some ⟨a6, 0, none⟩), .pointer (some ⟨a1, 0, none⟩), .pointer (some ⟨a9, 0, none⟩)]) H ?_
    refine idxO1 (s := l14) (xs := [n0, n1]) (i := 1) H (by decide) (by simp) (fun ad ha => ldT_cell _ ha ?_) .h
    refine callV_fn hb_visit ?_
    replace H := H.takes (cs := [own T_bool so zs, blk a6 T_l_bool [so.v], blk a1 T_l_api_Instr [s.v], blk a9 T_func_int [.func (.func N_code_Reached_1) #[] #[.pointer (some ⟨a6, 0, none⟩), .pointer (some ⟨a1, 0, none⟩), .pointer (some ⟨a9, 0, none⟩)]], own T_int l14 [n0, n1]]) (by repeat (first | assumption | constructor))
    refine ih (left zs) hnl _ zs n1 _ _ (.t hI) rfl hsl h1 H fun ys w hyl hym hy1 hysh H => ⟨rfl, hJ16 _ ?_⟩
    refine idxO1 (s := l14) (xs := [n0, n1]) (i := 0) H (by decide) (by simp) (fun ad ha => ldT_cell _ ha ?_) (by repeat (first | assumption | constructor))
    have hly : left ys ≤ left zs := left_more (by omega) fun n hn => by
      have := hym (n : Int) ⟨by omega, by simpa using hn⟩
      simpa using this.2
    have fin : ∃ xs : List Bool, left xs = left ys ∧ left ys ≤ n ∧ xs.length = is.length ∧ (0 ≤ n0 ∧ n0 < is.length) ∧ more x0 xs ∧ (mkd xs x ∨ n0 = x) ∧ shut is x0 xs n0 ∧ Heap F w (own T_bool so xs :: blk a6 T_l_bool [so.v] :: blk a1 T_l_api_Instr [s.v] :: blk a9 T_func_int [.func (.func N_code_Reached_1) #[] #[.pointer (some ⟨a6, 0, none⟩), .pointer (some ⟨a1, 0, none⟩), .pointer (some ⟨a9, 0, none⟩)]] :: l) := by
      refine ⟨ys, rfl, by omega, hyl, h0, fun i h => hym i (hm0 i h), .inl (hym x hzx), ?_, H.dr (own T_int l14 [n0, n1]) (by repeat (first | assumption | constructor))⟩
      intro i h g n hn
      by_cases ez : mkd zs i
      · by_cases e : i = y
        · subst e; rw [hcn] at hn; simp at hn
          rcases hn with rfl | rfl
          · exact .inr rfl
          · exact .inl hy1
        · exact .inl (hym n (hs0 i e ez g n hn))
      · rcases hysh n0 i h ez n hn with h | h
        · exact .inl h
        · exact .inr h
    exact ⟨⟨_, fin⟩, Nat.lt_of_le_of_lt (hM _ _ _ fin).2 (by omega)⟩
  | _ :: _ :: _ :: _, hlen2 => simp at hlen2
end
end Go.Proofs.YtomoejbamegpoaaDoor.G

set_option linter.unusedVariables false
set_option linter.unusedSimpArgs false
namespace Nac
theorem cfind_ne {f : Ins → Int} : ∀ {l : List Ins} {k : Nat} {x : Int × Int}, cfind f l k = some x → x.1 ≠ 0
  | [], _, _, h => by cases h
  | i :: l, k, x, h => by
    unfold cfind at h
    split at h
    · exact cfind_ne h
    · cases h; assumption
theorem cfind_all {f : Ins → Int} : ∀ {l : List Ins} {k : Nat}, cfind f l k = none → ∀ j (hj : j < l.length), f l[j] = 0
  | [], _, _, j, hj => by simp at hj
  | i :: l, k, h, j, hj => by
    unfold cfind at h
    split at h
    · cases j with
      | zero => assumption
      | succ j => exact cfind_all h j (by simpa using hj)
    · cases h
theorem cchk_ok {l : List Ins} (h : (cchk l).1 = 0) : (1 ≤ l.length ∧ l.length ≤ 128) ∧ (∀ j (hj : j < l.length), l[j].bad l.length = 0) ∧ (lastOp l = 0 ∨ lastOp l = 15) := by
  unfold cchk at h
  split at h
  · refine ⟨by assumption, ?_⟩
    split at h
    · exact absurd h (cfind_ne ‹_›)
    · refine ⟨cfind_all ‹_›, ?_⟩
      split at h
      · assumption
      · cases h
  · cases h
/-- of a program each instruction but Halt has one that comes behind -/
theorem cnext_nil {l : List Ins} (h : (cchk l).1 = 0) {y : Nat} (hy : y < l.length) : (cnext l y).length = 0 ↔ l[y].op.toNat = 0 := by
  obtain ⟨h1, h2, h3⟩ := cchk_ok h
  obtain ⟨g1, g2⟩ := Ins.bad_zero (h2 y hy)
  have hj := Ins.num_jmp l[y]
  rw [lastOp_eq h1.1] at h3
  unfold cnext
  rw [dif_pos (by omega)]
  simp only [Int.toNat_natCast]
  unfold Ins.jmp at g2 hj
  by_cases o0 : l[y].op.toNat = 0
  · rw [if_pos o0]; simp [o0]
  rw [if_neg o0]
  by_cases o1 : l[y].op.toNat = 15
  · rw [if_pos o1, cadd, if_pos (by omega)]; simp [o0]
  rw [if_neg o1]
  by_cases o2 : l[y].op.toNat = 16
  · rw [if_pos o2, cadd, if_pos (by split <;> omega)]
    simp only [List.length_append, List.length_cons, List.length_nil]; omega
  · rw [if_neg o2, cadd]
    by_cases e : y + 1 < l.length
    · rw [if_pos (by omega)]; simp [o0]
    · have e2 : l.length - 1 = y := by omega
      simp only [e2] at h3
      omega
/-- an instruction that comes behind itself is a jump -/
theorem cnext_self {l : List Ins} {y : Nat} (hy : y < l.length) (h : (y : Int) ∈ cnext l y) : l[y].op.toNat = 15 ∨ l[y].op.toNat = 16 := by
  unfold cnext at h
  rw [dif_pos (by omega)] at h
  simp only [Int.toNat_natCast] at h
  by_cases o0 : l[y].op.toNat = 0
  · rw [if_pos o0] at h; cases h
  rw [if_neg o0] at h
  by_cases o1 : l[y].op.toNat = 15
  · exact .inl o1
  rw [if_neg o1] at h
  by_cases o2 : l[y].op.toNat = 16
  · exact .inr o2
  · rw [if_neg o2] at h
    have := (cadd_mem h).1
    omega
end Nac
namespace Go.Proofs.YtomoejbamegpoaaDoor.G
open Go Go.VC Go.RowKit Go.Proofs Go.Proofs.YtomoejbamegpoaaDoor Nac
theorem zc_func_int : zc Tryd.prog T_func_int = ([.nilFunc] : List Value).toArray := by kernel_rfl
attribute [local irreducible] Tryd.prog
section
variable {F : Bs} {w : World} {l r : List SP} {Q : Value → World → Prop} {s t : Sl} {is js : List Ins} {bb : List UInt8} {v : Value} {fl : List (Int × Int)}
theorem code_Reached (H : Heap F w l) (hb : is.length ≤ 100000) (hI : Rd l s is) (k : ∀ (t : Sl) (ys : List Bool) w', ys.length = is.length → (1 ≤ is.length → mkd ys 0) → (∀ i, mkd ys i → ∀ n ∈ cnext is i, mkd ys n) → Heap F w' (own T_bool t ys :: l) → Q (.slice t.a t.len t.cap) w') : Does Tryd.prog N_code_Reached #[.slice s.a s.len s.cap] w Q := by
  refine F_code_Reached_does _ _ _ ?_
  unfold F_code_Reached
  have hl := H.lenR hI
  refine al H (cs := [s.v]) (fun a1 w H => ?_) rfl
  refine ld0 (t := .sl) (x := s) H ?_
  refine mk (d := false) Z_l_bool H (by omega) (by omega) (by simp only [maxLen]; omega) fun b w H => ?_
  rw [Int.toNat_natCast] at H
  replace H := H.blk_own (List.replicate s.len false) rfl (by rw [List.length_replicate]; simp only [maxLen]; omega) (n := s.len) (List.length_replicate ..)
  rw [Int.toNat_natCast]
  refine al H (fun a6 w H => ?_) zc_l_bool
  refine st0 H fun w H => ?_
  refine al H (fun a9 w H => ?_) zc_func_int
  refine st0 H fun w H => ?_
  intro J13 hJ13
  have h0 : ∀ i, ¬ mkd (List.replicate s.len false) i := fun i h => by
    have := h.2
    rw [List.getElem?_replicate] at this
    split at this <;> simp at this
  have fin : ∀ {c d : SP} (ys : List Bool) w, ys.length = is.length → (1 ≤ is.length → mkd ys 0) → (∀ i, mkd ys i → ∀ n ∈ cnext is i, mkd ys n) → Heap F w (own T_bool ⟨some ⟨b, 0, none⟩, s.len, s.len⟩ ys :: blk a6 T_l_bool [.slice (some ⟨b, 0, none⟩) s.len s.len] :: c :: d :: l) → J13 w := fun {c d} ys w h1 h2 h3 H => by
    refine hJ13 _ (ld0 (t := .sl) (x := ⟨some ⟨b, 0, none⟩, s.len, s.len⟩) H ?_)
    exact k _ ys w h1 h2 h3 (Heap.kp 3 H)
  replace H := H.takes (cs := [own T_bool ⟨some ⟨b, 0, none⟩, s.len, s.len⟩ (List.replicate s.len false), blk a6 T_l_bool [.slice (some ⟨b, 0, none⟩) s.len s.len], blk a1 T_l_api_Instr [s.v], blk a9 T_func_int [.func (.func N_code_Reached_1) #[] #[.pointer (some ⟨a6, 0, none⟩), .pointer (some ⟨a1, 0, none⟩), .pointer (some ⟨a9, 0, none⟩)]]]) (by repeat (first | assumption | constructor))
  refine ld0 (t := .sl) (x := s) H ?_
  refine dGt (fun hg => ?_) (fun hg => fin _ w (by rw [List.length_replicate]; omega) (fun h => absurd h (by omega)) (fun i h => absurd h (h0 i)) H)
  refine ld0 (t := .raw) H ?_
  refine callV_fn hb_visit ?_
  refine visit (s := s) (so := ⟨some ⟨b, 0, none⟩, s.len, s.len⟩) _ l _ 0 _ _ hI rfl (by rw [List.length_replicate]; omega) (by omega) H fun ys w h1 h2 h3 h4 H => ⟨rfl, fin ys w h1 (fun _ => h3) (fun i h n hn => ?_) H⟩
  rcases h4 0 i h (h0 i) n hn with h | rfl
  · exact h
  · exact h3
theorem law_CodeGoesOn (H : Heap F w l) {x : Int} (hx : -9223372036854775808 ≤ x ∧ x ≤ 9223372036854775807) (hI : Has l (imm s is)) (hT : Has l ErrTy) (k : ∀ w', Heap F w' l → Q (.bool true) w') : Does Tryd.prog N_law07_CodeGoesOn #[.slice s.a s.len s.cap, .int .i64 x] w Q := by
  refine F_law07_CodeGoesOn_does _ _ _ _ ?_
  unfold F_law07_CodeGoesOn
  refine law07_few H hI fun l3 H => ⟨_, rfl, ?_⟩
  generalize is.take 140 = is at *
  refine code_Check (s := l3) (is := is) H .h fun v6 w H => ⟨_, rfl, ?_⟩
  refine err_ne H .h ?_
  have hf : flt (cchk is) = if (cchk is).1 = 0 then [] else [cchk is] := rfl
  by_cases hz : (cchk is).1 = 0
  case neg =>
    rw [if_neg hz] at hf
    rw [hf] at H ⊢
    exact cT rfl (law07_awake H (by repeat (first | exact hT | apply Has.t)) fun w H => ⟨_, rfl, k w (H.tln 2)⟩)
  rw [if_pos hz] at hf
  rw [hf] at H ⊢
  refine cF rfl ?_
  obtain ⟨h1, h2, h3⟩ := cchk_ok hz
  have hl3 := H.len (s := l3) (xs := is) (.t .h)
  intro J14 hJ14
  have go : ∀ a, 0 ≤ a ∧ a ≤ 9223372036854775807 → J14 a w := fun a ha => by
    refine hJ14 _ _ ⟨by omega, ?_⟩
    clear hJ14
    rw [Int.tmod_eq_emod_of_nonneg (by omega)]
    have hy0 : 0 ≤ a % (l3.len : Int) := Int.emod_nonneg _ (by omega)
    have hy1 : a % (l3.len : Int) < l3.len := Int.emod_lt_of_pos _ (by omega)
    obtain ⟨y, hy⟩ : ∃ y : Nat, a % (l3.len : Int) = y := ⟨(a % (l3.len : Int)).toNat, by omega⟩
    rw [hy] at hy1 ⊢
    clear hy hy0 ha
    have hyl : y < is.length := by omega
    refine code_Next (s := l3) (x := (y : Int)) (is := is) H (.i (by repeat (first | assumption | constructor))) fun l17 w H => ⟨_, rfl, ?_⟩
    refine code_Reached (s := l3) (is := is) H (by omega) (.i (by repeat (first | assumption | constructor))) fun l20 ys w hys h0 hcl H => ⟨_, rfl, ?_⟩
    have hl17 := H.lenO (s := l17) (.t .h)
    have hl20 := H.lenO (s := l20) .h
    have hnil := cnext_nil hz hyl
    have hself := cnext_self hyl
    have hlen2 := cnext_length is y
    have hrng := fun n => cnext_rng (l := is) (x := y) (y := n)
    have hclo := hcl y
    generalize cnext is y = nx at *
    intro J22 hJ22
    have rdo : ∀ {w : World} {r : List SP} {K : Int → Prop}, Heap F w (own T_bool l20 ys :: own T_int l17 nx :: r) → Has r (imm l3 is) → K (is[y].op.toNat : Int) → idx l3.a l3.len y 4 fun a => ldT (.int .u8) w a K := fun {w r K} H hr h =>
      rdIns (s := l3) (is := is) H (.t (.t hr)) hyl rfl fun a hA => by
        unfold Ins.cs at hA
        exact hA.ld0 h
    have rdb : ∀ {w : World} {r : List SP} {z : Int} {K : Bool → Prop}, Heap F w (own T_bool l20 ys :: own T_int l17 nx :: r) → 0 ≤ z ∧ z < is.length → (∀ b, (b = true ↔ mkd ys z) → K b) → idx l20.a l20.len z 1 fun a => ldT .bool w a K := fun {w r z K} H hz h =>
      idxO1 (s := l20) (xs := ys) H (by omega) (by omega) (fun ad ha => ldT_cell _ ha (h _ (by
        unfold mkd
        rw [List.getElem?_eq_getElem (by omega)]
        simp only [Option.some.injEq]
        exact ⟨fun e => ⟨hz.1, e⟩, fun e => e.2⟩))) .h
    refine rdo H (by repeat (first | assumption | constructor)) ?_
    have hb : ((((l17.len : Nat) : Int)) == 0) = ((is[y].op.toNat : Int) == 0) := by
      by_cases o : is[y].op.toNat = 0
      · have := hnil.2 o
        rw [show ((is[y].op.toNat : Int) == 0) = true by simp [o], show ((l17.len : Int) == 0) = true by simp; omega]
      · have : ¬ nx.length = 0 := fun h => o (hnil.1 h)
        rw [show ((is[y].op.toNat : Int) == 0) = false by simp [o], show ((l17.len : Int) == 0) = false by simp; omega]
    refine cF (by rw [hb]; simp) ?_
    refine dF (by omega) ?_
    refine dNe (fun h => absurd h (by omega)) (fun _ => ?_)
    refine rdb H (by omega) fun b hb => ?_
    rw [hb.2 (h0 h1.1)]
    refine cF rfl (hJ22 _ ?_)
    clear hJ22 hb
    refine ⟨fun i w => ∃ n : Nat, i = (n : Int) ∧ n ≤ nx.length ∧ Heap F w (own T_bool l20 ys :: own T_int l17 nx :: Err v6 [] :: imm l3 is :: l), fun i _ => nx.length - i.toNat, ⟨0, rfl, Nat.zero_le _, H⟩, ?_⟩
    clear H
    rintro i w ⟨n, rfl, hn, H⟩
    refine dLt (fun hlt => ?_) (fun hge => law07_awake H (by repeat (first | exact hT | apply Has.t)) fun w H => ⟨_, rfl, k w (H.tln 4)⟩)
    have hlt' : n < nx.length := by omega
    intro J28 hJ28
    have hmem : nx[n] ∈ nx := List.getElem_mem _
    have next : J28 w := by
      refine hJ28 _ ?_
      rw [i64_id (by omega)]
      exact ⟨⟨n + 1, by omega, by omega, H⟩, by dsimp only; omega⟩
    clear hJ28
    have rdn : ∀ {K : Int → Prop}, K nx[n] → idx l17.a l17.len (n : Int) 1 fun a => ldT (.int .i64) w a K := fun {K} h =>
      idxO1 (s := l17) (xs := nx) H (by omega) (by omega) (fun ad ha => ldT_cell _ ha (by simpa using h)) (by repeat (first | assumption | constructor))
    generalize nx[n] = z at hmem rdn
    have hzr := hrng z hmem
    have self : cond ((z : Int) == (y : Int)) (idx l3.a l3.len y 4 fun a => ldT (.int .u8) w a fun x48 => cond ((x48 : Int) != 15) (idx l3.a l3.len y 4 fun a => ldT (.int .u8) w a fun x50 => cond ((x50 : Int) != 16) (Q (.bool false) w) (J28 w)) (J28 w)) (J28 w) := by
      refine dEq (fun e => ?_) (fun _ => next)
      subst e
      have := hself hmem
      refine rdo H (by repeat (first | assumption | constructor)) (dNe (fun e => rdo H (by repeat (first | assumption | constructor)) (dNe (fun e2 => absurd this (by omega)) (fun _ => next))) (fun _ => next))
    refine rdn (dLt (fun e => absurd e (by omega)) fun _ => rdn (dGe (fun e => absurd e (by omega)) fun _ => ?_))
    refine rdb H (by omega) fun b hb => ?_
    cases b with
    | true =>
      refine cT rfl (rdn (rdb H hzr fun b2 hb2 => ?_))
      rw [hb2.2 (hclo (hb.1 rfl) z hmem)]
      exact cF rfl (rdn self)
    | false => exact cF rfl (rdn self)
  refine dLt (fun e => ?_) (fun e => go x (by omega))
  rw [i64_id (n := x + 1) (by omega), i64_id (by omega)]
  exact go _ (by omega)
end
end Go.Proofs.YtomoejbamegpoaaDoor.G
