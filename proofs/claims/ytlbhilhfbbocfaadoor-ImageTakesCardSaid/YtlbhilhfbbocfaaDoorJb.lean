import Derived.Test.YtlbhilhfbbocfaaDoorJa
set_option linter.unusedVariables false
set_option linter.unusedSimpArgs false
namespace Go.VC
open Go Go.RowKit
theorem dEq {a b : Int} {A B : Prop} (h : a = b → A) (k : ¬ a = b → B) : cond (a == b) A B := by
  by_cases e : a = b
  · rw [show (a == b) = true by simp [e]]; exact h e
  · rw [show (a == b) = false by simp [e]]; exact k e
theorem dNe {a b : Int} {A B : Prop} (h : ¬ a = b → A) (k : a = b → B) : cond (a != b) A B := by
  by_cases e : a = b
  · rw [show (a != b) = false by simp [e]]; exact k e
  · rw [show (a != b) = true by simp [e]]; exact h e
theorem dNotLt {a b : Int} {A B : Prop} (h : ¬ a < b → A) (k : a < b → B) : cond (!decide (a < b)) A B := by
  by_cases e : a < b
  · rw [decide_eq_true e]; exact k e
  · rw [decide_eq_false e]; exact h e
theorem or16 (a b : UInt16) : bits .or .u16 (a.toNat : Int) (b.toNat : Int) = ((a ||| b).toNat : Int) := by
  show IntKind.wrap .u16 (((BitVec.ofInt 16 (a.toNat : Int) ||| BitVec.ofInt 16 (b.toNat : Int)).toNat : Nat) : Int) = _
  have h : ∀ x : UInt16, BitVec.ofInt 16 (x.toNat : Int) = x.toBitVec := fun x => by
    apply BitVec.eq_of_toNat_eq
    have := x.toNat_lt
    rw [BitVec.toNat_ofInt]
    show ((x.toNat : Int) % (2 ^ 16 : Nat)).toNat = x.toNat
    omega
  rw [h, h, ← UInt16.toBitVec_or]
  have := (a ||| b).toNat_lt
  show ((a ||| b).toNat : Int) % 65536 = _
  omega
theorem n16_bits (b c : UInt8) : bits .or .u16 (IntKind.wrap .u16 (b.toNat : Int)) (IntKind.wrap .u16 ((IntKind.wrap .u16 (c.toNat : Int)) * 2 ^ (min (Int.toNat 8) (IntKind.bits .u16)))) = (b.toNat : Int) + 256 * (c.toNat : Int) := by
  have hb := b.toNat_lt
  have hc := c.toNat_lt
  have e1 : IntKind.wrap .u16 (b.toNat : Int) = ((b.toUInt16).toNat : Int) := by
    show (b.toNat : Int) % 65536 = _
    rw [UInt8.toNat_toUInt16]; omega
  have e2 : IntKind.wrap .u16 ((IntKind.wrap .u16 (c.toNat : Int)) * 2 ^ (min (Int.toNat 8) (IntKind.bits .u16))) = ((c.toUInt16 <<< 8).toNat : Int) := by
    show (((c.toNat : Int) % 65536) * 2 ^ 8) % 65536 = _
    rw [UInt16.toNat_shiftLeft, UInt8.toNat_toUInt16, show (8 : UInt16).toNat % 16 = 8 from rfl, Nat.shiftLeft_eq]
    omega
  rw [e1, e2, or16, UInt16.toNat_or, UInt16.toNat_shiftLeft, UInt8.toNat_toUInt16, UInt8.toNat_toUInt16, show (8 : UInt16).toNat % 16 = 8 from rfl, Nat.shiftLeft_eq, show c.toNat * 2 ^ 8 % 2 ^ 16 = 2 ^ 8 * c.toNat by omega, Nat.or_comm, ← Nat.two_pow_add_eq_or_of_lt (by omega)]
  omega
end Go.VC
namespace Go.Proofs.YtlbhilhfbbocfaaDoor.G
open Go Go.VC Go.RowKit Go.Proofs Go.Proofs.YtlbhilhfbbocfaaDoor Nac
attribute [local irreducible] Tryd.prog
section
variable {F : Bs} {w : World} {l r : List SP} {Q : Value → World → Prop} {s t : Sl} {is : List Ins} {bb : List UInt8}
theorem code_formed (H : Heap F w l) (i : Ins) (k : ∀ w', Heap F w' l → Q (.bool (decide i.form)) w') : Does Tryd.prog N_code_formed #[i.v] w Q := by
  refine F_code_formed_does _ _ _ _ _ _ ?_
  unfold F_code_formed
  refine al H (cs := i.cs) (fun a w H => ?_) rfl
  unfold Ins.cs at H
  replace H := H.drew
  have finD : ∀ (p : Prop) [Decidable p], (p ↔ i.form) → Q (.bool (decide p)) w.drew := fun p _ h => (decide_eq_decide.mpr h) ▸ k _ H.tl
  have finT : i.form → Q (.bool true) w.drew := fun h => decide_eq_true h ▸ k _ H.tl
  have finF : ¬ i.form → Q (.bool false) w.drew := fun h => decide_eq_false h ▸ k _ H.tl
  have finE : ∀ {x y : Int}, (x = y ↔ i.form) → Q (.bool (x == y)) w.drew := fun {x y} h => by
    by_cases e : x = y
    · rw [show (x == y) = true by simp [e]]; exact finT (h.mp e)
    · rw [show (x == y) = false by simp [e]]; exact finF (fun g => e (h.mpr g))
  unfold Ins.form at finD finT finF finE
  clear k
  have h0 := i.op.toNat_lt
  refine lda H (lda H (lda H ?_))
  intro J7 hJ7
  refine ld0 H ?_
  intro J12 hJ12 J14 hJ14
  have h7 : (¬ (i.op.toNat = 0 ∨ i.op.toNat = 1 ∨ i.op.toNat = 2 ∨ 12 < i.op.toNat ∧ i.op.toNat < 18)) → J7 w.drew := fun h => by
    refine hJ7 _ (ld0 H ?_)
    refine dGe (fun e1 => ld0 H ?_) (fun e1 => finF (by omega))
    refine dLe (fun e2 => ?_) (fun e2 => finF (by omega))
    refine dLt (fun e3 => ?_) (fun e3 => finF (by omega))
    refine dLt (fun e4 => finD ((i.c.toNat : Int) < 8) (by omega)) (fun e4 => finF (by omega))
  have h12 : (i.op.toNat = 13 ∨ i.op.toNat = 14 ∨ i.op.toNat = 2 ∧ i.c.toNat = 0) → J12 w.drew := fun h => by
    refine hJ12 _ (dNotLt (fun e1 => finF (by omega)) (fun e1 => finD ((i.a.toNat : Int) < 8) (by omega)))
  have h14 : (i.op.toNat = 15 ∨ i.op.toNat = 0 ∧ i.b.toNat = 0 ∧ i.c.toNat = 0) → J14 w.drew := fun h => by
    refine hJ14 _ (lda H (finE (x := (i.a.toNat : Int)) (y := 0) (by omega)))
  clear hJ7 hJ12 hJ14
  refine dEq (fun o0 => lda H ?_) (fun o0 => ?_)
  · refine dNe (fun e1 => finF (by omega)) (fun e1 => lda H ?_)
    refine dNe (fun e2 => finF (by omega)) (fun e2 => h14 (by omega))
  refine dEq (fun o1 => h14 (by omega)) (fun o1 => ?_)
  refine dEq (fun o2 => lda H ?_) (fun o2 => ?_)
  · refine dLt (fun e1 => lda H ?_) (fun e1 => finF (by omega))
    refine dEq (fun e2 => lda H (finE (x := (i.c.toNat : Int)) (y := 0) (by omega))) (fun e2 => finF (by omega))
  refine dEq (fun o3 => lda H ?_) (fun o3 => ?_)
  · refine dNe (fun e1 => finF (by omega)) (fun e1 => h12 (by omega))
  intro J23 hJ23
  have h23 : ¬ ((i.op.toNat : Int) = 13 ∨ (i.op.toNat : Int) = 14) → J23 w.drew := fun h => by
    refine hJ23 _ ?_
    refine dEq (fun o4 => ?_) (fun o4 => ?_)
    · refine dEq (fun _ => finD ((i.a.toNat : Int) < 8) (by omega)) (fun e => absurd o4 e)
    · refine dEq (fun o5 => finD ((i.a.toNat : Int) < 8) (by omega)) (fun o5 => h7 (by omega))
  refine dEq (fun o4 => ?_) (fun o4 => ?_)
  · exact dEq (fun _ => h12 (by omega)) (fun e => absurd o4 e)
  · exact dEq (fun _ => h12 (by omega)) (fun e => h23 (by omega))
theorem ref07_Formed (H : Heap F w l) (i : Ins) (k : ∀ w', Heap F w' l → Q (.bool (decide i.form)) w') : Does Tryd.prog N_ref07_Formed #[i.v] w Q := by
  refine F_ref07_Formed_does _ _ _ _ _ _ ?_
  unfold F_ref07_Formed
  refine al H (cs := i.cs) (fun a w H => ?_) rfl
  unfold Ins.cs at H
  replace H := H.drew
  have finD : ∀ (p : Prop) [Decidable p], (p ↔ i.form) → Q (.bool (decide p)) w.drew := fun p _ h => (decide_eq_decide.mpr h) ▸ k _ H.tl
  have finT : i.form → Q (.bool true) w.drew := fun h => decide_eq_true h ▸ k _ H.tl
  have finF : ¬ i.form → Q (.bool false) w.drew := fun h => decide_eq_false h ▸ k _ H.tl
  have finE : ∀ {x y : Int}, (x = y ↔ i.form) → Q (.bool (x == y)) w.drew := fun {x y} h => by
    by_cases e : x = y
    · rw [show (x == y) = true by simp [e]]; exact finT (h.mp e)
    · rw [show (x == y) = false by simp [e]]; exact finF (fun g => e (h.mpr g))
  unfold Ins.form at finD finT finF finE
  clear k
  have h0 := i.op.toNat_lt
  refine lda H (lda H (lda H (ld0 H ?_)))
  refine dEq (fun o0 => lda H ?_) (fun o0 => ?_)
  · refine dEq (fun e1 => lda H ?_) (fun e1 => finF (by omega))
    refine dEq (fun e2 => lda H (finE (x := (i.c.toNat : Int)) (y := 0) (by omega))) (fun e2 => finF (by omega))
  intro J11 hJ11
  refine ld0 H ?_
  refine dEq (fun o1 => finD ((i.a.toNat : Int) < 8) (by omega)) (fun o1 => ld0 H ?_)
  refine dEq (fun o2 => finD ((i.a.toNat : Int) < 8) (by omega)) (fun o2 => hJ11 _ (ld0 H ?_))
  refine dEq (fun o3 => ?_) (fun o3 => ?_)
  · refine dLt (fun e1 => ?_) (fun e1 => finF (by omega))
    refine dLt (fun e2 => lda H (finE (x := (i.c.toNat : Int)) (y := 0) (by omega))) (fun e2 => finF (by omega))
  intro J15 hJ15 J31 hJ31
  have h15 : ¬ (3 ≤ (i.op.toNat : Int) ∧ (i.op.toNat : Int) ≤ 12) → J15 w.drew := fun h => by
    refine hJ15 _ ?_
    intro J17 hJ17 J26 hJ26
    have h17 : ¬ ((i.op.toNat : Int) = 13 ∨ (i.op.toNat : Int) = 14) → J17 w.drew := fun g => by
      refine hJ17 _ (ld0 H ?_)
      refine dEq (fun o4 => lda H (finE (x := (i.a.toNat : Int)) (y := 0) (by omega))) (fun o4 => ld0 H ?_)
      refine dEq (fun o5 => lda H ?_) (fun o5 => finF (by omega))
      refine dLt (fun e2 => lda H ?_) (fun e2 => finF (by omega))
      refine dEq (fun e2 => lda H (finE (x := (i.c.toNat : Int)) (y := 0) (by omega))) (fun e2 => finF (by omega))
    have h26 : ((i.op.toNat : Int) = 13 ∨ (i.op.toNat : Int) = 14) → J26 true w.drew := fun g => by
      refine hJ26 _ _ (cT rfl ?_)
      exact dLt (fun e2 => finD ((i.b.toNat : Int) < 8) (by omega)) (fun e2 => finF (by omega))
    refine ld0 H ?_
    refine dEq (fun e => h26 (.inl e)) (fun e => ld0 H ?_)
    by_cases e1 : (i.op.toNat : Int) = 14
    · rw [show ((i.op.toNat : Int) == 14) = true by simp [e1]]; exact h26 (.inr e1)
    · rw [show ((i.op.toNat : Int) == 14) = false by simp [e1]]; exact hJ26 _ _ (cF rfl (h17 (by omega)))
  refine ld0 H ?_
  refine dGe (fun e1 => ld0 H ?_) (fun e1 => hJ31 _ _ (cF rfl (h15 (by omega))))
  by_cases e2 : (i.op.toNat : Int) ≤ 12
  · rw [decide_eq_true e2]
    refine hJ31 _ _ (cT rfl ?_)
    refine dLt (fun e3 => ?_) (fun e2 => finF (by omega))
    exact dLt (fun e3 => finD ((i.c.toNat : Int) < 8) (by omega)) (fun e2 => finF (by omega))
  · rw [decide_eq_false e2]; exact hJ31 _ _ (cF rfl (h15 (by omega)))
theorem code_jumps (H : Heap F w l) (i : Ins) (k : ∀ w', Heap F w' l → Q (.bool (decide i.jmp)) w') : Does Tryd.prog N_code_jumps #[i.v] w Q := by
  refine F_code_jumps_does _ _ _ _ _ _ ?_
  unfold F_code_jumps
  refine al H (cs := i.cs) (fun a w H => ?_) rfl
  unfold Ins.cs at H
  refine ld0 H ?_
  have finT : i.jmp → Q (.bool true) w := fun h => decide_eq_true h ▸ k _ H.tl
  have finF : ¬ i.jmp → Q (.bool false) w := fun h => decide_eq_false h ▸ k _ H.tl
  unfold Ins.jmp at finT finF
  refine dEq (fun e => finT (by omega)) (fun e => ld0 H ?_)
  by_cases e1 : (i.op.toNat : Int) = 16
  · rw [show ((i.op.toNat : Int) == 16) = true by simp [e1]]; exact finT (by omega)
  · rw [show ((i.op.toNat : Int) == 16) = false by simp [e1]]; exact finF (by omega)
theorem code_Number (H : Heap F w l) (i : Ins) (k : ∀ w', Heap F w' l → Q (.int .i64 i.num) w') : Does Tryd.prog N_code_Number #[i.v] w Q := by
  refine F_code_Number_does _ _ _ _ _ _ ?_
  unfold F_code_Number
  refine al H (cs := i.cs) (fun a w H => ?_) rfl
  unfold Ins.cs at H
  refine lda H (lda H ⟨by decide, ld0 H ?_⟩)
  rw [n16_bits]
  have h := i.n16_rng
  change 0 ≤ (i.b.toNat : Int) + 256 * (i.c.toNat : Int) ∧ (i.b.toNat : Int) + 256 * (i.c.toNat : Int) ≤ 65535 at h
  have hk := k _ H.tl
  unfold Ins.num Ins.n16 at hk
  refine dEq (fun e => ?_) (fun e => ?_)
  · have e2 : IntKind.wrap .i64 (IntKind.wrap .i16 ((i.b.toNat : Int) + 256 * (i.c.toNat : Int))) = if i.op.toNat = 1 ∧ 32768 ≤ (i.b.toNat : Int) + 256 * (i.c.toNat : Int) then (i.b.toNat : Int) + 256 * (i.c.toNat : Int) - 65536 else (i.b.toNat : Int) + 256 * (i.c.toNat : Int) := by
      generalize (i.b.toNat : Int) + 256 * (i.c.toNat : Int) = n at h ⊢
      have e3 : IntKind.wrap .i16 n = if 32768 ≤ n then n - 65536 else n := by
        show (if (true && decide (n % 65536 ≥ 32768)) = true then n % 65536 - 65536 else n % 65536) = _
        rw [Int.emod_eq_of_lt (by omega) (by omega), Bool.true_and]
        by_cases e5 : 32768 ≤ n
        · rw [if_pos e5, if_pos (by exact decide_eq_true e5)]
        · rw [if_neg e5, if_neg (by simpa using e5)]
      rw [e3, i64_id (by split <;> omega)]
      split <;> split <;> omega
    rw [e2]; exact hk
  · rw [i64_id (by omega)]
    rw [if_neg (by omega)] at hk
    exact hk
theorem ref07_Number (H : Heap F w l) (i : Ins) (k : ∀ w', Heap F w' l → Q (.int .i64 i.num) w') : Does Tryd.prog N_ref07_Number #[i.v] w Q := by
  refine F_ref07_Number_does _ _ _ _ _ _ ?_
  unfold F_ref07_Number
  refine al H (cs := i.cs) (fun a w H => ?_) rfl
  unfold Ins.cs at H
  have hb := i.b.toNat_lt
  have hc := i.c.toNat_lt
  refine lda H (lda H ?_)
  rw [i64_id (n := (i.b.toNat : Int)) (by omega), i64_id (n := (i.c.toNat : Int)) (by omega), i64_id (n := 256 * (i.c.toNat : Int)) (by omega), i64_id (n := (i.b.toNat : Int) + 256 * (i.c.toNat : Int)) (by omega), i64_id (n := (i.b.toNat : Int) + 256 * (i.c.toNat : Int) - 65536) (by omega)]
  have hk := k _ H.tl
  unfold Ins.num Ins.n16 at hk
  intro J hJ
  refine ld0 H ?_
  refine dEq (fun e => ?_) (fun e => hJ _ _ (cF rfl ?_))
  · by_cases e2 : 32768 ≤ (i.b.toNat : Int) + 256 * (i.c.toNat : Int)
    · rw [decide_eq_true (show (i.b.toNat : Int) + 256 * (i.c.toNat : Int) ≥ 32768 from e2)]
      rw [if_pos (by omega)] at hk
      exact hJ _ _ (cT rfl hk)
    · rw [decide_eq_false (show ¬ (i.b.toNat : Int) + 256 * (i.c.toNat : Int) ≥ 32768 from e2)]
      rw [if_neg (by omega)] at hk
      exact hJ _ _ (cF rfl hk)
  · rw [if_neg (by omega)] at hk
    exact hk
end
end Go.Proofs.YtlbhilhfbbocfaaDoor.G

set_option linter.unusedVariables false
set_option linter.unusedSimpArgs false
namespace Nac
namespace Ins
theorem bad_form {i : Ins} {n : Nat} (h : ¬ i.form) : i.bad n = 3 := if_pos h
theorem bad_num {i : Ins} {n : Nat} (h : i.form) (g : i.jmp ∧ (n : Int) ≤ i.num) : i.bad n = 4 := by rw [bad, if_neg (by simpa using h), if_pos g]
theorem bad_none {i : Ins} {n : Nat} (h : i.form) (g : ¬ (i.jmp ∧ (n : Int) ≤ i.num)) : i.bad n = 0 := by rw [bad, if_neg (by simpa using h), if_neg g]
theorem bad_zero {i : Ins} {n : Nat} (h : i.bad n = 0) : i.form ∧ ¬ (i.jmp ∧ (n : Int) ≤ i.num) := by
  unfold bad at h
  split at h
  · cases h
  · split at h
    · cases h
    · exact ⟨by simpa using ‹¬ ¬ i.form›, by assumption⟩
end Ins
end Nac
namespace Go.Proofs.YtlbhilhfbbocfaaDoor.G
open Go Go.VC Go.RowKit Go.Proofs Go.Proofs.YtlbhilhfbbocfaaDoor Nac
theorem flatI : FlatT Tryd.prog T_api_Instr := ⟨by kernel_rfl, by kernel_rfl, by kernel_rfl⟩
theorem flatI_eq (a1 a2 a3 a4 b1 b2 b3 b4 : Int) : eqFlat Tryd.prog #[.int .u8 a1, .int .u8 a2, .int .u8 a3, .int .u8 a4] #[.int .u8 b1, .int .u8 b2, .int .u8 b3, .int .u8 b4] (Tryd.prog.fieldsOf T_api_Instr).toList =
    some (cond (a1 == b1) (cond (a2 == b2) (cond (a3 == b3) (cond (a4 == b4) true false) false) false) false) := by kernel_rfl
theorem insEq (i j : Ins) : eqFlat Tryd.prog #[.int .u8 (i.op.toNat : Int), .int .u8 (i.a.toNat : Int), .int .u8 (i.b.toNat : Int), .int .u8 (i.c.toNat : Int)] #[.int .u8 (j.op.toNat : Int), .int .u8 (j.a.toNat : Int), .int .u8 (j.b.toNat : Int), .int .u8 (j.c.toNat : Int)] (Tryd.prog.fieldsOf T_api_Instr).toList = some (decide (i = j)) := by
  refine (flatI_eq _ _ _ _ _ _ _ _).trans ?_
  congr 1
  obtain ⟨a1, a2, a3, a4⟩ := i
  obtain ⟨b1, b2, b3, b4⟩ := j
  simp only [Ins.mk.injEq]
  have e : ∀ a b : UInt8, ((a.toNat : Int) == (b.toNat : Int)) = decide (a = b) := fun a b => by
    by_cases h : a = b
    · simp [h]
    · have : ¬ a.toNat = b.toNat := fun g => h (UInt8.toNat_inj.1 g)
      simp [h]; omega
  rw [e, e, e, e]
  by_cases h1 : a1 = b1 <;> by_cases h2 : a2 = b2 <;> by_cases h3 : a3 = b3 <;> by_cases h4 : a4 = b4 <;> simp [h1, h2, h3, h4]
attribute [local irreducible] Tryd.prog
section
variable {F : Bs} {w : World} {l r : List SP} {Q : Value → World → Prop} {s t : Sl} {is js : List Ins} {bb : List UInt8}
theorem ins_of (H : Heap F w l) {cs : List Value} {i : Ins} (hT : Has l (rep cs i)) : cs = i.cs := H.pure hT fun _ _ h => h
theorem code_Check (H : Heap F w l) (hI : Has l (imm s is)) (k : ∀ v w', Heap F w' (Err v (flt (cchk is)) :: l) → Q v w') : Does Tryd.prog N_code_Check #[.slice s.a s.len s.cap] w Q := by
  refine F_code_Check_does _ _ _ ?_
  unfold F_code_Check
  have hl := H.len hI
  have hbnd := H.bndI hI
  intro J2 hJ2 J61 hJ61
  have bad : ¬ (1 ≤ is.length ∧ is.length ≤ 128) → J61 true w := fun h => by
    refine hJ61 _ _ (cT rfl (fault_New H fun v w H => ⟨_, rfl, k _ _ ?_⟩))
    rw [cchk_arg h]; exact H
  refine dEq (fun e => bad (by omega)) (fun e => ?_)
  by_cases e2 : 128 < is.length
  · rw [decide_eq_true (by omega)]; exact bad (by omega)
  rw [decide_eq_false (by omega)]
  refine hJ61 _ _ (cF rfl (hJ2 _ ?_))
  have hg : 1 ≤ is.length ∧ is.length ≤ 128 := by omega
  clear hJ61 hJ2 bad
  refine ⟨fun i w => ∃ n : Nat, i = n ∧ n ≤ is.length ∧ (∀ j (hj : j < n) (hj' : j < is.length), is[j].bad is.length = 0) ∧ Heap F w l, fun i _ => is.length - i.toNat, ⟨0, rfl, Nat.zero_le _, fun j hj => by omega, H⟩, ?_⟩
  rintro x w ⟨n, rfl, hn, hok, H⟩
  refine dBoth (fun hlt => ?_) (fun hge => ?_)
  · have hlt' : n < is.length := by omega
    intro J8 hJ8
    refine idxI (xs := is) H (by omega) (by omega) (fun x cs HR hA => ?_) hI
    have hcs := ins_of HR .h
    simp only [Int.toNat_natCast] at hcs
    generalize hi : is[n] = i at hcs
    have bad3 : ∀ (c : Int) v w', i.bad is.length = c → c ≠ 0 → Heap F w' (Err v [(c, (n : Int))] :: l) → Q v w' := fun c v w' hc h0 H => by
      refine k _ _ ?_
      rw [cchk_at hg hlt' (by rw [hi, hc]; exact h0) (fun j hj => hok j hj (by omega)), hi, hc, flt, if_neg h0]
      exact H
    unfold Ins.cs at hcs
    subst hcs
    refine hA.ld0 (hA.ld (hA.ld (hA.ld ?_)))
    refine al H (fun a2 w H => ?_) zc_api_Instr
    refine st0 H fun w H => sta H fun w H => sta H fun w H => sta H fun w H => ?_
    refine ld0 H (lda H (lda H (lda H ?_)))
    refine code_formed H i fun w H => ⟨_, rfl, ?_⟩
    by_cases hf : i.form
    case neg =>
      rw [decide_eq_false hf]
      exact cT rfl (fault_New H fun v w H => ⟨_, rfl, bad3 3 _ _ (Ins.bad_form hf) (by decide) (Heap.kp 1 H)⟩)
    rw [decide_eq_true hf]
    refine cF rfl ?_
    intro J33 hJ33
    have next : ∀ w, i.bad is.length = 0 → Heap F w (blk a2 T_api_Instr i.cs :: l) → J33 false w := fun w hb H => by
      refine hJ33 _ _ (cF rfl (hJ8 _ ?_))
      rw [i64_id (by omega)]
      refine ⟨⟨n + 1, rfl, hlt', fun j hj hj' => ?_, H.tl⟩, by show is.length - ((n : Int) + 1).toNat < is.length - (n : Int).toNat; omega⟩
      rcases Nat.lt_or_ge j n with q | q
      · exact hok j q hj'
      · obtain rfl : j = n := by omega
        rw [hi]; exact hb
    refine ld0 H (lda H (lda H (lda H ?_)))
    refine code_jumps H i fun w H => ⟨_, rfl, ?_⟩
    by_cases hj : i.jmp
    case neg =>
      rw [decide_eq_false hj]
      exact cF rfl (next _ (Ins.bad_none hf fun h => hj h.1) H)
    rw [decide_eq_true hj]
    refine cT rfl (ld0 H (lda H (lda H (lda H ?_))))
    refine code_Number H i fun w H => ⟨_, rfl, ?_⟩
    by_cases hv : (is.length : Int) ≤ i.num
    · rw [decide_eq_true (by omega)]
      refine hJ33 _ _ (cT rfl (fault_New H fun v w H => ⟨_, rfl, bad3 4 _ _ (Ins.bad_num hf ⟨hj, hv⟩) (by decide) (Heap.kp 1 H)⟩))
    · rw [decide_eq_false (by omega)]
      exact next _ (Ins.bad_none hf fun h => hv h.2) H
  · have hall : ∀ j (hj : j < is.length), is[j].bad is.length = 0 := fun j hj => hok j (by omega) hj
    rw [i64_id (by omega)]
    refine idxI (xs := is) H (by omega) (by omega) (fun x cs HR hA => ?_) hI
    have hcs := ins_of HR .h
    have e1 : ((s.len : Int) - 1).toNat = is.length - 1 := by omega
    simp only [e1] at hcs
    have hk := fun v w' => k v w'
    rw [cchk_last hg hall] at hk
    generalize is[is.length - 1] = i at hcs hk
    unfold Ins.cs at hcs
    subst hcs
    refine hA.ld0 ?_
    intro J55 hJ55
    have fin : ∀ {w}, (i.op.toNat = 0 ∨ i.op.toNat = 15) → Heap F w l → J55 false w := fun h H => hJ55 _ _ (cF rfl (hk _ _ (by rw [if_pos h]; exact err_nil H)))
    refine dNe (fun o1 => ?_) (fun o1 => fin (by omega) H)
    by_cases o2 : (i.op.toNat : Int) = 15
    · rw [show ((i.op.toNat : Int) != 15) = false by simp [o2]]; exact fin (by omega) H
    · rw [show ((i.op.toNat : Int) != 15) = true by simp [o2]]
      refine hJ55 _ _ (cT rfl (fault_New H fun v w H => ⟨_, rfl, hk _ _ ?_⟩))
      rw [if_neg (by omega), flt, if_neg (by simp), show (is.length : Int) = s.len by omega]
      exact H
theorem ref07_Check (H : Heap F w l) (hI : Has l (imm s is)) (k : ∀ w', Heap F w' l → Q (.tuple #[.int .i64 (cchk is).1, .int .i64 (cchk is).2]) w') : Does Tryd.prog N_ref07_Check #[.slice s.a s.len s.cap] w Q := by
  refine F_ref07_Check_does _ _ _ ?_
  unfold F_ref07_Check
  have hl := H.len hI
  have hbnd := H.bndI hI
  intro J2 hJ2
  have bad : ¬ (1 ≤ is.length ∧ is.length ≤ 128) → Q (.tuple #[.int .i64 1, .int .i64 0]) w := fun h => by
    have := k w H; rw [cchk_arg h] at this; exact this
  refine dLt (fun e => bad (by omega)) (fun e => ?_)
  refine dGt (fun e => bad (by omega)) (fun e => hJ2 _ ?_)
  have hg : 1 ≤ is.length ∧ is.length ≤ 128 := by omega
  clear hJ2 bad
  refine ⟨fun i w => ∃ n : Nat, i = n ∧ n ≤ is.length ∧ (∀ j (hj : j < n) (hj' : j < is.length), is[j].bad is.length = 0) ∧ Heap F w l, fun i _ => is.length - i.toNat, ⟨0, rfl, Nat.zero_le _, fun j hj => by omega, H⟩, ?_⟩
  rintro x w ⟨n, rfl, hn, hok, H⟩
  refine dBoth (fun hlt => ?_) (fun hge => ?_)
  · have hlt' : n < is.length := by omega
    intro J8 hJ8
    have bad3 : ∀ (c : Int) w', is[n].bad is.length = c → c ≠ 0 → Heap F w' l → Q (.tuple #[.int .i64 c, .int .i64 n]) w' := fun c w' hc h0 H => by
      have := k _ H
      rw [cchk_at hg hlt' (by rw [hc]; exact h0) (fun j hj => hok j hj (by omega)), hc] at this
      exact this
    have next : ∀ w, is[n].bad is.length = 0 → Heap F w l → J8 w := fun w hb H => by
      refine hJ8 _ ?_
      rw [i64_id (by omega)]
      refine ⟨⟨n + 1, rfl, hlt', fun j hj hj' => ?_, H⟩, by show is.length - ((n : Int) + 1).toNat < is.length - (n : Int).toNat; omega⟩
      rcases Nat.lt_or_ge j n with q | q
      · exact hok j q hj'
      · obtain rfl : j = n := by omega
        exact hb
    have rd : ∀ {w} {K : Addr → Prop}, Heap F w l → (∀ a, At w a is[n].cs → K a) → idx s.a s.len n 4 K := fun {w} {K} H h =>
      idxI (xs := is) H (by omega) (by omega) (fun x cs HR hA => h x (by
        have hcs := ins_of HR .h
        simp only [Int.toNat_natCast] at hcs
        rw [← hcs]; exact hA)) hI
    generalize is[n] = i at bad3 next rd
    unfold Ins.cs at rd
    refine rd H fun a hA => hA.ld0 (hA.ld (hA.ld (hA.ld ?_)))
    refine ref07_Formed H i fun w H => ⟨_, rfl, ?_⟩
    by_cases hf : i.form
    case neg =>
      rw [decide_eq_false hf]
      exact cT rfl (bad3 3 _ (Ins.bad_form hf) (by decide) H)
    rw [decide_eq_true hf]
    refine cF rfl (rd H fun a hA => hA.ld0 ?_)
    have num : i.jmp → (∀ {w}, Heap F w l → Does Tryd.prog N_ref07_Number #[i.v] w fun r24 w25 => ∃ x26 : Int, r24 = .int .i64 x26 ∧ cond (decide ((x26 : Int) ≥ (((s.len : Nat) : Int)))) (Q (.tuple #[.int .i64 4, .int .i64 n]) w25) (J8 w25)) := fun hj w H => by
      refine ref07_Number H i fun w H => ⟨_, rfl, ?_⟩
      exact dGe (fun e => bad3 4 _ (Ins.bad_num hf ⟨hj, by omega⟩) (by decide) H) (fun e => next _ (Ins.bad_none hf fun h => by omega) H)
    refine dEq (fun o1 => rd H fun a hA => hA.ld0 (hA.ld (hA.ld (hA.ld (num (.inl (by omega)) H))))) (fun o1 => rd H fun a hA => hA.ld0 ?_)
    refine dEq (fun o2 => rd H fun a hA => hA.ld0 (hA.ld (hA.ld (hA.ld (num (.inr (by omega)) H))))) (fun o2 => next _ (Ins.bad_none hf fun h => ?_) H)
    have := h.1; unfold Ins.jmp at this; omega
  · have hall : ∀ j (hj : j < is.length), is[j].bad is.length = 0 := fun j hj => hok j (by omega) hj
    rw [i64_id (by omega)]
    have hk := k
    rw [cchk_last hg hall] at hk
    have rd : ∀ {w} {K : Addr → Prop}, Heap F w l → (∀ a, At w a (is[is.length - 1]'(by omega)).cs → K a) → idx s.a s.len ((s.len : Int) - 1) 4 K := fun {w} {K} H h =>
      idxI (xs := is) H (by omega) (by omega) (fun x cs HR hA => h x (by
        have hcs := ins_of HR .h
        have e1 : ((s.len : Int) - 1).toNat = is.length - 1 := by omega
        simp only [e1] at hcs
        rw [← hcs]; exact hA)) hI
    generalize is[is.length - 1] = i at hk rd
    unfold Ins.cs at rd
    have fin : (i.op.toNat = 0 ∨ i.op.toNat = 15) → Q (.tuple #[.int .i64 0, .int .i64 0]) w := fun h => by
      have := hk _ H; rw [if_pos h] at this; exact this
    refine rd H fun a hA => hA.ld0 ?_
    refine dNe (fun o1 => rd H fun a hA => hA.ld0 ?_) (fun o1 => fin (by omega))
    refine dNe (fun o2 => ?_) (fun o2 => fin (by omega))
    have := hk _ H
    rw [if_neg (by omega), show (is.length : Int) = s.len by omega] at this
    exact this
theorem ins_neq (i j : Ins) {x y : Operand} {K : Bool → World → Prop} (k : K (!decide (i = j)) w) :
    runG (.bool) Tryd.prog w (do eqGuard .neq T_api_Instr x y i.v j.v; binOp .neq T_api_Instr i.v j.v) K := flat_neq flatI (insEq i j) k
theorem ins_eql (i j : Ins) {x y : Operand} {K : Bool → World → Prop} (k : K (decide (i = j)) w) :
    runG (.bool) Tryd.prog w (do eqGuard .eql T_api_Instr x y i.v j.v; binOp .eql T_api_Instr i.v j.v) K := flat_eql flatI (insEq i j) k
theorem rdIns (H : Heap F w l) (hI : Has l (imm s is)) {n : Nat} (hn : n < is.length) {x : Int} (hx : x = n) {K : Addr → Prop} (h : ∀ a, At w a is[n].cs → K a) : idx s.a s.len x 4 K := by
  subst hx
  refine idxI (xs := is) H (by omega) (by omega) (fun x cs HR hA => h x ?_) hI
  have hcs := ins_of HR .h
  simp only [Int.toNat_natCast] at hcs
  rw [← hcs]; exact hA
end
end Go.Proofs.YtlbhilhfbbocfaaDoor.G

set_option linter.unusedVariables false
set_option linter.unusedSimpArgs false
namespace Go.Proofs.YtlbhilhfbbocfaaDoor.G
open Go Go.VC Go.RowKit Go.Proofs Go.Proofs.YtlbhilhfbbocfaaDoor Nac
attribute [local irreducible] Tryd.prog
section
variable {F : Bs} {w : World} {l r : List SP} {Q : Value → World → Prop} {s t : Sl} {is js : List Ins} {bb : List UInt8}
theorem code_Decode (H : Heap F w l) (hb : bb.length ≤ 100000) (hI : Has l (imm s bb)) (hT : Has l ErrTy) (k : ∀ t v w', Heap F w' (imm t (if dcd bb = [] then clst bb else []) :: Err v (dcd bb) :: l) → Q (.tuple #[.slice t.a t.len t.cap, v]) w') : Does Tryd.prog N_code_Decode #[.slice s.a s.len s.cap] w Q := by
  refine F_code_Decode_does _ _ _ ?_
  unfold F_code_Decode
  have hl := H.len hI
  refine ⟨by decide, ?_⟩
  have e1 : Int.tmod (s.len : Int) 4 = ((bb.length % 4 : Nat) : Int) := by rw [Int.tmod_eq_emod_of_nonneg (by omega)]; omega
  rw [e1]
  refine dNe (fun h => ⟨by decide, ?_⟩) (fun h => ?_)
  · have e2 : Int.tdiv (s.len : Int) 4 = ((bb.length / 4 : Nat) : Int) := by rw [Int.tdiv_eq_ediv_of_nonneg (by omega)]; omega
    rw [e2, i64_id (by omega)]
    refine fault_New H fun v w H => ⟨_, rfl, k ⟨none, 0, 0⟩ v _ ?_⟩
    have e3 : dcd bb = [(2, ((bb.length / 4 : Nat) : Int))] := if_pos (by omega)
    rw [e3, if_neg (by simp)]
    exact Heap.imm_nil H
  have h4 : bb.length % 4 = 0 := by omega
  refine ⟨fun b4 l5 w => ∃ (rest : List UInt8) (xs : List Ins), rest.length % 4 = 0 ∧ rest.length + 4 * xs.length ≤ bb.length ∧ clst bb = xs ++ clst rest ∧ Heap F w (own T_api_Instr l5 xs :: imm b4 rest :: l), fun b4 _ _ => b4.len,
    ⟨bb, [], h4, by simp, by simp, (H.immDup hI).own_nil T_api_Instr⟩, ?_⟩
  rintro b4 l5 w ⟨rest, xs, hr4, hrl, hcl, H⟩
  have hl4 := H.len (s := b4) (xs := rest) (.t .h)
  refine dGt (fun hgt => ?_) (fun hge => ?_)
  · match rest, hr4, hrl, hcl, H, hl4 with
    | [], _, _, _, _, hl4 => simp at hl4; omega
    | [_], hr4, _, _, _, _ => simp at hr4
    | [_, _], hr4, _, _, _, _ => simp at hr4
    | [_, _, _], hr4, _, _, _, _ => simp at hr4
    | o :: a :: b :: c :: tl, hr4, hrl, hcl, H, hl4 =>
      simp only [List.length_cons] at hl4 hrl hr4
      replace H := H.drew
      refine idxI1 (xs := o :: a :: b :: c :: tl) H (by omega) (by simp only [List.length_cons]; omega) (fun ad ha => ldT_cell _ ha ?_) (.t .h)
      refine idxI1 (xs := o :: a :: b :: c :: tl) H (by omega) (by simp only [List.length_cons]; omega) (fun ad ha => ldT_cell _ ha ?_) (.t .h)
      refine idxI1 (xs := o :: a :: b :: c :: tl) H (by omega) (by simp only [List.length_cons]; omega) (fun ad ha => ldT_cell _ ha ?_) (.t .h)
      refine idxI1 (xs := o :: a :: b :: c :: tl) H (by omega) (by simp only [List.length_cons]; omega) (fun ad ha => ldT_cell _ ha ?_) (.t .h)
      refine al H (cs := (Ins.mk o a b c).cs) (fun a17 w H => ?_) rfl
      replace H : Heap F _ (rep (Ins.mk o a b c).cs (Ins.mk o a b c) :: _) := H.add0 fun _ => rfl
      refine psh (xs := xs) (y := Ins.mk o a b c) (s := l5) (b := a17) S_l_api_Instr H (by omega) fun l19 w H => ?_
      refine slcI (s := b4) (xs := o :: a :: b :: c :: tl) H (by omega) (by omega) (by simp only [List.length_cons]; omega) (fun t H => ?_)
      have e5 : (((o :: a :: b :: c :: tl).drop (4 : Int).toNat).take ((b4.len : Int).toNat - (4 : Int).toNat)) = tl := by
        show (tl).take ((b4.len : Int).toNat - 4) = tl
        exact List.take_of_length_le (by omega)
      rw [e5] at H
      have htl := H.len (s := t) (xs := tl) .h
      refine ⟨⟨tl, xs ++ [Ins.mk o a b c], by omega, by simp only [List.length_append, List.length_cons, List.length_nil]; omega, by rw [hcl, clst, List.append_assoc]; rfl, ?_⟩, by dsimp only; omega⟩
      replace H := H.takes (cs := [own T_api_Instr l19 (xs ++ [Ins.mk o a b c]), imm t tl]) (by repeat (first | assumption | constructor))
      exact Heap.kp2 3 H
  · obtain rfl : rest = [] := List.eq_nil_of_length_eq_zero (by omega)
    simp only [clst, List.append_nil] at hcl
    subst hcl
    have hd : dcd bb = if (cchk (clst bb)).1 = 0 then [] else [((cchk (clst bb)).1, 4 * (cchk (clst bb)).2), cchk (clst bb)] := if_neg (by omega)
    generalize clst bb = is at *
    have hrng := cchk_rng is
    replace H := H.share
    refine code_Check H .h fun v w H => ⟨_, rfl, ?_⟩
    refine err_ne H .h ?_
    have hd2 : flt (cchk is) = if (cchk is).1 = 0 then [] else [cchk is] := rfl
    by_cases h0 : (cchk is).1 = 0
    · rw [if_pos h0] at hd hd2
      rw [hd2] at H ⊢
      refine cF rfl ?_
      obtain rfl : v = .nilIface := by
        rcases err_val H .h with ⟨_, e⟩ | ⟨c, a, t, b, u, e, _⟩
        · exact e
        · cases e
      refine k _ _ _ ?_
      rw [hd, if_pos rfl]
      replace H := H.takes (cs := [imm l5 is, Err .nilIface []]) (by repeat (first | assumption | constructor))
      exact Heap.kp2 1 H
    · rw [if_neg h0] at hd hd2
      rw [hd2] at H ⊢
      refine cT rfl ?_
      refine fault_Path H (by simp) .h (.t (.t (.t hT))) fun p w H => ⟨_, rfl, ?_⟩
      refine idxO1 (s := p) (xs := [(cchk is).2]) H (by omega) (by simp) (fun ad ha => ldT_cell _ ha ?_) .h
      obtain ⟨et, ev, rfl⟩ : ∃ et ev, v = .iface et ev := by
        rcases err_val H (.t .h) with ⟨e, _⟩ | ⟨c, a, t, b, u, _, e, _⟩
        · cases e
        · exact ⟨_, _, e⟩
      have e7 : IntKind.wrap .i64 (4 * (cchk is).2) = 4 * (cchk is).2 := i64_id (by omega)
      show Does Tryd.prog N_fault_In #[_, .int .i64 (IntKind.wrap .i64 (4 * (cchk is).2))] w _
      rw [e7]
      refine fault_In H (.t .h) (.t (.t (.t (.t hT)))) fun v w H => ⟨_, rfl, k ⟨none, 0, 0⟩ v _ ?_⟩
      rw [hd, if_neg (by simp)]
      exact Heap.kp2 4 (Heap.imm_nil H)
theorem ref07_List (H : Heap F w l) (hb : bb.length ≤ 100000) (hI : Has l (imm s bb)) (k : ∀ t w', Heap F w' (own T_api_Instr t (clst bb) :: l) → Q (.slice t.a t.len t.cap) w') : Does Tryd.prog N_ref07_List #[.slice s.a s.len s.cap] w Q := by
  refine F_ref07_List_does _ _ _ ?_
  unfold F_ref07_List
  have hl := H.len hI
  refine ⟨fun l1 x w => ∃ (n : Nat) (xs : List Ins), x = (n : Int) * 4 ∧ 4 * n ≤ bb.length ∧ xs.length = n ∧ clst bb = xs ++ clst (bb.drop (4 * n)) ∧ Heap F w (own T_api_Instr l1 xs :: l), fun _ x _ => bb.length - x.toNat,
    ⟨0, [], by simp, by simp, rfl, by simp, H.own_nil T_api_Instr⟩, ?_⟩
  rintro l1 x w ⟨n, xs, rfl, hn, hxl, hcl, H⟩
  rw [i64_id (by omega)]
  refine dBoth (fun hlt => ?_) (fun hge => ?_)
  · have h3 : 4 * n + 3 < bb.length := by omega
    rw [clst_drop h3] at hcl
    replace H := H.drew
    rw [i64_id (by omega), i64_id (by omega), i64_id (by omega)]
    have rd : ∀ {j : Nat} (hj : 4 * n + j < bb.length) {x : Int} {K : Addr → Prop}, x = (n : Int) * 4 + j → (∀ a, w.drew.cell? a = some (.int .u8 (bb[4 * n + j].toNat : Int)) → K a) → idx s.a s.len x 1 K := fun {j} hj {x} {K} hx h => by
      refine idxI1 (xs := bb) H (by omega) (by omega) (fun a ha => h a ?_) (.t hI)
      have e : x.toNat = 4 * n + j := by omega
      simp only [e] at ha
      exact ha
    refine rd (j := 0) (by omega) (by omega) fun a ha => ldT_cell _ ha ?_
    refine rd (j := 1) (by omega) (by omega) fun a ha => ldT_cell _ ha ?_
    refine rd (j := 2) (by omega) (by omega) fun a ha => ldT_cell _ ha ?_
    refine rd (j := 3) (by omega) (by omega) fun a ha => ldT_cell _ ha ?_
    clear rd
    simp only [Nat.add_zero]
    generalize bb[4 * n] = o at *
    generalize bb[4 * n + 1] = a at *
    generalize bb[4 * n + 2] = b at *
    generalize bb[4 * n + 3] = c at *
    refine al H (cs := (Ins.mk o a b c).cs) (fun a17 w H => ?_) rfl
    replace H : Heap F _ (rep (Ins.mk o a b c).cs (Ins.mk o a b c) :: _) := H.add0 fun _ => rfl
    refine psh (xs := xs) (y := Ins.mk o a b c) (s := l1) (b := a17) S_l_api_Instr H (by omega) fun l19 w H => ?_
    refine ⟨⟨n + 1, xs ++ [Ins.mk o a b c], by omega, by omega, by simp [hxl], by rw [hcl, List.append_assoc]; rfl, ?_⟩, by omega⟩
    exact Heap.kp 2 H
  · rw [clst_short (b := bb.drop (4 * n)) (by rw [List.length_drop]; omega), List.append_nil] at hcl
    rw [← hcl] at H
    exact k _ _ H
theorem code_Encode (H : Heap F w l) (hb : is.length ≤ 100000) (hI : Rd l s is) (k : ∀ t w', Heap F w' (own T_uint8 t (cenc is) :: l) → Q (.slice t.a t.len t.cap) w') : Does Tryd.prog N_code_Encode #[.slice s.a s.len s.cap] w Q := by
  refine F_code_Encode_does _ _ _ ?_
  unfold F_code_Encode
  have hl := H.lenR hI
  refine ⟨fun l1 x w => ∃ (n : Nat), x = (n : Int) ∧ n ≤ is.length ∧ Heap F w (own T_uint8 l1 (cenc (is.take n)) :: l), fun _ x _ => is.length - x.toNat,
    ⟨0, by simp, by simp, H.own_nil T_uint8⟩, ?_⟩
  rintro l1 x w ⟨n, rfl, hn, H⟩
  refine dBoth (fun hlt => ?_) (fun hge => ?_)
  · have hlt' : n < is.length := by omega
    refine idxR_ (xs := is) H (by omega) (by omega) (fun x cs HR hA => ?_) (.t hI)
    have hcs := ins_of HR .h
    simp only [Int.toNat_natCast] at hcs
    have ht : cenc (is.take (n + 1)) = cenc (is.take n) ++ [is[n].op, is[n].a, is[n].b, is[n].c] := by
      rw [List.take_add_one, List.getElem?_eq_getElem hlt', cenc_append]; rfl
    have hlen : (cenc (is.take n)).length ≤ 400000 := by rw [cenc_length, List.length_take]; omega
    generalize is[n] = i at hcs ht
    unfold Ins.cs at hcs
    subst hcs
    refine hA.ld0 (hA.ld (hA.ld (hA.ld ?_)))
    refine al H (fun a2 w H => ?_) zc_api_Instr
    refine st0 H fun w H => sta H fun w H => sta H fun w H => sta H fun w H => ?_
    refine ld0 H (lda H (lda H (lda H ?_)))
    refine al H (cs := [.int .u8 (i.op.toNat : Int), .int .u8 (i.a.toNat : Int), .int .u8 (i.b.toNat : Int), .int .u8 (i.c.toNat : Int)]) (fun a22 w H => ?_) rfl
    refine apB (xs := cenc (is.take n)) [i.op, i.a, i.b, i.c] (s := l1) (b := a22) (n := 4) (m := 4) S_l_uint8 H (by simp only [List.length_cons, List.length_nil]; omega) rfl rfl fun l24 w H => ?_
    rw [← ht] at H
    rw [i64_id (by omega)]
    exact ⟨⟨n + 1, by omega, by omega, Heap.kp 2 H⟩, by dsimp only; omega⟩
  · rw [List.take_of_length_le (by omega)] at H
    exact k _ _ H
end
end Go.Proofs.YtlbhilhfbbocfaaDoor.G
