import Derived.Test.YtlbhilhfbbocfaaDoorGen
set_option linter.unusedVariables false
namespace Go.Proofs.YtlbhilhfbbocfaaDoor.G
open Go Go.VC Go.Proofs Go.Proofs.YtlbhilhfbbocfaaDoor
set_option maxRecDepth 100000
/- nacelle/sha.Sum -/
def F36 (b : Sl) (w : World) (Q : Value → World → Prop) : Prop :=
  allocK w (zc Tryd.prog 23) 23 fun a1 w2 =>
  Does Tryd.prog 53 #[] w2 fun r3 w4 => ∃ p5 : Option Addr, r3 = .pointer (p5) ∧
  Does Tryd.prog 54 #[.pointer (p5), .slice (b.a) (b.len) (b.cap)] w4 fun r6 w7 => r6 = .tuple #[] ∧
  Does Tryd.prog 55 #[.pointer (p5)] w7 fun r8 w9 => ∃ c10 : Array Value, r8 = .agg (c10) ∧
  stArr w9 (a1) (c10) 32 fun w11 =>
  ldArr w11 (a1) 32 fun c12 =>
  Q (.agg (c12)) w11
def A36 : Ann := ⟨[], [], []⟩
theorem F36_eq (b : Sl) (w : World) (Q : Value → World → Prop) : vcFn Tryd.prog A36 Tryd.f36 #[.slice (b.a) (b.len) (b.cap)] w Q = F36 b w Q := by kernel_rfl
theorem F36_does (b : Sl) (w : World) (Q : Value → World → Prop) (hQ : F36 b w Q) : Does Tryd.prog 36 #[.slice (b.a) (b.len) (b.cap)] w Q :=
  vcFn_sound noAsk mixed (A := A36) (by kernel_rfl) Tryd.func36 (Nat.le_of_ble_eq_true (by kernel_rfl)) (by kernel_rfl) ((F36_eq b w Q).mpr hQ)

/- nacelle/sha.New -/
def F53 (w : World) (Q : Value → World → Prop) : Prop :=
  allocK w (#[.int .u32 (1779033703), .int .u32 (3144134277), .int .u32 (1013904242), .int .u32 (2773480762), .int .u32 (1359893119), .int .u32 (2600822924), .int .u32 (528734635), .int .u32 (1541459225), .int .u8 (0), .int .u8 (0), .int .u8 (0), .int .u8 (0), .int .u8 (0), .int .u8 (0), .int .u8 (0), .int .u8 (0), .int .u8 (0), .int .u8 (0), .int .u8 (0), .int .u8 (0), .int .u8 (0), .int .u8 (0), .int .u8 (0), .int .u8 (0), .int .u8 (0), .int .u8 (0), .int .u8 (0), .int .u8 (0), .int .u8 (0), .int .u8 (0), .int .u8 (0), .int .u8 (0), .int .u8 (0), .int .u8 (0), .int .u8 (0), .int .u8 (0), .int .u8 (0), .int .u8 (0), .int .u8 (0), .int .u8 (0), .int .u8 (0), .int .u8 (0), .int .u8 (0), .int .u8 (0), .int .u8 (0), .int .u8 (0), .int .u8 (0), .int .u8 (0), .int .u8 (0), .int .u8 (0), .int .u8 (0), .int .u8 (0), .int .u8 (0), .int .u8 (0), .int .u8 (0), .int .u8 (0), .int .u8 (0), .int .u8 (0), .int .u8 (0), .int .u8 (0), .int .u8 (0), .int .u8 (0), .int .u8 (0), .int .u8 (0), .int .u8 (0), .int .u8 (0), .int .u8 (0), .int .u8 (0), .int .u8 (0), .int .u8 (0), .int .u8 (0), .int .u8 (0), .int .i64 (0)]) 129 fun a1 w2 =>
  Q (.pointer (some (a1))) w2
def A53 : Ann := ⟨[], [], []⟩
theorem F53_eq (w : World) (Q : Value → World → Prop) : vcFn Tryd.prog A53 Tryd.f53 #[] w Q = F53 w Q := by kernel_rfl
theorem F53_does (w : World) (Q : Value → World → Prop) (hQ : F53 w Q) : Does Tryd.prog 53 #[] w Q :=
  vcFn_sound noAsk mixed (A := A53) (by kernel_rfl) Tryd.func53 (Nat.le_of_ble_eq_true (by kernel_rfl)) (by kernel_rfl) ((F53_eq w Q).mpr hQ)

/- (*nacelle/sha.Hash).Write -/
def F54 (h : Option Addr) (b : Sl) (w : World) (Q : Value → World → Prop) : Prop :=
  ∃ (I3 : Sl → World → Prop) (M4 : Sl → World → Nat), I3 ⟨b.a, b.len, b.cap⟩ w ∧
  ∀ b1 : Sl, ∀ w2 : World, I3 b1 w2 →
    cond (decide (((((b1.len : Nat) : Int)) : Int) > 0))
    (nnil (h) fun a5 =>
     nnil (h) fun a6 =>
     ldT (.int .i64) w2.drew ((a6).add 72) fun x7 =>
     (64 : Int) ≠ 0 ∧
     slcA ((a5).add 8) 64 (Int.tmod x7 64) (((64 : Nat) : Int)) 1 fun l8 =>
     runG (.int .i64) Tryd.prog w2.drew (Builtin.copy_ #[26, 26] 3 #[.slice (l8.a) (l8.len) (l8.cap), .slice (b1.a) (b1.len) (b1.cap)]) fun x9 w10 =>
     nnil (h) fun a11 =>
     ldT (.int .i64) w10 ((a11).add 72) fun x12 =>
     nnil (h) fun a13 =>
     stC w10 ((a13).add 72) (.int .i64 (IntKind.wrap .i64 (x12 + x9))) fun w14 =>
     slcT ⟨b1.a, b1.len, b1.cap⟩ (x9) (((b1.len : Nat) : Int)) 1 fun l15 =>
     nnil (h) fun a16 =>
     ldT (.int .i64) w14 ((a16).add 72) fun x17 =>
     (64 : Int) ≠ 0 ∧
     cond (((Int.tmod x17 64) : Int) == 0)
     (nnil (h) fun a18 =>
      ldT (.int .u32) w14.drew (a18) fun x19 => ldT (.int .u32) w14.drew ((a18).add 1) fun x20 => ldT (.int .u32) w14.drew ((a18).add 2) fun x21 => ldT (.int .u32) w14.drew ((a18).add 3) fun x22 => ldT (.int .u32) w14.drew ((a18).add 4) fun x23 => ldT (.int .u32) w14.drew ((a18).add 5) fun x24 => ldT (.int .u32) w14.drew ((a18).add 6) fun x25 => ldT (.int .u32) w14.drew ((a18).add 7) fun x26 =>
      nnil (h) fun a27 =>
      ldArr w14.drew ((a27).add 8) 64 fun c28 =>
      Does Tryd.prog 67 #[.agg #[.int .u32 (x19), .int .u32 (x20), .int .u32 (x21), .int .u32 (x22), .int .u32 (x23), .int .u32 (x24), .int .u32 (x25), .int .u32 (x26)], .agg (c28)] w14.drew fun r29 w30 => ∃ x31 : Int, ∃ x32 : Int, ∃ x33 : Int, ∃ x34 : Int, ∃ x35 : Int, ∃ x36 : Int, ∃ x37 : Int, ∃ x38 : Int, r29 = .agg #[.int .u32 (x31), .int .u32 (x32), .int .u32 (x33), .int .u32 (x34), .int .u32 (x35), .int .u32 (x36), .int .u32 (x37), .int .u32 (x38)] ∧
      nnil (h) fun a39 =>
      stC w30 (a39) (.int .u32 (x31)) fun w41 => stC w41 ((a39).add 1) (.int .u32 (x32)) fun w42 => stC w42 ((a39).add 2) (.int .u32 (x33)) fun w43 => stC w43 ((a39).add 3) (.int .u32 (x34)) fun w44 => stC w44 ((a39).add 4) (.int .u32 (x35)) fun w45 => stC w45 ((a39).add 5) (.int .u32 (x36)) fun w46 => stC w46 ((a39).add 6) (.int .u32 (x37)) fun w47 => stC w47 ((a39).add 7) (.int .u32 (x38)) fun w48 =>
      I3 ⟨l15.a, l15.len, l15.cap⟩ w48 ∧ M4 ⟨l15.a, l15.len, l15.cap⟩ w48 < M4 b1 w2)
     (I3 ⟨l15.a, l15.len, l15.cap⟩ w14 ∧ M4 ⟨l15.a, l15.len, l15.cap⟩ w14 < M4 b1 w2))
    (Q (.tuple #[]) w2)
def A54 : Ann := ⟨[(0, [(1, .one (.sl))])], [], [(1, [⟨0, 0, 0, true⟩, ⟨1, 1, 1, true⟩, ⟨2, 2, 3, true⟩, ⟨0, 0, 0, true⟩, ⟨8, 8, 8, true⟩, ⟨16, 16, 24, true⟩, ⟨32, 32, 56, true⟩, ⟨64, 64, 120, true⟩, ⟨132, 132, 255, true⟩, ⟨0, 0, 0, true⟩, ⟨768, 0, 1023, false⟩, ⟨2047, 1024, 2047, true⟩]), (5, [⟨0, 0, 0, true⟩, ⟨0, 0, 0, true⟩, ⟨2, 2, 2, true⟩, ⟨4, 4, 6, true⟩, ⟨8, 8, 14, true⟩, ⟨0, 0, 0, true⟩, ⟨32, 32, 32, true⟩, ⟨64, 64, 96, true⟩, ⟨128, 128, 224, true⟩, ⟨272, 0, 510, false⟩, ⟨1023, 1, 1023, true⟩, ⟨2047, 1024, 2047, true⟩, ⟨3071, 0, 4095, false⟩])]⟩
theorem F54_eq (h : Option Addr) (b : Sl) (w : World) (Q : Value → World → Prop) : vcFn Tryd.prog A54 Tryd.f54 #[.pointer (h), .slice (b.a) (b.len) (b.cap)] w Q = F54 h b w Q := by kernel_rfl
theorem F54_does (h : Option Addr) (b : Sl) (w : World) (Q : Value → World → Prop) (hQ : F54 h b w Q) : Does Tryd.prog 54 #[.pointer (h), .slice (b.a) (b.len) (b.cap)] w Q :=
  vcFn_sound noAsk mixed (A := A54) (by kernel_rfl) Tryd.func54 (Nat.le_of_ble_eq_true (by kernel_rfl)) (by kernel_rfl) ((F54_eq h b w Q).mpr hQ)

/- (*nacelle/sha.Hash).Sum -/
def F55 (h : Option Addr) (w : World) (Q : Value → World → Prop) : Prop :=
  allocK w (zc Tryd.prog 23) 23 fun a1 w2 =>
  Does Tryd.prog 68 #[.pointer (h)] w2 fun r3 w4 => ∃ p5 : Option Addr, r3 = .pointer (p5) ∧
  allocK w4 #[.int .u8 (128)] 5 fun a6 w7 =>
  Does Tryd.prog 54 #[.pointer (p5), .slice (some (a6)) (1) (1)] w7 fun r8 w9 => r8 = .tuple #[] ∧
  ∃ (I11 : World → Prop) (M12 : World → Nat), I11 w9 ∧
  ∀ w10 : World, I11 w10 →
    nnil (p5) fun a13 =>
    ldT (.int .i64) w10 ((a13).add 72) fun x14 =>
    (64 : Int) ≠ 0 ∧
    cond (((Int.tmod x14 64) : Int) != 56)
    (allocK w10 #[.int .u8 (0)] 5 fun a15 w16 =>
     Does Tryd.prog 54 #[.pointer (p5), .slice (some (a15)) (1) (1)] w16 fun r17 w18 => r17 = .tuple #[] ∧
     I11 w18 ∧ M12 w18 < M12 w10)
    (allocK w10 (zc Tryd.prog 131) 131 fun a19 w20 =>
     ∃ (I23 : Int → World → Prop) (M24 : Int → World → Nat), I23 0 w20 ∧
     ∀ x21 : Int, ∀ w22 : World, I23 x21 w22 →
       cond (decide ((x21 : Int) < 8))
       (nnil (h) fun a25 =>
        ldT (.int .i64) w22 ((a25).add 72) fun x26 =>
        (0 : Int) ≤ (IntKind.wrap .i64 (56 - (IntKind.wrap .i64 (8 * x21)))) ∧
        idxR 8 (x21) (
        stC w22 ((a19).add (Int.toNat (x21) * 1)) (.int .u8 (IntKind.wrap .u8 (Int.fdiv (IntKind.wrap .u64 ((IntKind.wrap .u64 x26) * 8)) (2 ^ (min (Int.toNat ((IntKind.wrap .i64 (56 - (IntKind.wrap .i64 (8 * x21)))))) (IntKind.bits .u64)))))) fun w27 =>
        I23 (IntKind.wrap .i64 (x21 + 1)) w27 ∧ M24 (IntKind.wrap .i64 (x21 + 1)) w27 < M24 x21 w22))
       (slcA (a19) 8 (0) (((8 : Nat) : Int)) 1 fun l28 =>
        Does Tryd.prog 54 #[.pointer (p5), .slice (l28.a) (l28.len) (l28.cap)] w22 fun r29 w30 => r29 = .tuple #[] ∧
        allocK w30 (zc Tryd.prog 23) 23 fun a31 w32 =>
        ∃ (I35 : Int → World → Prop) (M36 : Int → World → Nat), I35 0 w32 ∧
        ∀ x33 : Int, ∀ w34 : World, I35 x33 w34 →
          cond (decide ((x33 : Int) < 32))
          ((4 : Int) ≠ 0 ∧
           nnil (p5) fun a37 =>
           idxR 8 (IntKind.wrap .i64 (Int.tdiv x33 4)) (
           ldT (.int .u32) w34 ((a37).add (Int.toNat (IntKind.wrap .i64 (Int.tdiv x33 4)) * 1)) fun x38 =>
           (4 : Int) ≠ 0 ∧
           (0 : Int) ≤ (IntKind.wrap .i64 (24 - (IntKind.wrap .i64 (8 * (Int.tmod x33 4))))) ∧
           idxR 32 (x33) (
           stC w34 ((a31).add (Int.toNat (x33) * 1)) (.int .u8 (IntKind.wrap .u8 (Int.fdiv x38 (2 ^ (min (Int.toNat ((IntKind.wrap .i64 (24 - (IntKind.wrap .i64 (8 * (Int.tmod x33 4))))))) (IntKind.bits .u32)))))) fun w39 =>
           I35 (IntKind.wrap .i64 (x33 + 1)) w39 ∧ M36 (IntKind.wrap .i64 (x33 + 1)) w39 < M36 x33 w34)))
          (ldArr w34 (a31) 32 fun c40 =>
           stArr w34 (a1) (c40) 32 fun w41 =>
           ldArr w41 (a1) 32 fun c42 =>
           Q (.agg (c42)) w41)))
def A55 : Ann := ⟨[(3, []), (7, [(22, .one (.int .i64))]), (14, [(42, .one (.int .i64))])], [], []⟩
theorem F55_eq (h : Option Addr) (w : World) (Q : Value → World → Prop) : vcFn Tryd.prog A55 Tryd.f55 #[.pointer (h)] w Q = F55 h w Q := by kernel_rfl
theorem F55_does (h : Option Addr) (w : World) (Q : Value → World → Prop) (hQ : F55 h w Q) : Does Tryd.prog 55 #[.pointer (h)] w Q :=
  vcFn_sound noAsk mixed (A := A55) (by kernel_rfl) Tryd.func55 (Nat.le_of_ble_eq_true (by kernel_rfl)) (by kernel_rfl) ((F55_eq h w Q).mpr hQ)

/- (*nacelle/sha.Hash).Copy -/
def F68 (h : Option Addr) (w : World) (Q : Value → World → Prop) : Prop :=
  nnil (h) fun a1 =>
  ldArr w (a1) 73 fun c2 =>
  allocK w (zc Tryd.prog 129) 129 fun a3 w4 =>
  stArr w4 (a3) (c2) 73 fun w5 =>
  Q (.pointer (some (a3))) w5
def A68 : Ann := ⟨[], [], []⟩
theorem F68_eq (h : Option Addr) (w : World) (Q : Value → World → Prop) : vcFn Tryd.prog A68 Tryd.f68 #[.pointer (h)] w Q = F68 h w Q := by kernel_rfl
theorem F68_does (h : Option Addr) (w : World) (Q : Value → World → Prop) (hQ : F68 h w Q) : Does Tryd.prog 68 #[.pointer (h)] w Q :=
  vcFn_sound noAsk mixed (A := A68) (by kernel_rfl) Tryd.func68 (Nat.le_of_ble_eq_true (by kernel_rfl)) (by kernel_rfl) ((F68_eq h w Q).mpr hQ)

/- nacelle/sha.block -/
def F67 (h0 : Int) (h1 : Int) (h2 : Int) (h3 : Int) (h4 : Int) (h5 : Int) (h6 : Int) (h7 : Int) (b : Array Value) (w : World) (Q : Value → World → Prop) : Prop :=
  allocK w (#[.int .u32 (h0), .int .u32 (h1), .int .u32 (h2), .int .u32 (h3), .int .u32 (h4), .int .u32 (h5), .int .u32 (h6), .int .u32 (h7)]) 88 fun a1 w2 =>
  allocK w2 (b) 127 fun a3 w4 =>
  allocK w4 (zc Tryd.prog 88) 88 fun a5 w6 =>
  allocK w6 (zc Tryd.prog 146) 146 fun a7 w8 =>
  ∃ (I11 : Int → World → Prop) (M12 : Int → World → Nat), I11 0 w8 ∧
  ∀ x9 : Int, ∀ w10 : World, I11 x9 w10 →
    cond (decide ((x9 : Int) < 16))
    (idxR 64 (IntKind.wrap .i64 (4 * x9)) (
     ldT (.int .u8) w10.drew ((a3).add (Int.toNat (IntKind.wrap .i64 (4 * x9)) * 1)) fun x13 =>
     (0 : Int) ≤ 24 ∧
     idxR 64 (IntKind.wrap .i64 ((IntKind.wrap .i64 (4 * x9)) + 1)) (
     ldT (.int .u8) w10.drew ((a3).add (Int.toNat (IntKind.wrap .i64 ((IntKind.wrap .i64 (4 * x9)) + 1)) * 1)) fun x14 =>
     (0 : Int) ≤ 16 ∧
     idxR 64 (IntKind.wrap .i64 ((IntKind.wrap .i64 (4 * x9)) + 2)) (
     ldT (.int .u8) w10.drew ((a3).add (Int.toNat (IntKind.wrap .i64 ((IntKind.wrap .i64 (4 * x9)) + 2)) * 1)) fun x15 =>
     (0 : Int) ≤ 8 ∧
     idxR 64 (IntKind.wrap .i64 ((IntKind.wrap .i64 (4 * x9)) + 3)) (
     ldT (.int .u8) w10.drew ((a3).add (Int.toNat (IntKind.wrap .i64 ((IntKind.wrap .i64 (4 * x9)) + 3)) * 1)) fun x16 =>
     idxR 64 (x9) (
     stC w10.drew ((a7).add (Int.toNat (x9) * 1)) (.int .u32 (bits .or .u32 (bits .or .u32 (bits .or .u32 (IntKind.wrap .u32 ((IntKind.wrap .u32 x13) * 2 ^ (min (Int.toNat (24)) (IntKind.bits .u32)))) (IntKind.wrap .u32 ((IntKind.wrap .u32 x14) * 2 ^ (min (Int.toNat (16)) (IntKind.bits .u32))))) (IntKind.wrap .u32 ((IntKind.wrap .u32 x15) * 2 ^ (min (Int.toNat (8)) (IntKind.bits .u32))))) (IntKind.wrap .u32 x16))) fun w17 =>
     I11 (IntKind.wrap .i64 (x9 + 1)) w17 ∧ M12 (IntKind.wrap .i64 (x9 + 1)) w17 < M12 x9 w10))))))
    (∃ (I20 : Int → World → Prop) (M21 : Int → World → Nat), I20 16 w10 ∧
     ∀ i18 : Int, ∀ w19 : World, I20 i18 w19 →
       cond (decide ((i18 : Int) < 64))
       (idxR 64 (IntKind.wrap .i64 (i18 - 15)) (
        ldT (.int .u32) w19.drew ((a7).add (Int.toNat (IntKind.wrap .i64 (i18 - 15)) * 1)) fun x22 =>
        idxR 64 (IntKind.wrap .i64 (i18 - 2)) (
        ldT (.int .u32) w19.drew ((a7).add (Int.toNat (IntKind.wrap .i64 (i18 - 2)) * 1)) fun x23 =>
        idxR 64 (IntKind.wrap .i64 (i18 - 16)) (
        ldT (.int .u32) w19.drew.drew ((a7).add (Int.toNat (IntKind.wrap .i64 (i18 - 16)) * 1)) fun x24 =>
        idxR 64 (IntKind.wrap .i64 (i18 - 7)) (
        ldT (.int .u32) w19.drew.drew ((a7).add (Int.toNat (IntKind.wrap .i64 (i18 - 7)) * 1)) fun x25 =>
        (0 : Int) ≤ 3 ∧
        (0 : Int) ≤ 10 ∧
        Does Tryd.prog 73 #[.int .u32 (x22), .int .i64 (7)] w19.drew.drew fun r26 w27 => ∃ x28 : Int, r26 = .int .u32 (x28) ∧
        w27.cell? ((a7).add (Int.toNat (IntKind.wrap .i64 (i18 - 7)) * 1)) = some (.int .u32 (x25)) ∧ w27.cell? ((a7).add (Int.toNat (IntKind.wrap .i64 (i18 - 16)) * 1)) = some (.int .u32 (x24)) ∧ Does Tryd.prog 73 #[.int .u32 (x22), .int .i64 (18)] w27 fun r29 w30 => ∃ x31 : Int, r29 = .int .u32 (x31) ∧
        w30.cell? ((a7).add (Int.toNat (IntKind.wrap .i64 (i18 - 7)) * 1)) = some (.int .u32 (x25)) ∧ w30.cell? ((a7).add (Int.toNat (IntKind.wrap .i64 (i18 - 16)) * 1)) = some (.int .u32 (x24)) ∧ Does Tryd.prog 73 #[.int .u32 (x23), .int .i64 (17)] w30 fun r32 w33 => ∃ x34 : Int, r32 = .int .u32 (x34) ∧
        w33.cell? ((a7).add (Int.toNat (IntKind.wrap .i64 (i18 - 7)) * 1)) = some (.int .u32 (x25)) ∧ w33.cell? ((a7).add (Int.toNat (IntKind.wrap .i64 (i18 - 16)) * 1)) = some (.int .u32 (x24)) ∧ Does Tryd.prog 73 #[.int .u32 (x23), .int .i64 (19)] w33 fun r35 w36 => ∃ x37 : Int, r35 = .int .u32 (x37) ∧
        w36.cell? ((a7).add (Int.toNat (IntKind.wrap .i64 (i18 - 7)) * 1)) = some (.int .u32 (x25)) ∧ w36.cell? ((a7).add (Int.toNat (IntKind.wrap .i64 (i18 - 16)) * 1)) = some (.int .u32 (x24)) ∧ idxR 64 (i18) (
        stC w36 ((a7).add (Int.toNat (i18) * 1)) (.int .u32 (IntKind.wrap .u32 ((IntKind.wrap .u32 ((IntKind.wrap .u32 (x24 + x25)) + (bits .xor .u32 (bits .xor .u32 x28 x31) (Int.fdiv x22 (2 ^ (min (Int.toNat (3)) (IntKind.bits .u32))))))) + (bits .xor .u32 (bits .xor .u32 x34 x37) (Int.fdiv x23 (2 ^ (min (Int.toNat (10)) (IntKind.bits .u32)))))))) fun w38 =>
        I20 (IntKind.wrap .i64 (i18 + 1)) w38 ∧ M21 (IntKind.wrap .i64 (i18 + 1)) w38 < M21 i18 w19))))))
       (ldT (.int .u32) w19 (a1) fun x39 => ldT (.int .u32) w19 ((a1).add 1) fun x40 => ldT (.int .u32) w19 ((a1).add 2) fun x41 => ldT (.int .u32) w19 ((a1).add 3) fun x42 => ldT (.int .u32) w19 ((a1).add 4) fun x43 => ldT (.int .u32) w19 ((a1).add 5) fun x44 => ldT (.int .u32) w19 ((a1).add 6) fun x45 => ldT (.int .u32) w19 ((a1).add 7) fun x46 =>
        allocK w19 (zc Tryd.prog 88) 88 fun a47 w48 =>
        stC w48 (a47) (.int .u32 (x39)) fun w50 => stC w50 ((a47).add 1) (.int .u32 (x40)) fun w51 => stC w51 ((a47).add 2) (.int .u32 (x41)) fun w52 => stC w52 ((a47).add 3) (.int .u32 (x42)) fun w53 => stC w53 ((a47).add 4) (.int .u32 (x43)) fun w54 => stC w54 ((a47).add 5) (.int .u32 (x44)) fun w55 => stC w55 ((a47).add 6) (.int .u32 (x45)) fun w56 => stC w56 ((a47).add 7) (.int .u32 (x46)) fun w57 =>
        ∃ (I60 : Int → World → Prop) (M61 : Int → World → Nat), I60 0 w57 ∧
        ∀ x58 : Int, ∀ w59 : World, I60 x58 w59 →
          cond (decide ((x58 : Int) < 64))
          (idxR 8 (4) (
           ldT (.int .u32) w59.drew ((a47).add 4) fun x62 =>
           idxR 8 (0) (
           ldT (.int .u32) w59.drew (a47) fun x63 =>
           idxR 8 (7) (
           ldT (.int .u32) w59.drew.drew ((a47).add 7) fun x64 =>
           idxR 8 (5) (
           ldT (.int .u32) w59.drew.drew ((a47).add 5) fun x65 =>
           idxR 8 (6) (
           ldT (.int .u32) w59.drew.drew ((a47).add 6) fun x66 =>
           idxR 64 (x58) (
           ldT (.int .u32) w59.drew.drew (((⟨1, 0, none⟩ : Addr)).add (Int.toNat (x58) * 1)) fun x67 =>
           idxR 64 (x58) (
           ldT (.int .u32) w59.drew.drew ((a7).add (Int.toNat (x58) * 1)) fun x68 =>
           Does Tryd.prog 73 #[.int .u32 (x62), .int .i64 (6)] w59.drew.drew fun r69 w70 => ∃ x71 : Int, r69 = .int .u32 (x71) ∧
           w70.cell? ((a7).add (Int.toNat (x58) * 1)) = some (.int .u32 (x68)) ∧ w70.cell? (((⟨1, 0, none⟩ : Addr)).add (Int.toNat (x58) * 1)) = some (.int .u32 (x67)) ∧ w70.cell? ((a47).add 6) = some (.int .u32 (x66)) ∧ w70.cell? ((a47).add 5) = some (.int .u32 (x65)) ∧ w70.cell? ((a47).add 7) = some (.int .u32 (x64)) ∧ Does Tryd.prog 73 #[.int .u32 (x62), .int .i64 (11)] w70 fun r72 w73 => ∃ x74 : Int, r72 = .int .u32 (x74) ∧
           w73.cell? ((a7).add (Int.toNat (x58) * 1)) = some (.int .u32 (x68)) ∧ w73.cell? (((⟨1, 0, none⟩ : Addr)).add (Int.toNat (x58) * 1)) = some (.int .u32 (x67)) ∧ w73.cell? ((a47).add 6) = some (.int .u32 (x66)) ∧ w73.cell? ((a47).add 5) = some (.int .u32 (x65)) ∧ w73.cell? ((a47).add 7) = some (.int .u32 (x64)) ∧ Does Tryd.prog 73 #[.int .u32 (x62), .int .i64 (25)] w73 fun r75 w76 => ∃ x77 : Int, r75 = .int .u32 (x77) ∧
           w76.cell? ((a7).add (Int.toNat (x58) * 1)) = some (.int .u32 (x68)) ∧ w76.cell? (((⟨1, 0, none⟩ : Addr)).add (Int.toNat (x58) * 1)) = some (.int .u32 (x67)) ∧ w76.cell? ((a47).add 6) = some (.int .u32 (x66)) ∧ w76.cell? ((a47).add 5) = some (.int .u32 (x65)) ∧ w76.cell? ((a47).add 7) = some (.int .u32 (x64)) ∧ idxR 8 (1) (
           ldT (.int .u32) w76.drew ((a47).add 1) fun x78 =>
           idxR 8 (2) (
           ldT (.int .u32) w76.drew ((a47).add 2) fun x79 =>
           idxR 8 (1) (
           ldT (.int .u32) w76.drew ((a47).add 1) fun x80 =>
           idxR 8 (2) (
           ldT (.int .u32) w76.drew ((a47).add 2) fun x81 =>
           Does Tryd.prog 73 #[.int .u32 (x63), .int .i64 (2)] w76.drew fun r82 w83 => ∃ x84 : Int, r82 = .int .u32 (x84) ∧
           w83.cell? ((a47).add 2) = some (.int .u32 (x81)) ∧ w83.cell? ((a47).add 1) = some (.int .u32 (x80)) ∧ w83.cell? ((a47).add 2) = some (.int .u32 (x79)) ∧ w83.cell? ((a47).add 1) = some (.int .u32 (x78)) ∧ Does Tryd.prog 73 #[.int .u32 (x63), .int .i64 (13)] w83 fun r85 w86 => ∃ x87 : Int, r85 = .int .u32 (x87) ∧
           w86.cell? ((a47).add 2) = some (.int .u32 (x81)) ∧ w86.cell? ((a47).add 1) = some (.int .u32 (x80)) ∧ w86.cell? ((a47).add 2) = some (.int .u32 (x79)) ∧ w86.cell? ((a47).add 1) = some (.int .u32 (x78)) ∧ Does Tryd.prog 73 #[.int .u32 (x63), .int .i64 (22)] w86 fun r88 w89 => ∃ x90 : Int, r88 = .int .u32 (x90) ∧
           w89.cell? ((a47).add 2) = some (.int .u32 (x81)) ∧ w89.cell? ((a47).add 1) = some (.int .u32 (x80)) ∧ w89.cell? ((a47).add 2) = some (.int .u32 (x79)) ∧ w89.cell? ((a47).add 1) = some (.int .u32 (x78)) ∧ idxR 8 (1) (
           ldT (.int .u32) w89 ((a47).add 1) fun x91 =>
           idxR 8 (2) (
           ldT (.int .u32) w89 ((a47).add 2) fun x92 =>
           idxR 8 (3) (
           ldT (.int .u32) w89 ((a47).add 3) fun x93 =>
           idxR 8 (5) (
           ldT (.int .u32) w89 ((a47).add 5) fun x94 =>
           idxR 8 (6) (
           ldT (.int .u32) w89 ((a47).add 6) fun x95 =>
           stC w89 (a47) (.int .u32 (IntKind.wrap .u32 ((IntKind.wrap .u32 ((IntKind.wrap .u32 ((IntKind.wrap .u32 ((IntKind.wrap .u32 (x64 + (bits .xor .u32 (bits .xor .u32 x71 x74) x77))) + (bits .xor .u32 (bits .and .u32 x62 x65) (bits .and .u32 (notK .u32 x62) x66)))) + x67)) + x68)) + (IntKind.wrap .u32 ((bits .xor .u32 (bits .xor .u32 x84 x87) x90) + (bits .xor .u32 (bits .xor .u32 (bits .and .u32 x63 x78) (bits .and .u32 x63 x79)) (bits .and .u32 x80 x81))))))) fun w97 => stC w97 ((a47).add 1) (.int .u32 (x63)) fun w98 => stC w98 ((a47).add 2) (.int .u32 (x91)) fun w99 => stC w99 ((a47).add 3) (.int .u32 (x92)) fun w100 => stC w100 ((a47).add 4) (.int .u32 (IntKind.wrap .u32 (x93 + (IntKind.wrap .u32 ((IntKind.wrap .u32 ((IntKind.wrap .u32 ((IntKind.wrap .u32 (x64 + (bits .xor .u32 (bits .xor .u32 x71 x74) x77))) + (bits .xor .u32 (bits .and .u32 x62 x65) (bits .and .u32 (notK .u32 x62) x66)))) + x67)) + x68))))) fun w101 => stC w101 ((a47).add 5) (.int .u32 (x62)) fun w102 => stC w102 ((a47).add 6) (.int .u32 (x94)) fun w103 => stC w103 ((a47).add 7) (.int .u32 (x95)) fun w104 =>
           I60 (IntKind.wrap .i64 (x58 + 1)) w104 ∧ M61 (IntKind.wrap .i64 (x58 + 1)) w104 < M61 x58 w59)))))))))))))))))
          (∃ (I107 : Int → World → Prop) (M108 : Int → World → Nat), I107 0 w59 ∧
           ∀ x105 : Int, ∀ w106 : World, I107 x105 w106 →
             cond (decide ((x105 : Int) < 8))
             (idxR 8 (x105) (
              ldT (.int .u32) w106.drew ((a1).add (Int.toNat (x105) * 1)) fun x109 =>
              idxR 8 (x105) (
              ldT (.int .u32) w106.drew ((a47).add (Int.toNat (x105) * 1)) fun x110 =>
              idxR 8 (x105) (
              stC w106.drew ((a1).add (Int.toNat (x105) * 1)) (.int .u32 (IntKind.wrap .u32 (x109 + x110))) fun w111 =>
              I107 (IntKind.wrap .i64 (x105 + 1)) w111 ∧ M108 (IntKind.wrap .i64 (x105 + 1)) w111 < M108 x105 w106))))
             (ldT (.int .u32) w106 (a1) fun x112 => ldT (.int .u32) w106 ((a1).add 1) fun x113 => ldT (.int .u32) w106 ((a1).add 2) fun x114 => ldT (.int .u32) w106 ((a1).add 3) fun x115 => ldT (.int .u32) w106 ((a1).add 4) fun x116 => ldT (.int .u32) w106 ((a1).add 5) fun x117 => ldT (.int .u32) w106 ((a1).add 6) fun x118 => ldT (.int .u32) w106 ((a1).add 7) fun x119 =>
              stC w106 (a5) (.int .u32 (x112)) fun w121 => stC w121 ((a5).add 1) (.int .u32 (x113)) fun w122 => stC w122 ((a5).add 2) (.int .u32 (x114)) fun w123 => stC w123 ((a5).add 3) (.int .u32 (x115)) fun w124 => stC w124 ((a5).add 4) (.int .u32 (x116)) fun w125 => stC w125 ((a5).add 5) (.int .u32 (x117)) fun w126 => stC w126 ((a5).add 6) (.int .u32 (x118)) fun w127 => stC w127 ((a5).add 7) (.int .u32 (x119)) fun w128 =>
              ldT (.int .u32) w128 (a5) fun x129 => ldT (.int .u32) w128 ((a5).add 1) fun x130 => ldT (.int .u32) w128 ((a5).add 2) fun x131 => ldT (.int .u32) w128 ((a5).add 3) fun x132 => ldT (.int .u32) w128 ((a5).add 4) fun x133 => ldT (.int .u32) w128 ((a5).add 5) fun x134 => ldT (.int .u32) w128 ((a5).add 6) fun x135 => ldT (.int .u32) w128 ((a5).add 7) fun x136 =>
              Q (.agg #[.int .u32 (x129), .int .u32 (x130), .int .u32 (x131), .int .u32 (x132), .int .u32 (x133), .int .u32 (x134), .int .u32 (x135), .int .u32 (x136)]) w128))))
def A67 : Ann := ⟨[(3, [(17, .one (.int .i64))]), (8, [(7, .one (.int .i64))]), (14, [(94, .one (.int .i64))]), (22, [(174, .one (.int .i64))])], [], [(5, [⟨0, 0, 0, true⟩, ⟨0, 0, 0, true⟩, ⟨2, 2, 2, true⟩, ⟨4, 4, 6, true⟩, ⟨8, 8, 14, true⟩, ⟨16, 16, 30, true⟩, ⟨32, 32, 62, true⟩, ⟨0, 0, 0, true⟩, ⟨128, 128, 128, true⟩, ⟨256, 256, 384, true⟩, ⟨512, 512, 896, true⟩, ⟨1024, 1024, 1920, true⟩, ⟨2048, 2048, 3968, true⟩, ⟨4096, 4096, 8064, true⟩, ⟨8256, 8256, 16382, true⟩, ⟨0, 0, 0, true⟩, ⟨32768, 32768, 32768, true⟩, ⟨65536, 65536, 98304, true⟩, ⟨131072, 131072, 229376, true⟩, ⟨262144, 262144, 491520, true⟩, ⟨524288, 524288, 1015808, true⟩, ⟨1048576, 1048576, 2064384, true⟩, ⟨2113536, 2113536, 4194302, true⟩, ⟨0, 0, 0, true⟩, ⟨8388608, 8388608, 8388608, true⟩, ⟨16777216, 16777216, 25165824, true⟩, ⟨33554432, 33554432, 58720256, true⟩, ⟨67108864, 67108864, 125829120, true⟩, ⟨134217728, 134217728, 260046848, true⟩, ⟨272629760, 272629760, 536870910, true⟩, ⟨1073741823, 1, 1073741823, true⟩, ⟨2147483647, 0, 2147483647, false⟩]), (10, [⟨0, 0, 0, true⟩, ⟨1, 1, 1, true⟩, ⟨2, 2, 3, true⟩, ⟨4, 4, 7, true⟩, ⟨0, 0, 0, true⟩, ⟨16, 16, 16, true⟩, ⟨32, 32, 48, true⟩, ⟨64, 64, 112, true⟩, ⟨15, 8, 15, true⟩, ⟨511, 128, 511, true⟩]), (11, [⟨0, 0, 0, true⟩, ⟨0, 0, 0, true⟩, ⟨2, 2, 2, true⟩, ⟨4, 4, 6, true⟩, ⟨8, 8, 14, true⟩, ⟨0, 0, 0, true⟩, ⟨32, 32, 32, true⟩, ⟨64, 64, 96, true⟩, ⟨128, 128, 224, true⟩, ⟨272, 272, 510, true⟩, ⟨0, 0, 0, true⟩, ⟨1024, 0, 1024, false⟩, ⟨0, 0, 0, true⟩, ⟨6144, 0, 7168, false⟩, ⟨10240, 10240, 15360, true⟩, ⟨0, 0, 0, true⟩, ⟨32768, 32768, 32768, true⟩, ⟨81920, 81920, 130048, true⟩, ⟨131584, 131584, 262142, true⟩, ⟨0, 0, 0, true⟩, ⟨532480, 0, 539648, false⟩, ⟨0, 0, 0, true⟩, ⟨3145728, 0, 3685376, false⟩, ⟨5242880, 5242880, 7879680, true⟩, ⟨0, 0, 0, true⟩, ⟨16777216, 16777216, 16777216, true⟩, ⟨41943040, 41943040, 66599936, true⟩, ⟨67371008, 67371008, 134217726, true⟩, ⟨268435455, 1, 268435455, true⟩, ⟨536870911, 0, 536870911, false⟩]), (16, [⟨0, 0, 0, true⟩, ⟨1, 1, 1, true⟩, ⟨0, 0, 0, true⟩, ⟨4, 4, 4, true⟩, ⟨3, 2, 3, true⟩, ⟨31, 8, 31, true⟩]), (17, [⟨0, 0, 0, true⟩, ⟨1, 1, 1, true⟩, ⟨0, 0, 0, true⟩, ⟨4, 0, 4, false⟩, ⟨0, 0, 0, true⟩, ⟨24, 0, 28, false⟩, ⟨40, 40, 60, true⟩, ⟨0, 0, 0, true⟩, ⟨160, 0, 188, false⟩, ⟨320, 320, 508, true⟩, ⟨514, 514, 1023, true⟩, ⟨0, 0, 0, true⟩, ⟨0, 0, 0, true⟩, ⟨4096, 4096, 4096, true⟩, ⟨10240, 10240, 14336, true⟩, ⟨0, 0, 0, true⟩, ⟨32768, 32768, 32768, true⟩, ⟨0, 0, 0, true⟩, ⟨131072, 131072, 131072, true⟩, ⟨327680, 327680, 491520, true⟩, ⟨540672, 540672, 1046528, true⟩, ⟨1049600, 1049600, 2097151, true⟩, ⟨0, 0, 0, true⟩, ⟨4194304, 4194304, 4194304, true⟩, ⟨8388608, 8388608, 12582912, true⟩, ⟨18874368, 18874368, 33554431, true⟩, ⟨0, 0, 0, true⟩, ⟨67108864, 67108864, 67108864, true⟩, ⟨134217728, 134217728, 201326592, true⟩, ⟨301989888, 301989888, 536870911, true⟩, ⟨1073741823, 536870912, 1073741823, true⟩]), (18, [⟨0, 0, 0, true⟩, ⟨1, 0, 1, false⟩, ⟨0, 0, 0, true⟩, ⟨6, 0, 7, false⟩, ⟨10, 10, 15, true⟩, ⟨0, 0, 0, true⟩, ⟨40, 0, 47, false⟩, ⟨80, 80, 127, true⟩, ⟨0, 0, 0, true⟩, ⟨0, 0, 0, true⟩, ⟨512, 512, 512, true⟩, ⟨1280, 1280, 1792, true⟩, ⟨0, 0, 0, true⟩, ⟨0, 0, 0, true⟩, ⟨8192, 8192, 8192, true⟩, ⟨20480, 20480, 28672, true⟩, ⟨34816, 34816, 65280, true⟩, ⟨0, 0, 0, true⟩, ⟨131072, 131072, 131072, true⟩, ⟨0, 0, 0, true⟩, ⟨524288, 524288, 524288, true⟩, ⟨1310720, 1310720, 1966080, true⟩, ⟨2162688, 2162688, 4194048, true⟩, ⟨4194432, 4194432, 8388607, true⟩, ⟨16777215, 8388608, 16777215, true⟩]), (24, [⟨0, 0, 0, true⟩, ⟨1, 1, 1, true⟩, ⟨2, 2, 3, true⟩, ⟨0, 0, 0, true⟩, ⟨8, 8, 8, true⟩, ⟨16, 16, 24, true⟩, ⟨36, 36, 63, true⟩, ⟨127, 1, 127, true⟩, ⟨255, 0, 255, false⟩])]⟩
theorem F67_eq (h0 : Int) (h1 : Int) (h2 : Int) (h3 : Int) (h4 : Int) (h5 : Int) (h6 : Int) (h7 : Int) (b : Array Value) (w : World) (Q : Value → World → Prop) : vcFn Tryd.prog A67 Tryd.f67 #[.agg #[.int .u32 (h0), .int .u32 (h1), .int .u32 (h2), .int .u32 (h3), .int .u32 (h4), .int .u32 (h5), .int .u32 (h6), .int .u32 (h7)], .agg (b)] w Q = F67 h0 h1 h2 h3 h4 h5 h6 h7 b w Q := by kernel_rfl
theorem F67_does (h0 : Int) (h1 : Int) (h2 : Int) (h3 : Int) (h4 : Int) (h5 : Int) (h6 : Int) (h7 : Int) (b : Array Value) (w : World) (Q : Value → World → Prop) (hQ : F67 h0 h1 h2 h3 h4 h5 h6 h7 b w Q) : Does Tryd.prog 67 #[.agg #[.int .u32 (h0), .int .u32 (h1), .int .u32 (h2), .int .u32 (h3), .int .u32 (h4), .int .u32 (h5), .int .u32 (h6), .int .u32 (h7)], .agg (b)] w Q :=
  vcFn_sound noAsk mixed (A := A67) (by kernel_rfl) Tryd.func67 (Nat.le_of_ble_eq_true (by kernel_rfl)) (by kernel_rfl) ((F67_eq h0 h1 h2 h3 h4 h5 h6 h7 b w Q).mpr hQ)

/- nacelle/sha.turn -/
def F73 (x : Int) (n : Int) (w : World) (Q : Value → World → Prop) : Prop :=
  Does Tryd.prog 78 #[.int .u32 (x), .int .i64 (IntKind.wrap .i64 (0 - n))] w fun r1 w2 => ∃ x3 : Int, r1 = .int .u32 (x3) ∧
  Q (.int .u32 (x3)) w2
def A73 : Ann := ⟨[], [], []⟩
theorem F73_eq (x : Int) (n : Int) (w : World) (Q : Value → World → Prop) : vcFn Tryd.prog A73 Tryd.f73 #[.int .u32 (x), .int .i64 (n)] w Q = F73 x n w Q := by kernel_rfl
theorem F73_does (x : Int) (n : Int) (w : World) (Q : Value → World → Prop) (hQ : F73 x n w Q) : Does Tryd.prog 73 #[.int .u32 (x), .int .i64 (n)] w Q :=
  vcFn_sound noAsk mixed (A := A73) (by kernel_rfl) Tryd.func73 (Nat.le_of_ble_eq_true (by kernel_rfl)) (by kernel_rfl) ((F73_eq x n w Q).mpr hQ)

/- math/bits.RotateLeft32 -/
def F78 (x : Int) (k : Int) (w : World) (Q : Value → World → Prop) : Prop :=
  (0 : Int) ≤ (bits .and .u64 (IntKind.wrap .u64 k) 31) ∧
  (0 : Int) ≤ (IntKind.wrap .u64 (32 - (bits .and .u64 (IntKind.wrap .u64 k) 31))) ∧
  Q (.int .u32 (bits .or .u32 (IntKind.wrap .u32 (x * 2 ^ (min (Int.toNat ((bits .and .u64 (IntKind.wrap .u64 k) 31))) (IntKind.bits .u32)))) (Int.fdiv x (2 ^ (min (Int.toNat ((IntKind.wrap .u64 (32 - (bits .and .u64 (IntKind.wrap .u64 k) 31))))) (IntKind.bits .u32)))))) w
def A78 : Ann := ⟨[], [], []⟩
theorem F78_eq (x : Int) (k : Int) (w : World) (Q : Value → World → Prop) : vcFn Tryd.prog A78 Tryd.f78 #[.int .u32 (x), .int .i64 (k)] w Q = F78 x k w Q := by kernel_rfl
theorem F78_does (x : Int) (k : Int) (w : World) (Q : Value → World → Prop) (hQ : F78 x k w Q) : Does Tryd.prog 78 #[.int .u32 (x), .int .i64 (k)] w Q :=
  vcFn_sound noAsk mixed (A := A78) (by kernel_rfl) Tryd.func78 (Nat.le_of_ble_eq_true (by kernel_rfl)) (by kernel_rfl) ((F78_eq x k w Q).mpr hQ)

/- nacelle/nacelleref04.Sum -/
def F27 (b : Sl) (w : World) (Q : Value → World → Prop) : Prop :=
  allocK w (zc Tryd.prog 23) 23 fun a1 w2 =>
  allocK w2 (zc Tryd.prog 88) 88 fun a3 w4 =>
  stC w4 (a3) (.int .u32 (1779033703)) fun w6 => stC w6 ((a3).add 1) (.int .u32 (3144134277)) fun w7 => stC w7 ((a3).add 2) (.int .u32 (1013904242)) fun w8 => stC w8 ((a3).add 3) (.int .u32 (2773480762)) fun w9 => stC w9 ((a3).add 4) (.int .u32 (1359893119)) fun w10 => stC w10 ((a3).add 5) (.int .u32 (2600822924)) fun w11 => stC w11 ((a3).add 6) (.int .u32 (528734635)) fun w12 => stC w12 ((a3).add 7) (.int .u32 (1541459225)) fun w13 =>
  Does Tryd.prog 46 #[.slice (b.a) (b.len) (b.cap)] w13 fun r14 w15 => ∃ l16 : Sl, r14 = .slice (l16.a) (l16.len) (l16.cap) ∧
  ∃ (I19 : Int → World → Prop) (M20 : Int → World → Nat), I19 0 w15 ∧
  ∀ i17 : Int, ∀ w18 : World, I19 i17 w18 →
    cond (decide ((i17 : Int) < (((l16.len : Nat) : Int))))
    (ldT (.int .u32) w18.drew (a3) fun x21 => ldT (.int .u32) w18.drew ((a3).add 1) fun x22 => ldT (.int .u32) w18.drew ((a3).add 2) fun x23 => ldT (.int .u32) w18.drew ((a3).add 3) fun x24 => ldT (.int .u32) w18.drew ((a3).add 4) fun x25 => ldT (.int .u32) w18.drew ((a3).add 5) fun x26 => ldT (.int .u32) w18.drew ((a3).add 6) fun x27 => ldT (.int .u32) w18.drew ((a3).add 7) fun x28 =>
     slcT ⟨l16.a, l16.len, l16.cap⟩ (i17) (IntKind.wrap .i64 (i17 + 64)) 1 fun l29 =>
     Does Tryd.prog 47 #[.agg #[.int .u32 (x21), .int .u32 (x22), .int .u32 (x23), .int .u32 (x24), .int .u32 (x25), .int .u32 (x26), .int .u32 (x27), .int .u32 (x28)], .slice (l29.a) (l29.len) (l29.cap)] w18.drew fun r30 w31 => ∃ x32 : Int, ∃ x33 : Int, ∃ x34 : Int, ∃ x35 : Int, ∃ x36 : Int, ∃ x37 : Int, ∃ x38 : Int, ∃ x39 : Int, r30 = .agg #[.int .u32 (x32), .int .u32 (x33), .int .u32 (x34), .int .u32 (x35), .int .u32 (x36), .int .u32 (x37), .int .u32 (x38), .int .u32 (x39)] ∧
     stC w31 (a3) (.int .u32 (x32)) fun w41 => stC w41 ((a3).add 1) (.int .u32 (x33)) fun w42 => stC w42 ((a3).add 2) (.int .u32 (x34)) fun w43 => stC w43 ((a3).add 3) (.int .u32 (x35)) fun w44 => stC w44 ((a3).add 4) (.int .u32 (x36)) fun w45 => stC w45 ((a3).add 5) (.int .u32 (x37)) fun w46 => stC w46 ((a3).add 6) (.int .u32 (x38)) fun w47 => stC w47 ((a3).add 7) (.int .u32 (x39)) fun w48 =>
     I19 (IntKind.wrap .i64 (i17 + 64)) w48 ∧ M20 (IntKind.wrap .i64 (i17 + 64)) w48 < M20 i17 w18)
    (allocK w18 (zc Tryd.prog 23) 23 fun a49 w50 =>
     ∃ (I53 : Int → World → Prop) (M54 : Int → World → Nat), I53 0 w50 ∧
     ∀ i51 : Int, ∀ w52 : World, I53 i51 w52 →
       cond (decide ((i51 : Int) < 32))
       ((4 : Int) ≠ 0 ∧
        idxR 8 (IntKind.wrap .i64 (Int.tdiv i51 4)) (
        ldT (.int .u32) w52 ((a3).add (Int.toNat (IntKind.wrap .i64 (Int.tdiv i51 4)) * 1)) fun x55 =>
        (4 : Int) ≠ 0 ∧
        (0 : Int) ≤ (IntKind.wrap .u64 (IntKind.wrap .i64 (24 - (IntKind.wrap .i64 (8 * (Int.tmod i51 4)))))) ∧
        idxR 32 (i51) (
        stC w52 ((a49).add (Int.toNat (i51) * 1)) (.int .u8 (IntKind.wrap .u8 (Int.fdiv x55 (2 ^ (min (Int.toNat ((IntKind.wrap .u64 (IntKind.wrap .i64 (24 - (IntKind.wrap .i64 (8 * (Int.tmod i51 4)))))))) (IntKind.bits .u32)))))) fun w56 =>
        I53 (IntKind.wrap .i64 (i51 + 1)) w56 ∧ M54 (IntKind.wrap .i64 (i51 + 1)) w56 < M54 i51 w52)))
       (ldArr w52 (a49) 32 fun c57 =>
        stArr w52 (a1) (c57) 32 fun w58 =>
        ldArr w58 (a1) 32 fun c59 =>
        Q (.agg (c59)) w58))
def A27 : Ann := ⟨[(4, [(5, .one (.int .i64))]), (9, [(7, .one (.int .i64))])], [], [(6, [⟨0, 0, 0, true⟩, ⟨0, 0, 0, true⟩, ⟨0, 0, 0, true⟩, ⟨0, 0, 0, true⟩, ⟨8, 8, 8, true⟩, ⟨22, 22, 30, true⟩, ⟨33, 0, 63, false⟩, ⟨127, 0, 127, false⟩])]⟩
theorem F27_eq (b : Sl) (w : World) (Q : Value → World → Prop) : vcFn Tryd.prog A27 Tryd.f27 #[.slice (b.a) (b.len) (b.cap)] w Q = F27 b w Q := by kernel_rfl
theorem F27_does (b : Sl) (w : World) (Q : Value → World → Prop) (hQ : F27 b w Q) : Does Tryd.prog 27 #[.slice (b.a) (b.len) (b.cap)] w Q :=
  vcFn_sound noAsk mixed (A := A27) (by kernel_rfl) Tryd.func27 (Nat.le_of_ble_eq_true (by kernel_rfl)) (by kernel_rfl) ((F27_eq b w Q).mpr hQ)

/- nacelle/nacelleref04.padded -/
def F46 (b : Sl) (w : World) (Q : Value → World → Prop) : Prop :=
  allocK w #[] 5 fun a1 w2 =>
  runG (.sl) Tryd.prog w2 (Builtin.append_ #[26, 26] 26 #[.slice (some (a1)) (0) (0), .slice (b.a) (b.len) (b.cap)]) fun l3 w4 =>
  allocK w4 #[.int .u8 (128)] 5 fun a5 w6 =>
  runG (.sl) Tryd.prog w6 (Builtin.append_ #[26, 26] 26 #[.slice (l3.a) (l3.len) (l3.cap), .slice (some (a5)) (1) (1)]) fun l7 w8 =>
  ∃ (I11 : Sl → World → Prop) (M12 : Sl → World → Nat), I11 ⟨l7.a, l7.len, l7.cap⟩ w8 ∧
  ∀ out9 : Sl, ∀ w10 : World, I11 out9 w10 →
    (64 : Int) ≠ 0 ∧
    cond (((Int.tmod (((out9.len : Nat) : Int)) 64) : Int) != 56)
    (allocK w10 #[.int .u8 (0)] 5 fun a13 w14 =>
     runG (.sl) Tryd.prog w14 (Builtin.append_ #[26, 26] 26 #[.slice (out9.a) (out9.len) (out9.cap), .slice (some (a13)) (1) (1)]) fun l15 w16 =>
     I11 ⟨l15.a, l15.len, l15.cap⟩ w16 ∧ M12 ⟨l15.a, l15.len, l15.cap⟩ w16 < M12 out9 w10)
    (∃ (I20 : Sl → Int → World → Prop) (M21 : Sl → Int → World → Nat), I20 ⟨out9.a, out9.len, out9.cap⟩ 7 w10 ∧
     ∀ out17 : Sl, ∀ k18 : Int, ∀ w19 : World, I20 out17 k18 w19 →
       cond (decide ((k18 : Int) ≥ 0))
       ((0 : Int) ≤ (IntKind.wrap .u64 (IntKind.wrap .i64 (8 * k18))) ∧
        allocK w19 #[.int .u8 (IntKind.wrap .u8 (Int.fdiv (IntKind.wrap .u64 ((IntKind.wrap .u64 (((b.len : Nat) : Int))) * 8)) (2 ^ (min (Int.toNat ((IntKind.wrap .u64 (IntKind.wrap .i64 (8 * k18))))) (IntKind.bits .u64)))))] 5 fun a22 w23 =>
        runG (.sl) Tryd.prog w23 (Builtin.append_ #[26, 26] 26 #[.slice (out17.a) (out17.len) (out17.cap), .slice (some (a22)) (1) (1)]) fun l24 w25 =>
        I20 ⟨l24.a, l24.len, l24.cap⟩ (IntKind.wrap .i64 (k18 - 1)) w25 ∧ M21 ⟨l24.a, l24.len, l24.cap⟩ (IntKind.wrap .i64 (k18 - 1)) w25 < M21 out17 k18 w19)
       (Q (.slice (out17.a) (out17.len) (out17.cap)) w19))
def A46 : Ann := ⟨[(2, [(3, .one (.sl))]), (6, [(3, .one (.sl)), (5, .one (.int .i64))])], [], []⟩
theorem F46_eq (b : Sl) (w : World) (Q : Value → World → Prop) : vcFn Tryd.prog A46 Tryd.f46 #[.slice (b.a) (b.len) (b.cap)] w Q = F46 b w Q := by kernel_rfl
theorem F46_does (b : Sl) (w : World) (Q : Value → World → Prop) (hQ : F46 b w Q) : Does Tryd.prog 46 #[.slice (b.a) (b.len) (b.cap)] w Q :=
  vcFn_sound noAsk mixed (A := A46) (by kernel_rfl) Tryd.func46 (Nat.le_of_ble_eq_true (by kernel_rfl)) (by kernel_rfl) ((F46_eq b w Q).mpr hQ)

/- nacelle/nacelleref04.block -/
def F47 (h0 : Int) (h1 : Int) (h2 : Int) (h3 : Int) (h4 : Int) (h5 : Int) (h6 : Int) (h7 : Int) (b : Sl) (w : World) (Q : Value → World → Prop) : Prop :=
  allocK w (#[.int .u32 (h0), .int .u32 (h1), .int .u32 (h2), .int .u32 (h3), .int .u32 (h4), .int .u32 (h5), .int .u32 (h6), .int .u32 (h7)]) 88 fun a1 w2 =>
  allocK w2 (zc Tryd.prog 88) 88 fun a3 w4 =>
  Does Tryd.prog 59 #[.slice (b.a) (b.len) (b.cap)] w4 fun r5 w6 => ∃ l7 : Sl, r5 = .slice (l7.a) (l7.len) (l7.cap) ∧
  Does Tryd.prog 60 #[] w6 fun r8 w9 => ∃ l10 : Sl, r8 = .slice (l10.a) (l10.len) (l10.cap) ∧
  idxR 8 (0) (
  ldT (.int .u32) w9.drew (a1) fun x11 =>
  idxR 8 (1) (
  ldT (.int .u32) w9.drew ((a1).add 1) fun x12 =>
  idxR 8 (2) (
  ldT (.int .u32) w9.drew ((a1).add 2) fun x13 =>
  idxR 8 (3) (
  ldT (.int .u32) w9.drew ((a1).add 3) fun x14 =>
  idxR 8 (4) (
  ldT (.int .u32) w9.drew ((a1).add 4) fun x15 =>
  idxR 8 (5) (
  ldT (.int .u32) w9.drew ((a1).add 5) fun x16 =>
  idxR 8 (6) (
  ldT (.int .u32) w9.drew ((a1).add 6) fun x17 =>
  idxR 8 (7) (
  ldT (.int .u32) w9.drew ((a1).add 7) fun x18 =>
  ∃ (I29 : Int → Int → Int → Int → Int → Int → Int → Int → Int → World → Prop) (M30 : Int → Int → Int → Int → Int → Int → Int → Int → Int → World → Nat), I29 x11 x12 x13 x14 x15 x16 x17 x18 0 w9.drew ∧
  ∀ a19 : Int, ∀ bb20 : Int, ∀ c21 : Int, ∀ d22 : Int, ∀ e23 : Int, ∀ f24 : Int, ∀ g25 : Int, ∀ x26 : Int, ∀ t27 : Int, ∀ w28 : World, I29 a19 bb20 c21 d22 e23 f24 g25 x26 t27 w28 →
    cond (decide ((t27 : Int) < 64))
    (idx (l10.a) (l10.len) (t27) 1 fun a31 =>
     ldT (.int .u32) w28.drew (a31) fun x32 =>
     idx (l7.a) (l7.len) (t27) 1 fun a33 =>
     ldT (.int .u32) w28.drew (a33) fun x34 =>
     Does Tryd.prog 61 #[.int .u32 (e23), .int .u64 (6)] w28.drew fun r35 w36 => ∃ x37 : Int, r35 = .int .u32 (x37) ∧
     w36.cell? (a33) = some (.int .u32 (x34)) ∧ w36.cell? (a31) = some (.int .u32 (x32)) ∧ Does Tryd.prog 61 #[.int .u32 (e23), .int .u64 (11)] w36 fun r38 w39 => ∃ x40 : Int, r38 = .int .u32 (x40) ∧
     w39.cell? (a33) = some (.int .u32 (x34)) ∧ w39.cell? (a31) = some (.int .u32 (x32)) ∧ Does Tryd.prog 61 #[.int .u32 (e23), .int .u64 (25)] w39 fun r41 w42 => ∃ x43 : Int, r41 = .int .u32 (x43) ∧
     w42.cell? (a33) = some (.int .u32 (x34)) ∧ w42.cell? (a31) = some (.int .u32 (x32)) ∧ Does Tryd.prog 61 #[.int .u32 (a19), .int .u64 (2)] w42 fun r44 w45 => ∃ x46 : Int, r44 = .int .u32 (x46) ∧
     Does Tryd.prog 61 #[.int .u32 (a19), .int .u64 (13)] w45 fun r47 w48 => ∃ x49 : Int, r47 = .int .u32 (x49) ∧
     Does Tryd.prog 61 #[.int .u32 (a19), .int .u64 (22)] w48 fun r50 w51 => ∃ x52 : Int, r50 = .int .u32 (x52) ∧
     I29 (IntKind.wrap .u32 ((IntKind.wrap .u32 ((IntKind.wrap .u32 ((IntKind.wrap .u32 ((IntKind.wrap .u32 (x26 + (bits .xor .u32 (bits .xor .u32 x37 x40) x43))) + (bits .or .u32 (bits .and .u32 e23 f24) (bits .and .u32 (IntKind.wrap .u32 (4294967295 - e23)) g25)))) + x32)) + x34)) + (IntKind.wrap .u32 ((bits .xor .u32 (bits .xor .u32 x46 x49) x52) + (bits .or .u32 (bits .or .u32 (bits .and .u32 a19 bb20) (bits .and .u32 a19 c21)) (bits .and .u32 bb20 c21)))))) a19 bb20 c21 (IntKind.wrap .u32 (d22 + (IntKind.wrap .u32 ((IntKind.wrap .u32 ((IntKind.wrap .u32 ((IntKind.wrap .u32 (x26 + (bits .xor .u32 (bits .xor .u32 x37 x40) x43))) + (bits .or .u32 (bits .and .u32 e23 f24) (bits .and .u32 (IntKind.wrap .u32 (4294967295 - e23)) g25)))) + x32)) + x34)))) e23 f24 g25 (IntKind.wrap .i64 (t27 + 1)) w51 ∧ M30 (IntKind.wrap .u32 ((IntKind.wrap .u32 ((IntKind.wrap .u32 ((IntKind.wrap .u32 ((IntKind.wrap .u32 (x26 + (bits .xor .u32 (bits .xor .u32 x37 x40) x43))) + (bits .or .u32 (bits .and .u32 e23 f24) (bits .and .u32 (IntKind.wrap .u32 (4294967295 - e23)) g25)))) + x32)) + x34)) + (IntKind.wrap .u32 ((bits .xor .u32 (bits .xor .u32 x46 x49) x52) + (bits .or .u32 (bits .or .u32 (bits .and .u32 a19 bb20) (bits .and .u32 a19 c21)) (bits .and .u32 bb20 c21)))))) a19 bb20 c21 (IntKind.wrap .u32 (d22 + (IntKind.wrap .u32 ((IntKind.wrap .u32 ((IntKind.wrap .u32 ((IntKind.wrap .u32 (x26 + (bits .xor .u32 (bits .xor .u32 x37 x40) x43))) + (bits .or .u32 (bits .and .u32 e23 f24) (bits .and .u32 (IntKind.wrap .u32 (4294967295 - e23)) g25)))) + x32)) + x34)))) e23 f24 g25 (IntKind.wrap .i64 (t27 + 1)) w51 < M30 a19 bb20 c21 d22 e23 f24 g25 x26 t27 w28)
    (idxR 8 (0) (
     ldT (.int .u32) w28 (a1) fun x53 =>
     idxR 8 (1) (
     ldT (.int .u32) w28 ((a1).add 1) fun x54 =>
     idxR 8 (2) (
     ldT (.int .u32) w28 ((a1).add 2) fun x55 =>
     idxR 8 (3) (
     ldT (.int .u32) w28 ((a1).add 3) fun x56 =>
     idxR 8 (4) (
     ldT (.int .u32) w28 ((a1).add 4) fun x57 =>
     idxR 8 (5) (
     ldT (.int .u32) w28 ((a1).add 5) fun x58 =>
     idxR 8 (6) (
     ldT (.int .u32) w28 ((a1).add 6) fun x59 =>
     idxR 8 (7) (
     ldT (.int .u32) w28 ((a1).add 7) fun x60 =>
     stC w28 (a3) (.int .u32 (IntKind.wrap .u32 (x53 + a19))) fun w62 => stC w62 ((a3).add 1) (.int .u32 (IntKind.wrap .u32 (x54 + bb20))) fun w63 => stC w63 ((a3).add 2) (.int .u32 (IntKind.wrap .u32 (x55 + c21))) fun w64 => stC w64 ((a3).add 3) (.int .u32 (IntKind.wrap .u32 (x56 + d22))) fun w65 => stC w65 ((a3).add 4) (.int .u32 (IntKind.wrap .u32 (x57 + e23))) fun w66 => stC w66 ((a3).add 5) (.int .u32 (IntKind.wrap .u32 (x58 + f24))) fun w67 => stC w67 ((a3).add 6) (.int .u32 (IntKind.wrap .u32 (x59 + g25))) fun w68 => stC w68 ((a3).add 7) (.int .u32 (IntKind.wrap .u32 (x60 + x26))) fun w69 =>
     ldT (.int .u32) w69 (a3) fun x70 => ldT (.int .u32) w69 ((a3).add 1) fun x71 => ldT (.int .u32) w69 ((a3).add 2) fun x72 => ldT (.int .u32) w69 ((a3).add 3) fun x73 => ldT (.int .u32) w69 ((a3).add 4) fun x74 => ldT (.int .u32) w69 ((a3).add 5) fun x75 => ldT (.int .u32) w69 ((a3).add 6) fun x76 => ldT (.int .u32) w69 ((a3).add 7) fun x77 =>
     Q (.agg #[.int .u32 (x70), .int .u32 (x71), .int .u32 (x72), .int .u32 (x73), .int .u32 (x74), .int .u32 (x75), .int .u32 (x76), .int .u32 (x77)]) w69)))))))))))))))))
def A47 : Ann := ⟨[(4, [(7, .one (.int .u32)), (8, .one (.int .u32)), (9, .one (.int .u32)), (10, .one (.int .u32)), (11, .one (.int .u32)), (12, .one (.int .u32)), (13, .one (.int .u32)), (14, .one (.int .u32)), (15, .one (.int .i64))])], [], [(2, [⟨0, 0, 0, true⟩, ⟨1, 1, 1, true⟩, ⟨0, 0, 0, true⟩, ⟨4, 4, 4, true⟩, ⟨0, 0, 0, true⟩, ⟨16, 16, 16, true⟩, ⟨0, 0, 0, true⟩, ⟨64, 64, 64, true⟩, ⟨0, 0, 0, true⟩, ⟨256, 256, 256, true⟩, ⟨0, 0, 0, true⟩, ⟨1024, 1024, 1024, true⟩, ⟨0, 0, 0, true⟩, ⟨4096, 4096, 4096, true⟩, ⟨0, 0, 0, true⟩, ⟨16384, 16384, 16384, true⟩, ⟨3, 2, 3, true⟩, ⟨65551, 8, 65551, true⟩, ⟨196671, 32, 196671, true⟩, ⟨459007, 128, 459007, true⟩, ⟨984063, 512, 984063, true⟩, ⟨2035711, 2048, 2035711, true⟩, ⟨4145151, 8192, 4145151, true⟩, ⟨8388607, 32768, 8388607, true⟩]), (6, [⟨0, 0, 0, true⟩, ⟨0, 0, 0, true⟩, ⟨2, 0, 2, false⟩, ⟨0, 0, 0, true⟩, ⟨12, 0, 14, false⟩, ⟨20, 20, 30, true⟩, ⟨0, 0, 0, true⟩, ⟨80, 0, 94, false⟩, ⟨160, 160, 254, true⟩, ⟨257, 257, 511, true⟩, ⟨0, 0, 0, true⟩, ⟨0, 0, 0, true⟩, ⟨3072, 3072, 3072, true⟩, ⟨0, 0, 0, true⟩, ⟨8192, 8192, 8192, true⟩, ⟨0, 0, 0, true⟩, ⟨49152, 49152, 57344, true⟩, ⟨69632, 69632, 130048, true⟩, ⟨131584, 131584, 262143, true⟩, ⟨0, 0, 0, true⟩, ⟨0, 0, 0, true⟩, ⟨1572864, 1572864, 1572864, true⟩, ⟨2097152, 2097152, 3670016, true⟩, ⟨4456448, 4456448, 8388607, true⟩, ⟨0, 0, 0, true⟩, ⟨0, 0, 0, true⟩, ⟨50331648, 50331648, 50331648, true⟩, ⟨67108864, 67108864, 117440512, true⟩, ⟨142606336, 142606336, 268435455, true⟩, ⟨536870911, 268435456, 536870911, true⟩])]⟩
theorem F47_eq (h0 : Int) (h1 : Int) (h2 : Int) (h3 : Int) (h4 : Int) (h5 : Int) (h6 : Int) (h7 : Int) (b : Sl) (w : World) (Q : Value → World → Prop) : vcFn Tryd.prog A47 Tryd.f47 #[.agg #[.int .u32 (h0), .int .u32 (h1), .int .u32 (h2), .int .u32 (h3), .int .u32 (h4), .int .u32 (h5), .int .u32 (h6), .int .u32 (h7)], .slice (b.a) (b.len) (b.cap)] w Q = F47 h0 h1 h2 h3 h4 h5 h6 h7 b w Q := by kernel_rfl
theorem F47_does (h0 : Int) (h1 : Int) (h2 : Int) (h3 : Int) (h4 : Int) (h5 : Int) (h6 : Int) (h7 : Int) (b : Sl) (w : World) (Q : Value → World → Prop) (hQ : F47 h0 h1 h2 h3 h4 h5 h6 h7 b w Q) : Does Tryd.prog 47 #[.agg #[.int .u32 (h0), .int .u32 (h1), .int .u32 (h2), .int .u32 (h3), .int .u32 (h4), .int .u32 (h5), .int .u32 (h6), .int .u32 (h7)], .slice (b.a) (b.len) (b.cap)] w Q :=
  vcFn_sound noAsk mixed (A := A47) (by kernel_rfl) Tryd.func47 (Nat.le_of_ble_eq_true (by kernel_rfl)) (by kernel_rfl) ((F47_eq h0 h1 h2 h3 h4 h5 h6 h7 b w Q).mpr hQ)

/- nacelle/nacelleref04.words -/
def F59 (b : Sl) (w : World) (Q : Value → World → Prop) : Prop :=
  ∃ (I4 : Sl → Int → World → Prop) (M5 : Sl → Int → World → Nat), I4 ⟨none, 0, 0⟩ 0 w ∧
  ∀ w1 : Sl, ∀ t2 : Int, ∀ w3 : World, I4 w1 t2 w3 →
    cond (decide ((t2 : Int) < 16))
    (∃ (I9 : Int → Int → World → Prop) (M10 : Int → Int → World → Nat), I9 0 0 w3 ∧
     ∀ x6 : Int, ∀ k7 : Int, ∀ w8 : World, I9 x6 k7 w8 →
       cond (decide ((k7 : Int) < 4))
       (idx (b.a) (b.len) (IntKind.wrap .i64 ((IntKind.wrap .i64 (4 * t2)) + k7)) 1 fun a11 =>
        ldT (.int .u8) w8 (a11) fun x12 =>
        I9 (IntKind.wrap .u32 ((IntKind.wrap .u32 (x6 * 256)) + (IntKind.wrap .u32 x12))) (IntKind.wrap .i64 (k7 + 1)) w8 ∧ M10 (IntKind.wrap .u32 ((IntKind.wrap .u32 (x6 * 256)) + (IntKind.wrap .u32 x12))) (IntKind.wrap .i64 (k7 + 1)) w8 < M10 x6 k7 w8)
       (allocK w8 #[.int .u32 (x6)] 22 fun a13 w14 =>
        runG (.sl) Tryd.prog w14 (Builtin.append_ #[111, 111] 111 #[.slice (w1.a) (w1.len) (w1.cap), .slice (some (a13)) (1) (1)]) fun l15 w16 =>
        I4 ⟨l15.a, l15.len, l15.cap⟩ (IntKind.wrap .i64 (t2 + 1)) w16 ∧ M5 ⟨l15.a, l15.len, l15.cap⟩ (IntKind.wrap .i64 (t2 + 1)) w16 < M5 w1 t2 w3))
    (∃ (I20 : Sl → Int → World → Prop) (M21 : Sl → Int → World → Nat), I20 ⟨w1.a, w1.len, w1.cap⟩ 16 w3 ∧
     ∀ w17 : Sl, ∀ t18 : Int, ∀ w19 : World, I20 w17 t18 w19 →
       cond (decide ((t18 : Int) < 64))
       (idx (w17.a) (w17.len) (IntKind.wrap .i64 (t18 - 15)) 1 fun a22 =>
        ldT (.int .u32) w19.drew (a22) fun x23 =>
        idx (w17.a) (w17.len) (IntKind.wrap .i64 (t18 - 15)) 1 fun a24 =>
        ldT (.int .u32) w19.drew (a24) fun x25 =>
        idx (w17.a) (w17.len) (IntKind.wrap .i64 (t18 - 15)) 1 fun a26 =>
        ldT (.int .u32) w19.drew (a26) fun x27 =>
        (0 : Int) ≤ 3 ∧
        Does Tryd.prog 61 #[.int .u32 (x23), .int .u64 (7)] w19.drew fun r28 w29 => ∃ x30 : Int, r28 = .int .u32 (x30) ∧
        w29.cell? (a26) = some (.int .u32 (x27)) ∧ w29.cell? (a24) = some (.int .u32 (x25)) ∧ Does Tryd.prog 61 #[.int .u32 (x25), .int .u64 (18)] w29 fun r31 w32 => ∃ x33 : Int, r31 = .int .u32 (x33) ∧
        w32.cell? (a26) = some (.int .u32 (x27)) ∧ idx (w17.a) (w17.len) (IntKind.wrap .i64 (t18 - 2)) 1 fun a34 =>
        ldT (.int .u32) w32.drew (a34) fun x35 =>
        idx (w17.a) (w17.len) (IntKind.wrap .i64 (t18 - 2)) 1 fun a36 =>
        ldT (.int .u32) w32.drew (a36) fun x37 =>
        idx (w17.a) (w17.len) (IntKind.wrap .i64 (t18 - 2)) 1 fun a38 =>
        ldT (.int .u32) w32.drew (a38) fun x39 =>
        (0 : Int) ≤ 10 ∧
        Does Tryd.prog 61 #[.int .u32 (x35), .int .u64 (17)] w32.drew fun r40 w41 => ∃ x42 : Int, r40 = .int .u32 (x42) ∧
        w41.cell? (a38) = some (.int .u32 (x39)) ∧ w41.cell? (a36) = some (.int .u32 (x37)) ∧ Does Tryd.prog 61 #[.int .u32 (x37), .int .u64 (19)] w41 fun r43 w44 => ∃ x45 : Int, r43 = .int .u32 (x45) ∧
        w44.cell? (a38) = some (.int .u32 (x39)) ∧ idx (w17.a) (w17.len) (IntKind.wrap .i64 (t18 - 7)) 1 fun a46 =>
        ldT (.int .u32) w44.drew (a46) fun x47 =>
        idx (w17.a) (w17.len) (IntKind.wrap .i64 (t18 - 16)) 1 fun a48 =>
        ldT (.int .u32) w44.drew (a48) fun x49 =>
        allocK w44.drew #[.int .u32 (IntKind.wrap .u32 ((IntKind.wrap .u32 ((IntKind.wrap .u32 ((bits .xor .u32 (bits .xor .u32 x42 x45) (Int.fdiv x39 (2 ^ (min (Int.toNat (10)) (IntKind.bits .u32))))) + x47)) + (bits .xor .u32 (bits .xor .u32 x30 x33) (Int.fdiv x27 (2 ^ (min (Int.toNat (3)) (IntKind.bits .u32))))))) + x49))] 22 fun a50 w51 =>
        runG (.sl) Tryd.prog w51 (Builtin.append_ #[111, 111] 111 #[.slice (w17.a) (w17.len) (w17.cap), .slice (some (a50)) (1) (1)]) fun l52 w53 =>
        I20 ⟨l52.a, l52.len, l52.cap⟩ (IntKind.wrap .i64 (t18 + 1)) w53 ∧ M21 ⟨l52.a, l52.len, l52.cap⟩ (IntKind.wrap .i64 (t18 + 1)) w53 < M21 w17 t18 w19)
       (Q (.slice (w17.a) (w17.len) (w17.cap)) w19))
def A59 : Ann := ⟨[(3, [(3, .one (.sl)), (4, .one (.int .i64))]), (7, [(5, .one (.int .u32)), (6, .one (.int .i64))]), (12, [(3, .one (.sl)), (7, .one (.int .i64))])], [], [(14, [⟨0, 0, 0, true⟩, ⟨0, 0, 0, true⟩, ⟨2, 2, 2, true⟩, ⟨5, 5, 7, true⟩, ⟨8, 8, 15, true⟩, ⟨16, 0, 31, false⟩, ⟨0, 0, 0, true⟩, ⟨0, 0, 0, true⟩, ⟨128, 128, 128, true⟩, ⟨320, 320, 448, true⟩, ⟨512, 512, 960, true⟩, ⟨1056, 0, 2047, false⟩, ⟨2080, 2080, 4095, true⟩, ⟨0, 0, 0, true⟩, ⟨0, 0, 0, true⟩, ⟨16384, 16384, 16384, true⟩, ⟨40960, 40960, 57344, true⟩, ⟨65536, 65536, 122880, true⟩, ⟨131072, 131072, 253952, true⟩, ⟨266240, 266240, 524287, true⟩, ⟨1048575, 524288, 1048575, true⟩]), (15, [⟨0, 0, 0, true⟩, ⟨0, 0, 0, true⟩, ⟨2, 2, 2, true⟩, ⟨5, 5, 7, true⟩, ⟨8, 8, 15, true⟩, ⟨16, 0, 31, false⟩, ⟨0, 0, 0, true⟩, ⟨0, 0, 0, true⟩, ⟨128, 128, 128, true⟩, ⟨320, 320, 448, true⟩, ⟨512, 512, 960, true⟩, ⟨1056, 0, 2047, false⟩, ⟨2080, 2080, 4095, true⟩, ⟨0, 0, 0, true⟩, ⟨0, 0, 0, true⟩, ⟨16384, 16384, 16384, true⟩, ⟨40960, 40960, 57344, true⟩, ⟨65536, 65536, 122880, true⟩, ⟨131072, 131072, 253952, true⟩, ⟨266240, 266240, 524287, true⟩, ⟨1048575, 524288, 1048575, true⟩]), (16, [⟨0, 0, 0, true⟩, ⟨0, 0, 0, true⟩, ⟨0, 0, 0, true⟩, ⟨0, 0, 0, true⟩, ⟨8, 8, 8, true⟩, ⟨20, 20, 28, true⟩, ⟨32, 32, 60, true⟩, ⟨66, 66, 126, true⟩, ⟨0, 0, 0, true⟩, ⟨384, 384, 510, true⟩, ⟨0, 0, 0, true⟩, ⟨0, 0, 0, true⟩, ⟨2048, 2048, 2048, true⟩, ⟨5120, 5120, 7168, true⟩, ⟨8192, 8192, 15360, true⟩, ⟨16896, 16896, 32766, true⟩, ⟨32768, 0, 65534, false⟩, ⟨65537, 0, 131071, false⟩, ⟨262143, 132101, 262143, true⟩])]⟩
theorem F59_eq (b : Sl) (w : World) (Q : Value → World → Prop) : vcFn Tryd.prog A59 Tryd.f59 #[.slice (b.a) (b.len) (b.cap)] w Q = F59 b w Q := by kernel_rfl
theorem F59_does (b : Sl) (w : World) (Q : Value → World → Prop) (hQ : F59 b w Q) : Does Tryd.prog 59 #[.slice (b.a) (b.len) (b.cap)] w Q :=
  vcFn_sound noAsk mixed (A := A59) (by kernel_rfl) Tryd.func59 (Nat.le_of_ble_eq_true (by kernel_rfl)) (by kernel_rfl) ((F59_eq b w Q).mpr hQ)

/- nacelle/nacelleref04.keys -/
def F60 (w : World) (Q : Value → World → Prop) : Prop :=
  allocK w #[.int .u32 (1116352408), .int .u32 (1899447441), .int .u32 (3049323471), .int .u32 (3921009573), .int .u32 (961987163), .int .u32 (1508970993), .int .u32 (2453635748), .int .u32 (2870763221), .int .u32 (3624381080), .int .u32 (310598401), .int .u32 (607225278), .int .u32 (1426881987), .int .u32 (1925078388), .int .u32 (2162078206), .int .u32 (2614888103), .int .u32 (3248222580), .int .u32 (3835390401), .int .u32 (4022224774), .int .u32 (264347078), .int .u32 (604807628), .int .u32 (770255983), .int .u32 (1249150122), .int .u32 (1555081692), .int .u32 (1996064986), .int .u32 (2554220882), .int .u32 (2821834349), .int .u32 (2952996808), .int .u32 (3210313671), .int .u32 (3336571891), .int .u32 (3584528711), .int .u32 (113926993), .int .u32 (338241895), .int .u32 (666307205), .int .u32 (773529912), .int .u32 (1294757372), .int .u32 (1396182291), .int .u32 (1695183700), .int .u32 (1986661051), .int .u32 (2177026350), .int .u32 (2456956037), .int .u32 (2730485921), .int .u32 (2820302411), .int .u32 (3259730800), .int .u32 (3345764771), .int .u32 (3516065817), .int .u32 (3600352804), .int .u32 (4094571909), .int .u32 (275423344), .int .u32 (430227734), .int .u32 (506948616), .int .u32 (659060556), .int .u32 (883997877), .int .u32 (958139571), .int .u32 (1322822218), .int .u32 (1537002063), .int .u32 (1747873779), .int .u32 (1955562222), .int .u32 (2024104815), .int .u32 (2227730452), .int .u32 (2361852424), .int .u32 (2428436474), .int .u32 (2756734187), .int .u32 (3204031479), .int .u32 (3329325298)] 22 fun a1 w2 =>
  Q (.slice (some (a1)) (64) (64)) w2
def A60 : Ann := ⟨[], [], []⟩
theorem F60_eq (w : World) (Q : Value → World → Prop) : vcFn Tryd.prog A60 Tryd.f60 #[] w Q = F60 w Q := by kernel_rfl
theorem F60_does (w : World) (Q : Value → World → Prop) (hQ : F60 w Q) : Does Tryd.prog 60 #[] w Q :=
  vcFn_sound noAsk mixed (A := A60) (by kernel_rfl) Tryd.func60 (Nat.le_of_ble_eq_true (by kernel_rfl)) (by kernel_rfl) ((F60_eq w Q).mpr hQ)

/- nacelle/nacelleref04.turn -/
def F61 (x : Int) (n : Int) (w : World) (Q : Value → World → Prop) : Prop :=
  (0 : Int) ≤ n ∧
  (0 : Int) ≤ (IntKind.wrap .u64 (32 - n)) ∧
  Q (.int .u32 (bits .or .u32 (Int.fdiv x (2 ^ (min (Int.toNat (n)) (IntKind.bits .u32)))) (IntKind.wrap .u32 (x * 2 ^ (min (Int.toNat ((IntKind.wrap .u64 (32 - n)))) (IntKind.bits .u32)))))) w
def A61 : Ann := ⟨[], [], []⟩
theorem F61_eq (x : Int) (n : Int) (w : World) (Q : Value → World → Prop) : vcFn Tryd.prog A61 Tryd.f61 #[.int .u32 (x), .int .u64 (n)] w Q = F61 x n w Q := by kernel_rfl
theorem F61_does (x : Int) (n : Int) (w : World) (Q : Value → World → Prop) (hQ : F61 x n w Q) : Does Tryd.prog 61 #[.int .u32 (x), .int .u64 (n)] w Q :=
  vcFn_sound noAsk mixed (A := A61) (by kernel_rfl) Tryd.func61 (Nat.le_of_ble_eq_true (by kernel_rfl)) (by kernel_rfl) ((F61_eq x n w Q).mpr hQ)

end Go.Proofs.YtlbhilhfbbocfaaDoor.G
