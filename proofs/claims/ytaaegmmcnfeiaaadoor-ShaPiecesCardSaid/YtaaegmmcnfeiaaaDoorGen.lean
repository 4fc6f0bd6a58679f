import Derived.Test.YtaaegmmcnfeiaaaDoorProg
import Derived.Test.YtaaegmmcnfeiaaaDoorNum
set_option linter.unusedVariables false
namespace Go.Proofs.YtaaegmmcnfeiaaaDoor.G
open Go Go.VC Go.Proofs Go.Proofs.YtaaegmmcnfeiaaaDoor
set_option maxRecDepth 100000
theorem noAsk : noAsk Tryd.prog = true := by kernel_rfl
theorem mixed : Tryd.prog.follows .mixedOrders = true := by kernel_rfl
/- nacelle/nacellelaw04.ShaSums -/
def F3 (b : Sl) (w : World) (Q : Value → World → Prop) : Prop :=
  Does Tryd.prog 8 #[.slice (b.a) (b.len) (b.cap)] w fun r1 w2 => ∃ l3 : Sl, r1 = .slice (l3.a) (l3.len) (l3.cap) ∧
  allocK w2 #[] 5 fun a4 w5 =>
  runG (.sl) Tryd.prog w5 (Builtin.append_ #[22, 22] 22 #[.slice (some (a4)) (0) (0), .slice (l3.a) (l3.len) (l3.cap)]) fun l6 w7 =>
  Does Tryd.prog 9 #[.slice (l3.a) (l3.len) (l3.cap)] w7 fun r8 w9 => ∃ c10 : Array Value, r8 = .agg (c10) ∧
  Does Tryd.prog 10 #[.slice (l6.a) (l6.len) (l6.cap)] w9 fun r11 w12 => ∃ c13 : Array Value, r11 = .agg (c13) ∧
  runG (.bool) Tryd.prog w12 (do eqGuard .eql 24 (.tmp 10) (.tmp 12) (.agg (c10)) (.agg (c13)); binOp .eql 24 (.agg (c10)) (.agg (c13))) fun b14 w15 =>
  cond (b14)
  (lookS Tryd.prog w15 (convert 22 9 (.slice (l6.a) (l6.len) (l6.cap))) fun s16 =>
   lookS Tryd.prog w15 (convert 22 9 (.slice (l3.a) (l3.len) (l3.cap))) fun s17 =>
   cond ((s16).toList == (s17).toList)
   (Does Tryd.prog 11 #[] w15 fun r18 w19 => ∃ b20 : Bool, r18 = .bool (b20) ∧
    Q (.bool (b20)) w19)
   (Q (.bool (false)) w15))
  (Q (.bool (false)) w15)
def A3 : Ann := ⟨[], [], []⟩
theorem F3_eq (b : Sl) (w : World) (Q : Value → World → Prop) : vcFn Tryd.prog A3 Tryd.f3 #[.slice (b.a) (b.len) (b.cap)] w Q = F3 b w Q := by kernel_rfl
theorem F3_does (b : Sl) (w : World) (Q : Value → World → Prop) (hQ : F3 b w Q) : Does Tryd.prog 3 #[.slice (b.a) (b.len) (b.cap)] w Q :=
  vcFn_sound noAsk mixed (A := A3) (by kernel_rfl) Tryd.func3 (Nat.le_of_ble_eq_true (by kernel_rfl)) (by kernel_rfl) ((F3_eq b w Q).mpr hQ)

/- nacelle/nacellelaw04.ShaPieces -/
def F4 (l : Sl) (w : World) (Q : Value → World → Prop) : Prop :=
  Does Tryd.prog 12 #[] w fun r1 w2 => ∃ p3 : Option Addr, r1 = .pointer (p3) ∧
  ∀ J6 : Sl → World → Prop, (∀ all4 : Sl, ∀ w5 : World, 
    (Does Tryd.prog 15 #[.pointer (p3)] w5 fun r7 w8 => ∃ c9 : Array Value, r7 = .agg (c9) ∧
    Does Tryd.prog 10 #[.slice (all4.a) (all4.len) (all4.cap)] w8 fun r10 w11 => ∃ c12 : Array Value, r10 = .agg (c12) ∧
    runG (.bool) Tryd.prog w11 (do eqGuard .eql 24 (.tmp 47) (.tmp 49) (.agg (c9)) (.agg (c12)); binOp .eql 24 (.agg (c9)) (.agg (c12))) fun b13 w14 =>
    cond (b13)
    (Does Tryd.prog 15 #[.pointer (p3)] w14 fun r15 w16 => ∃ c17 : Array Value, r15 = .agg (c17) ∧
     Does Tryd.prog 9 #[.slice (all4.a) (all4.len) (all4.cap)] w16 fun r18 w19 => ∃ c20 : Array Value, r18 = .agg (c20) ∧
     runG (.bool) Tryd.prog w19 (do eqGuard .eql 24 (.tmp 53) (.tmp 55) (.agg (c17)) (.agg (c20)); binOp .eql 24 (.agg (c17)) (.agg (c20))) fun b21 w22 =>
     cond (b21)
     (Does Tryd.prog 11 #[] w22 fun r23 w24 => ∃ b25 : Bool, r23 = .bool (b25) ∧
      Q (.bool (b25)) w24)
     (Q (.bool (false)) w22))
    (Q (.bool (false)) w14)) → J6 all4 w5) →
  ∃ (I29 : Sl → Int → World → Prop) (M30 : Sl → Int → World → Nat), I29 ⟨none, 0, 0⟩ 0 w2 ∧
  ∀ all26 : Sl, ∀ i27 : Int, ∀ w28 : World, I29 all26 i27 w28 →
    ∀ J32 : World → Prop, (∀ w31 : World, 
      (∀ J35 : Sl → World → Prop, (∀ all33 : Sl, ∀ w34 : World, 
        (I29 ⟨all33.a, all33.len, all33.cap⟩ (IntKind.wrap .i64 (i27 + 1)) w34 ∧ M30 ⟨all33.a, all33.len, all33.cap⟩ (IntKind.wrap .i64 (i27 + 1)) w34 < M30 all26 i27 w28) → J35 all33 w34) →
      idx (l.a) (l.len) (i27) 1 fun a36 =>
      ldT (.sl) w31 (a36) fun l37 =>
      Does Tryd.prog 8 #[.slice (l37.a) (l37.len) (l37.cap)] w31 fun r38 w39 => ∃ l40 : Sl, r38 = .slice (l40.a) (l40.len) (l40.cap) ∧
      Does Tryd.prog 13 #[.pointer (p3), .slice (l40.a) (l40.len) (l40.cap)] w39 fun r41 w42 => r41 = .tuple #[] ∧
      runG (.sl) Tryd.prog w42 (Builtin.append_ #[22, 22] 22 #[.slice (all26.a) (all26.len) (all26.cap), .slice (l40.a) (l40.len) (l40.cap)]) fun l43 w44 =>
      Does Tryd.prog 14 #[.pointer (p3)] w44 fun r45 w46 => ∃ x47 : Int, r45 = .int .i64 (x47) ∧
      cond ((x47 : Int) != (((l43.len : Nat) : Int)))
      (Q (.bool (false)) w46)
      ((2 : Int) ≠ 0 ∧
       cond (((Int.tmod i27 2) : Int) == 1)
       (Does Tryd.prog 15 #[.pointer (p3)] w46 fun r48 w49 => ∃ c50 : Array Value, r48 = .agg (c50) ∧
        Does Tryd.prog 10 #[.slice (l43.a) (l43.len) (l43.cap)] w49 fun r51 w52 => ∃ c53 : Array Value, r51 = .agg (c53) ∧
        runG (.bool) Tryd.prog w52 (do eqGuard .neq 24 (.tmp 40) (.tmp 42) (.agg (c50)) (.agg (c53)); binOp .neq 24 (.agg (c50)) (.agg (c53))) fun b54 w55 =>
        cond (b54)
        (Q (.bool (false)) w55)
        (J35 ⟨l43.a, l43.len, l43.cap⟩ w55))
       (J35 ⟨l43.a, l43.len, l43.cap⟩ w46))) → J32 w31) →
    cond (decide ((i27 : Int) < (((l.len : Nat) : Int))))
    (cond (decide ((i27 : Int) < 12))
     (J32 w28)
     (J6 ⟨all26.a, all26.len, all26.cap⟩ w28))
    (J6 ⟨all26.a, all26.len, all26.cap⟩ w28)
def A4 : Ann := ⟨[(4, [(4, .one (.sl)), (5, .one (.int .i64))])], [(5, [(4, .one (.sl))]), (6, []), (11, [(4, .one (.sl))])], []⟩
theorem F4_eq (l : Sl) (w : World) (Q : Value → World → Prop) : vcFn Tryd.prog A4 Tryd.f4 #[.slice (l.a) (l.len) (l.cap)] w Q = F4 l w Q := by kernel_rfl
theorem F4_does (l : Sl) (w : World) (Q : Value → World → Prop) (hQ : F4 l w Q) : Does Tryd.prog 4 #[.slice (l.a) (l.len) (l.cap)] w Q :=
  vcFn_sound noAsk mixed (A := A4) (by kernel_rfl) Tryd.func4 (Nat.le_of_ble_eq_true (by kernel_rfl)) (by kernel_rfl) ((F4_eq l w Q).mpr hQ)

/- nacelle/nacellelaw04.ShaCopies -/
def F5 (a : Sl) (b : Sl) (c : Sl) (w : World) (Q : Value → World → Prop) : Prop :=
  Does Tryd.prog 8 #[.slice (a.a) (a.len) (a.cap)] w fun r1 w2 => ∃ l3 : Sl, r1 = .slice (l3.a) (l3.len) (l3.cap) ∧
  Does Tryd.prog 8 #[.slice (b.a) (b.len) (b.cap)] w2 fun r4 w5 => ∃ l6 : Sl, r4 = .slice (l6.a) (l6.len) (l6.cap) ∧
  Does Tryd.prog 8 #[.slice (c.a) (c.len) (c.cap)] w5 fun r7 w8 => ∃ l9 : Sl, r7 = .slice (l9.a) (l9.len) (l9.cap) ∧
  Does Tryd.prog 12 #[] w8 fun r10 w11 => ∃ p12 : Option Addr, r10 = .pointer (p12) ∧
  Does Tryd.prog 13 #[.pointer (p12), .slice (l3.a) (l3.len) (l3.cap)] w11 fun r13 w14 => r13 = .tuple #[] ∧
  Does Tryd.prog 16 #[.pointer (p12)] w14 fun r15 w16 => ∃ p17 : Option Addr, r15 = .pointer (p17) ∧
  Does Tryd.prog 13 #[.pointer (p12), .slice (l6.a) (l6.len) (l6.cap)] w16 fun r18 w19 => r18 = .tuple #[] ∧
  Does Tryd.prog 13 #[.pointer (p17), .slice (l9.a) (l9.len) (l9.cap)] w19 fun r20 w21 => r20 = .tuple #[] ∧
  allocK w21 #[] 5 fun a22 w23 =>
  runG (.sl) Tryd.prog w23 (Builtin.append_ #[22, 22] 22 #[.slice (some (a22)) (0) (0), .slice (l3.a) (l3.len) (l3.cap)]) fun l24 w25 =>
  runG (.sl) Tryd.prog w25 (Builtin.append_ #[22, 22] 22 #[.slice (l24.a) (l24.len) (l24.cap), .slice (l6.a) (l6.len) (l6.cap)]) fun l26 w27 =>
  Does Tryd.prog 9 #[.slice (l26.a) (l26.len) (l26.cap)] w27 fun r28 w29 => ∃ c30 : Array Value, r28 = .agg (c30) ∧
  allocK w29 (zc Tryd.prog 24) 24 fun a31 w32 =>
  stArr w32 (a31) (c30) 32 fun w33 =>
  allocK w33 #[] 5 fun a34 w35 =>
  runG (.sl) Tryd.prog w35 (Builtin.append_ #[22, 22] 22 #[.slice (some (a34)) (0) (0), .slice (l3.a) (l3.len) (l3.cap)]) fun l36 w37 =>
  runG (.sl) Tryd.prog w37 (Builtin.append_ #[22, 22] 22 #[.slice (l36.a) (l36.len) (l36.cap), .slice (l9.a) (l9.len) (l9.cap)]) fun l38 w39 =>
  Does Tryd.prog 9 #[.slice (l38.a) (l38.len) (l38.cap)] w39 fun r40 w41 => ∃ c42 : Array Value, r40 = .agg (c42) ∧
  allocK w41 (zc Tryd.prog 24) 24 fun a43 w44 =>
  stArr w44 (a43) (c42) 32 fun w45 =>
  ldArr w45.drew (a31) 32 fun c46 =>
  Does Tryd.prog 15 #[.pointer (p12)] w45.drew fun r47 w48 => ∃ c49 : Array Value, r47 = .agg (c49) ∧
  ((c46 : Array Value).size = 32 ∧ RowIs w48 (a31) c46) ∧ runG (.bool) Tryd.prog w48 (do eqGuard .eql 24 (.tmp 42) (.tmp 43) (.agg (c49)) (.agg (c46)); binOp .eql 24 (.agg (c49)) (.agg (c46))) fun b50 w51 =>
  cond (b50)
  (ldArr w51 (a43) 32 fun c52 =>
   Does Tryd.prog 15 #[.pointer (p17)] w51 fun r53 w54 => ∃ c55 : Array Value, r53 = .agg (c55) ∧
   ((c52 : Array Value).size = 32 ∧ RowIs w54 (a43) c52) ∧ runG (.bool) Tryd.prog w54 (do eqGuard .eql 24 (.tmp 47) (.tmp 48) (.agg (c55)) (.agg (c52)); binOp .eql 24 (.agg (c55)) (.agg (c52))) fun b56 w57 =>
   cond (b56)
   (Does Tryd.prog 14 #[.pointer (p12)] w57 fun r58 w59 => ∃ x60 : Int, r58 = .int .i64 (x60) ∧
    cond ((x60 : Int) == (IntKind.wrap .i64 ((((l3.len : Nat) : Int)) + (((l6.len : Nat) : Int)))))
    (Does Tryd.prog 14 #[.pointer (p17)] w59 fun r61 w62 => ∃ x63 : Int, r61 = .int .i64 (x63) ∧
     cond ((x63 : Int) == (IntKind.wrap .i64 ((((l3.len : Nat) : Int)) + (((l9.len : Nat) : Int)))))
     (Does Tryd.prog 11 #[] w62 fun r64 w65 => ∃ b66 : Bool, r64 = .bool (b66) ∧
      Q (.bool (b66)) w65)
     (Q (.bool (false)) w62))
    (Q (.bool (false)) w59))
   (Q (.bool (false)) w57))
  (Q (.bool (false)) w51)
def A5 : Ann := ⟨[], [], [(9, [⟨0, 0, 0, true⟩, ⟨1, 0, 1, false⟩, ⟨0, 0, 0, true⟩, ⟨6, 0, 7, false⟩, ⟨10, 8, 15, true⟩, ⟨16, 16, 31, true⟩, ⟨48, 0, 63, false⟩, ⟨16, 16, 31, true⟩, ⟨208, 0, 255, false⟩, ⟨272, 272, 511, true⟩, ⟨576, 512, 1023, true⟩, ⟨1024, 1024, 2047, true⟩, ⟨3072, 0, 4095, false⟩, ⟨1024, 1024, 2047, true⟩, ⟨9216, 9216, 10239, true⟩, ⟨1024, 1024, 2047, true⟩, ⟨33792, 33792, 34815, true⟩, ⟨82944, 82944, 124927, true⟩, ⟨136192, 136192, 262143, true⟩, ⟨263168, 263168, 524287, true⟩, ⟨528384, 524288, 1048575, true⟩, ⟨1048576, 1048576, 2097151, true⟩, ⟨3145728, 0, 4194303, false⟩, ⟨1048576, 1048576, 2097151, true⟩, ⟨9437184, 9437184, 10485759, true⟩, ⟨1048576, 1048576, 2097151, true⟩, ⟨34603008, 34603008, 35651583, true⟩, ⟨84934656, 84934656, 127926271, true⟩, ⟨139460608, 139460608, 268435455, true⟩, ⟨269484032, 269484032, 536870911, true⟩, ⟨541065216, 536870912, 1073741823, true⟩, ⟨1073741824, 0, 2147483647, false⟩, ⟨3221225472, 3221225472, 4294967295, true⟩, ⟨8589934591, 4294967296, 8589934591, true⟩])]⟩
theorem F5_eq (a : Sl) (b : Sl) (c : Sl) (w : World) (Q : Value → World → Prop) : vcFn Tryd.prog A5 Tryd.f5 #[.slice (a.a) (a.len) (a.cap), .slice (b.a) (b.len) (b.cap), .slice (c.a) (c.len) (c.cap)] w Q = F5 a b c w Q := by kernel_rfl
theorem F5_does (a : Sl) (b : Sl) (c : Sl) (w : World) (Q : Value → World → Prop) (hQ : F5 a b c w Q) : Does Tryd.prog 5 #[.slice (a.a) (a.len) (a.cap), .slice (b.a) (b.len) (b.cap), .slice (c.a) (c.len) (c.cap)] w Q :=
  vcFn_sound noAsk mixed (A := A5) (by kernel_rfl) Tryd.func5 (Nat.le_of_ble_eq_true (by kernel_rfl)) (by kernel_rfl) ((F5_eq a b c w Q).mpr hQ)

/- nacelle/nacellelaw04.ShaHexes -/
def F6 (sum : Array Value) (s : ByteArray) (w : World) (Q : Value → World → Prop) : Prop :=
  allocK w (sum) 24 fun a1 w2 =>
  Does Tryd.prog 17 #[.string (s)] w2 fun r3 w4 => ∃ c5 : Array Value, ∃ x6 : Int, r3 = .tuple #[.agg (c5), .int .i64 (x6)] ∧
  allocK w4 (zc Tryd.prog 24) 24 fun a7 w8 =>
  stArr w8 (a7) (c5) 32 fun w9 =>
  Does Tryd.prog 18 #[.string (s)] w9 fun r10 w11 => ∃ c12 : Array Value, ∃ b13 : Bool, r10 = .tuple #[.agg (c12), .bool (b13)] ∧
  allocK w11 (zc Tryd.prog 24) 24 fun a14 w15 =>
  stArr w15 (a14) (c12) 32 fun w16 =>
  ldArr w16.drew (a1) 32 fun c17 =>
  ldArr w16.drew (a1) 32 fun c18 =>
  Does Tryd.prog 19 #[.agg (c17)] w16.drew fun r19 w20 => ∃ s21 : ByteArray, r19 = .string (s21) ∧
  ((c18 : Array Value).size = 32 ∧ RowIs w20 (a1) c18) ∧ Does Tryd.prog 20 #[.agg (c18)] w20 fun r22 w23 => ∃ s24 : ByteArray, r22 = .string (s24) ∧
  cond ((s21).toList == (s24).toList)
  (ldArr w23 (a7) 32 fun c25 =>
   ldArr w23 (a14) 32 fun c26 =>
   runG (.bool) Tryd.prog w23 (do eqGuard .eql 24 (.tmp 25) (.tmp 26) (.agg (c25)) (.agg (c26)); binOp .eql 24 (.agg (c25)) (.agg (c26))) fun b27 w28 =>
   cond (b27)
   (cond (((x6 : Int) == 0) == b13)
    (cond (b13)
     (Does Tryd.prog 11 #[] w28 fun r29 w30 => ∃ b31 : Bool, r29 = .bool (b31) ∧
      Q (.bool (b31)) w30)
     (cond ((x6 : Int) == 3)
      (Does Tryd.prog 11 #[] w28 fun r32 w33 => ∃ b34 : Bool, r32 = .bool (b34) ∧
       Q (.bool (b34)) w33)
      (Q (.bool (false)) w28)))
    (Q (.bool (false)) w28))
   (Q (.bool (false)) w28))
  (Q (.bool (false)) w23)
def A6 : Ann := ⟨[], [], [(3, [⟨0, 0, 0, true⟩, ⟨1, 0, 1, false⟩, ⟨0, 0, 0, true⟩, ⟨6, 0, 7, false⟩, ⟨10, 10, 15, true⟩, ⟨24, 16, 31, true⟩, ⟨32, 32, 63, true⟩, ⟨32, 32, 63, true⟩, ⟨224, 0, 255, false⟩, ⟨288, 288, 511, true⟩, ⟨544, 512, 1023, true⟩, ⟨1024, 1024, 2047, true⟩, ⟨3072, 3072, 4095, true⟩, ⟨1024, 1024, 2047, true⟩, ⟨13312, 13312, 16383, true⟩, ⟨17408, 17408, 32767, true⟩, ⟨33792, 32768, 65535, true⟩, ⟨65536, 65536, 131071, true⟩, ⟨196608, 196608, 262143, true⟩, ⟨262144, 262144, 524287, true⟩, ⟨786432, 786432, 1048575, true⟩, ⟨1376256, 1376256, 2097151, true⟩, ⟨2162688, 2162688, 4194303, true⟩, ⟨4456448, 4194304, 8388607, true⟩, ⟨8388608, 0, 16777215, false⟩, ⟨25165824, 25165824, 33554431, true⟩, ⟨67108863, 33554432, 67108863, true⟩])]⟩
theorem F6_eq (sum : Array Value) (s : ByteArray) (w : World) (Q : Value → World → Prop) : vcFn Tryd.prog A6 Tryd.f6 #[.agg (sum), .string (s)] w Q = F6 sum s w Q := by kernel_rfl
theorem F6_does (sum : Array Value) (s : ByteArray) (w : World) (Q : Value → World → Prop) (hQ : F6 sum s w Q) : Does Tryd.prog 6 #[.agg (sum), .string (s)] w Q :=
  vcFn_sound noAsk mixed (A := A6) (by kernel_rfl) Tryd.func6 (Nat.le_of_ble_eq_true (by kernel_rfl)) (by kernel_rfl) ((F6_eq sum s w Q).mpr hQ)

/- nacelle/nacellelaw04.ShaBack -/
def F7 (sum : Array Value) (s : ByteArray) (w : World) (Q : Value → World → Prop) : Prop :=
  allocK w (sum) 24 fun a1 w2 =>
  ldArr w2 (a1) 32 fun c3 =>
  Does Tryd.prog 19 #[.agg (c3)] w2 fun r4 w5 => ∃ s6 : ByteArray, r4 = .string (s6) ∧
  Does Tryd.prog 17 #[.string (s6)] w5 fun r7 w8 => ∃ c9 : Array Value, ∃ x10 : Int, r7 = .tuple #[.agg (c9), .int .i64 (x10)] ∧
  allocK w8 (zc Tryd.prog 24) 24 fun a11 w12 =>
  stArr w12 (a11) (c9) 32 fun w13 =>
  Does Tryd.prog 17 #[.string (s)] w13 fun r14 w15 => ∃ c16 : Array Value, ∃ x17 : Int, r14 = .tuple #[.agg (c16), .int .i64 (x17)] ∧
  allocK w15 (zc Tryd.prog 24) 24 fun a18 w19 =>
  stArr w19 (a18) (c16) 32 fun w20 =>
  ldArr w20 (a11) 32 fun c21 =>
  ldArr w20 (a1) 32 fun c22 =>
  runG (.bool) Tryd.prog w20 (do eqGuard .eql 24 (.tmp 20) (.tmp 21) (.agg (c21)) (.agg (c22)); binOp .eql 24 (.agg (c21)) (.agg (c22))) fun b23 w24 =>
  cond (b23)
  (cond ((x10 : Int) == 0)
   (cond ((x17 : Int) != 0)
    (ldArr w24 (a18) 32 fun c25 =>
     runG (.bool) Tryd.prog w24 (do eqGuard .eql 24 (.tmp 31) (.tmp 32) (.agg (c25)) (.agg #[.int .u8 (0), .int .u8 (0), .int .u8 (0), .int .u8 (0), .int .u8 (0), .int .u8 (0), .int .u8 (0), .int .u8 (0), .int .u8 (0), .int .u8 (0), .int .u8 (0), .int .u8 (0), .int .u8 (0), .int .u8 (0), .int .u8 (0), .int .u8 (0), .int .u8 (0), .int .u8 (0), .int .u8 (0), .int .u8 (0), .int .u8 (0), .int .u8 (0), .int .u8 (0), .int .u8 (0), .int .u8 (0), .int .u8 (0), .int .u8 (0), .int .u8 (0), .int .u8 (0), .int .u8 (0), .int .u8 (0), .int .u8 (0)]); binOp .eql 24 (.agg (c25)) (.agg #[.int .u8 (0), .int .u8 (0), .int .u8 (0), .int .u8 (0), .int .u8 (0), .int .u8 (0), .int .u8 (0), .int .u8 (0), .int .u8 (0), .int .u8 (0), .int .u8 (0), .int .u8 (0), .int .u8 (0), .int .u8 (0), .int .u8 (0), .int .u8 (0), .int .u8 (0), .int .u8 (0), .int .u8 (0), .int .u8 (0), .int .u8 (0), .int .u8 (0), .int .u8 (0), .int .u8 (0), .int .u8 (0), .int .u8 (0), .int .u8 (0), .int .u8 (0), .int .u8 (0), .int .u8 (0), .int .u8 (0), .int .u8 (0)])) fun b26 w27 =>
     cond (b26)
     (Does Tryd.prog 11 #[] w27 fun r28 w29 => ∃ b30 : Bool, r28 = .bool (b30) ∧
      Q (.bool (b30)) w29)
     (cond ((x17 : Int) == 0)
      (ldArr w27 (a18) 32 fun c31 =>
       Does Tryd.prog 19 #[.agg (c31)] w27 fun r32 w33 => ∃ s34 : ByteArray, r32 = .string (s34) ∧
       cond ((s34).toList == (s).toList)
       (Does Tryd.prog 11 #[] w33 fun r35 w36 => ∃ b37 : Bool, r35 = .bool (b37) ∧
        Q (.bool (b37)) w36)
       (Q (.bool (false)) w33))
      (Q (.bool (false)) w27)))
    (cond ((x17 : Int) == 0)
     (ldArr w24 (a18) 32 fun c38 =>
      Does Tryd.prog 19 #[.agg (c38)] w24 fun r39 w40 => ∃ s41 : ByteArray, r39 = .string (s41) ∧
      cond ((s41).toList == (s).toList)
      (Does Tryd.prog 11 #[] w40 fun r42 w43 => ∃ b44 : Bool, r42 = .bool (b44) ∧
       Q (.bool (b44)) w43)
      (Q (.bool (false)) w40))
     (Q (.bool (false)) w24)))
   (Q (.bool (false)) w24))
  (Q (.bool (false)) w24)
def A7 : Ann := ⟨[], [], []⟩
theorem F7_eq (sum : Array Value) (s : ByteArray) (w : World) (Q : Value → World → Prop) : vcFn Tryd.prog A7 Tryd.f7 #[.agg (sum), .string (s)] w Q = F7 sum s w Q := by kernel_rfl
theorem F7_does (sum : Array Value) (s : ByteArray) (w : World) (Q : Value → World → Prop) (hQ : F7 sum s w Q) : Does Tryd.prog 7 #[.agg (sum), .string (s)] w Q :=
  vcFn_sound noAsk mixed (A := A7) (by kernel_rfl) Tryd.func7 (Nat.le_of_ble_eq_true (by kernel_rfl)) (by kernel_rfl) ((F7_eq sum s w Q).mpr hQ)

/- nacelle/nacellelaw04.few -/
def F8 (b : Sl) (w : World) (Q : Value → World → Prop) : Prop :=
  cond (decide (((((b.len : Nat) : Int)) : Int) > 2000))
  (slcT ⟨b.a, b.len, b.cap⟩ (0) (2000) 1 fun l1 =>
   Q (.slice (l1.a) (l1.len) (l1.cap)) w)
  (Q (.slice (b.a) (b.len) (b.cap)) w)
def A8 : Ann := ⟨[], [], []⟩
theorem F8_eq (b : Sl) (w : World) (Q : Value → World → Prop) : vcFn Tryd.prog A8 Tryd.f8 #[.slice (b.a) (b.len) (b.cap)] w Q = F8 b w Q := by kernel_rfl
theorem F8_does (b : Sl) (w : World) (Q : Value → World → Prop) (hQ : F8 b w Q) : Does Tryd.prog 8 #[.slice (b.a) (b.len) (b.cap)] w Q :=
  vcFn_sound noAsk mixed (A := A8) (by kernel_rfl) Tryd.func8 (Nat.le_of_ble_eq_true (by kernel_rfl)) (by kernel_rfl) ((F8_eq b w Q).mpr hQ)

/- nacelle/sha.Sum -/
def F9 (b : Sl) (w : World) (Q : Value → World → Prop) : Prop :=
  allocK w (zc Tryd.prog 24) 24 fun a1 w2 =>
  Does Tryd.prog 12 #[] w2 fun r3 w4 => ∃ p5 : Option Addr, r3 = .pointer (p5) ∧
  Does Tryd.prog 13 #[.pointer (p5), .slice (b.a) (b.len) (b.cap)] w4 fun r6 w7 => r6 = .tuple #[] ∧
  Does Tryd.prog 15 #[.pointer (p5)] w7 fun r8 w9 => ∃ c10 : Array Value, r8 = .agg (c10) ∧
  stArr w9 (a1) (c10) 32 fun w11 =>
  ldArr w11 (a1) 32 fun c12 =>
  Q (.agg (c12)) w11
def A9 : Ann := ⟨[], [], []⟩
theorem F9_eq (b : Sl) (w : World) (Q : Value → World → Prop) : vcFn Tryd.prog A9 Tryd.f9 #[.slice (b.a) (b.len) (b.cap)] w Q = F9 b w Q := by kernel_rfl
theorem F9_does (b : Sl) (w : World) (Q : Value → World → Prop) (hQ : F9 b w Q) : Does Tryd.prog 9 #[.slice (b.a) (b.len) (b.cap)] w Q :=
  vcFn_sound noAsk mixed (A := A9) (by kernel_rfl) Tryd.func9 (Nat.le_of_ble_eq_true (by kernel_rfl)) (by kernel_rfl) ((F9_eq b w Q).mpr hQ)

/- nacelle/nacelleref04.Sum -/
def F10 (b : Sl) (w : World) (Q : Value → World → Prop) : Prop :=
  allocK w (zc Tryd.prog 24) 24 fun a1 w2 =>
  allocK w2 (zc Tryd.prog 44) 44 fun a3 w4 =>
  stC w4 (a3) (.int .u32 (1779033703)) fun w6 => stC w6 ((a3).add 1) (.int .u32 (3144134277)) fun w7 => stC w7 ((a3).add 2) (.int .u32 (1013904242)) fun w8 => stC w8 ((a3).add 3) (.int .u32 (2773480762)) fun w9 => stC w9 ((a3).add 4) (.int .u32 (1359893119)) fun w10 => stC w10 ((a3).add 5) (.int .u32 (2600822924)) fun w11 => stC w11 ((a3).add 6) (.int .u32 (528734635)) fun w12 => stC w12 ((a3).add 7) (.int .u32 (1541459225)) fun w13 =>
  Does Tryd.prog 21 #[.slice (b.a) (b.len) (b.cap)] w13 fun r14 w15 => ∃ l16 : Sl, r14 = .slice (l16.a) (l16.len) (l16.cap) ∧
  ∃ (I19 : Int → World → Prop) (M20 : Int → World → Nat), I19 0 w15 ∧
  ∀ i17 : Int, ∀ w18 : World, I19 i17 w18 →
    cond (decide ((i17 : Int) < (((l16.len : Nat) : Int))))
    (ldT (.int .u32) w18.drew (a3) fun x21 => ldT (.int .u32) w18.drew ((a3).add 1) fun x22 => ldT (.int .u32) w18.drew ((a3).add 2) fun x23 => ldT (.int .u32) w18.drew ((a3).add 3) fun x24 => ldT (.int .u32) w18.drew ((a3).add 4) fun x25 => ldT (.int .u32) w18.drew ((a3).add 5) fun x26 => ldT (.int .u32) w18.drew ((a3).add 6) fun x27 => ldT (.int .u32) w18.drew ((a3).add 7) fun x28 =>
     slcT ⟨l16.a, l16.len, l16.cap⟩ (i17) (IntKind.wrap .i64 (i17 + 64)) 1 fun l29 =>
     Does Tryd.prog 22 #[.agg #[.int .u32 (x21), .int .u32 (x22), .int .u32 (x23), .int .u32 (x24), .int .u32 (x25), .int .u32 (x26), .int .u32 (x27), .int .u32 (x28)], .slice (l29.a) (l29.len) (l29.cap)] w18.drew fun r30 w31 => ∃ x32 : Int, ∃ x33 : Int, ∃ x34 : Int, ∃ x35 : Int, ∃ x36 : Int, ∃ x37 : Int, ∃ x38 : Int, ∃ x39 : Int, r30 = .agg #[.int .u32 (x32), .int .u32 (x33), .int .u32 (x34), .int .u32 (x35), .int .u32 (x36), .int .u32 (x37), .int .u32 (x38), .int .u32 (x39)] ∧
     stC w31 (a3) (.int .u32 (x32)) fun w41 => stC w41 ((a3).add 1) (.int .u32 (x33)) fun w42 => stC w42 ((a3).add 2) (.int .u32 (x34)) fun w43 => stC w43 ((a3).add 3) (.int .u32 (x35)) fun w44 => stC w44 ((a3).add 4) (.int .u32 (x36)) fun w45 => stC w45 ((a3).add 5) (.int .u32 (x37)) fun w46 => stC w46 ((a3).add 6) (.int .u32 (x38)) fun w47 => stC w47 ((a3).add 7) (.int .u32 (x39)) fun w48 =>
     I19 (IntKind.wrap .i64 (i17 + 64)) w48 ∧ M20 (IntKind.wrap .i64 (i17 + 64)) w48 < M20 i17 w18)
    (allocK w18 (zc Tryd.prog 24) 24 fun a49 w50 =>
     ∃ (I53 : Int → World → Prop) (M54 : Int → World → Nat), I53 0 w50 ∧
     ∀ i51 : Int, ∀ w52 : World, I53 i51 w52 →
       cond (decide ((i51 : Int) < 32))
       ((4 : Int) ≠ 0 ∧
        idxR 8 (IntKind.wrap .i64 (Int.tdiv i51 4)) (
        ldT (.int .u32) w52 ((a3).add (Int.toNat (IntKind.wrap .i64 (Int.tdiv i51 4)) * 1)) fun x55 =>
        (4 : Int) ≠ 0 ∧
        (0 : Int) ≤ (IntKind.wrap .u64 (IntKind.wrap .i64 (24 - (IntKind.wrap .i64 (8 * (Int.tmod i51 4)))))) ∧
        idxR 32 (i51) (
        stC w52 ((a49).add (Int.toNat (i51) * 1)) (.int .u8 (IntKind.wrap .u8 (Int.fdiv x55 (2 ^ (min (Int.toNat ((IntKind.wrap .u64 (IntKind.wrap .i64 (24 - (IntKind.wrap .i64 (8 * (Int.tmod i51 4)))))))) (IntKind.bits .u32)))))) fun w56 =>
        I53 (IntKind.wrap .i64 (i51 + 1)) w56 ∧ M54 (IntKind.wrap .i64 (i51 + 1)) w56 < M54 i51 w52)))
       (ldArr w52 (a49) 32 fun c57 =>
        stArr w52 (a1) (c57) 32 fun w58 =>
        ldArr w58 (a1) 32 fun c59 =>
        Q (.agg (c59)) w58))
def A10 : Ann := ⟨[(4, [(5, .one (.int .i64))]), (9, [(7, .one (.int .i64))])], [], [(6, [⟨0, 0, 0, true⟩, ⟨0, 0, 0, true⟩, ⟨0, 0, 0, true⟩, ⟨0, 0, 0, true⟩, ⟨8, 8, 8, true⟩, ⟨22, 22, 30, true⟩, ⟨33, 0, 63, false⟩, ⟨127, 0, 127, false⟩])]⟩
theorem F10_eq (b : Sl) (w : World) (Q : Value → World → Prop) : vcFn Tryd.prog A10 Tryd.f10 #[.slice (b.a) (b.len) (b.cap)] w Q = F10 b w Q := by kernel_rfl
theorem F10_does (b : Sl) (w : World) (Q : Value → World → Prop) (hQ : F10 b w Q) : Does Tryd.prog 10 #[.slice (b.a) (b.len) (b.cap)] w Q :=
  vcFn_sound noAsk mixed (A := A10) (by kernel_rfl) Tryd.func10 (Nat.le_of_ble_eq_true (by kernel_rfl)) (by kernel_rfl) ((F10_eq b w Q).mpr hQ)

/- nacelle/nacellelaw04.awake -/
def F11 (w : World) (Q : Value → World → Prop) : Prop :=
  allocK w #[.int .u8 (97), .int .u8 (98), .int .u8 (99)] 5 fun a1 w2 =>
  runG (.sl) Tryd.prog w2 (convert 22 22 (.slice (some (a1)) (3) (3))) fun l3 w4 =>
  Does Tryd.prog 9 #[.slice (l3.a) (l3.len) (l3.cap)] w4 fun r5 w6 => ∃ c7 : Array Value, r5 = .agg (c7) ∧
  Does Tryd.prog 19 #[.agg (c7)] w6 fun r8 w9 => ∃ s10 : ByteArray, r8 = .string (s10) ∧
  cond ((s10).toList == (((⟨#[98, 97, 55, 56, 49, 54, 98, 102, 56, 102, 48, 49, 99, 102, 101, 97, 52, 49, 52, 49, 52, 48, 100, 101, 53, 100, 97, 101, 50, 50, 50, 51, 98, 48, 48, 51, 54, 49, 97, 51, 57, 54, 49, 55, 55, 97, 57, 99, 98, 52, 49, 48, 102, 102, 54, 49, 102, 50, 48, 48, 49, 53, 97, 100]⟩ : ByteArray))).toList)
  (Does Tryd.prog 9 #[.slice (none) (0) (0)] w9 fun r11 w12 => ∃ c13 : Array Value, r11 = .agg (c13) ∧
   Does Tryd.prog 19 #[.agg (c13)] w12 fun r14 w15 => ∃ s16 : ByteArray, r14 = .string (s16) ∧
   Q (.bool ((s16).toList == (((⟨#[101, 51, 98, 48, 99, 52, 52, 50, 57, 56, 102, 99, 49, 99, 49, 52, 57, 97, 102, 98, 102, 52, 99, 56, 57, 57, 54, 102, 98, 57, 50, 52, 50, 55, 97, 101, 52, 49, 101, 52, 54, 52, 57, 98, 57, 51, 52, 99, 97, 52, 57, 53, 57, 57, 49, 98, 55, 56, 53, 50, 98, 56, 53, 53]⟩ : ByteArray))).toList)) w15)
  (Q (.bool (false)) w9)
def A11 : Ann := ⟨[], [], []⟩
theorem F11_eq (w : World) (Q : Value → World → Prop) : vcFn Tryd.prog A11 Tryd.f11 #[] w Q = F11 w Q := by kernel_rfl
theorem F11_does (w : World) (Q : Value → World → Prop) (hQ : F11 w Q) : Does Tryd.prog 11 #[] w Q :=
  vcFn_sound noAsk mixed (A := A11) (by kernel_rfl) Tryd.func11 (Nat.le_of_ble_eq_true (by kernel_rfl)) (by kernel_rfl) ((F11_eq w Q).mpr hQ)

/- nacelle/sha.New -/
def F12 (w : World) (Q : Value → World → Prop) : Prop :=
  allocK w (#[.int .u32 (1779033703), .int .u32 (3144134277), .int .u32 (1013904242), .int .u32 (2773480762), .int .u32 (1359893119), .int .u32 (2600822924), .int .u32 (528734635), .int .u32 (1541459225), .int .u8 (0), .int .u8 (0), .int .u8 (0), .int .u8 (0), .int .u8 (0), .int .u8 (0), .int .u8 (0), .int .u8 (0), .int .u8 (0), .int .u8 (0), .int .u8 (0), .int .u8 (0), .int .u8 (0), .int .u8 (0), .int .u8 (0), .int .u8 (0), .int .u8 (0), .int .u8 (0), .int .u8 (0), .int .u8 (0), .int .u8 (0), .int .u8 (0), .int .u8 (0), .int .u8 (0), .int .u8 (0), .int .u8 (0), .int .u8 (0), .int .u8 (0), .int .u8 (0), .int .u8 (0), .int .u8 (0), .int .u8 (0), .int .u8 (0), .int .u8 (0), .int .u8 (0), .int .u8 (0), .int .u8 (0), .int .u8 (0), .int .u8 (0), .int .u8 (0), .int .u8 (0), .int .u8 (0), .int .u8 (0), .int .u8 (0), .int .u8 (0), .int .u8 (0), .int .u8 (0), .int .u8 (0), .int .u8 (0), .int .u8 (0), .int .u8 (0), .int .u8 (0), .int .u8 (0), .int .u8 (0), .int .u8 (0), .int .u8 (0), .int .u8 (0), .int .u8 (0), .int .u8 (0), .int .u8 (0), .int .u8 (0), .int .u8 (0), .int .u8 (0), .int .u8 (0), .int .i64 (0)]) 49 fun a1 w2 =>
  Q (.pointer (some (a1))) w2
def A12 : Ann := ⟨[], [], []⟩
theorem F12_eq (w : World) (Q : Value → World → Prop) : vcFn Tryd.prog A12 Tryd.f12 #[] w Q = F12 w Q := by kernel_rfl
theorem F12_does (w : World) (Q : Value → World → Prop) (hQ : F12 w Q) : Does Tryd.prog 12 #[] w Q :=
  vcFn_sound noAsk mixed (A := A12) (by kernel_rfl) Tryd.func12 (Nat.le_of_ble_eq_true (by kernel_rfl)) (by kernel_rfl) ((F12_eq w Q).mpr hQ)

/- (*nacelle/sha.Hash).Write -/
def F13 (h : Option Addr) (b : Sl) (w : World) (Q : Value → World → Prop) : Prop :=
  ∃ (I3 : Sl → World → Prop) (M4 : Sl → World → Nat), I3 ⟨b.a, b.len, b.cap⟩ w ∧
  ∀ b1 : Sl, ∀ w2 : World, I3 b1 w2 →
    cond (decide (((((b1.len : Nat) : Int)) : Int) > 0))
    (nnil (h) fun a5 =>
     nnil (h) fun a6 =>
     ldT (.int .i64) w2.drew ((a6).add 72) fun x7 =>
     (64 : Int) ≠ 0 ∧
     slcA ((a5).add 8) 64 (Int.tmod x7 64) (((64 : Nat) : Int)) 1 fun l8 =>
     runG (.int .i64) Tryd.prog w2.drew (Builtin.copy_ #[22, 22] 3 #[.slice (l8.a) (l8.len) (l8.cap), .slice (b1.a) (b1.len) (b1.cap)]) fun x9 w10 =>
     nnil (h) fun a11 =>
     ldT (.int .i64) w10 ((a11).add 72) fun x12 =>
     nnil (h) fun a13 =>
     stC w10 ((a13).add 72) (.int .i64 (IntKind.wrap .i64 (x12 + x9))) fun w14 =>
     slcT ⟨b1.a, b1.len, b1.cap⟩ (x9) (((b1.len : Nat) : Int)) 1 fun l15 =>
     nnil (h) fun a16 =>
     ldT (.int .i64) w14 ((a16).add 72) fun x17 =>
     (64 : Int) ≠ 0 ∧
     cond (((Int.tmod x17 64) : Int) == 0)
     (nnil (h) fun a18 =>
      ldT (.int .u32) w14.drew (a18) fun x19 => ldT (.int .u32) w14.drew ((a18).add 1) fun x20 => ldT (.int .u32) w14.drew ((a18).add 2) fun x21 => ldT (.int .u32) w14.drew ((a18).add 3) fun x22 => ldT (.int .u32) w14.drew ((a18).add 4) fun x23 => ldT (.int .u32) w14.drew ((a18).add 5) fun x24 => ldT (.int .u32) w14.drew ((a18).add 6) fun x25 => ldT (.int .u32) w14.drew ((a18).add 7) fun x26 =>
      nnil (h) fun a27 =>
      ldArr w14.drew ((a27).add 8) 64 fun c28 =>
      Does Tryd.prog 23 #[.agg #[.int .u32 (x19), .int .u32 (x20), .int .u32 (x21), .int .u32 (x22), .int .u32 (x23), .int .u32 (x24), .int .u32 (x25), .int .u32 (x26)], .agg (c28)] w14.drew fun r29 w30 => ∃ x31 : Int, ∃ x32 : Int, ∃ x33 : Int, ∃ x34 : Int, ∃ x35 : Int, ∃ x36 : Int, ∃ x37 : Int, ∃ x38 : Int, r29 = .agg #[.int .u32 (x31), .int .u32 (x32), .int .u32 (x33), .int .u32 (x34), .int .u32 (x35), .int .u32 (x36), .int .u32 (x37), .int .u32 (x38)] ∧
      nnil (h) fun a39 =>
      stC w30 (a39) (.int .u32 (x31)) fun w41 => stC w41 ((a39).add 1) (.int .u32 (x32)) fun w42 => stC w42 ((a39).add 2) (.int .u32 (x33)) fun w43 => stC w43 ((a39).add 3) (.int .u32 (x34)) fun w44 => stC w44 ((a39).add 4) (.int .u32 (x35)) fun w45 => stC w45 ((a39).add 5) (.int .u32 (x36)) fun w46 => stC w46 ((a39).add 6) (.int .u32 (x37)) fun w47 => stC w47 ((a39).add 7) (.int .u32 (x38)) fun w48 =>
      I3 ⟨l15.a, l15.len, l15.cap⟩ w48 ∧ M4 ⟨l15.a, l15.len, l15.cap⟩ w48 < M4 b1 w2)
     (I3 ⟨l15.a, l15.len, l15.cap⟩ w14 ∧ M4 ⟨l15.a, l15.len, l15.cap⟩ w14 < M4 b1 w2))
    (Q (.tuple #[]) w2)
def A13 : Ann := ⟨[(0, [(1, .one (.sl))])], [], [(1, [⟨0, 0, 0, true⟩, ⟨1, 1, 1, true⟩, ⟨2, 2, 3, true⟩, ⟨0, 0, 0, true⟩, ⟨8, 8, 8, true⟩, ⟨16, 16, 24, true⟩, ⟨32, 32, 56, true⟩, ⟨64, 64, 120, true⟩, ⟨132, 132, 255, true⟩, ⟨0, 0, 0, true⟩, ⟨768, 0, 1023, false⟩, ⟨2047, 1024, 2047, true⟩]), (5, [⟨0, 0, 0, true⟩, ⟨0, 0, 0, true⟩, ⟨2, 2, 2, true⟩, ⟨4, 4, 6, true⟩, ⟨8, 8, 14, true⟩, ⟨0, 0, 0, true⟩, ⟨32, 32, 32, true⟩, ⟨64, 64, 96, true⟩, ⟨128, 128, 224, true⟩, ⟨272, 0, 510, false⟩, ⟨1023, 1, 1023, true⟩, ⟨2047, 1024, 2047, true⟩, ⟨3071, 0, 4095, false⟩])]⟩
theorem F13_eq (h : Option Addr) (b : Sl) (w : World) (Q : Value → World → Prop) : vcFn Tryd.prog A13 Tryd.f13 #[.pointer (h), .slice (b.a) (b.len) (b.cap)] w Q = F13 h b w Q := by kernel_rfl
theorem F13_does (h : Option Addr) (b : Sl) (w : World) (Q : Value → World → Prop) (hQ : F13 h b w Q) : Does Tryd.prog 13 #[.pointer (h), .slice (b.a) (b.len) (b.cap)] w Q :=
  vcFn_sound noAsk mixed (A := A13) (by kernel_rfl) Tryd.func13 (Nat.le_of_ble_eq_true (by kernel_rfl)) (by kernel_rfl) ((F13_eq h b w Q).mpr hQ)

/- (*nacelle/sha.Hash).Len -/
def F14 (h : Option Addr) (w : World) (Q : Value → World → Prop) : Prop :=
  nnil (h) fun a1 =>
  ldT (.int .i64) w ((a1).add 72) fun x2 =>
  Q (.int .i64 (x2)) w
def A14 : Ann := ⟨[], [], []⟩
theorem F14_eq (h : Option Addr) (w : World) (Q : Value → World → Prop) : vcFn Tryd.prog A14 Tryd.f14 #[.pointer (h)] w Q = F14 h w Q := by kernel_rfl
theorem F14_does (h : Option Addr) (w : World) (Q : Value → World → Prop) (hQ : F14 h w Q) : Does Tryd.prog 14 #[.pointer (h)] w Q :=
  vcFn_sound noAsk mixed (A := A14) (by kernel_rfl) Tryd.func14 (Nat.le_of_ble_eq_true (by kernel_rfl)) (by kernel_rfl) ((F14_eq h w Q).mpr hQ)

/- (*nacelle/sha.Hash).Sum -/
def F15 (h : Option Addr) (w : World) (Q : Value → World → Prop) : Prop :=
  allocK w (zc Tryd.prog 24) 24 fun a1 w2 =>
  Does Tryd.prog 16 #[.pointer (h)] w2 fun r3 w4 => ∃ p5 : Option Addr, r3 = .pointer (p5) ∧
  allocK w4 #[.int .u8 (128)] 5 fun a6 w7 =>
  Does Tryd.prog 13 #[.pointer (p5), .slice (some (a6)) (1) (1)] w7 fun r8 w9 => r8 = .tuple #[] ∧
  ∃ (I11 : World → Prop) (M12 : World → Nat), I11 w9 ∧
  ∀ w10 : World, I11 w10 →
    nnil (p5) fun a13 =>
    ldT (.int .i64) w10 ((a13).add 72) fun x14 =>
    (64 : Int) ≠ 0 ∧
    cond (((Int.tmod x14 64) : Int) != 56)
    (allocK w10 #[.int .u8 (0)] 5 fun a15 w16 =>
     Does Tryd.prog 13 #[.pointer (p5), .slice (some (a15)) (1) (1)] w16 fun r17 w18 => r17 = .tuple #[] ∧
     I11 w18 ∧ M12 w18 < M12 w10)
    (allocK w10 (zc Tryd.prog 51) 51 fun a19 w20 =>
     ∃ (I23 : Int → World → Prop) (M24 : Int → World → Nat), I23 0 w20 ∧
     ∀ x21 : Int, ∀ w22 : World, I23 x21 w22 →
       cond (decide ((x21 : Int) < 8))
       (nnil (h) fun a25 =>
        ldT (.int .i64) w22 ((a25).add 72) fun x26 =>
        (0 : Int) ≤ (IntKind.wrap .i64 (56 - (IntKind.wrap .i64 (8 * x21)))) ∧
        idxR 8 (x21) (
        stC w22 ((a19).add (Int.toNat (x21) * 1)) (.int .u8 (IntKind.wrap .u8 (Int.fdiv (IntKind.wrap .u64 ((IntKind.wrap .u64 x26) * 8)) (2 ^ (min (Int.toNat ((IntKind.wrap .i64 (56 - (IntKind.wrap .i64 (8 * x21)))))) (IntKind.bits .u64)))))) fun w27 =>
        I23 (IntKind.wrap .i64 (x21 + 1)) w27 ∧ M24 (IntKind.wrap .i64 (x21 + 1)) w27 < M24 x21 w22))
       (slcA (a19) 8 (0) (((8 : Nat) : Int)) 1 fun l28 =>
        Does Tryd.prog 13 #[.pointer (p5), .slice (l28.a) (l28.len) (l28.cap)] w22 fun r29 w30 => r29 = .tuple #[] ∧
        allocK w30 (zc Tryd.prog 24) 24 fun a31 w32 =>
        ∃ (I35 : Int → World → Prop) (M36 : Int → World → Nat), I35 0 w32 ∧
        ∀ x33 : Int, ∀ w34 : World, I35 x33 w34 →
          cond (decide ((x33 : Int) < 32))
          ((4 : Int) ≠ 0 ∧
           nnil (p5) fun a37 =>
           idxR 8 (IntKind.wrap .i64 (Int.tdiv x33 4)) (
           ldT (.int .u32) w34 ((a37).add (Int.toNat (IntKind.wrap .i64 (Int.tdiv x33 4)) * 1)) fun x38 =>
           (4 : Int) ≠ 0 ∧
           (0 : Int) ≤ (IntKind.wrap .i64 (24 - (IntKind.wrap .i64 (8 * (Int.tmod x33 4))))) ∧
           idxR 32 (x33) (
           stC w34 ((a31).add (Int.toNat (x33) * 1)) (.int .u8 (IntKind.wrap .u8 (Int.fdiv x38 (2 ^ (min (Int.toNat ((IntKind.wrap .i64 (24 - (IntKind.wrap .i64 (8 * (Int.tmod x33 4))))))) (IntKind.bits .u32)))))) fun w39 =>
           I35 (IntKind.wrap .i64 (x33 + 1)) w39 ∧ M36 (IntKind.wrap .i64 (x33 + 1)) w39 < M36 x33 w34)))
          (ldArr w34 (a31) 32 fun c40 =>
           stArr w34 (a1) (c40) 32 fun w41 =>
           ldArr w41 (a1) 32 fun c42 =>
           Q (.agg (c42)) w41)))
def A15 : Ann := ⟨[(3, []), (7, [(22, .one (.int .i64))]), (14, [(42, .one (.int .i64))])], [], []⟩
theorem F15_eq (h : Option Addr) (w : World) (Q : Value → World → Prop) : vcFn Tryd.prog A15 Tryd.f15 #[.pointer (h)] w Q = F15 h w Q := by kernel_rfl
theorem F15_does (h : Option Addr) (w : World) (Q : Value → World → Prop) (hQ : F15 h w Q) : Does Tryd.prog 15 #[.pointer (h)] w Q :=
  vcFn_sound noAsk mixed (A := A15) (by kernel_rfl) Tryd.func15 (Nat.le_of_ble_eq_true (by kernel_rfl)) (by kernel_rfl) ((F15_eq h w Q).mpr hQ)

/- (*nacelle/sha.Hash).Copy -/
def F16 (h : Option Addr) (w : World) (Q : Value → World → Prop) : Prop :=
  nnil (h) fun a1 =>
  ldArr w (a1) 73 fun c2 =>
  allocK w (zc Tryd.prog 49) 49 fun a3 w4 =>
  stArr w4 (a3) (c2) 73 fun w5 =>
  Q (.pointer (some (a3))) w5
def A16 : Ann := ⟨[], [], []⟩
theorem F16_eq (h : Option Addr) (w : World) (Q : Value → World → Prop) : vcFn Tryd.prog A16 Tryd.f16 #[.pointer (h)] w Q = F16 h w Q := by kernel_rfl
theorem F16_does (h : Option Addr) (w : World) (Q : Value → World → Prop) (hQ : F16 h w Q) : Does Tryd.prog 16 #[.pointer (h)] w Q :=
  vcFn_sound noAsk mixed (A := A16) (by kernel_rfl) Tryd.func16 (Nat.le_of_ble_eq_true (by kernel_rfl)) (by kernel_rfl) ((F16_eq h w Q).mpr hQ)

/- nacelle/sha.Unhex -/
def F17 (s : ByteArray) (w : World) (Q : Value → World → Prop) : Prop :=
  allocK w (zc Tryd.prog 24) 24 fun a1 w2 =>
  allocK w2 (zc Tryd.prog 24) 24 fun a3 w4 =>
  cond ((((((s).size : Nat) : Int)) : Int) != 64)
  (ldArr w4 (a3) 32 fun c5 =>
   stArr w4 (a1) (c5) 32 fun w6 =>
   ldArr w6 (a1) 32 fun c7 =>
   Q (.tuple #[.agg (c7), .int .i64 (3)]) w6)
  (runR Tryd.prog w4 (Instr.range 9 (.string (s))) fun v8 w9 =>
   ∃ (I11 : World → Prop) (M12 : World → Nat), I11 w9 ∧
   ∀ w10 : World, I11 w10 →
     ∃ (r13 : Value) (w14 : World), (Instr.next (v8) true 0).run Tryd.prog w10 = .ok r13 w14 ∧ ((r13 = .tuple #[.bool (false)] ∧
     ldArr w14 (a3) 32 fun c17 =>
     stArr w14 (a1) (c17) 32 fun w18 =>
     ldArr w18 (a1) 32 fun c19 =>
     Q (.tuple #[.agg (c19), .int .i64 (0)]) w18) ∨
     (∃ x15 x16 : Int, r13 = .tuple #[.bool (true), .int .i64 (x15), .int .i32 (x16)] ∧
     idxS (s) (x15) fun x20 =>
     Does Tryd.prog 24 #[.int .u8 (x20)] w14 fun r21 w22 => ∃ x23 : Int, r21 = .int .u8 (x23) ∧
     cond (decide ((x23 : Int) > 15))
     (stArr w22 (a1) (#[.int .u8 (0), .int .u8 (0), .int .u8 (0), .int .u8 (0), .int .u8 (0), .int .u8 (0), .int .u8 (0), .int .u8 (0), .int .u8 (0), .int .u8 (0), .int .u8 (0), .int .u8 (0), .int .u8 (0), .int .u8 (0), .int .u8 (0), .int .u8 (0), .int .u8 (0), .int .u8 (0), .int .u8 (0), .int .u8 (0), .int .u8 (0), .int .u8 (0), .int .u8 (0), .int .u8 (0), .int .u8 (0), .int .u8 (0), .int .u8 (0), .int .u8 (0), .int .u8 (0), .int .u8 (0), .int .u8 (0), .int .u8 (0)]) 32 fun w24 =>
      ldArr w24 (a1) 32 fun c25 =>
      Q (.tuple #[.agg (c25), .int .i64 (3)]) w24)
     ((2 : Int) ≠ 0 ∧
      (2 : Int) ≠ 0 ∧
      idxR 32 (IntKind.wrap .i64 (Int.tdiv x15 2)) (
      ldT (.int .u8) w22 ((a3).add (Int.toNat (IntKind.wrap .i64 (Int.tdiv x15 2)) * 1)) fun x26 =>
      (0 : Int) ≤ 4 ∧
      idxR 32 (IntKind.wrap .i64 (Int.tdiv x15 2)) (
      stC w22 ((a3).add (Int.toNat (IntKind.wrap .i64 (Int.tdiv x15 2)) * 1)) (.int .u8 (bits .or .u8 (IntKind.wrap .u8 (x26 * 2 ^ (min (Int.toNat (4)) (IntKind.bits .u8)))) x23)) fun w27 =>
      I11 w27 ∧ M12 w27 < M12 w10))))))
def A17 : Ann := ⟨[(5, [])], [], []⟩
theorem F17_eq (s : ByteArray) (w : World) (Q : Value → World → Prop) : vcFn Tryd.prog A17 Tryd.f17 #[.string (s)] w Q = F17 s w Q := by kernel_rfl
theorem F17_does (s : ByteArray) (w : World) (Q : Value → World → Prop) (hQ : F17 s w Q) : Does Tryd.prog 17 #[.string (s)] w Q :=
  vcFn_sound noAsk mixed (A := A17) (by kernel_rfl) Tryd.func17 (Nat.le_of_ble_eq_true (by kernel_rfl)) (by kernel_rfl) ((F17_eq s w Q).mpr hQ)

/- nacelle/nacelleref04.Unhex -/
def F18 (s : ByteArray) (w : World) (Q : Value → World → Prop) : Prop :=
  allocK w (zc Tryd.prog 24) 24 fun a1 w2 =>
  allocK w2 (zc Tryd.prog 24) 24 fun a3 w4 =>
  cond ((((((s).size : Nat) : Int)) : Int) != 64)
  (ldArr w4 (a3) 32 fun c5 =>
   stArr w4 (a1) (c5) 32 fun w6 =>
   ldArr w6 (a1) 32 fun c7 =>
   Q (.tuple #[.agg (c7), .bool (false)]) w6)
  (∃ (I10 : Int → World → Prop) (M11 : Int → World → Nat), I10 0 w4 ∧
   ∀ i8 : Int, ∀ w9 : World, I10 i8 w9 →
     cond (decide ((i8 : Int) < 64))
     (∃ (I15 : Int → Int → World → Prop) (M16 : Int → Int → World → Nat), I15 (-1) 0 w9 ∧
      ∀ n12 : Int, ∀ k13 : Int, ∀ w14 : World, I15 n12 k13 w14 →
        cond (decide ((k13 : Int) < 16))
        (∀ J19 : Int → World → Prop, (∀ n17 : Int, ∀ w18 : World, 
           (I15 n17 (IntKind.wrap .i64 (k13 + 1)) w18 ∧ M16 n17 (IntKind.wrap .i64 (k13 + 1)) w18 < M16 n12 k13 w14) → J19 n17 w18) →
         idxS ((⟨#[48, 49, 50, 51, 52, 53, 54, 55, 56, 57, 97, 98, 99, 100, 101, 102]⟩ : ByteArray)) (k13) fun x20 =>
         idxS (s) (i8) fun x21 =>
         cond ((x20 : Int) == x21)
         (J19 k13 w14.drew)
         (J19 n12 w14.drew))
        (cond (decide ((n12 : Int) < 0))
         (stArr w14 (a1) (#[.int .u8 (0), .int .u8 (0), .int .u8 (0), .int .u8 (0), .int .u8 (0), .int .u8 (0), .int .u8 (0), .int .u8 (0), .int .u8 (0), .int .u8 (0), .int .u8 (0), .int .u8 (0), .int .u8 (0), .int .u8 (0), .int .u8 (0), .int .u8 (0), .int .u8 (0), .int .u8 (0), .int .u8 (0), .int .u8 (0), .int .u8 (0), .int .u8 (0), .int .u8 (0), .int .u8 (0), .int .u8 (0), .int .u8 (0), .int .u8 (0), .int .u8 (0), .int .u8 (0), .int .u8 (0), .int .u8 (0), .int .u8 (0)]) 32 fun w22 =>
          ldArr w22 (a1) 32 fun c23 =>
          Q (.tuple #[.agg (c23), .bool (false)]) w22)
         ((2 : Int) ≠ 0 ∧
          (2 : Int) ≠ 0 ∧
          idxR 32 (IntKind.wrap .i64 (Int.tdiv i8 2)) (
          ldT (.int .u8) w14 ((a3).add (Int.toNat (IntKind.wrap .i64 (Int.tdiv i8 2)) * 1)) fun x24 =>
          idxR 32 (IntKind.wrap .i64 (Int.tdiv i8 2)) (
          stC w14 ((a3).add (Int.toNat (IntKind.wrap .i64 (Int.tdiv i8 2)) * 1)) (.int .u8 (IntKind.wrap .u8 ((IntKind.wrap .u8 (x24 * 16)) + (IntKind.wrap .u8 n12)))) fun w25 =>
          I10 (IntKind.wrap .i64 (i8 + 1)) w25 ∧ M11 (IntKind.wrap .i64 (i8 + 1)) w25 < M11 i8 w9)))))
     (ldArr w9 (a3) 32 fun c26 =>
      stArr w9 (a1) (c26) 32 fun w27 =>
      ldArr w27 (a1) 32 fun c28 =>
      Q (.tuple #[.agg (c28), .bool (true)]) w27))
def A18 : Ann := ⟨[(5, [(5, .one (.int .i64))]), (9, [(6, .one (.int .i64)), (7, .one (.int .i64))])], [(10, [(6, .one (.int .i64))])], [(11, [⟨0, 0, 0, true⟩, ⟨1, 1, 1, true⟩, ⟨0, 0, 0, true⟩, ⟨0, 0, 0, true⟩, ⟨12, 12, 12, true⟩, ⟨18, 18, 31, true⟩])]⟩
theorem F18_eq (s : ByteArray) (w : World) (Q : Value → World → Prop) : vcFn Tryd.prog A18 Tryd.f18 #[.string (s)] w Q = F18 s w Q := by kernel_rfl
theorem F18_does (s : ByteArray) (w : World) (Q : Value → World → Prop) (hQ : F18 s w Q) : Does Tryd.prog 18 #[.string (s)] w Q :=
  vcFn_sound noAsk mixed (A := A18) (by kernel_rfl) Tryd.func18 (Nat.le_of_ble_eq_true (by kernel_rfl)) (by kernel_rfl) ((F18_eq s w Q).mpr hQ)

/- nacelle/sha.Hex -/
def F19 (sum : Array Value) (w : World) (Q : Value → World → Prop) : Prop :=
  allocK w (sum) 24 fun a1 w2 =>
  allocK w2 (zc Tryd.prog 47) 47 fun a3 w4 =>
  ldArr w4 (a1) 32 fun c5 =>
  ∃ (I8 : Int → World → Prop) (M9 : Int → World → Nat), I8 0 w4 ∧
  ∀ x6 : Int, ∀ w7 : World, I8 x6 w7 →
    cond (decide ((x6 : Int) < 32))
    (idxA (.int .u8) (c5) 32 (x6) fun x10 =>
     (0 : Int) ≤ 4 ∧
     idxS ((⟨#[48, 49, 50, 51, 52, 53, 54, 55, 56, 57, 97, 98, 99, 100, 101, 102]⟩ : ByteArray)) (Int.fdiv x10 (2 ^ (min (Int.toNat (4)) (IntKind.bits .u8)))) fun x11 =>
     idxS ((⟨#[48, 49, 50, 51, 52, 53, 54, 55, 56, 57, 97, 98, 99, 100, 101, 102]⟩ : ByteArray)) (bits .and .u8 x10 15) fun x12 =>
     idxR 64 (IntKind.wrap .i64 (2 * x6)) (
     stC w7.drew ((a3).add (Int.toNat (IntKind.wrap .i64 (2 * x6)) * 1)) (.int .u8 (x11)) fun w13 =>
     idxR 64 (IntKind.wrap .i64 ((IntKind.wrap .i64 (2 * x6)) + 1)) (
     stC w13 ((a3).add (Int.toNat (IntKind.wrap .i64 ((IntKind.wrap .i64 (2 * x6)) + 1)) * 1)) (.int .u8 (x12)) fun w14 =>
     I8 (IntKind.wrap .i64 (x6 + 1)) w14 ∧ M9 (IntKind.wrap .i64 (x6 + 1)) w14 < M9 x6 w7)))
    (slcA (a3) 64 (0) (((64 : Nat) : Int)) 1 fun l15 =>
     lookS Tryd.prog w7 (convert 22 9 (.slice (l15.a) (l15.len) (l15.cap))) fun s16 =>
     Q (.string (s16)) w7)
def A19 : Ann := ⟨[(3, [(7, .one (.int .i64))])], [], [(5, [⟨0, 0, 0, true⟩, ⟨1, 1, 1, true⟩, ⟨0, 0, 0, true⟩, ⟨4, 4, 4, true⟩, ⟨8, 8, 12, true⟩, ⟨0, 0, 0, true⟩, ⟨32, 32, 32, true⟩, ⟨64, 64, 96, true⟩, ⟨0, 0, 0, true⟩, ⟨256, 256, 256, true⟩, ⟨512, 512, 768, true⟩, ⟨227, 2, 227, true⟩, ⟨2275, 0, 2275, false⟩, ⟨8191, 16, 8191, true⟩, ⟨16383, 0, 16383, false⟩])]⟩
theorem F19_eq (sum : Array Value) (w : World) (Q : Value → World → Prop) : vcFn Tryd.prog A19 Tryd.f19 #[.agg (sum)] w Q = F19 sum w Q := by kernel_rfl
theorem F19_does (sum : Array Value) (w : World) (Q : Value → World → Prop) (hQ : F19 sum w Q) : Does Tryd.prog 19 #[.agg (sum)] w Q :=
  vcFn_sound noAsk mixed (A := A19) (by kernel_rfl) Tryd.func19 (Nat.le_of_ble_eq_true (by kernel_rfl)) (by kernel_rfl) ((F19_eq sum w Q).mpr hQ)

/- nacelle/nacelleref04.Hex -/
def F20 (sum : Array Value) (w : World) (Q : Value → World → Prop) : Prop :=
  allocK w (sum) 24 fun a1 w2 =>
  ∃ (I6 : ByteArray → Int → World → Prop) (M7 : ByteArray → Int → World → Nat), I6 ((⟨#[]⟩ : ByteArray)) 0 w2 ∧
  ∀ s3 : ByteArray, ∀ i4 : Int, ∀ w5 : World, I6 s3 i4 w5 →
    cond (decide ((i4 : Int) < 32))
    (idxR 32 (i4) (
     ldT (.int .u8) w5.drew ((a1).add (Int.toNat (i4) * 1)) fun x8 =>
     (16 : Int) ≠ 0 ∧
     idxR 32 (i4) (
     ldT (.int .u8) w5.drew ((a1).add (Int.toNat (i4) * 1)) fun x9 =>
     (16 : Int) ≠ 0 ∧
     slcS ((⟨#[48, 49, 50, 51, 52, 53, 54, 55, 56, 57, 97, 98, 99, 100, 101, 102]⟩ : ByteArray)) (IntKind.wrap .u8 (Int.tdiv x8 16)) (IntKind.wrap .u8 ((IntKind.wrap .u8 (Int.tdiv x9 16)) + 1)) fun s10 =>
     idxR 32 (i4) (
     ldT (.int .u8) w5.drew ((a1).add (Int.toNat (i4) * 1)) fun x11 =>
     (16 : Int) ≠ 0 ∧
     idxR 32 (i4) (
     ldT (.int .u8) w5.drew ((a1).add (Int.toNat (i4) * 1)) fun x12 =>
     (16 : Int) ≠ 0 ∧
     slcS ((⟨#[48, 49, 50, 51, 52, 53, 54, 55, 56, 57, 97, 98, 99, 100, 101, 102]⟩ : ByteArray)) (Int.tmod x11 16) (IntKind.wrap .u8 ((Int.tmod x12 16) + 1)) fun s13 =>
     (((s10).size + (s13).size : Nat) : Int) ≤ 9223372036854775807 ∧
     (((s3).size + ((s10 ++ s13)).size : Nat) : Int) ≤ 9223372036854775807 ∧
     I6 (s3 ++ (s10 ++ s13)) (IntKind.wrap .i64 (i4 + 1)) w5.drew ∧ M7 (s3 ++ (s10 ++ s13)) (IntKind.wrap .i64 (i4 + 1)) w5.drew < M7 s3 i4 w5)))))
    (Q (.string (s3)) w5)
def A20 : Ann := ⟨[(3, [(3, .one (.str)), (4, .one (.int .i64))])], [], [(5, [⟨0, 0, 0, true⟩, ⟨0, 0, 0, true⟩, ⟨2, 2, 2, true⟩, ⟨4, 4, 6, true⟩, ⟨8, 8, 14, true⟩, ⟨0, 0, 0, true⟩, ⟨32, 32, 32, true⟩, ⟨64, 64, 96, true⟩, ⟨128, 128, 224, true⟩, ⟨256, 256, 480, true⟩, ⟨528, 528, 1022, true⟩, ⟨0, 0, 0, true⟩, ⟨2048, 2048, 2048, true⟩, ⟨4096, 4096, 6144, true⟩, ⟨8192, 8192, 14336, true⟩, ⟨0, 0, 0, true⟩, ⟨32768, 32768, 32768, true⟩, ⟨65536, 65536, 98304, true⟩, ⟨131072, 131072, 229376, true⟩, ⟨262144, 262144, 491520, true⟩, ⟨540672, 540672, 1046528, true⟩, ⟨1049600, 1049600, 2097150, true⟩, ⟨2097153, 2097153, 4194303, true⟩, ⟨8388607, 4194305, 8388607, true⟩])]⟩
theorem F20_eq (sum : Array Value) (w : World) (Q : Value → World → Prop) : vcFn Tryd.prog A20 Tryd.f20 #[.agg (sum)] w Q = F20 sum w Q := by kernel_rfl
theorem F20_does (sum : Array Value) (w : World) (Q : Value → World → Prop) (hQ : F20 sum w Q) : Does Tryd.prog 20 #[.agg (sum)] w Q :=
  vcFn_sound noAsk mixed (A := A20) (by kernel_rfl) Tryd.func20 (Nat.le_of_ble_eq_true (by kernel_rfl)) (by kernel_rfl) ((F20_eq sum w Q).mpr hQ)

/- nacelle/nacelleref04.padded -/
def F21 (b : Sl) (w : World) (Q : Value → World → Prop) : Prop :=
  allocK w #[] 5 fun a1 w2 =>
  runG (.sl) Tryd.prog w2 (Builtin.append_ #[22, 22] 22 #[.slice (some (a1)) (0) (0), .slice (b.a) (b.len) (b.cap)]) fun l3 w4 =>
  allocK w4 #[.int .u8 (128)] 5 fun a5 w6 =>
  runG (.sl) Tryd.prog w6 (Builtin.append_ #[22, 22] 22 #[.slice (l3.a) (l3.len) (l3.cap), .slice (some (a5)) (1) (1)]) fun l7 w8 =>
  ∃ (I11 : Sl → World → Prop) (M12 : Sl → World → Nat), I11 ⟨l7.a, l7.len, l7.cap⟩ w8 ∧
  ∀ out9 : Sl, ∀ w10 : World, I11 out9 w10 →
    (64 : Int) ≠ 0 ∧
    cond (((Int.tmod (((out9.len : Nat) : Int)) 64) : Int) != 56)
    (allocK w10 #[.int .u8 (0)] 5 fun a13 w14 =>
     runG (.sl) Tryd.prog w14 (Builtin.append_ #[22, 22] 22 #[.slice (out9.a) (out9.len) (out9.cap), .slice (some (a13)) (1) (1)]) fun l15 w16 =>
     I11 ⟨l15.a, l15.len, l15.cap⟩ w16 ∧ M12 ⟨l15.a, l15.len, l15.cap⟩ w16 < M12 out9 w10)
    (∃ (I20 : Sl → Int → World → Prop) (M21 : Sl → Int → World → Nat), I20 ⟨out9.a, out9.len, out9.cap⟩ 7 w10 ∧
     ∀ out17 : Sl, ∀ k18 : Int, ∀ w19 : World, I20 out17 k18 w19 →
       cond (decide ((k18 : Int) ≥ 0))
       ((0 : Int) ≤ (IntKind.wrap .u64 (IntKind.wrap .i64 (8 * k18))) ∧
        allocK w19 #[.int .u8 (IntKind.wrap .u8 (Int.fdiv (IntKind.wrap .u64 ((IntKind.wrap .u64 (((b.len : Nat) : Int))) * 8)) (2 ^ (min (Int.toNat ((IntKind.wrap .u64 (IntKind.wrap .i64 (8 * k18))))) (IntKind.bits .u64)))))] 5 fun a22 w23 =>
        runG (.sl) Tryd.prog w23 (Builtin.append_ #[22, 22] 22 #[.slice (out17.a) (out17.len) (out17.cap), .slice (some (a22)) (1) (1)]) fun l24 w25 =>
        I20 ⟨l24.a, l24.len, l24.cap⟩ (IntKind.wrap .i64 (k18 - 1)) w25 ∧ M21 ⟨l24.a, l24.len, l24.cap⟩ (IntKind.wrap .i64 (k18 - 1)) w25 < M21 out17 k18 w19)
       (Q (.slice (out17.a) (out17.len) (out17.cap)) w19))
def A21 : Ann := ⟨[(2, [(3, .one (.sl))]), (6, [(3, .one (.sl)), (5, .one (.int .i64))])], [], []⟩
theorem F21_eq (b : Sl) (w : World) (Q : Value → World → Prop) : vcFn Tryd.prog A21 Tryd.f21 #[.slice (b.a) (b.len) (b.cap)] w Q = F21 b w Q := by kernel_rfl
theorem F21_does (b : Sl) (w : World) (Q : Value → World → Prop) (hQ : F21 b w Q) : Does Tryd.prog 21 #[.slice (b.a) (b.len) (b.cap)] w Q :=
  vcFn_sound noAsk mixed (A := A21) (by kernel_rfl) Tryd.func21 (Nat.le_of_ble_eq_true (by kernel_rfl)) (by kernel_rfl) ((F21_eq b w Q).mpr hQ)

/- nacelle/nacelleref04.block -/
def F22 (h0 : Int) (h1 : Int) (h2 : Int) (h3 : Int) (h4 : Int) (h5 : Int) (h6 : Int) (h7 : Int) (b : Sl) (w : World) (Q : Value → World → Prop) : Prop :=
  allocK w (#[.int .u32 (h0), .int .u32 (h1), .int .u32 (h2), .int .u32 (h3), .int .u32 (h4), .int .u32 (h5), .int .u32 (h6), .int .u32 (h7)]) 44 fun a1 w2 =>
  allocK w2 (zc Tryd.prog 44) 44 fun a3 w4 =>
  Does Tryd.prog 25 #[.slice (b.a) (b.len) (b.cap)] w4 fun r5 w6 => ∃ l7 : Sl, r5 = .slice (l7.a) (l7.len) (l7.cap) ∧
  Does Tryd.prog 26 #[] w6 fun r8 w9 => ∃ l10 : Sl, r8 = .slice (l10.a) (l10.len) (l10.cap) ∧
  idxR 8 (0) (
  ldT (.int .u32) w9.drew (a1) fun x11 =>
  idxR 8 (1) (
  ldT (.int .u32) w9.drew ((a1).add 1) fun x12 =>
  idxR 8 (2) (
  ldT (.int .u32) w9.drew ((a1).add 2) fun x13 =>
  idxR 8 (3) (
  ldT (.int .u32) w9.drew ((a1).add 3) fun x14 =>
  idxR 8 (4) (
  ldT (.int .u32) w9.drew ((a1).add 4) fun x15 =>
  idxR 8 (5) (
  ldT (.int .u32) w9.drew ((a1).add 5) fun x16 =>
  idxR 8 (6) (
  ldT (.int .u32) w9.drew ((a1).add 6) fun x17 =>
  idxR 8 (7) (
  ldT (.int .u32) w9.drew ((a1).add 7) fun x18 =>
  ∃ (I29 : Int → Int → Int → Int → Int → Int → Int → Int → Int → World → Prop) (M30 : Int → Int → Int → Int → Int → Int → Int → Int → Int → World → Nat), I29 x11 x12 x13 x14 x15 x16 x17 x18 0 w9.drew ∧
  ∀ a19 : Int, ∀ bb20 : Int, ∀ c21 : Int, ∀ d22 : Int, ∀ e23 : Int, ∀ f24 : Int, ∀ g25 : Int, ∀ x26 : Int, ∀ t27 : Int, ∀ w28 : World, I29 a19 bb20 c21 d22 e23 f24 g25 x26 t27 w28 →
    cond (decide ((t27 : Int) < 64))
    (idx (l10.a) (l10.len) (t27) 1 fun a31 =>
     ldT (.int .u32) w28.drew (a31) fun x32 =>
     idx (l7.a) (l7.len) (t27) 1 fun a33 =>
     ldT (.int .u32) w28.drew (a33) fun x34 =>
     Does Tryd.prog 27 #[.int .u32 (e23), .int .u64 (6)] w28.drew fun r35 w36 => ∃ x37 : Int, r35 = .int .u32 (x37) ∧
     w36.cell? (a33) = some (.int .u32 (x34)) ∧ w36.cell? (a31) = some (.int .u32 (x32)) ∧ Does Tryd.prog 27 #[.int .u32 (e23), .int .u64 (11)] w36 fun r38 w39 => ∃ x40 : Int, r38 = .int .u32 (x40) ∧
     w39.cell? (a33) = some (.int .u32 (x34)) ∧ w39.cell? (a31) = some (.int .u32 (x32)) ∧ Does Tryd.prog 27 #[.int .u32 (e23), .int .u64 (25)] w39 fun r41 w42 => ∃ x43 : Int, r41 = .int .u32 (x43) ∧
     w42.cell? (a33) = some (.int .u32 (x34)) ∧ w42.cell? (a31) = some (.int .u32 (x32)) ∧ Does Tryd.prog 27 #[.int .u32 (a19), .int .u64 (2)] w42 fun r44 w45 => ∃ x46 : Int, r44 = .int .u32 (x46) ∧
     Does Tryd.prog 27 #[.int .u32 (a19), .int .u64 (13)] w45 fun r47 w48 => ∃ x49 : Int, r47 = .int .u32 (x49) ∧
     Does Tryd.prog 27 #[.int .u32 (a19), .int .u64 (22)] w48 fun r50 w51 => ∃ x52 : Int, r50 = .int .u32 (x52) ∧
     I29 (IntKind.wrap .u32 ((IntKind.wrap .u32 ((IntKind.wrap .u32 ((IntKind.wrap .u32 ((IntKind.wrap .u32 (x26 + (bits .xor .u32 (bits .xor .u32 x37 x40) x43))) + (bits .or .u32 (bits .and .u32 e23 f24) (bits .and .u32 (IntKind.wrap .u32 (4294967295 - e23)) g25)))) + x32)) + x34)) + (IntKind.wrap .u32 ((bits .xor .u32 (bits .xor .u32 x46 x49) x52) + (bits .or .u32 (bits .or .u32 (bits .and .u32 a19 bb20) (bits .and .u32 a19 c21)) (bits .and .u32 bb20 c21)))))) a19 bb20 c21 (IntKind.wrap .u32 (d22 + (IntKind.wrap .u32 ((IntKind.wrap .u32 ((IntKind.wrap .u32 ((IntKind.wrap .u32 (x26 + (bits .xor .u32 (bits .xor .u32 x37 x40) x43))) + (bits .or .u32 (bits .and .u32 e23 f24) (bits .and .u32 (IntKind.wrap .u32 (4294967295 - e23)) g25)))) + x32)) + x34)))) e23 f24 g25 (IntKind.wrap .i64 (t27 + 1)) w51 ∧ M30 (IntKind.wrap .u32 ((IntKind.wrap .u32 ((IntKind.wrap .u32 ((IntKind.wrap .u32 ((IntKind.wrap .u32 (x26 + (bits .xor .u32 (bits .xor .u32 x37 x40) x43))) + (bits .or .u32 (bits .and .u32 e23 f24) (bits .and .u32 (IntKind.wrap .u32 (4294967295 - e23)) g25)))) + x32)) + x34)) + (IntKind.wrap .u32 ((bits .xor .u32 (bits .xor .u32 x46 x49) x52) + (bits .or .u32 (bits .or .u32 (bits .and .u32 a19 bb20) (bits .and .u32 a19 c21)) (bits .and .u32 bb20 c21)))))) a19 bb20 c21 (IntKind.wrap .u32 (d22 + (IntKind.wrap .u32 ((IntKind.wrap .u32 ((IntKind.wrap .u32 ((IntKind.wrap .u32 (x26 + (bits .xor .u32 (bits .xor .u32 x37 x40) x43))) + (bits .or .u32 (bits .and .u32 e23 f24) (bits .and .u32 (IntKind.wrap .u32 (4294967295 - e23)) g25)))) + x32)) + x34)))) e23 f24 g25 (IntKind.wrap .i64 (t27 + 1)) w51 < M30 a19 bb20 c21 d22 e23 f24 g25 x26 t27 w28)
    (idxR 8 (0) (
     ldT (.int .u32) w28 (a1) fun x53 =>
     idxR 8 (1) (
     ldT (.int .u32) w28 ((a1).add 1) fun x54 =>
     idxR 8 (2) (
     ldT (.int .u32) w28 ((a1).add 2) fun x55 =>
     idxR 8 (3) (
     ldT (.int .u32) w28 ((a1).add 3) fun x56 =>
     idxR 8 (4) (
     ldT (.int .u32) w28 ((a1).add 4) fun x57 =>
     idxR 8 (5) (
     ldT (.int .u32) w28 ((a1).add 5) fun x58 =>
     idxR 8 (6) (
     ldT (.int .u32) w28 ((a1).add 6) fun x59 =>
     idxR 8 (7) (
     ldT (.int .u32) w28 ((a1).add 7) fun x60 =>
     stC w28 (a3) (.int .u32 (IntKind.wrap .u32 (x53 + a19))) fun w62 => stC w62 ((a3).add 1) (.int .u32 (IntKind.wrap .u32 (x54 + bb20))) fun w63 => stC w63 ((a3).add 2) (.int .u32 (IntKind.wrap .u32 (x55 + c21))) fun w64 => stC w64 ((a3).add 3) (.int .u32 (IntKind.wrap .u32 (x56 + d22))) fun w65 => stC w65 ((a3).add 4) (.int .u32 (IntKind.wrap .u32 (x57 + e23))) fun w66 => stC w66 ((a3).add 5) (.int .u32 (IntKind.wrap .u32 (x58 + f24))) fun w67 => stC w67 ((a3).add 6) (.int .u32 (IntKind.wrap .u32 (x59 + g25))) fun w68 => stC w68 ((a3).add 7) (.int .u32 (IntKind.wrap .u32 (x60 + x26))) fun w69 =>
     ldT (.int .u32) w69 (a3) fun x70 => ldT (.int .u32) w69 ((a3).add 1) fun x71 => ldT (.int .u32) w69 ((a3).add 2) fun x72 => ldT (.int .u32) w69 ((a3).add 3) fun x73 => ldT (.int .u32) w69 ((a3).add 4) fun x74 => ldT (.int .u32) w69 ((a3).add 5) fun x75 => ldT (.int .u32) w69 ((a3).add 6) fun x76 => ldT (.int .u32) w69 ((a3).add 7) fun x77 =>
     Q (.agg #[.int .u32 (x70), .int .u32 (x71), .int .u32 (x72), .int .u32 (x73), .int .u32 (x74), .int .u32 (x75), .int .u32 (x76), .int .u32 (x77)]) w69)))))))))))))))))
def A22 : Ann := ⟨[(4, [(7, .one (.int .u32)), (8, .one (.int .u32)), (9, .one (.int .u32)), (10, .one (.int .u32)), (11, .one (.int .u32)), (12, .one (.int .u32)), (13, .one (.int .u32)), (14, .one (.int .u32)), (15, .one (.int .i64))])], [], [(2, [⟨0, 0, 0, true⟩, ⟨1, 1, 1, true⟩, ⟨0, 0, 0, true⟩, ⟨4, 4, 4, true⟩, ⟨0, 0, 0, true⟩, ⟨16, 16, 16, true⟩, ⟨0, 0, 0, true⟩, ⟨64, 64, 64, true⟩, ⟨0, 0, 0, true⟩, ⟨256, 256, 256, true⟩, ⟨0, 0, 0, true⟩, ⟨1024, 1024, 1024, true⟩, ⟨0, 0, 0, true⟩, ⟨4096, 4096, 4096, true⟩, ⟨0, 0, 0, true⟩, ⟨16384, 16384, 16384, true⟩, ⟨3, 2, 3, true⟩, ⟨65551, 8, 65551, true⟩, ⟨196671, 32, 196671, true⟩, ⟨459007, 128, 459007, true⟩, ⟨984063, 512, 984063, true⟩, ⟨2035711, 2048, 2035711, true⟩, ⟨4145151, 8192, 4145151, true⟩, ⟨8388607, 32768, 8388607, true⟩]), (6, [⟨0, 0, 0, true⟩, ⟨0, 0, 0, true⟩, ⟨2, 0, 2, false⟩, ⟨0, 0, 0, true⟩, ⟨12, 0, 14, false⟩, ⟨20, 20, 30, true⟩, ⟨0, 0, 0, true⟩, ⟨80, 0, 94, false⟩, ⟨160, 160, 254, true⟩, ⟨257, 257, 511, true⟩, ⟨0, 0, 0, true⟩, ⟨0, 0, 0, true⟩, ⟨3072, 3072, 3072, true⟩, ⟨0, 0, 0, true⟩, ⟨8192, 8192, 8192, true⟩, ⟨0, 0, 0, true⟩, ⟨49152, 49152, 57344, true⟩, ⟨69632, 69632, 130048, true⟩, ⟨131584, 131584, 262143, true⟩, ⟨0, 0, 0, true⟩, ⟨0, 0, 0, true⟩, ⟨1572864, 1572864, 1572864, true⟩, ⟨2097152, 2097152, 3670016, true⟩, ⟨4456448, 4456448, 8388607, true⟩, ⟨0, 0, 0, true⟩, ⟨0, 0, 0, true⟩, ⟨50331648, 50331648, 50331648, true⟩, ⟨67108864, 67108864, 117440512, true⟩, ⟨142606336, 142606336, 268435455, true⟩, ⟨536870911, 268435456, 536870911, true⟩])]⟩
theorem F22_eq (h0 : Int) (h1 : Int) (h2 : Int) (h3 : Int) (h4 : Int) (h5 : Int) (h6 : Int) (h7 : Int) (b : Sl) (w : World) (Q : Value → World → Prop) : vcFn Tryd.prog A22 Tryd.f22 #[.agg #[.int .u32 (h0), .int .u32 (h1), .int .u32 (h2), .int .u32 (h3), .int .u32 (h4), .int .u32 (h5), .int .u32 (h6), .int .u32 (h7)], .slice (b.a) (b.len) (b.cap)] w Q = F22 h0 h1 h2 h3 h4 h5 h6 h7 b w Q := by kernel_rfl
theorem F22_does (h0 : Int) (h1 : Int) (h2 : Int) (h3 : Int) (h4 : Int) (h5 : Int) (h6 : Int) (h7 : Int) (b : Sl) (w : World) (Q : Value → World → Prop) (hQ : F22 h0 h1 h2 h3 h4 h5 h6 h7 b w Q) : Does Tryd.prog 22 #[.agg #[.int .u32 (h0), .int .u32 (h1), .int .u32 (h2), .int .u32 (h3), .int .u32 (h4), .int .u32 (h5), .int .u32 (h6), .int .u32 (h7)], .slice (b.a) (b.len) (b.cap)] w Q :=
  vcFn_sound noAsk mixed (A := A22) (by kernel_rfl) Tryd.func22 (Nat.le_of_ble_eq_true (by kernel_rfl)) (by kernel_rfl) ((F22_eq h0 h1 h2 h3 h4 h5 h6 h7 b w Q).mpr hQ)

/- nacelle/sha.block -/
def F23 (h0 : Int) (h1 : Int) (h2 : Int) (h3 : Int) (h4 : Int) (h5 : Int) (h6 : Int) (h7 : Int) (b : Array Value) (w : World) (Q : Value → World → Prop) : Prop :=
  allocK w (#[.int .u32 (h0), .int .u32 (h1), .int .u32 (h2), .int .u32 (h3), .int .u32 (h4), .int .u32 (h5), .int .u32 (h6), .int .u32 (h7)]) 44 fun a1 w2 =>
  allocK w2 (b) 47 fun a3 w4 =>
  allocK w4 (zc Tryd.prog 44) 44 fun a5 w6 =>
  allocK w6 (zc Tryd.prog 58) 58 fun a7 w8 =>
  ∃ (I11 : Int → World → Prop) (M12 : Int → World → Nat), I11 0 w8 ∧
  ∀ x9 : Int, ∀ w10 : World, I11 x9 w10 →
    cond (decide ((x9 : Int) < 16))
    (idxR 64 (IntKind.wrap .i64 (4 * x9)) (
     ldT (.int .u8) w10.drew ((a3).add (Int.toNat (IntKind.wrap .i64 (4 * x9)) * 1)) fun x13 =>
     (0 : Int) ≤ 24 ∧
     idxR 64 (IntKind.wrap .i64 ((IntKind.wrap .i64 (4 * x9)) + 1)) (
     ldT (.int .u8) w10.drew ((a3).add (Int.toNat (IntKind.wrap .i64 ((IntKind.wrap .i64 (4 * x9)) + 1)) * 1)) fun x14 =>
     (0 : Int) ≤ 16 ∧
     idxR 64 (IntKind.wrap .i64 ((IntKind.wrap .i64 (4 * x9)) + 2)) (
     ldT (.int .u8) w10.drew ((a3).add (Int.toNat (IntKind.wrap .i64 ((IntKind.wrap .i64 (4 * x9)) + 2)) * 1)) fun x15 =>
     (0 : Int) ≤ 8 ∧
     idxR 64 (IntKind.wrap .i64 ((IntKind.wrap .i64 (4 * x9)) + 3)) (
     ldT (.int .u8) w10.drew ((a3).add (Int.toNat (IntKind.wrap .i64 ((IntKind.wrap .i64 (4 * x9)) + 3)) * 1)) fun x16 =>
     idxR 64 (x9) (
     stC w10.drew ((a7).add (Int.toNat (x9) * 1)) (.int .u32 (bits .or .u32 (bits .or .u32 (bits .or .u32 (IntKind.wrap .u32 ((IntKind.wrap .u32 x13) * 2 ^ (min (Int.toNat (24)) (IntKind.bits .u32)))) (IntKind.wrap .u32 ((IntKind.wrap .u32 x14) * 2 ^ (min (Int.toNat (16)) (IntKind.bits .u32))))) (IntKind.wrap .u32 ((IntKind.wrap .u32 x15) * 2 ^ (min (Int.toNat (8)) (IntKind.bits .u32))))) (IntKind.wrap .u32 x16))) fun w17 =>
     I11 (IntKind.wrap .i64 (x9 + 1)) w17 ∧ M12 (IntKind.wrap .i64 (x9 + 1)) w17 < M12 x9 w10))))))
    (∃ (I20 : Int → World → Prop) (M21 : Int → World → Nat), I20 16 w10 ∧
     ∀ i18 : Int, ∀ w19 : World, I20 i18 w19 →
       cond (decide ((i18 : Int) < 64))
       (idxR 64 (IntKind.wrap .i64 (i18 - 15)) (
        ldT (.int .u32) w19.drew ((a7).add (Int.toNat (IntKind.wrap .i64 (i18 - 15)) * 1)) fun x22 =>
        idxR 64 (IntKind.wrap .i64 (i18 - 2)) (
        ldT (.int .u32) w19.drew ((a7).add (Int.toNat (IntKind.wrap .i64 (i18 - 2)) * 1)) fun x23 =>
        idxR 64 (IntKind.wrap .i64 (i18 - 16)) (
        ldT (.int .u32) w19.drew.drew ((a7).add (Int.toNat (IntKind.wrap .i64 (i18 - 16)) * 1)) fun x24 =>
        idxR 64 (IntKind.wrap .i64 (i18 - 7)) (
        ldT (.int .u32) w19.drew.drew ((a7).add (Int.toNat (IntKind.wrap .i64 (i18 - 7)) * 1)) fun x25 =>
        (0 : Int) ≤ 3 ∧
        (0 : Int) ≤ 10 ∧
        Does Tryd.prog 28 #[.int .u32 (x22), .int .i64 (7)] w19.drew.drew fun r26 w27 => ∃ x28 : Int, r26 = .int .u32 (x28) ∧
        w27.cell? ((a7).add (Int.toNat (IntKind.wrap .i64 (i18 - 7)) * 1)) = some (.int .u32 (x25)) ∧ w27.cell? ((a7).add (Int.toNat (IntKind.wrap .i64 (i18 - 16)) * 1)) = some (.int .u32 (x24)) ∧ Does Tryd.prog 28 #[.int .u32 (x22), .int .i64 (18)] w27 fun r29 w30 => ∃ x31 : Int, r29 = .int .u32 (x31) ∧
        w30.cell? ((a7).add (Int.toNat (IntKind.wrap .i64 (i18 - 7)) * 1)) = some (.int .u32 (x25)) ∧ w30.cell? ((a7).add (Int.toNat (IntKind.wrap .i64 (i18 - 16)) * 1)) = some (.int .u32 (x24)) ∧ Does Tryd.prog 28 #[.int .u32 (x23), .int .i64 (17)] w30 fun r32 w33 => ∃ x34 : Int, r32 = .int .u32 (x34) ∧
        w33.cell? ((a7).add (Int.toNat (IntKind.wrap .i64 (i18 - 7)) * 1)) = some (.int .u32 (x25)) ∧ w33.cell? ((a7).add (Int.toNat (IntKind.wrap .i64 (i18 - 16)) * 1)) = some (.int .u32 (x24)) ∧ Does Tryd.prog 28 #[.int .u32 (x23), .int .i64 (19)] w33 fun r35 w36 => ∃ x37 : Int, r35 = .int .u32 (x37) ∧
        w36.cell? ((a7).add (Int.toNat (IntKind.wrap .i64 (i18 - 7)) * 1)) = some (.int .u32 (x25)) ∧ w36.cell? ((a7).add (Int.toNat (IntKind.wrap .i64 (i18 - 16)) * 1)) = some (.int .u32 (x24)) ∧ idxR 64 (i18) (
        stC w36 ((a7).add (Int.toNat (i18) * 1)) (.int .u32 (IntKind.wrap .u32 ((IntKind.wrap .u32 ((IntKind.wrap .u32 (x24 + x25)) + (bits .xor .u32 (bits .xor .u32 x28 x31) (Int.fdiv x22 (2 ^ (min (Int.toNat (3)) (IntKind.bits .u32))))))) + (bits .xor .u32 (bits .xor .u32 x34 x37) (Int.fdiv x23 (2 ^ (min (Int.toNat (10)) (IntKind.bits .u32)))))))) fun w38 =>
        I20 (IntKind.wrap .i64 (i18 + 1)) w38 ∧ M21 (IntKind.wrap .i64 (i18 + 1)) w38 < M21 i18 w19))))))
       (ldT (.int .u32) w19 (a1) fun x39 => ldT (.int .u32) w19 ((a1).add 1) fun x40 => ldT (.int .u32) w19 ((a1).add 2) fun x41 => ldT (.int .u32) w19 ((a1).add 3) fun x42 => ldT (.int .u32) w19 ((a1).add 4) fun x43 => ldT (.int .u32) w19 ((a1).add 5) fun x44 => ldT (.int .u32) w19 ((a1).add 6) fun x45 => ldT (.int .u32) w19 ((a1).add 7) fun x46 =>
        allocK w19 (zc Tryd.prog 44) 44 fun a47 w48 =>
        stC w48 (a47) (.int .u32 (x39)) fun w50 => stC w50 ((a47).add 1) (.int .u32 (x40)) fun w51 => stC w51 ((a47).add 2) (.int .u32 (x41)) fun w52 => stC w52 ((a47).add 3) (.int .u32 (x42)) fun w53 => stC w53 ((a47).add 4) (.int .u32 (x43)) fun w54 => stC w54 ((a47).add 5) (.int .u32 (x44)) fun w55 => stC w55 ((a47).add 6) (.int .u32 (x45)) fun w56 => stC w56 ((a47).add 7) (.int .u32 (x46)) fun w57 =>
        ∃ (I60 : Int → World → Prop) (M61 : Int → World → Nat), I60 0 w57 ∧
        ∀ x58 : Int, ∀ w59 : World, I60 x58 w59 →
          cond (decide ((x58 : Int) < 64))
          (idxR 8 (4) (
           ldT (.int .u32) w59.drew ((a47).add 4) fun x62 =>
           idxR 8 (0) (
           ldT (.int .u32) w59.drew (a47) fun x63 =>
           idxR 8 (7) (
           ldT (.int .u32) w59.drew.drew ((a47).add 7) fun x64 =>
           idxR 8 (5) (
           ldT (.int .u32) w59.drew.drew ((a47).add 5) fun x65 =>
           idxR 8 (6) (
           ldT (.int .u32) w59.drew.drew ((a47).add 6) fun x66 =>
           idxR 64 (x58) (
           ldT (.int .u32) w59.drew.drew (((⟨0, 0, none⟩ : Addr)).add (Int.toNat (x58) * 1)) fun x67 =>
           idxR 64 (x58) (
           ldT (.int .u32) w59.drew.drew ((a7).add (Int.toNat (x58) * 1)) fun x68 =>
           Does Tryd.prog 28 #[.int .u32 (x62), .int .i64 (6)] w59.drew.drew fun r69 w70 => ∃ x71 : Int, r69 = .int .u32 (x71) ∧
           w70.cell? ((a7).add (Int.toNat (x58) * 1)) = some (.int .u32 (x68)) ∧ w70.cell? (((⟨0, 0, none⟩ : Addr)).add (Int.toNat (x58) * 1)) = some (.int .u32 (x67)) ∧ w70.cell? ((a47).add 6) = some (.int .u32 (x66)) ∧ w70.cell? ((a47).add 5) = some (.int .u32 (x65)) ∧ w70.cell? ((a47).add 7) = some (.int .u32 (x64)) ∧ Does Tryd.prog 28 #[.int .u32 (x62), .int .i64 (11)] w70 fun r72 w73 => ∃ x74 : Int, r72 = .int .u32 (x74) ∧
           w73.cell? ((a7).add (Int.toNat (x58) * 1)) = some (.int .u32 (x68)) ∧ w73.cell? (((⟨0, 0, none⟩ : Addr)).add (Int.toNat (x58) * 1)) = some (.int .u32 (x67)) ∧ w73.cell? ((a47).add 6) = some (.int .u32 (x66)) ∧ w73.cell? ((a47).add 5) = some (.int .u32 (x65)) ∧ w73.cell? ((a47).add 7) = some (.int .u32 (x64)) ∧ Does Tryd.prog 28 #[.int .u32 (x62), .int .i64 (25)] w73 fun r75 w76 => ∃ x77 : Int, r75 = .int .u32 (x77) ∧
           w76.cell? ((a7).add (Int.toNat (x58) * 1)) = some (.int .u32 (x68)) ∧ w76.cell? (((⟨0, 0, none⟩ : Addr)).add (Int.toNat (x58) * 1)) = some (.int .u32 (x67)) ∧ w76.cell? ((a47).add 6) = some (.int .u32 (x66)) ∧ w76.cell? ((a47).add 5) = some (.int .u32 (x65)) ∧ w76.cell? ((a47).add 7) = some (.int .u32 (x64)) ∧ idxR 8 (1) (
           ldT (.int .u32) w76.drew ((a47).add 1) fun x78 =>
           idxR 8 (2) (
           ldT (.int .u32) w76.drew ((a47).add 2) fun x79 =>
           idxR 8 (1) (
           ldT (.int .u32) w76.drew ((a47).add 1) fun x80 =>
           idxR 8 (2) (
           ldT (.int .u32) w76.drew ((a47).add 2) fun x81 =>
           Does Tryd.prog 28 #[.int .u32 (x63), .int .i64 (2)] w76.drew fun r82 w83 => ∃ x84 : Int, r82 = .int .u32 (x84) ∧
           w83.cell? ((a47).add 2) = some (.int .u32 (x81)) ∧ w83.cell? ((a47).add 1) = some (.int .u32 (x80)) ∧ w83.cell? ((a47).add 2) = some (.int .u32 (x79)) ∧ w83.cell? ((a47).add 1) = some (.int .u32 (x78)) ∧ Does Tryd.prog 28 #[.int .u32 (x63), .int .i64 (13)] w83 fun r85 w86 => ∃ x87 : Int, r85 = .int .u32 (x87) ∧
           w86.cell? ((a47).add 2) = some (.int .u32 (x81)) ∧ w86.cell? ((a47).add 1) = some (.int .u32 (x80)) ∧ w86.cell? ((a47).add 2) = some (.int .u32 (x79)) ∧ w86.cell? ((a47).add 1) = some (.int .u32 (x78)) ∧ Does Tryd.prog 28 #[.int .u32 (x63), .int .i64 (22)] w86 fun r88 w89 => ∃ x90 : Int, r88 = .int .u32 (x90) ∧
           w89.cell? ((a47).add 2) = some (.int .u32 (x81)) ∧ w89.cell? ((a47).add 1) = some (.int .u32 (x80)) ∧ w89.cell? ((a47).add 2) = some (.int .u32 (x79)) ∧ w89.cell? ((a47).add 1) = some (.int .u32 (x78)) ∧ idxR 8 (1) (
           ldT (.int .u32) w89 ((a47).add 1) fun x91 =>
           idxR 8 (2) (
           ldT (.int .u32) w89 ((a47).add 2) fun x92 =>
           idxR 8 (3) (
           ldT (.int .u32) w89 ((a47).add 3) fun x93 =>
           idxR 8 (5) (
           ldT (.int .u32) w89 ((a47).add 5) fun x94 =>
           idxR 8 (6) (
           ldT (.int .u32) w89 ((a47).add 6) fun x95 =>
           stC w89 (a47) (.int .u32 (IntKind.wrap .u32 ((IntKind.wrap .u32 ((IntKind.wrap .u32 ((IntKind.wrap .u32 ((IntKind.wrap .u32 (x64 + (bits .xor .u32 (bits .xor .u32 x71 x74) x77))) + (bits .xor .u32 (bits .and .u32 x62 x65) (bits .and .u32 (notK .u32 x62) x66)))) + x67)) + x68)) + (IntKind.wrap .u32 ((bits .xor .u32 (bits .xor .u32 x84 x87) x90) + (bits .xor .u32 (bits .xor .u32 (bits .and .u32 x63 x78) (bits .and .u32 x63 x79)) (bits .and .u32 x80 x81))))))) fun w97 => stC w97 ((a47).add 1) (.int .u32 (x63)) fun w98 => stC w98 ((a47).add 2) (.int .u32 (x91)) fun w99 => stC w99 ((a47).add 3) (.int .u32 (x92)) fun w100 => stC w100 ((a47).add 4) (.int .u32 (IntKind.wrap .u32 (x93 + (IntKind.wrap .u32 ((IntKind.wrap .u32 ((IntKind.wrap .u32 ((IntKind.wrap .u32 (x64 + (bits .xor .u32 (bits .xor .u32 x71 x74) x77))) + (bits .xor .u32 (bits .and .u32 x62 x65) (bits .and .u32 (notK .u32 x62) x66)))) + x67)) + x68))))) fun w101 => stC w101 ((a47).add 5) (.int .u32 (x62)) fun w102 => stC w102 ((a47).add 6) (.int .u32 (x94)) fun w103 => stC w103 ((a47).add 7) (.int .u32 (x95)) fun w104 =>
           I60 (IntKind.wrap .i64 (x58 + 1)) w104 ∧ M61 (IntKind.wrap .i64 (x58 + 1)) w104 < M61 x58 w59)))))))))))))))))
          (∃ (I107 : Int → World → Prop) (M108 : Int → World → Nat), I107 0 w59 ∧
           ∀ x105 : Int, ∀ w106 : World, I107 x105 w106 →
             cond (decide ((x105 : Int) < 8))
             (idxR 8 (x105) (
              ldT (.int .u32) w106.drew ((a1).add (Int.toNat (x105) * 1)) fun x109 =>
              idxR 8 (x105) (
              ldT (.int .u32) w106.drew ((a47).add (Int.toNat (x105) * 1)) fun x110 =>
              idxR 8 (x105) (
              stC w106.drew ((a1).add (Int.toNat (x105) * 1)) (.int .u32 (IntKind.wrap .u32 (x109 + x110))) fun w111 =>
              I107 (IntKind.wrap .i64 (x105 + 1)) w111 ∧ M108 (IntKind.wrap .i64 (x105 + 1)) w111 < M108 x105 w106))))
             (ldT (.int .u32) w106 (a1) fun x112 => ldT (.int .u32) w106 ((a1).add 1) fun x113 => ldT (.int .u32) w106 ((a1).add 2) fun x114 => ldT (.int .u32) w106 ((a1).add 3) fun x115 => ldT (.int .u32) w106 ((a1).add 4) fun x116 => ldT (.int .u32) w106 ((a1).add 5) fun x117 => ldT (.int .u32) w106 ((a1).add 6) fun x118 => ldT (.int .u32) w106 ((a1).add 7) fun x119 =>
              stC w106 (a5) (.int .u32 (x112)) fun w121 => stC w121 ((a5).add 1) (.int .u32 (x113)) fun w122 => stC w122 ((a5).add 2) (.int .u32 (x114)) fun w123 => stC w123 ((a5).add 3) (.int .u32 (x115)) fun w124 => stC w124 ((a5).add 4) (.int .u32 (x116)) fun w125 => stC w125 ((a5).add 5) (.int .u32 (x117)) fun w126 => stC w126 ((a5).add 6) (.int .u32 (x118)) fun w127 => stC w127 ((a5).add 7) (.int .u32 (x119)) fun w128 =>
              ldT (.int .u32) w128 (a5) fun x129 => ldT (.int .u32) w128 ((a5).add 1) fun x130 => ldT (.int .u32) w128 ((a5).add 2) fun x131 => ldT (.int .u32) w128 ((a5).add 3) fun x132 => ldT (.int .u32) w128 ((a5).add 4) fun x133 => ldT (.int .u32) w128 ((a5).add 5) fun x134 => ldT (.int .u32) w128 ((a5).add 6) fun x135 => ldT (.int .u32) w128 ((a5).add 7) fun x136 =>
              Q (.agg #[.int .u32 (x129), .int .u32 (x130), .int .u32 (x131), .int .u32 (x132), .int .u32 (x133), .int .u32 (x134), .int .u32 (x135), .int .u32 (x136)]) w128))))
def A23 : Ann := ⟨[(3, [(17, .one (.int .i64))]), (8, [(7, .one (.int .i64))]), (14, [(94, .one (.int .i64))]), (22, [(174, .one (.int .i64))])], [], [(5, [⟨0, 0, 0, true⟩, ⟨0, 0, 0, true⟩, ⟨2, 2, 2, true⟩, ⟨4, 4, 6, true⟩, ⟨8, 8, 14, true⟩, ⟨16, 16, 30, true⟩, ⟨32, 32, 62, true⟩, ⟨0, 0, 0, true⟩, ⟨128, 128, 128, true⟩, ⟨256, 256, 384, true⟩, ⟨512, 512, 896, true⟩, ⟨1024, 1024, 1920, true⟩, ⟨2048, 2048, 3968, true⟩, ⟨4096, 4096, 8064, true⟩, ⟨8256, 8256, 16382, true⟩, ⟨0, 0, 0, true⟩, ⟨32768, 32768, 32768, true⟩, ⟨65536, 65536, 98304, true⟩, ⟨131072, 131072, 229376, true⟩, ⟨262144, 262144, 491520, true⟩, ⟨524288, 524288, 1015808, true⟩, ⟨1048576, 1048576, 2064384, true⟩, ⟨2113536, 2113536, 4194302, true⟩, ⟨0, 0, 0, true⟩, ⟨8388608, 8388608, 8388608, true⟩, ⟨16777216, 16777216, 25165824, true⟩, ⟨33554432, 33554432, 58720256, true⟩, ⟨67108864, 67108864, 125829120, true⟩, ⟨134217728, 134217728, 260046848, true⟩, ⟨272629760, 272629760, 536870910, true⟩, ⟨1073741823, 1, 1073741823, true⟩, ⟨2147483647, 0, 2147483647, false⟩]), (10, [⟨0, 0, 0, true⟩, ⟨1, 1, 1, true⟩, ⟨2, 2, 3, true⟩, ⟨4, 4, 7, true⟩, ⟨0, 0, 0, true⟩, ⟨16, 16, 16, true⟩, ⟨32, 32, 48, true⟩, ⟨64, 64, 112, true⟩, ⟨15, 8, 15, true⟩, ⟨511, 128, 511, true⟩]), (11, [⟨0, 0, 0, true⟩, ⟨0, 0, 0, true⟩, ⟨2, 2, 2, true⟩, ⟨4, 4, 6, true⟩, ⟨8, 8, 14, true⟩, ⟨0, 0, 0, true⟩, ⟨32, 32, 32, true⟩, ⟨64, 64, 96, true⟩, ⟨128, 128, 224, true⟩, ⟨272, 272, 510, true⟩, ⟨0, 0, 0, true⟩, ⟨1024, 0, 1024, false⟩, ⟨0, 0, 0, true⟩, ⟨6144, 0, 7168, false⟩, ⟨10240, 10240, 15360, true⟩, ⟨0, 0, 0, true⟩, ⟨32768, 32768, 32768, true⟩, ⟨81920, 81920, 130048, true⟩, ⟨131584, 131584, 262142, true⟩, ⟨0, 0, 0, true⟩, ⟨532480, 0, 539648, false⟩, ⟨0, 0, 0, true⟩, ⟨3145728, 0, 3685376, false⟩, ⟨5242880, 5242880, 7879680, true⟩, ⟨0, 0, 0, true⟩, ⟨16777216, 16777216, 16777216, true⟩, ⟨41943040, 41943040, 66599936, true⟩, ⟨67371008, 67371008, 134217726, true⟩, ⟨268435455, 1, 268435455, true⟩, ⟨536870911, 0, 536870911, false⟩]), (16, [⟨0, 0, 0, true⟩, ⟨1, 1, 1, true⟩, ⟨0, 0, 0, true⟩, ⟨4, 4, 4, true⟩, ⟨3, 2, 3, true⟩, ⟨31, 8, 31, true⟩]), (17, [⟨0, 0, 0, true⟩, ⟨1, 1, 1, true⟩, ⟨0, 0, 0, true⟩, ⟨4, 0, 4, false⟩, ⟨0, 0, 0, true⟩, ⟨24, 0, 28, false⟩, ⟨40, 40, 60, true⟩, ⟨0, 0, 0, true⟩, ⟨160, 0, 188, false⟩, ⟨320, 320, 508, true⟩, ⟨514, 514, 1023, true⟩, ⟨0, 0, 0, true⟩, ⟨0, 0, 0, true⟩, ⟨4096, 4096, 4096, true⟩, ⟨10240, 10240, 14336, true⟩, ⟨0, 0, 0, true⟩, ⟨32768, 32768, 32768, true⟩, ⟨0, 0, 0, true⟩, ⟨131072, 131072, 131072, true⟩, ⟨327680, 327680, 491520, true⟩, ⟨540672, 540672, 1046528, true⟩, ⟨1049600, 1049600, 2097151, true⟩, ⟨0, 0, 0, true⟩, ⟨4194304, 4194304, 4194304, true⟩, ⟨8388608, 8388608, 12582912, true⟩, ⟨18874368, 18874368, 33554431, true⟩, ⟨0, 0, 0, true⟩, ⟨67108864, 67108864, 67108864, true⟩, ⟨134217728, 134217728, 201326592, true⟩, ⟨301989888, 301989888, 536870911, true⟩, ⟨1073741823, 536870912, 1073741823, true⟩]), (18, [⟨0, 0, 0, true⟩, ⟨1, 0, 1, false⟩, ⟨0, 0, 0, true⟩, ⟨6, 0, 7, false⟩, ⟨10, 10, 15, true⟩, ⟨0, 0, 0, true⟩, ⟨40, 0, 47, false⟩, ⟨80, 80, 127, true⟩, ⟨0, 0, 0, true⟩, ⟨0, 0, 0, true⟩, ⟨512, 512, 512, true⟩, ⟨1280, 1280, 1792, true⟩, ⟨0, 0, 0, true⟩, ⟨0, 0, 0, true⟩, ⟨8192, 8192, 8192, true⟩, ⟨20480, 20480, 28672, true⟩, ⟨34816, 34816, 65280, true⟩, ⟨0, 0, 0, true⟩, ⟨131072, 131072, 131072, true⟩, ⟨0, 0, 0, true⟩, ⟨524288, 524288, 524288, true⟩, ⟨1310720, 1310720, 1966080, true⟩, ⟨2162688, 2162688, 4194048, true⟩, ⟨4194432, 4194432, 8388607, true⟩, ⟨16777215, 8388608, 16777215, true⟩]), (24, [⟨0, 0, 0, true⟩, ⟨1, 1, 1, true⟩, ⟨2, 2, 3, true⟩, ⟨0, 0, 0, true⟩, ⟨8, 8, 8, true⟩, ⟨16, 16, 24, true⟩, ⟨36, 36, 63, true⟩, ⟨127, 1, 127, true⟩, ⟨255, 0, 255, false⟩])]⟩
theorem F23_eq (h0 : Int) (h1 : Int) (h2 : Int) (h3 : Int) (h4 : Int) (h5 : Int) (h6 : Int) (h7 : Int) (b : Array Value) (w : World) (Q : Value → World → Prop) : vcFn Tryd.prog A23 Tryd.f23 #[.agg #[.int .u32 (h0), .int .u32 (h1), .int .u32 (h2), .int .u32 (h3), .int .u32 (h4), .int .u32 (h5), .int .u32 (h6), .int .u32 (h7)], .agg (b)] w Q = F23 h0 h1 h2 h3 h4 h5 h6 h7 b w Q := by kernel_rfl
theorem F23_does (h0 : Int) (h1 : Int) (h2 : Int) (h3 : Int) (h4 : Int) (h5 : Int) (h6 : Int) (h7 : Int) (b : Array Value) (w : World) (Q : Value → World → Prop) (hQ : F23 h0 h1 h2 h3 h4 h5 h6 h7 b w Q) : Does Tryd.prog 23 #[.agg #[.int .u32 (h0), .int .u32 (h1), .int .u32 (h2), .int .u32 (h3), .int .u32 (h4), .int .u32 (h5), .int .u32 (h6), .int .u32 (h7)], .agg (b)] w Q :=
  vcFn_sound noAsk mixed (A := A23) (by kernel_rfl) Tryd.func23 (Nat.le_of_ble_eq_true (by kernel_rfl)) (by kernel_rfl) ((F23_eq h0 h1 h2 h3 h4 h5 h6 h7 b w Q).mpr hQ)

/- nacelle/sha.value -/
def F24 (c : Int) (w : World) (Q : Value → World → Prop) : Prop :=
  ∀ J3 : Bool → World → Prop, (∀ b1 : Bool, ∀ w2 : World, 
    (cond (b1)
    (Q (.int .u8 (IntKind.wrap .u8 (c - 48))) w2)
    (∀ J6 : Bool → World → Prop, (∀ b4 : Bool, ∀ w5 : World, 
       (cond (b4)
       (Q (.int .u8 (IntKind.wrap .u8 ((IntKind.wrap .u8 (c - 97)) + 10))) w5)
       (Q (.int .u8 (16)) w5)) → J6 b4 w5) →
     cond (decide ((c : Int) ≥ 97))
     (J6 (decide ((c : Int) ≤ 102)) w2)
     (J6 false w2))) → J3 b1 w2) →
  cond (decide ((c : Int) ≥ 48))
  (J3 (decide ((c : Int) ≤ 57)) w)
  (J3 false w)
def A24 : Ann := ⟨[], [(2, [(3, .one (.bool))]), (4, [(12, .one (.bool))])], []⟩
theorem F24_eq (c : Int) (w : World) (Q : Value → World → Prop) : vcFn Tryd.prog A24 Tryd.f24 #[.int .u8 (c)] w Q = F24 c w Q := by kernel_rfl
theorem F24_does (c : Int) (w : World) (Q : Value → World → Prop) (hQ : F24 c w Q) : Does Tryd.prog 24 #[.int .u8 (c)] w Q :=
  vcFn_sound noAsk mixed (A := A24) (by kernel_rfl) Tryd.func24 (Nat.le_of_ble_eq_true (by kernel_rfl)) (by kernel_rfl) ((F24_eq c w Q).mpr hQ)

/- nacelle/nacelleref04.words -/
def F25 (b : Sl) (w : World) (Q : Value → World → Prop) : Prop :=
  ∃ (I4 : Sl → Int → World → Prop) (M5 : Sl → Int → World → Nat), I4 ⟨none, 0, 0⟩ 0 w ∧
  ∀ w1 : Sl, ∀ t2 : Int, ∀ w3 : World, I4 w1 t2 w3 →
    cond (decide ((t2 : Int) < 16))
    (∃ (I9 : Int → Int → World → Prop) (M10 : Int → Int → World → Nat), I9 0 0 w3 ∧
     ∀ x6 : Int, ∀ k7 : Int, ∀ w8 : World, I9 x6 k7 w8 →
       cond (decide ((k7 : Int) < 4))
       (idx (b.a) (b.len) (IntKind.wrap .i64 ((IntKind.wrap .i64 (4 * t2)) + k7)) 1 fun a11 =>
        ldT (.int .u8) w8 (a11) fun x12 =>
        I9 (IntKind.wrap .u32 ((IntKind.wrap .u32 (x6 * 256)) + (IntKind.wrap .u32 x12))) (IntKind.wrap .i64 (k7 + 1)) w8 ∧ M10 (IntKind.wrap .u32 ((IntKind.wrap .u32 (x6 * 256)) + (IntKind.wrap .u32 x12))) (IntKind.wrap .i64 (k7 + 1)) w8 < M10 x6 k7 w8)
       (allocK w8 #[.int .u32 (x6)] 43 fun a13 w14 =>
        runG (.sl) Tryd.prog w14 (Builtin.append_ #[54, 54] 54 #[.slice (w1.a) (w1.len) (w1.cap), .slice (some (a13)) (1) (1)]) fun l15 w16 =>
        I4 ⟨l15.a, l15.len, l15.cap⟩ (IntKind.wrap .i64 (t2 + 1)) w16 ∧ M5 ⟨l15.a, l15.len, l15.cap⟩ (IntKind.wrap .i64 (t2 + 1)) w16 < M5 w1 t2 w3))
    (∃ (I20 : Sl → Int → World → Prop) (M21 : Sl → Int → World → Nat), I20 ⟨w1.a, w1.len, w1.cap⟩ 16 w3 ∧
     ∀ w17 : Sl, ∀ t18 : Int, ∀ w19 : World, I20 w17 t18 w19 →
       cond (decide ((t18 : Int) < 64))
       (idx (w17.a) (w17.len) (IntKind.wrap .i64 (t18 - 15)) 1 fun a22 =>
        ldT (.int .u32) w19.drew (a22) fun x23 =>
        idx (w17.a) (w17.len) (IntKind.wrap .i64 (t18 - 15)) 1 fun a24 =>
        ldT (.int .u32) w19.drew (a24) fun x25 =>
        idx (w17.a) (w17.len) (IntKind.wrap .i64 (t18 - 15)) 1 fun a26 =>
        ldT (.int .u32) w19.drew (a26) fun x27 =>
        (0 : Int) ≤ 3 ∧
        Does Tryd.prog 27 #[.int .u32 (x23), .int .u64 (7)] w19.drew fun r28 w29 => ∃ x30 : Int, r28 = .int .u32 (x30) ∧
        w29.cell? (a26) = some (.int .u32 (x27)) ∧ w29.cell? (a24) = some (.int .u32 (x25)) ∧ Does Tryd.prog 27 #[.int .u32 (x25), .int .u64 (18)] w29 fun r31 w32 => ∃ x33 : Int, r31 = .int .u32 (x33) ∧
        w32.cell? (a26) = some (.int .u32 (x27)) ∧ idx (w17.a) (w17.len) (IntKind.wrap .i64 (t18 - 2)) 1 fun a34 =>
        ldT (.int .u32) w32.drew (a34) fun x35 =>
        idx (w17.a) (w17.len) (IntKind.wrap .i64 (t18 - 2)) 1 fun a36 =>
        ldT (.int .u32) w32.drew (a36) fun x37 =>
        idx (w17.a) (w17.len) (IntKind.wrap .i64 (t18 - 2)) 1 fun a38 =>
        ldT (.int .u32) w32.drew (a38) fun x39 =>
        (0 : Int) ≤ 10 ∧
        Does Tryd.prog 27 #[.int .u32 (x35), .int .u64 (17)] w32.drew fun r40 w41 => ∃ x42 : Int, r40 = .int .u32 (x42) ∧
        w41.cell? (a38) = some (.int .u32 (x39)) ∧ w41.cell? (a36) = some (.int .u32 (x37)) ∧ Does Tryd.prog 27 #[.int .u32 (x37), .int .u64 (19)] w41 fun r43 w44 => ∃ x45 : Int, r43 = .int .u32 (x45) ∧
        w44.cell? (a38) = some (.int .u32 (x39)) ∧ idx (w17.a) (w17.len) (IntKind.wrap .i64 (t18 - 7)) 1 fun a46 =>
        ldT (.int .u32) w44.drew (a46) fun x47 =>
        idx (w17.a) (w17.len) (IntKind.wrap .i64 (t18 - 16)) 1 fun a48 =>
        ldT (.int .u32) w44.drew (a48) fun x49 =>
        allocK w44.drew #[.int .u32 (IntKind.wrap .u32 ((IntKind.wrap .u32 ((IntKind.wrap .u32 ((bits .xor .u32 (bits .xor .u32 x42 x45) (Int.fdiv x39 (2 ^ (min (Int.toNat (10)) (IntKind.bits .u32))))) + x47)) + (bits .xor .u32 (bits .xor .u32 x30 x33) (Int.fdiv x27 (2 ^ (min (Int.toNat (3)) (IntKind.bits .u32))))))) + x49))] 43 fun a50 w51 =>
        runG (.sl) Tryd.prog w51 (Builtin.append_ #[54, 54] 54 #[.slice (w17.a) (w17.len) (w17.cap), .slice (some (a50)) (1) (1)]) fun l52 w53 =>
        I20 ⟨l52.a, l52.len, l52.cap⟩ (IntKind.wrap .i64 (t18 + 1)) w53 ∧ M21 ⟨l52.a, l52.len, l52.cap⟩ (IntKind.wrap .i64 (t18 + 1)) w53 < M21 w17 t18 w19)
       (Q (.slice (w17.a) (w17.len) (w17.cap)) w19))
def A25 : Ann := ⟨[(3, [(3, .one (.sl)), (4, .one (.int .i64))]), (7, [(5, .one (.int .u32)), (6, .one (.int .i64))]), (12, [(3, .one (.sl)), (7, .one (.int .i64))])], [], [(14, [⟨0, 0, 0, true⟩, ⟨0, 0, 0, true⟩, ⟨2, 2, 2, true⟩, ⟨5, 5, 7, true⟩, ⟨8, 8, 15, true⟩, ⟨16, 0, 31, false⟩, ⟨0, 0, 0, true⟩, ⟨0, 0, 0, true⟩, ⟨128, 128, 128, true⟩, ⟨320, 320, 448, true⟩, ⟨512, 512, 960, true⟩, ⟨1056, 0, 2047, false⟩, ⟨2080, 2080, 4095, true⟩, ⟨0, 0, 0, true⟩, ⟨0, 0, 0, true⟩, ⟨16384, 16384, 16384, true⟩, ⟨40960, 40960, 57344, true⟩, ⟨65536, 65536, 122880, true⟩, ⟨131072, 131072, 253952, true⟩, ⟨266240, 266240, 524287, true⟩, ⟨1048575, 524288, 1048575, true⟩]), (15, [⟨0, 0, 0, true⟩, ⟨0, 0, 0, true⟩, ⟨2, 2, 2, true⟩, ⟨5, 5, 7, true⟩, ⟨8, 8, 15, true⟩, ⟨16, 0, 31, false⟩, ⟨0, 0, 0, true⟩, ⟨0, 0, 0, true⟩, ⟨128, 128, 128, true⟩, ⟨320, 320, 448, true⟩, ⟨512, 512, 960, true⟩, ⟨1056, 0, 2047, false⟩, ⟨2080, 2080, 4095, true⟩, ⟨0, 0, 0, true⟩, ⟨0, 0, 0, true⟩, ⟨16384, 16384, 16384, true⟩, ⟨40960, 40960, 57344, true⟩, ⟨65536, 65536, 122880, true⟩, ⟨131072, 131072, 253952, true⟩, ⟨266240, 266240, 524287, true⟩, ⟨1048575, 524288, 1048575, true⟩]), (16, [⟨0, 0, 0, true⟩, ⟨0, 0, 0, true⟩, ⟨0, 0, 0, true⟩, ⟨0, 0, 0, true⟩, ⟨8, 8, 8, true⟩, ⟨20, 20, 28, true⟩, ⟨32, 32, 60, true⟩, ⟨66, 66, 126, true⟩, ⟨0, 0, 0, true⟩, ⟨384, 384, 510, true⟩, ⟨0, 0, 0, true⟩, ⟨0, 0, 0, true⟩, ⟨2048, 2048, 2048, true⟩, ⟨5120, 5120, 7168, true⟩, ⟨8192, 8192, 15360, true⟩, ⟨16896, 16896, 32766, true⟩, ⟨32768, 0, 65534, false⟩, ⟨65537, 0, 131071, false⟩, ⟨262143, 132101, 262143, true⟩])]⟩
theorem F25_eq (b : Sl) (w : World) (Q : Value → World → Prop) : vcFn Tryd.prog A25 Tryd.f25 #[.slice (b.a) (b.len) (b.cap)] w Q = F25 b w Q := by kernel_rfl
theorem F25_does (b : Sl) (w : World) (Q : Value → World → Prop) (hQ : F25 b w Q) : Does Tryd.prog 25 #[.slice (b.a) (b.len) (b.cap)] w Q :=
  vcFn_sound noAsk mixed (A := A25) (by kernel_rfl) Tryd.func25 (Nat.le_of_ble_eq_true (by kernel_rfl)) (by kernel_rfl) ((F25_eq b w Q).mpr hQ)

/- nacelle/nacelleref04.keys -/
def F26 (w : World) (Q : Value → World → Prop) : Prop :=
  allocK w #[.int .u32 (1116352408), .int .u32 (1899447441), .int .u32 (3049323471), .int .u32 (3921009573), .int .u32 (961987163), .int .u32 (1508970993), .int .u32 (2453635748), .int .u32 (2870763221), .int .u32 (3624381080), .int .u32 (310598401), .int .u32 (607225278), .int .u32 (1426881987), .int .u32 (1925078388), .int .u32 (2162078206), .int .u32 (2614888103), .int .u32 (3248222580), .int .u32 (3835390401), .int .u32 (4022224774), .int .u32 (264347078), .int .u32 (604807628), .int .u32 (770255983), .int .u32 (1249150122), .int .u32 (1555081692), .int .u32 (1996064986), .int .u32 (2554220882), .int .u32 (2821834349), .int .u32 (2952996808), .int .u32 (3210313671), .int .u32 (3336571891), .int .u32 (3584528711), .int .u32 (113926993), .int .u32 (338241895), .int .u32 (666307205), .int .u32 (773529912), .int .u32 (1294757372), .int .u32 (1396182291), .int .u32 (1695183700), .int .u32 (1986661051), .int .u32 (2177026350), .int .u32 (2456956037), .int .u32 (2730485921), .int .u32 (2820302411), .int .u32 (3259730800), .int .u32 (3345764771), .int .u32 (3516065817), .int .u32 (3600352804), .int .u32 (4094571909), .int .u32 (275423344), .int .u32 (430227734), .int .u32 (506948616), .int .u32 (659060556), .int .u32 (883997877), .int .u32 (958139571), .int .u32 (1322822218), .int .u32 (1537002063), .int .u32 (1747873779), .int .u32 (1955562222), .int .u32 (2024104815), .int .u32 (2227730452), .int .u32 (2361852424), .int .u32 (2428436474), .int .u32 (2756734187), .int .u32 (3204031479), .int .u32 (3329325298)] 43 fun a1 w2 =>
  Q (.slice (some (a1)) (64) (64)) w2
def A26 : Ann := ⟨[], [], []⟩
theorem F26_eq (w : World) (Q : Value → World → Prop) : vcFn Tryd.prog A26 Tryd.f26 #[] w Q = F26 w Q := by kernel_rfl
theorem F26_does (w : World) (Q : Value → World → Prop) (hQ : F26 w Q) : Does Tryd.prog 26 #[] w Q :=
  vcFn_sound noAsk mixed (A := A26) (by kernel_rfl) Tryd.func26 (Nat.le_of_ble_eq_true (by kernel_rfl)) (by kernel_rfl) ((F26_eq w Q).mpr hQ)

/- nacelle/nacelleref04.turn -/
def F27 (x : Int) (n : Int) (w : World) (Q : Value → World → Prop) : Prop :=
  (0 : Int) ≤ n ∧
  (0 : Int) ≤ (IntKind.wrap .u64 (32 - n)) ∧
  Q (.int .u32 (bits .or .u32 (Int.fdiv x (2 ^ (min (Int.toNat (n)) (IntKind.bits .u32)))) (IntKind.wrap .u32 (x * 2 ^ (min (Int.toNat ((IntKind.wrap .u64 (32 - n)))) (IntKind.bits .u32)))))) w
def A27 : Ann := ⟨[], [], []⟩
theorem F27_eq (x : Int) (n : Int) (w : World) (Q : Value → World → Prop) : vcFn Tryd.prog A27 Tryd.f27 #[.int .u32 (x), .int .u64 (n)] w Q = F27 x n w Q := by kernel_rfl
theorem F27_does (x : Int) (n : Int) (w : World) (Q : Value → World → Prop) (hQ : F27 x n w Q) : Does Tryd.prog 27 #[.int .u32 (x), .int .u64 (n)] w Q :=
  vcFn_sound noAsk mixed (A := A27) (by kernel_rfl) Tryd.func27 (Nat.le_of_ble_eq_true (by kernel_rfl)) (by kernel_rfl) ((F27_eq x n w Q).mpr hQ)

/- nacelle/sha.turn -/
def F28 (x : Int) (n : Int) (w : World) (Q : Value → World → Prop) : Prop :=
  Does Tryd.prog 29 #[.int .u32 (x), .int .i64 (IntKind.wrap .i64 (0 - n))] w fun r1 w2 => ∃ x3 : Int, r1 = .int .u32 (x3) ∧
  Q (.int .u32 (x3)) w2
def A28 : Ann := ⟨[], [], []⟩
theorem F28_eq (x : Int) (n : Int) (w : World) (Q : Value → World → Prop) : vcFn Tryd.prog A28 Tryd.f28 #[.int .u32 (x), .int .i64 (n)] w Q = F28 x n w Q := by kernel_rfl
theorem F28_does (x : Int) (n : Int) (w : World) (Q : Value → World → Prop) (hQ : F28 x n w Q) : Does Tryd.prog 28 #[.int .u32 (x), .int .i64 (n)] w Q :=
  vcFn_sound noAsk mixed (A := A28) (by kernel_rfl) Tryd.func28 (Nat.le_of_ble_eq_true (by kernel_rfl)) (by kernel_rfl) ((F28_eq x n w Q).mpr hQ)

/- math/bits.RotateLeft32 -/
def F29 (x : Int) (k : Int) (w : World) (Q : Value → World → Prop) : Prop :=
  (0 : Int) ≤ (bits .and .u64 (IntKind.wrap .u64 k) 31) ∧
  (0 : Int) ≤ (IntKind.wrap .u64 (32 - (bits .and .u64 (IntKind.wrap .u64 k) 31))) ∧
  Q (.int .u32 (bits .or .u32 (IntKind.wrap .u32 (x * 2 ^ (min (Int.toNat ((bits .and .u64 (IntKind.wrap .u64 k) 31))) (IntKind.bits .u32)))) (Int.fdiv x (2 ^ (min (Int.toNat ((IntKind.wrap .u64 (32 - (bits .and .u64 (IntKind.wrap .u64 k) 31))))) (IntKind.bits .u32)))))) w
def A29 : Ann := ⟨[], [], []⟩
theorem F29_eq (x : Int) (k : Int) (w : World) (Q : Value → World → Prop) : vcFn Tryd.prog A29 Tryd.f29 #[.int .u32 (x), .int .i64 (k)] w Q = F29 x k w Q := by kernel_rfl
theorem F29_does (x : Int) (k : Int) (w : World) (Q : Value → World → Prop) (hQ : F29 x k w Q) : Does Tryd.prog 29 #[.int .u32 (x), .int .i64 (k)] w Q :=
  vcFn_sound noAsk mixed (A := A29) (by kernel_rfl) Tryd.func29 (Nat.le_of_ble_eq_true (by kernel_rfl)) (by kernel_rfl) ((F29_eq x k w Q).mpr hQ)
end Go.Proofs.YtaaegmmcnfeiaaaDoor.G
