import Derived.Test.YtkfcmpngcanffaaDoorGen
set_option linter.unusedVariables false
namespace Go.Proofs.YtkfcmpngcanffaaDoor.G
open Go Go.VC Go.Proofs Go.Proofs.YtkfcmpngcanffaaDoor
set_option maxRecDepth 100000
/- (*nacelle/disk.Disk).Crash -/
def F_disk_Disk_Crash (d : Option Addr) (survivors : Sl) (w : World) (Q : Value → World → Prop) : Prop :=
  nnil (d) fun a1 =>
  ldT (.bool) w ((a1).add 2) fun b2 =>
  cond (b2)
  (Q (.tuple #[]) w)
  (nnil (d) fun a3 =>
   ldT (.sl) w ((a3).add 1) fun l4 =>
   ∃ (I7 : Int → World → Prop) (M8 : Int → World → Nat), I7 0 w ∧
   ∀ x5 : Int, ∀ w6 : World, I7 x5 w6 →
     cond (decide ((x5 : Int) < (((l4.len : Nat) : Int))))
     (∀ J10 : World → Prop, (∀ w9 : World, 
        (I7 (IntKind.wrap .i64 (x5 + 1)) w9 ∧ M8 (IntKind.wrap .i64 (x5 + 1)) w9 < M8 x5 w6) → J10 w9) →
      idx (l4.a) (l4.len) (x5) 2 fun a11 =>
      ldT (.int .i64) w6 (a11) fun x12 => ldT (.sl) w6 ((a11).add 1) fun l13 =>
      allocK w6 (zc Tryd.prog T_disk_write) T_disk_write fun a14 w15 =>
      stC w15 (a14) (.int .i64 (x12)) fun w17 => stC w17 ((a14).add 1) (.slice (l13.a) (l13.len) (l13.cap)) fun w18 =>
      ∀ J21 : Bool → World → Prop, (∀ b19 : Bool, ∀ w20 : World, 
        (cond (b19)
        (ldT (.int .i64) w20.drew (a14) fun x22 =>
         ldT (.sl) w20.drew ((a14).add 1) fun l23 =>
         Does Tryd.prog N_disk_Disk_sector #[.pointer (d), .int .i64 (x22)] w20.drew fun r24 w25 => ∃ l26 : Sl, r24 = .slice (l26.a) (l26.len) (l26.cap) ∧
         w25.cell? ((a14).add 1) = some (.slice (l23.a) (l23.len) (l23.cap)) ∧ runG (.int .i64) Tryd.prog w25 (Builtin.copy_ #[T_l_uint8, T_l_uint8] T_int #[.slice (l26.a) (l26.len) (l26.cap), .slice (l23.a) (l23.len) (l23.cap)]) fun x27 w28 =>
         J10 w28)
        (J10 w20)) → J21 b19 w20) →
      cond (decide ((x5 : Int) < (((survivors.len : Nat) : Int))))
      (idx (survivors.a) (survivors.len) (x5) 1 fun a29 =>
       ldT (.bool) w18 (a29) fun b30 =>
       J21 b30 w18)
      (J21 false w18))
     (nnil (d) fun a31 =>
      stC w6 ((a31).add 1) (.slice (none) (0) (0)) fun w32 =>
      nnil (d) fun a33 =>
      stC w32 ((a33).add 2) (.bool (true)) fun w34 =>
      nnil (d) fun a35 =>
      stC w34 ((a35).add 3) (.bool (false)) fun w36 =>
      Q (.tuple #[]) w36))
def A_disk_Disk_Crash : Ann := ⟨[(2, [(15, .one (.int .i64))])], [(5, [(29, .one (.bool))]), (6, [])], [(5, [⟨0, 0, 0, true⟩, ⟨0, 0, 0, true⟩, ⟨2, 2, 2, true⟩, ⟨5, 0, 7, false⟩, ⟨0, 0, 0, true⟩, ⟨16, 16, 16, true⟩, ⟨40, 0, 63, false⟩])]⟩
theorem F_disk_Disk_Crash_eq (d : Option Addr) (survivors : Sl) (w : World) (Q : Value → World → Prop) : vcFn Tryd.prog A_disk_Disk_Crash Tryd.f28 #[.pointer (d), .slice (survivors.a) (survivors.len) (survivors.cap)] w Q = F_disk_Disk_Crash d survivors w Q := by kernel_rfl
theorem F_disk_Disk_Crash_does (d : Option Addr) (survivors : Sl) (w : World) (Q : Value → World → Prop) (hQ : F_disk_Disk_Crash d survivors w Q) : Does Tryd.prog N_disk_Disk_Crash #[.pointer (d), .slice (survivors.a) (survivors.len) (survivors.cap)] w Q :=
  vcFn_sound noAsk mixed (A := A_disk_Disk_Crash) (by kernel_rfl) Tryd.func28 (Nat.le_of_ble_eq_true (by kernel_rfl)) (by kernel_rfl) ((F_disk_Disk_Crash_eq d survivors w Q).mpr hQ)

/- (nacelle/nacelleref05.Disk).Crash -/
def F_ref05_Disk_Crash (d0 : Sl) (d1 : Sl) (d2 : Bool) (d3 : Int) (d4 : Sl) (survivors : Sl) (w : World) (Q : Value → World → Prop) : Prop :=
  allocK w (#[.slice (d0.a) (d0.len) (d0.cap), .slice (d1.a) (d1.len) (d1.cap), .bool (d2), .int .i64 (d3), .slice (d4.a) (d4.len) (d4.cap)]) T_ref05_Disk fun a1 w2 =>
  allocK w2 (zc Tryd.prog T_ref05_Disk) T_ref05_Disk fun a3 w4 =>
  ldT (.bool) w4 ((a1).add 2) fun b5 =>
  cond (b5)
  (ldT (.sl) w4 (a1) fun l6 => ldT (.sl) w4 ((a1).add 1) fun l7 => ldT (.bool) w4 ((a1).add 2) fun b8 => ldT (.int .i64) w4 ((a1).add 3) fun x9 => ldT (.sl) w4 ((a1).add 4) fun l10 =>
   stC w4 (a3) (.slice (l6.a) (l6.len) (l6.cap)) fun w12 => stC w12 ((a3).add 1) (.slice (l7.a) (l7.len) (l7.cap)) fun w13 => stC w13 ((a3).add 2) (.bool (b8)) fun w14 => stC w14 ((a3).add 3) (.int .i64 (x9)) fun w15 => stC w15 ((a3).add 4) (.slice (l10.a) (l10.len) (l10.cap)) fun w16 =>
   ldT (.sl) w16 (a3) fun l17 => ldT (.sl) w16 ((a3).add 1) fun l18 => ldT (.bool) w16 ((a3).add 2) fun b19 => ldT (.int .i64) w16 ((a3).add 3) fun x20 => ldT (.sl) w16 ((a3).add 4) fun l21 =>
   Q (.agg #[.slice (l17.a) (l17.len) (l17.cap), .slice (l18.a) (l18.len) (l18.cap), .bool (b19), .int .i64 (x20), .slice (l21.a) (l21.len) (l21.cap)]) w16)
  (ldT (.sl) w4 (a1) fun l22 => ldT (.sl) w4 ((a1).add 1) fun l23 => ldT (.bool) w4 ((a1).add 2) fun b24 => ldT (.int .i64) w4 ((a1).add 3) fun x25 => ldT (.sl) w4 ((a1).add 4) fun l26 =>
   Does Tryd.prog N_ref05_Disk_laid #[.agg #[.slice (l22.a) (l22.len) (l22.cap), .slice (l23.a) (l23.len) (l23.cap), .bool (b24), .int .i64 (x25), .slice (l26.a) (l26.len) (l26.cap)], .bool (false), .slice (survivors.a) (survivors.len) (survivors.cap)] w4 fun r27 w28 => ∃ l29 : Sl, ∃ l30 : Sl, ∃ b31 : Bool, ∃ x32 : Int, ∃ l33 : Sl, r27 = .agg #[.slice (l29.a) (l29.len) (l29.cap), .slice (l30.a) (l30.len) (l30.cap), .bool (b31), .int .i64 (x32), .slice (l33.a) (l33.len) (l33.cap)] ∧
   stC w28 (a1) (.slice (l29.a) (l29.len) (l29.cap)) fun w35 => stC w35 ((a1).add 1) (.slice (l30.a) (l30.len) (l30.cap)) fun w36 => stC w36 ((a1).add 2) (.bool (b31)) fun w37 => stC w37 ((a1).add 3) (.int .i64 (x32)) fun w38 => stC w38 ((a1).add 4) (.slice (l33.a) (l33.len) (l33.cap)) fun w39 =>
   stC w39 ((a1).add 2) (.bool (true)) fun w40 =>
   stC w40 ((a1).add 3) (.int .i64 (-1)) fun w41 =>
   ldT (.sl) w41 (a1) fun l42 => ldT (.sl) w41 ((a1).add 1) fun l43 => ldT (.bool) w41 ((a1).add 2) fun b44 => ldT (.int .i64) w41 ((a1).add 3) fun x45 => ldT (.sl) w41 ((a1).add 4) fun l46 =>
   stC w41 (a3) (.slice (l42.a) (l42.len) (l42.cap)) fun w48 => stC w48 ((a3).add 1) (.slice (l43.a) (l43.len) (l43.cap)) fun w49 => stC w49 ((a3).add 2) (.bool (b44)) fun w50 => stC w50 ((a3).add 3) (.int .i64 (x45)) fun w51 => stC w51 ((a3).add 4) (.slice (l46.a) (l46.len) (l46.cap)) fun w52 =>
   ldT (.sl) w52 (a3) fun l53 => ldT (.sl) w52 ((a3).add 1) fun l54 => ldT (.bool) w52 ((a3).add 2) fun b55 => ldT (.int .i64) w52 ((a3).add 3) fun x56 => ldT (.sl) w52 ((a3).add 4) fun l57 =>
   Q (.agg #[.slice (l53.a) (l53.len) (l53.cap), .slice (l54.a) (l54.len) (l54.cap), .bool (b55), .int .i64 (x56), .slice (l57.a) (l57.len) (l57.cap)]) w52)
def A_ref05_Disk_Crash : Ann := ⟨[], [], []⟩
theorem F_ref05_Disk_Crash_eq (d0 : Sl) (d1 : Sl) (d2 : Bool) (d3 : Int) (d4 : Sl) (survivors : Sl) (w : World) (Q : Value → World → Prop) : vcFn Tryd.prog A_ref05_Disk_Crash Tryd.f29 #[.agg #[.slice (d0.a) (d0.len) (d0.cap), .slice (d1.a) (d1.len) (d1.cap), .bool (d2), .int .i64 (d3), .slice (d4.a) (d4.len) (d4.cap)], .slice (survivors.a) (survivors.len) (survivors.cap)] w Q = F_ref05_Disk_Crash d0 d1 d2 d3 d4 survivors w Q := by kernel_rfl
theorem F_ref05_Disk_Crash_does (d0 : Sl) (d1 : Sl) (d2 : Bool) (d3 : Int) (d4 : Sl) (survivors : Sl) (w : World) (Q : Value → World → Prop) (hQ : F_ref05_Disk_Crash d0 d1 d2 d3 d4 survivors w Q) : Does Tryd.prog N_ref05_Disk_Crash #[.agg #[.slice (d0.a) (d0.len) (d0.cap), .slice (d1.a) (d1.len) (d1.cap), .bool (d2), .int .i64 (d3), .slice (d4.a) (d4.len) (d4.cap)], .slice (survivors.a) (survivors.len) (survivors.cap)] w Q :=
  vcFn_sound noAsk mixed (A := A_ref05_Disk_Crash) (by kernel_rfl) Tryd.func29 (Nat.le_of_ble_eq_true (by kernel_rfl)) (by kernel_rfl) ((F_ref05_Disk_Crash_eq d0 d1 d2 d3 d4 survivors w Q).mpr hQ)

/- (nacelle/nacelleref05.Disk).Power -/
def F_ref05_Disk_Power (d0 : Sl) (d1 : Sl) (d2 : Bool) (d3 : Int) (d4 : Sl) (w : World) (Q : Value → World → Prop) : Prop :=
  allocK w (#[.slice (d0.a) (d0.len) (d0.cap), .slice (d1.a) (d1.len) (d1.cap), .bool (d2), .int .i64 (d3), .slice (d4.a) (d4.len) (d4.cap)]) T_ref05_Disk fun a1 w2 =>
  allocK w2 (zc Tryd.prog T_ref05_Disk) T_ref05_Disk fun a3 w4 =>
  stC w4 ((a1).add 1) (.slice (none) (0) (0)) fun w5 =>
  stC w5 ((a1).add 2) (.bool (false)) fun w6 =>
  stC w6 ((a1).add 3) (.int .i64 (-1)) fun w7 =>
  ldT (.sl) w7 (a1) fun l8 => ldT (.sl) w7 ((a1).add 1) fun l9 => ldT (.bool) w7 ((a1).add 2) fun b10 => ldT (.int .i64) w7 ((a1).add 3) fun x11 => ldT (.sl) w7 ((a1).add 4) fun l12 =>
  stC w7 (a3) (.slice (l8.a) (l8.len) (l8.cap)) fun w14 => stC w14 ((a3).add 1) (.slice (l9.a) (l9.len) (l9.cap)) fun w15 => stC w15 ((a3).add 2) (.bool (b10)) fun w16 => stC w16 ((a3).add 3) (.int .i64 (x11)) fun w17 => stC w17 ((a3).add 4) (.slice (l12.a) (l12.len) (l12.cap)) fun w18 =>
  ldT (.sl) w18 (a3) fun l19 => ldT (.sl) w18 ((a3).add 1) fun l20 => ldT (.bool) w18 ((a3).add 2) fun b21 => ldT (.int .i64) w18 ((a3).add 3) fun x22 => ldT (.sl) w18 ((a3).add 4) fun l23 =>
  Q (.agg #[.slice (l19.a) (l19.len) (l19.cap), .slice (l20.a) (l20.len) (l20.cap), .bool (b21), .int .i64 (x22), .slice (l23.a) (l23.len) (l23.cap)]) w18
def A_ref05_Disk_Power : Ann := ⟨[], [], []⟩
theorem F_ref05_Disk_Power_eq (d0 : Sl) (d1 : Sl) (d2 : Bool) (d3 : Int) (d4 : Sl) (w : World) (Q : Value → World → Prop) : vcFn Tryd.prog A_ref05_Disk_Power Tryd.f30 #[.agg #[.slice (d0.a) (d0.len) (d0.cap), .slice (d1.a) (d1.len) (d1.cap), .bool (d2), .int .i64 (d3), .slice (d4.a) (d4.len) (d4.cap)]] w Q = F_ref05_Disk_Power d0 d1 d2 d3 d4 w Q := by kernel_rfl
theorem F_ref05_Disk_Power_does (d0 : Sl) (d1 : Sl) (d2 : Bool) (d3 : Int) (d4 : Sl) (w : World) (Q : Value → World → Prop) (hQ : F_ref05_Disk_Power d0 d1 d2 d3 d4 w Q) : Does Tryd.prog N_ref05_Disk_Power #[.agg #[.slice (d0.a) (d0.len) (d0.cap), .slice (d1.a) (d1.len) (d1.cap), .bool (d2), .int .i64 (d3), .slice (d4.a) (d4.len) (d4.cap)]] w Q :=
  vcFn_sound noAsk mixed (A := A_ref05_Disk_Power) (by kernel_rfl) Tryd.func30 (Nat.le_of_ble_eq_true (by kernel_rfl)) (by kernel_rfl) ((F_ref05_Disk_Power_eq d0 d1 d2 d3 d4 w Q).mpr hQ)

/- (*nacelle/audit.Log).Dead -/
def F_audit_Log_Dead (l : Option Addr) (w : World) (Q : Value → World → Prop) : Prop :=
  nnil (l) fun a1 =>
  ldT (.bool) w ((a1).add 2) fun b2 =>
  Q (.bool (b2)) w
def A_audit_Log_Dead : Ann := ⟨[], [], []⟩
theorem F_audit_Log_Dead_eq (l : Option Addr) (w : World) (Q : Value → World → Prop) : vcFn Tryd.prog A_audit_Log_Dead Tryd.f31 #[.pointer (l)] w Q = F_audit_Log_Dead l w Q := by kernel_rfl
theorem F_audit_Log_Dead_does (l : Option Addr) (w : World) (Q : Value → World → Prop) (hQ : F_audit_Log_Dead l w Q) : Does Tryd.prog N_audit_Log_Dead #[.pointer (l)] w Q :=
  vcFn_sound noAsk mixed (A := A_audit_Log_Dead) (by kernel_rfl) Tryd.func31 (Nat.le_of_ble_eq_true (by kernel_rfl)) (by kernel_rfl) ((F_audit_Log_Dead_eq l w Q).mpr hQ)

/- (*nacelle/disk.Disk).Image -/
def F_disk_Disk_Image (d : Option Addr) (w : World) (Q : Value → World → Prop) : Prop :=
  nnil (d) fun a1 =>
  ldT (.sl) w (a1) fun l2 =>
  runG (.sl) Tryd.prog w (Builtin.append_ #[T_l_uint8, T_l_uint8] T_l_uint8 #[.slice (none) (0) (0), .slice (l2.a) (l2.len) (l2.cap)]) fun l3 w4 =>
  Q (.slice (l3.a) (l3.len) (l3.cap)) w4
def A_disk_Disk_Image : Ann := ⟨[], [], []⟩
theorem F_disk_Disk_Image_eq (d : Option Addr) (w : World) (Q : Value → World → Prop) : vcFn Tryd.prog A_disk_Disk_Image Tryd.f32 #[.pointer (d)] w Q = F_disk_Disk_Image d w Q := by kernel_rfl
theorem F_disk_Disk_Image_does (d : Option Addr) (w : World) (Q : Value → World → Prop) (hQ : F_disk_Disk_Image d w Q) : Does Tryd.prog N_disk_Disk_Image #[.pointer (d)] w Q :=
  vcFn_sound noAsk mixed (A := A_disk_Disk_Image) (by kernel_rfl) Tryd.func32 (Nat.le_of_ble_eq_true (by kernel_rfl)) (by kernel_rfl) ((F_disk_Disk_Image_eq d w Q).mpr hQ)

/- (nacelle/nacelleref05.Disk).Image -/
def F_ref05_Disk_Image (d0 : Sl) (d1 : Sl) (d2 : Bool) (d3 : Int) (d4 : Sl) (w : World) (Q : Value → World → Prop) : Prop :=
  allocK w (#[.slice (d0.a) (d0.len) (d0.cap), .slice (d1.a) (d1.len) (d1.cap), .bool (d2), .int .i64 (d3), .slice (d4.a) (d4.len) (d4.cap)]) T_ref05_Disk fun a1 w2 =>
  ∃ (I6 : ByteArray → Int → World → Prop) (M7 : ByteArray → Int → World → Nat), I6 ((⟨#[]⟩ : ByteArray)) 0 w2 ∧
  ∀ s3 : ByteArray, ∀ i4 : Int, ∀ w5 : World, I6 s3 i4 w5 →
    ldT (.sl) w5 (a1) fun l8 =>
    cond (decide ((i4 : Int) < (((l8.len : Nat) : Int))))
    (ldT (.sl) w5 (a1) fun l9 =>
     idx (l9.a) (l9.len) (i4) 1 fun a10 =>
     ldT (.str) w5 (a10) fun s11 =>
     (((s3).size + (s11).size : Nat) : Int) ≤ 9223372036854775807 ∧
     I6 (s3 ++ s11) (IntKind.wrap .i64 (i4 + 1)) w5 ∧ M7 (s3 ++ s11) (IntKind.wrap .i64 (i4 + 1)) w5 < M7 s3 i4 w5)
    (Q (.string (s3)) w5)
def A_ref05_Disk_Image : Ann := ⟨[(3, [(3, .one (.str)), (4, .one (.int .i64))])], [], []⟩
theorem F_ref05_Disk_Image_eq (d0 : Sl) (d1 : Sl) (d2 : Bool) (d3 : Int) (d4 : Sl) (w : World) (Q : Value → World → Prop) : vcFn Tryd.prog A_ref05_Disk_Image Tryd.f33 #[.agg #[.slice (d0.a) (d0.len) (d0.cap), .slice (d1.a) (d1.len) (d1.cap), .bool (d2), .int .i64 (d3), .slice (d4.a) (d4.len) (d4.cap)]] w Q = F_ref05_Disk_Image d0 d1 d2 d3 d4 w Q := by kernel_rfl
theorem F_ref05_Disk_Image_does (d0 : Sl) (d1 : Sl) (d2 : Bool) (d3 : Int) (d4 : Sl) (w : World) (Q : Value → World → Prop) (hQ : F_ref05_Disk_Image d0 d1 d2 d3 d4 w Q) : Does Tryd.prog N_ref05_Disk_Image #[.agg #[.slice (d0.a) (d0.len) (d0.cap), .slice (d1.a) (d1.len) (d1.cap), .bool (d2), .int .i64 (d3), .slice (d4.a) (d4.len) (d4.cap)]] w Q :=
  vcFn_sound noAsk mixed (A := A_ref05_Disk_Image) (by kernel_rfl) Tryd.func33 (Nat.le_of_ble_eq_true (by kernel_rfl)) (by kernel_rfl) ((F_ref05_Disk_Image_eq d0 d1 d2 d3 d4 w Q).mpr hQ)

/- nacelle/nacellelaw16.awake -/
def F_law16_awake (w : World) (Q : Value → World → Prop) : Prop :=
  Does Tryd.prog N_law16_part #[.int .i64 (0)] w fun r1 w2 => ∃ p3 : Option Addr, ∃ p4 : Option Addr, ∃ l5 : Sl, ∃ l6 : Sl, ∃ b7 : Bool, ∃ x8 : Int, ∃ l9 : Sl, ∃ b10 : Bool, r1 = .tuple #[.pointer (p3), .pointer (p4), .agg #[.slice (l5.a) (l5.len) (l5.cap), .slice (l6.a) (l6.len) (l6.cap), .bool (b7), .int .i64 (x8), .slice (l9.a) (l9.len) (l9.cap)], .bool (b10)] ∧
  allocK w2 (zc Tryd.prog T_ref05_Disk) T_ref05_Disk fun a11 w12 =>
  stC w12 (a11) (.slice (l5.a) (l5.len) (l5.cap)) fun w14 => stC w14 ((a11).add 1) (.slice (l6.a) (l6.len) (l6.cap)) fun w15 => stC w15 ((a11).add 2) (.bool (b7)) fun w16 => stC w16 ((a11).add 3) (.int .i64 (x8)) fun w17 => stC w17 ((a11).add 4) (.slice (l9.a) (l9.len) (l9.cap)) fun w18 =>
  cond (!b10)
  (Q (.bool (false)) w18)
  (Does Tryd.prog N_wal_Open #[.pointer (p4)] w18 fun r19 w20 => ∃ p21 : Option Addr, ∃ x22 : Int, r19 = .tuple #[.pointer (p21), .int .i64 (x22)] ∧
   ∀ J24 : World → Prop, (∀ w23 : World, 
     (Does Tryd.prog N_law16_Changes #[.agg #[.int .i64 (0), .int .i64 (2), .int .i64 (0), .int .i64 (0), .int .u8 (5), .slice (none) (0) (0)]] w23 fun r25 w26 => ∃ l27 : Sl, r25 = .slice (l27.a) (l27.len) (l27.cap) ∧
     Does Tryd.prog N_wal_Log_Commit #[.pointer (p21), .slice (l27.a) (l27.len) (l27.cap)] w26 fun r28 w29 => ∃ x30 : Int, r28 = .int .i64 (x30) ∧
     Does Tryd.prog N_wal_Log_Page #[.pointer (p21), .int .i64 (1)] w29 fun r31 w32 => ∃ l33 : Sl, ∃ x34 : Int, r31 = .tuple #[.slice (l33.a) (l33.len) (l33.cap), .int .i64 (x34)] ∧
     Does Tryd.prog N_wal_Log_Page #[.pointer (p21), .int .i64 (16)] w32 fun r35 w36 => ∃ l37 : Sl, ∃ x38 : Int, r35 = .tuple #[.slice (l37.a) (l37.len) (l37.cap), .int .i64 (x38)] ∧
     cond ((x30 : Int) == 0)
     (Does Tryd.prog N_wal_Log_Used #[.pointer (p21)] w36 fun r39 w40 => ∃ x41 : Int, r39 = .int .i64 (x41) ∧
      cond ((x41 : Int) == 3)
      (cond (((((l33.len : Nat) : Int)) : Int) == 40)
       (idx (l33.a) (l33.len) (0) 1 fun a42 =>
        ldT (.int .u8) w40 (a42) fun x43 =>
        cond ((x43 : Int) == 6)
        (Q (.bool ((x38 : Int) == 4)) w40)
        (Q (.bool (false)) w40))
       (Q (.bool (false)) w40))
      (Q (.bool (false)) w40))
     (Q (.bool (false)) w36)) → J24 w23) →
   cond ((x22 : Int) != 0)
   (Q (.bool (false)) w20)
   (Does Tryd.prog N_wal_Log_Epoch #[.pointer (p21)] w20 fun r44 w45 => ∃ x46 : Int, r44 = .int .u32 (x46) ∧
    cond ((x46 : Int) != 1)
    (Q (.bool (false)) w45)
    (Does Tryd.prog N_wal_Log_Used #[.pointer (p21)] w45 fun r47 w48 => ∃ x49 : Int, r47 = .int .i64 (x49) ∧
     cond ((x49 : Int) != 0)
     (Q (.bool (false)) w48)
     (J24 w48))))
def A_law16_awake : Ann := ⟨[], [(7, [])], []⟩
theorem F_law16_awake_eq (w : World) (Q : Value → World → Prop) : vcFn Tryd.prog A_law16_awake Tryd.f34 #[] w Q = F_law16_awake w Q := by kernel_rfl
theorem F_law16_awake_does (w : World) (Q : Value → World → Prop) (hQ : F_law16_awake w Q) : Does Tryd.prog N_law16_awake #[] w Q :=
  vcFn_sound noAsk mixed (A := A_law16_awake) (by kernel_rfl) Tryd.func34 (Nat.le_of_ble_eq_true (by kernel_rfl)) (by kernel_rfl) ((F_law16_awake_eq w Q).mpr hQ)

/- nacelle/nacellelaw16.part -/
def F_law16_part (from_ : Int) (w : World) (Q : Value → World → Prop) : Prop :=
  allocK w (zc Tryd.prog T_ref05_Disk) T_ref05_Disk fun a1 w2 =>
  Does Tryd.prog N_disk_New #[.int .i64 (60)] w2 fun r3 w4 => ∃ p5 : Option Addr, ∃ x6 : Int, r3 = .tuple #[.pointer (p5), .int .i64 (x6)] ∧
  Does Tryd.prog N_ref05_New #[.int .i64 (60)] w4 fun r7 w8 => ∃ l9 : Sl, ∃ l10 : Sl, ∃ b11 : Bool, ∃ x12 : Int, ∃ l13 : Sl, ∃ b14 : Bool, r7 = .tuple #[.agg #[.slice (l9.a) (l9.len) (l9.cap), .slice (l10.a) (l10.len) (l10.cap), .bool (b11), .int .i64 (x12), .slice (l13.a) (l13.len) (l13.cap)], .bool (b14)] ∧
  allocK w8 (zc Tryd.prog T_ref05_Disk) T_ref05_Disk fun a15 w16 =>
  stC w16 (a15) (.slice (l9.a) (l9.len) (l9.cap)) fun w18 => stC w18 ((a15).add 1) (.slice (l10.a) (l10.len) (l10.cap)) fun w19 => stC w19 ((a15).add 2) (.bool (b11)) fun w20 => stC w20 ((a15).add 3) (.int .i64 (x12)) fun w21 => stC w21 ((a15).add 4) (.slice (l13.a) (l13.len) (l13.cap)) fun w22 =>
  cond ((x6 : Int) != 0)
  (ldT (.sl) w22.drew (a15) fun l23 => ldT (.sl) w22.drew ((a15).add 1) fun l24 => ldT (.bool) w22.drew ((a15).add 2) fun b25 => ldT (.int .i64) w22.drew ((a15).add 3) fun x26 => ldT (.sl) w22.drew ((a15).add 4) fun l27 =>
   stC w22.drew (a1) (.slice (l23.a) (l23.len) (l23.cap)) fun w29 => stC w29 ((a1).add 1) (.slice (l24.a) (l24.len) (l24.cap)) fun w30 => stC w30 ((a1).add 2) (.bool (b25)) fun w31 => stC w31 ((a1).add 3) (.int .i64 (x26)) fun w32 => stC w32 ((a1).add 4) (.slice (l27.a) (l27.len) (l27.cap)) fun w33 =>
   ldT (.sl) w33 (a1) fun l34 => ldT (.sl) w33 ((a1).add 1) fun l35 => ldT (.bool) w33 ((a1).add 2) fun b36 => ldT (.int .i64) w33 ((a1).add 3) fun x37 => ldT (.sl) w33 ((a1).add 4) fun l38 =>
   Q (.tuple #[.pointer (none), .pointer (none), .agg #[.slice (l34.a) (l34.len) (l34.cap), .slice (l35.a) (l35.len) (l35.cap), .bool (b36), .int .i64 (x37), .slice (l38.a) (l38.len) (l38.cap)], .bool (false)]) w33)
  (Does Tryd.prog N_extent_New #[.pointer (p5), .agg #[.int .i64 (from_), .int .i64 (52)]] w22 fun r39 w40 => ∃ p41 : Option Addr, ∃ x42 : Int, r39 = .tuple #[.pointer (p41), .int .i64 (x42)] ∧
   ∀ J44 : World → Prop, (∀ w43 : World, 
     (ldT (.sl) w43 (a15) fun l45 => ldT (.sl) w43 ((a15).add 1) fun l46 => ldT (.bool) w43 ((a15).add 2) fun b47 => ldT (.int .i64) w43 ((a15).add 3) fun x48 => ldT (.sl) w43 ((a15).add 4) fun l49 =>
     Does Tryd.prog N_ref16_Format #[.agg #[.slice (l45.a) (l45.len) (l45.cap), .slice (l46.a) (l46.len) (l46.cap), .bool (b47), .int .i64 (x48), .slice (l49.a) (l49.len) (l49.cap)], .int .i64 (from_)] w43 fun r50 w51 => ∃ l52 : Sl, ∃ l53 : Sl, ∃ b54 : Bool, ∃ x55 : Int, ∃ l56 : Sl, ∃ x57 : Int, r50 = .tuple #[.agg #[.slice (l52.a) (l52.len) (l52.cap), .slice (l53.a) (l53.len) (l53.cap), .bool (b54), .int .i64 (x55), .slice (l56.a) (l56.len) (l56.cap)], .int .i64 (x57)] ∧
     stC w51 (a15) (.slice (l52.a) (l52.len) (l52.cap)) fun w59 => stC w59 ((a15).add 1) (.slice (l53.a) (l53.len) (l53.cap)) fun w60 => stC w60 ((a15).add 2) (.bool (b54)) fun w61 => stC w61 ((a15).add 3) (.int .i64 (x55)) fun w62 => stC w62 ((a15).add 4) (.slice (l56.a) (l56.len) (l56.cap)) fun w63 =>
     ldT (.sl) w63.drew (a15) fun l64 => ldT (.sl) w63.drew ((a15).add 1) fun l65 => ldT (.bool) w63.drew ((a15).add 2) fun b66 => ldT (.int .i64) w63.drew ((a15).add 3) fun x67 => ldT (.sl) w63.drew ((a15).add 4) fun l68 =>
     stC w63.drew (a1) (.slice (l64.a) (l64.len) (l64.cap)) fun w70 => stC w70 ((a1).add 1) (.slice (l65.a) (l65.len) (l65.cap)) fun w71 => stC w71 ((a1).add 2) (.bool (b66)) fun w72 => stC w72 ((a1).add 3) (.int .i64 (x67)) fun w73 => stC w73 ((a1).add 4) (.slice (l68.a) (l68.len) (l68.cap)) fun w74 =>
     ldT (.sl) w74 (a1) fun l75 => ldT (.sl) w74 ((a1).add 1) fun l76 => ldT (.bool) w74 ((a1).add 2) fun b77 => ldT (.int .i64) w74 ((a1).add 3) fun x78 => ldT (.sl) w74 ((a1).add 4) fun l79 =>
     Q (.tuple #[.pointer (p5), .pointer (p41), .agg #[.slice (l75.a) (l75.len) (l75.cap), .slice (l76.a) (l76.len) (l76.cap), .bool (b77), .int .i64 (x78), .slice (l79.a) (l79.len) (l79.cap)], .bool ((x57 : Int) == 0)]) w74) → J44 w43) →
   ∀ J82 : Bool → World → Prop, (∀ b80 : Bool, ∀ w81 : World, 
     (cond (b80)
     (ldT (.sl) w81.drew (a15) fun l83 => ldT (.sl) w81.drew ((a15).add 1) fun l84 => ldT (.bool) w81.drew ((a15).add 2) fun b85 => ldT (.int .i64) w81.drew ((a15).add 3) fun x86 => ldT (.sl) w81.drew ((a15).add 4) fun l87 =>
      stC w81.drew (a1) (.slice (l83.a) (l83.len) (l83.cap)) fun w89 => stC w89 ((a1).add 1) (.slice (l84.a) (l84.len) (l84.cap)) fun w90 => stC w90 ((a1).add 2) (.bool (b85)) fun w91 => stC w91 ((a1).add 3) (.int .i64 (x86)) fun w92 => stC w92 ((a1).add 4) (.slice (l87.a) (l87.len) (l87.cap)) fun w93 =>
      ldT (.sl) w93 (a1) fun l94 => ldT (.sl) w93 ((a1).add 1) fun l95 => ldT (.bool) w93 ((a1).add 2) fun b96 => ldT (.int .i64) w93 ((a1).add 3) fun x97 => ldT (.sl) w93 ((a1).add 4) fun l98 =>
      Q (.tuple #[.pointer (none), .pointer (none), .agg #[.slice (l94.a) (l94.len) (l94.cap), .slice (l95.a) (l95.len) (l95.cap), .bool (b96), .int .i64 (x97), .slice (l98.a) (l98.len) (l98.cap)], .bool (false)]) w93)
     (J44 w81)) → J82 b80 w81) →
   cond ((x42 : Int) != 0)
   (J82 true w40)
   (Does Tryd.prog N_wal_Format #[.pointer (p41)] w40 fun r99 w100 => ∃ x101 : Int, r99 = .int .i64 (x101) ∧
    J82 ((x101 : Int) != 0) w100))
def A_law16_part : Ann := ⟨[], [(7, [(37, .one (.bool))]), (8, [])], [(4, [⟨0, 0, 0, true⟩, ⟨0, 0, 0, true⟩, ⟨2, 0, 2, true⟩, ⟨7, 0, 7, false⟩, ⟨15, 0, 15, true⟩]), (7, [⟨0, 0, 0, true⟩, ⟨0, 0, 0, true⟩, ⟨2, 0, 2, true⟩, ⟨7, 0, 7, false⟩, ⟨15, 0, 15, true⟩]), (9, [⟨0, 0, 0, true⟩, ⟨0, 0, 0, true⟩, ⟨0, 0, 0, true⟩, ⟨0, 0, 0, true⟩, ⟨8, 8, 8, true⟩, ⟨1, 1, 1, true⟩, ⟨35, 2, 35, true⟩, ⟨103, 0, 103, false⟩, ⟨255, 16, 255, true⟩])]⟩
theorem F_law16_part_eq (from_ : Int) (w : World) (Q : Value → World → Prop) : vcFn Tryd.prog A_law16_part Tryd.f35 #[.int .i64 (from_)] w Q = F_law16_part from_ w Q := by kernel_rfl
theorem F_law16_part_does (from_ : Int) (w : World) (Q : Value → World → Prop) (hQ : F_law16_part from_ w Q) : Does Tryd.prog N_law16_part #[.int .i64 (from_)] w Q :=
  vcFn_sound noAsk mixed (A := A_law16_part) (by kernel_rfl) Tryd.func35 (Nat.le_of_ble_eq_true (by kernel_rfl)) (by kernel_rfl) ((F_law16_part_eq from_ w Q).mpr hQ)

/- nacelle/wal.Open -/
def F_wal_Open (p : Option Addr) (w : World) (Q : Value → World → Prop) : Prop :=
  Does Tryd.prog N_extent_Part_Size #[.pointer (p)] w fun r1 w2 => ∃ x3 : Int, r1 = .int .i64 (x3) ∧
  cond (decide ((x3 : Int) < 52))
  (Q (.tuple #[.pointer (none), .int .i64 (1)]) w2)
  (allocK w2 (#[.pointer (p), .int .u8 (0), .int .u8 (0), .int .u8 (0), .int .u8 (0), .int .u8 (0), .int .u8 (0), .int .u8 (0), .int .u8 (0), .int .u8 (0), .int .u8 (0), .int .u8 (0), .int .u8 (0), .int .u8 (0), .int .u8 (0), .int .u8 (0), .int .u8 (0), .int .u8 (0), .int .u8 (0), .int .u8 (0), .int .u8 (0), .int .u8 (0), .int .u8 (0), .int .u8 (0), .int .u8 (0), .int .u8 (0), .int .u8 (0), .int .u8 (0), .int .u8 (0), .int .u8 (0), .int .u8 (0), .int .u8 (0), .int .u8 (0), .int .u8 (0), .int .u8 (0), .int .u8 (0), .int .u8 (0), .int .u8 (0), .int .u8 (0), .int .u8 (0), .int .u8 (0), .int .u8 (0), .int .u8 (0), .int .u8 (0), .int .u8 (0), .int .u8 (0), .int .u8 (0), .int .u8 (0), .int .u8 (0), .int .u8 (0), .int .u8 (0), .int .u8 (0), .int .u8 (0), .int .u8 (0), .int .u8 (0), .int .u8 (0), .int .u8 (0), .int .u8 (0), .int .u8 (0), .int .u8 (0), .int .u8 (0), .int .u8 (0), .int .u8 (0), .int .u8 (0), .int .u8 (0), .int .u8 (0), .int .u8 (0), .int .u8 (0), .int .u8 (0), .int .u8 (0), .int .u8 (0), .int .u8 (0), .int .u8 (0), .int .u8 (0), .int .u8 (0), .int .u8 (0), .int .u8 (0), .int .u8 (0), .int .u8 (0), .int .u8 (0), .int .u8 (0), .int .u8 (0), .int .u8 (0), .int .u8 (0), .int .u8 (0), .int .u8 (0), .int .u8 (0), .int .u8 (0), .int .u8 (0), .int .u8 (0), .int .u8 (0), .int .u8 (0), .int .u8 (0), .int .u8 (0), .int .u8 (0), .int .u8 (0), .int .u8 (0), .int .u8 (0), .int .u8 (0), .int .u8 (0), .int .u8 (0), .int .u8 (0), .int .u8 (0), .int .u8 (0), .int .u8 (0), .int .u8 (0), .int .u8 (0), .int .u8 (0), .int .u8 (0), .int .u8 (0), .int .u8 (0), .int .u8 (0), .int .u8 (0), .int .u8 (0), .int .u8 (0), .int .u8 (0), .int .u8 (0), .int .u8 (0), .int .u8 (0), .int .u8 (0), .int .u8 (0), .int .u8 (0), .int .u8 (0), .int .u8 (0), .int .u8 (0), .int .u8 (0), .int .u8 (0), .int .u8 (0), .int .u8 (0), .int .u8 (0), .int .u8 (0), .int .u8 (0), .int .u8 (0), .int .u8 (0), .int .u8 (0), .int .u8 (0), .int .u8 (0), .int .u8 (0), .int .u8 (0), .int .u8 (0), .int .u8 (0), .int .u8 (0), .int .u8 (0), .int .u8 (0), .int .u8 (0), .int .u8 (0), .int .u8 (0), .int .u8 (0), .int .u8 (0), .int .u8 (0), .int .u8 (0), .int .u8 (0), .int .u8 (0), .int .u8 (0), .int .u8 (0), .int .u8 (0), .int .u8 (0), .int .u8 (0), .int .u8 (0), .int .u8 (0), .int .u8 (0), .int .u8 (0), .int .u8 (0), .int .u8 (0), .int .u8 (0), .int .u8 (0), .int .u8 (0), .int .u8 (0), .int .u8 (0), .int .u8 (0), .int .u8 (0), .int .u8 (0), .int .u8 (0), .int .u8 (0), .int .u8 (0), .int .u8 (0), .int .u8 (0), .int .u8 (0), .int .u8 (0), .int .u8 (0), .int .u8 (0), .int .u8 (0), .int .u8 (0), .int .u8 (0), .int .u8 (0), .int .u8 (0), .int .u8 (0), .int .u8 (0), .int .u8 (0), .int .u8 (0), .int .u8 (0), .int .u8 (0), .int .u8 (0), .int .u8 (0), .int .u8 (0), .int .u8 (0), .int .u8 (0), .int .u8 (0), .int .u8 (0), .int .u8 (0), .int .u8 (0), .int .u8 (0), .int .u8 (0), .int .u8 (0), .int .u8 (0), .int .u8 (0), .int .u8 (0), .int .u8 (0), .int .u8 (0), .int .u8 (0), .int .u8 (0), .int .u8 (0), .int .u8 (0), .int .u8 (0), .int .u8 (0), .int .u8 (0), .int .u8 (0), .int .u8 (0), .int .u8 (0), .int .u8 (0), .int .u8 (0), .int .u8 (0), .int .u8 (0), .int .u8 (0), .int .u8 (0), .int .u8 (0), .int .u8 (0), .int .u8 (0), .int .u8 (0), .int .u8 (0), .int .u8 (0), .int .u8 (0), .int .u8 (0), .int .u8 (0), .int .u8 (0), .int .u8 (0), .int .u8 (0), .int .u8 (0), .int .u8 (0), .int .u8 (0), .int .u8 (0), .int .u8 (0), .int .u8 (0), .int .u8 (0), .int .u8 (0), .int .u8 (0), .int .u8 (0), .int .u8 (0), .int .u8 (0), .int .u8 (0), .int .u8 (0), .int .u8 (0), .int .u8 (0), .int .u8 (0), .int .u8 (0), .int .u8 (0), .int .u8 (0), .int .u8 (0), .int .u8 (0), .int .u8 (0), .int .u8 (0), .int .u8 (0), .int .u8 (0), .int .u8 (0), .int .u8 (0), .int .u8 (0), .int .u8 (0), .int .u8 (0), .int .u8 (0), .int .u8 (0), .int .u8 (0), .int .u8 (0), .int .u8 (0), .int .u8 (0), .int .u8 (0), .int .u8 (0), .int .u8 (0), .int .u8 (0), .int .u8 (0), .int .u8 (0), .int .u8 (0), .int .u8 (0), .int .u8 (0), .int .u8 (0), .int .u8 (0), .int .u8 (0), .int .u8 (0), .int .u8 (0), .int .u8 (0), .int .u8 (0), .int .u8 (0), .int .u8 (0), .int .u8 (0), .int .u8 (0), .int .u8 (0), .int .u8 (0), .int .u8 (0), .int .u8 (0), .int .u8 (0), .int .u8 (0), .int .u8 (0), .int .u8 (0), .int .u8 (0), .int .u8 (0), .int .u8 (0), .int .u8 (0), .int .u8 (0), .int .u8 (0), .int .u8 (0), .int .u8 (0), .int .u8 (0), .int .u8 (0), .int .u8 (0), .int .u8 (0), .int .u8 (0), .int .u8 (0), .int .u8 (0), .int .u8 (0), .int .u8 (0), .int .u8 (0), .int .u8 (0), .int .u8 (0), .int .u8 (0), .int .u8 (0), .int .u8 (0), .int .u8 (0), .int .u8 (0), .int .u8 (0), .int .u8 (0), .int .u8 (0), .int .u8 (0), .int .u8 (0), .int .u8 (0), .int .u8 (0), .int .u8 (0), .int .u8 (0), .int .u8 (0), .int .u8 (0), .int .u8 (0), .int .u8 (0), .int .u8 (0), .int .u8 (0), .int .u8 (0), .int .u8 (0), .int .u8 (0), .int .u8 (0), .int .u8 (0), .int .u8 (0), .int .u8 (0), .int .u8 (0), .int .u8 (0), .int .u8 (0), .int .u8 (0), .int .u8 (0), .int .u8 (0), .int .u8 (0), .int .u8 (0), .int .u8 (0), .int .u8 (0), .int .u8 (0), .int .u8 (0), .int .u8 (0), .int .u8 (0), .int .u8 (0), .int .u8 (0), .int .u8 (0), .int .u8 (0), .int .u8 (0), .int .u8 (0), .int .u8 (0), .int .u8 (0), .int .u8 (0), .int .u8 (0), .int .u8 (0), .int .u8 (0), .int .u8 (0), .int .u8 (0), .int .u8 (0), .int .u8 (0), .int .u8 (0), .int .u8 (0), .int .u8 (0), .int .u8 (0), .int .u8 (0), .int .u8 (0), .int .u8 (0), .int .u8 (0), .int .u8 (0), .int .u8 (0), .int .u8 (0), .int .u8 (0), .int .u8 (0), .int .u8 (0), .int .u8 (0), .int .u8 (0), .int .u8 (0), .int .u8 (0), .int .u8 (0), .int .u8 (0), .int .u8 (0), .int .u8 (0), .int .u8 (0), .int .u8 (0), .int .u8 (0), .int .u8 (0), .int .u8 (0), .int .u8 (0), .int .u8 (0), .int .u8 (0), .int .u8 (0), .int .u8 (0), .int .u8 (0), .int .u8 (0), .int .u8 (0), .int .u8 (0), .int .u8 (0), .int .u8 (0), .int .u8 (0), .int .u8 (0), .int .u8 (0), .int .u8 (0), .int .u8 (0), .int .u8 (0), .int .u8 (0), .int .u8 (0), .int .u8 (0), .int .u8 (0), .int .u8 (0), .int .u8 (0), .int .u8 (0), .int .u8 (0), .int .u8 (0), .int .u8 (0), .int .u8 (0), .int .u8 (0), .int .u8 (0), .int .u8 (0), .int .u8 (0), .int .u8 (0), .int .u8 (0), .int .u8 (0), .int .u8 (0), .int .u8 (0), .int .u8 (0), .int .u8 (0), .int .u8 (0), .int .u8 (0), .int .u8 (0), .int .u8 (0), .int .u8 (0), .int .u8 (0), .int .u8 (0), .int .u8 (0), .int .u8 (0), .int .u8 (0), .int .u8 (0), .int .u8 (0), .int .u8 (0), .int .u8 (0), .int .u8 (0), .int .u8 (0), .int .u8 (0), .int .u8 (0), .int .u8 (0), .int .u8 (0), .int .u8 (0), .int .u8 (0), .int .u8 (0), .int .u8 (0), .int .u8 (0), .int .u8 (0), .int .u8 (0), .int .u8 (0), .int .u8 (0), .int .u8 (0), .int .u8 (0), .int .u8 (0), .int .u8 (0), .int .u8 (0), .int .u8 (0), .int .u8 (0), .int .u8 (0), .int .u8 (0), .int .u8 (0), .int .u8 (0), .int .u8 (0), .int .u8 (0), .int .u8 (0), .int .u8 (0), .int .u8 (0), .int .u8 (0), .int .u8 (0), .int .u8 (0), .int .u8 (0), .int .u8 (0), .int .u8 (0), .int .u8 (0), .int .u8 (0), .int .u8 (0), .int .u8 (0), .int .u8 (0), .int .u8 (0), .int .u8 (0), .int .u8 (0), .int .u8 (0), .int .u8 (0), .int .u8 (0), .int .u8 (0), .int .u8 (0), .int .u8 (0), .int .u8 (0), .int .u8 (0), .int .u8 (0), .int .u8 (0), .int .u8 (0), .int .u8 (0), .int .u8 (0), .int .u8 (0), .int .u8 (0), .int .u8 (0), .int .u8 (0), .int .u8 (0), .int .u8 (0), .int .u8 (0), .int .u8 (0), .int .u8 (0), .int .u8 (0), .int .u8 (0), .int .u8 (0), .int .u8 (0), .int .u8 (0), .int .u8 (0), .int .u8 (0), .int .u8 (0), .int .u8 (0), .int .u8 (0), .int .u8 (0), .int .u8 (0), .int .u8 (0), .int .u8 (0), .int .u8 (0), .int .u8 (0), .int .u8 (0), .int .u8 (0), .int .u8 (0), .int .u8 (0), .int .u8 (0), .int .u8 (0), .int .u8 (0), .int .u8 (0), .int .u8 (0), .int .u8 (0), .int .u8 (0), .int .u8 (0), .int .u8 (0), .int .u8 (0), .int .u8 (0), .int .u8 (0), .int .u8 (0), .int .u8 (0), .int .u8 (0), .int .u8 (0), .int .u8 (0), .int .u8 (0), .int .u8 (0), .int .u8 (0), .int .u8 (0), .int .u8 (0), .int .u8 (0), .int .u8 (0), .int .u8 (0), .int .u8 (0), .int .u8 (0), .int .u8 (0), .int .u8 (0), .int .u8 (0), .int .u8 (0), .int .u8 (0), .int .u8 (0), .int .u8 (0), .int .u8 (0), .int .u8 (0), .int .u8 (0), .int .u8 (0), .int .u8 (0), .int .u8 (0), .int .u8 (0), .int .u8 (0), .int .u8 (0), .int .u8 (0), .int .u8 (0), .int .u8 (0), .int .u8 (0), .int .u8 (0), .int .u8 (0), .int .u8 (0), .int .u8 (0), .int .u8 (0), .int .u8 (0), .int .u8 (0), .int .u8 (0), .int .u8 (0), .int .u8 (0), .int .u8 (0), .int .u8 (0), .int .u8 (0), .int .u8 (0), .int .u8 (0), .int .u8 (0), .int .u8 (0), .int .u8 (0), .int .u8 (0), .int .u8 (0), .int .u8 (0), .int .u8 (0), .int .u8 (0), .int .u8 (0), .int .u8 (0), .int .u8 (0), .int .u8 (0), .int .u8 (0), .int .u8 (0), .int .u8 (0), .int .u8 (0), .int .u8 (0), .int .u8 (0), .int .u8 (0), .int .u8 (0), .int .u8 (0), .int .u8 (0), .int .u8 (0), .int .u8 (0), .int .u8 (0), .int .u8 (0), .int .u8 (0), .int .u8 (0), .int .u8 (0), .int .u8 (0), .int .u8 (0), .int .u8 (0), .int .u8 (0), .int .u32 (0), .int .i64 (0), .int .i64 (0), .bool (false)]) T_wal_Log fun a4 w5 =>
   Does Tryd.prog N_wal_Log_head #[.pointer (some (a4))] w5 fun r6 w7 => ∃ x8 : Int, r6 = .int .i64 (x8) ∧
   cond ((x8 : Int) != 0)
   (Q (.tuple #[.pointer (none), .int .i64 (x8)]) w7)
   (∃ (I11 : Int → World → Prop) (M12 : Int → World → Nat), I11 0 w7 ∧
    ∀ x9 : Int, ∀ w10 : World, I11 x9 w10 →
      cond (decide ((x9 : Int) < 16))
      (∀ J14 : World → Prop, (∀ w13 : World, 
         (I11 (IntKind.wrap .i64 (x9 + 1)) w13 ∧ M12 (IntKind.wrap .i64 (x9 + 1)) w13 < M12 x9 w10) → J14 w13) →
       nnil (some (a4)) fun a15 =>
       ldT (.int .i64) w10 ((a15).add 642) fun x16 =>
       Does Tryd.prog N_extent_Part_Read #[.pointer (p), .int .i64 (IntKind.wrap .i64 ((IntKind.wrap .i64 (2 + (IntKind.wrap .i64 (x16 * 16)))) + x9))] w10 fun r17 w18 => ∃ l19 : Sl, ∃ x20 : Int, r17 = .tuple #[.slice (l19.a) (l19.len) (l19.cap), .int .i64 (x20)] ∧
       cond ((x20 : Int) != 0)
       (Q (.tuple #[.pointer (none), .int .i64 (x20)]) w18)
       (Does Tryd.prog N_wal_hear #[.slice (l19.a) (l19.len) (l19.cap), .int .u8 (80), .int .i64 (41)] w18 fun r21 w22 => ∃ x23 : Int, ∃ l24 : Sl, ∃ b25 : Bool, r21 = .tuple #[.int .u32 (x23), .slice (l24.a) (l24.len) (l24.cap), .bool (b25)] ∧
        ∀ J27 : World → Prop, (∀ w26 : World, 
          (nnil (some (a4)) fun a28 =>
          idxR 16 (x9) (
          slcA (((a28).add 1).add (Int.toNat (x9) * 40)) 40 (0) (((40 : Nat) : Int)) 1 fun l29 =>
          slcT ⟨l24.a, l24.len, l24.cap⟩ (1) (((l24.len : Nat) : Int)) 1 fun l30 =>
          runG (.int .i64) Tryd.prog w26.drew (Builtin.copy_ #[T_l_uint8, T_l_uint8] T_int #[.slice (l29.a) (l29.len) (l29.cap), .slice (l30.a) (l30.len) (l30.cap)]) fun x31 w32 =>
          J14 w32)) → J27 w26) →
        cond (!b25)
        (Q (.tuple #[.pointer (none), .int .i64 (8)]) w22)
        (nnil (some (a4)) fun a33 =>
         ldT (.int .u32) w22 ((a33).add 641) fun x34 =>
         cond ((x23 : Int) != x34)
         (Q (.tuple #[.pointer (none), .int .i64 (8)]) w22)
         (idx (l24.a) (l24.len) (0) 1 fun a35 =>
          ldT (.int .u8) w22 (a35) fun x36 =>
          cond ((x36 : Int) != (IntKind.wrap .u8 x9))
          (Q (.tuple #[.pointer (none), .int .i64 (8)]) w22)
          (J27 w22)))))
      (Does Tryd.prog N_wal_Log_replay #[.pointer (some (a4))] w10 fun r37 w38 => ∃ x39 : Int, r37 = .int .i64 (x39) ∧
       cond ((x39 : Int) != 0)
       (Q (.tuple #[.pointer (none), .int .i64 (x39)]) w38)
       (Q (.tuple #[.pointer (some (a4)), .int .i64 (0)]) w38))))
def A_wal_Open : Ann := ⟨[(8, [(24, .one (.int .i64))])], [(16, []), (17, [])], [(16, [⟨0, 0, 0, true⟩, ⟨0, 0, 0, true⟩, ⟨1, 1, 1, true⟩, ⟨4, 4, 5, true⟩, ⟨10, 10, 15, true⟩, ⟨16, 16, 31, true⟩, ⟨0, 0, 0, true⟩, ⟨64, 64, 64, true⟩, ⟨160, 0, 255, false⟩])]⟩
theorem F_wal_Open_eq (p : Option Addr) (w : World) (Q : Value → World → Prop) : vcFn Tryd.prog A_wal_Open Tryd.f36 #[.pointer (p)] w Q = F_wal_Open p w Q := by kernel_rfl
theorem F_wal_Open_does (p : Option Addr) (w : World) (Q : Value → World → Prop) (hQ : F_wal_Open p w Q) : Does Tryd.prog N_wal_Open #[.pointer (p)] w Q :=
  vcFn_sound noAsk mixed (A := A_wal_Open) (by kernel_rfl) Tryd.func36 (Nat.le_of_ble_eq_true (by kernel_rfl)) (by kernel_rfl) ((F_wal_Open_eq p w Q).mpr hQ)

/- (*nacelle/wal.Log).Commit -/
def F_wal_Log_Commit (w_ : Option Addr) (l : Sl) (w : World) (Q : Value → World → Prop) : Prop :=
  nnil (w_) fun a1 =>
  ldT (.bool) w ((a1).add 644) fun b2 =>
  cond (b2)
  (Q (.int .i64 (9)) w)
  (Does Tryd.prog N_wal_right #[.slice (l.a) (l.len) (l.cap)] w fun r3 w4 => ∃ b5 : Bool, r3 = .bool (b5) ∧
   cond (!b5)
   (Q (.int .i64 (1)) w4)
   (cond (((((l.len : Nat) : Int)) : Int) == 0)
    (Q (.int .i64 (0)) w4)
    (∀ J7 : World → Prop, (∀ w6 : World, 
       (Does Tryd.prog N_wal_Log_write #[.pointer (w_), .slice (l.a) (l.len) (l.cap)] w6 fun r8 w9 => ∃ x10 : Int, r8 = .int .i64 (x10) ∧
       Q (.int .i64 (x10)) w9) → J7 w6) →
     nnil (w_) fun a11 =>
     ldT (.int .i64) w4 ((a11).add 643) fun x12 =>
     cond (decide (((IntKind.wrap .i64 ((IntKind.wrap .i64 (x12 + (((l.len : Nat) : Int)))) + 1)) : Int) > 18))
     (nnil (w_) fun a13 =>
      ldT (.int .u32) w4 ((a13).add 641) fun x14 =>
      cond ((x14 : Int) == 4294967295)
      (Q (.int .i64 (5)) w4)
      (Does Tryd.prog N_wal_Log_checkpoint #[.pointer (w_)] w4 fun r15 w16 => ∃ x17 : Int, r15 = .int .i64 (x17) ∧
       cond ((x17 : Int) != 0)
       (Q (.int .i64 (x17)) w16)
       (J7 w16)))
     (J7 w4))))
def A_wal_Log_Commit : Ann := ⟨[], [(13, [])], []⟩
theorem F_wal_Log_Commit_eq (w_ : Option Addr) (l : Sl) (w : World) (Q : Value → World → Prop) : vcFn Tryd.prog A_wal_Log_Commit Tryd.f37 #[.pointer (w_), .slice (l.a) (l.len) (l.cap)] w Q = F_wal_Log_Commit w_ l w Q := by kernel_rfl
theorem F_wal_Log_Commit_does (w_ : Option Addr) (l : Sl) (w : World) (Q : Value → World → Prop) (hQ : F_wal_Log_Commit w_ l w Q) : Does Tryd.prog N_wal_Log_Commit #[.pointer (w_), .slice (l.a) (l.len) (l.cap)] w Q :=
  vcFn_sound noAsk mixed (A := A_wal_Log_Commit) (by kernel_rfl) Tryd.func37 (Nat.le_of_ble_eq_true (by kernel_rfl)) (by kernel_rfl) ((F_wal_Log_Commit_eq w_ l w Q).mpr hQ)

/- nacelle/nacellelaw16.Changes -/
def F_law16_Changes (a0 : Int) (a1 : Int) (a2 : Int) (a3 : Int) (a4 : Int) (a5 : Sl) (w : World) (Q : Value → World → Prop) : Prop :=
  allocK w (#[.int .i64 (a0), .int .i64 (a1), .int .i64 (a2), .int .i64 (a3), .int .u8 (a4), .slice (a5.a) (a5.len) (a5.cap)]) T_law16_Act fun a1 w2 =>
  ∀ J5 : Int → World → Prop, (∀ n3 : Int, ∀ w4 : World, 
    (∃ (I9 : Sl → Int → World → Prop) (M10 : Sl → Int → World → Nat), I9 ⟨none, 0, 0⟩ 0 w4 ∧
    ∀ l6 : Sl, ∀ i7 : Int, ∀ w8 : World, I9 l6 i7 w8 →
      ∀ J12 : World → Prop, (∀ w11 : World, 
        (∀ J15 : Sl → World → Prop, (∀ l13 : Sl, ∀ w14 : World, 
          (I9 ⟨l13.a, l13.len, l13.cap⟩ (IntKind.wrap .i64 (i7 + 1)) w14 ∧ M10 ⟨l13.a, l13.len, l13.cap⟩ (IntKind.wrap .i64 (i7 + 1)) w14 < M10 l6 i7 w8) → J15 l13 w14) →
        runG (.sl) Tryd.prog w11 (Instr.makeSlice T_l_uint8 (.int .i64 (n3)) (.int .i64 (n3))) fun l16 w17 =>
        ∃ (I20 : Int → World → Prop) (M21 : Int → World → Nat), I20 0 w17 ∧
        ∀ k18 : Int, ∀ w19 : World, I20 k18 w19 →
          cond (decide ((k18 : Int) < n3))
          (ldT (.int .u8) w19 ((a1).add 4) fun x22 =>
           idx (l16.a) (l16.len) (k18) 1 fun a23 =>
           stC w19 (a23) (.int .u8 (IntKind.wrap .u8 (x22 + (IntKind.wrap .u8 i7)))) fun w24 =>
           I20 (IntKind.wrap .i64 (k18 + 1)) w24 ∧ M21 (IntKind.wrap .i64 (k18 + 1)) w24 < M21 k18 w19)
          (ldT (.int .i64) w19 ((a1).add 2) fun x25 =>
           ∀ J28 : Int → World → Prop, (∀ page26 : Int, ∀ w27 : World, 
             (allocK w27 #[.int .i64 (page26), .slice (l16.a) (l16.len) (l16.cap)] T_api_Change fun a29 w30 =>
             runG (.sl) Tryd.prog w30 (Builtin.append_ #[T_l_api_Change, T_l_api_Change] T_l_api_Change #[.slice (l6.a) (l6.len) (l6.cap), .slice (some (a29)) (1) (1)]) fun l31 w32 =>
             J15 ⟨l31.a, l31.len, l31.cap⟩ w32) → J28 page26 w27) →
           ∀ J35 : Bool → World → Prop, (∀ b33 : Bool, ∀ w34 : World, 
             (cond (b33)
             ((16 : Int) ≠ 0 ∧
              J28 (Int.tmod (IntKind.wrap .i64 (x25 + i7)) 16) w34)
             (J28 x25 w34)) → J35 b33 w34) →
           cond (decide ((x25 : Int) ≥ 0))
           (J35 (decide ((x25 : Int) < 16)) w19)
           (J35 false w19))) → J12 w11) →
      ldT (.int .i64) w8 ((a1).add 1) fun x36 =>
      cond (decide ((i7 : Int) < x36))
      (cond (decide ((i7 : Int) < 18))
       (J12 w8)
       (Q (.slice (l6.a) (l6.len) (l6.cap)) w8))
      (Q (.slice (l6.a) (l6.len) (l6.cap)) w8)) → J5 n3 w4) →
  ∀ J39 : Bool → World → Prop, (∀ b37 : Bool, ∀ w38 : World, 
    (cond (b37)
    (ldT (.int .i64) w38 ((a1).add 3) fun x40 =>
     J5 (IntKind.wrap .i64 (40 + x40)) w38)
    (J5 40 w38)) → J39 b37 w38) →
  ldT (.int .i64) w2 ((a1).add 3) fun x41 =>
  cond (decide ((x41 : Int) > (-40)))
  (ldT (.int .i64) w2 ((a1).add 3) fun x42 =>
   J39 (decide ((x42 : Int) < 40)) w2)
  (J39 false w2)
def A_law16_Changes : Ann := ⟨[(6, [(3, .one (.sl)), (5, .one (.int .i64))]), (10, [(7, .one (.int .i64))])], [(4, [(16, .one (.bool))]), (5, [(4, .one (.int .i64))]), (7, [(3, .one (.sl))]), (8, []), (15, [(53, .one (.bool))]), (16, [(8, .one (.int .i64))])], []⟩
theorem F_law16_Changes_eq (a0 : Int) (a1 : Int) (a2 : Int) (a3 : Int) (a4 : Int) (a5 : Sl) (w : World) (Q : Value → World → Prop) : vcFn Tryd.prog A_law16_Changes Tryd.f38 #[.agg #[.int .i64 (a0), .int .i64 (a1), .int .i64 (a2), .int .i64 (a3), .int .u8 (a4), .slice (a5.a) (a5.len) (a5.cap)]] w Q = F_law16_Changes a0 a1 a2 a3 a4 a5 w Q := by kernel_rfl
theorem F_law16_Changes_does (a0 : Int) (a1 : Int) (a2 : Int) (a3 : Int) (a4 : Int) (a5 : Sl) (w : World) (Q : Value → World → Prop) (hQ : F_law16_Changes a0 a1 a2 a3 a4 a5 w Q) : Does Tryd.prog N_law16_Changes #[.agg #[.int .i64 (a0), .int .i64 (a1), .int .i64 (a2), .int .i64 (a3), .int .u8 (a4), .slice (a5.a) (a5.len) (a5.cap)]] w Q :=
  vcFn_sound noAsk mixed (A := A_law16_Changes) (by kernel_rfl) Tryd.func38 (Nat.le_of_ble_eq_true (by kernel_rfl)) (by kernel_rfl) ((F_law16_Changes_eq a0 a1 a2 a3 a4 a5 w Q).mpr hQ)

/- nacelle/nacelleref16.Open -/
def F_ref16_Open (d0 : Sl) (d1 : Sl) (d2 : Bool) (d3 : Int) (d4 : Sl) (from_ : Int) (w : World) (Q : Value → World → Prop) : Prop :=
  allocK w (#[.slice (d0.a) (d0.len) (d0.cap), .slice (d1.a) (d1.len) (d1.cap), .bool (d2), .int .i64 (d3), .slice (d4.a) (d4.len) (d4.cap)]) T_ref05_Disk fun a1 w2 =>
  allocK w2 (zc Tryd.prog T_ref16_Log) T_ref16_Log fun a3 w4 =>
  ∃ (I8 : Sl → Int → World → Prop) (M9 : Sl → Int → World → Nat), I8 ⟨none, 0, 0⟩ 0 w4 ∧
  ∀ at5 : Sl, ∀ i6 : Int, ∀ w7 : World, I8 at5 i6 w7 →
    cond (decide ((i6 : Int) < 52))
    (ldT (.sl) w7 (a1) fun l10 => ldT (.sl) w7 ((a1).add 1) fun l11 => ldT (.bool) w7 ((a1).add 2) fun b12 => ldT (.int .i64) w7 ((a1).add 3) fun x13 => ldT (.sl) w7 ((a1).add 4) fun l14 =>
     Does Tryd.prog N_ref05_Disk_Read #[.agg #[.slice (l10.a) (l10.len) (l10.cap), .slice (l11.a) (l11.len) (l11.cap), .bool (b12), .int .i64 (x13), .slice (l14.a) (l14.len) (l14.cap)], .int .i64 (IntKind.wrap .i64 (from_ + i6))] w7 fun r15 w16 => ∃ s17 : ByteArray, ∃ x18 : Int, r15 = .tuple #[.string (s17), .int .i64 (x18)] ∧
     cond ((x18 : Int) != 0)
     (ldT (.sl) w16 (a1) fun l19 => ldT (.sl) w16 ((a1).add 1) fun l20 => ldT (.bool) w16 ((a1).add 2) fun b21 => ldT (.int .i64) w16 ((a1).add 3) fun x22 => ldT (.sl) w16 ((a1).add 4) fun l23 =>
      stC w16 (a3) (.slice (l19.a) (l19.len) (l19.cap)) fun w25 => stC w25 ((a3).add 1) (.slice (l20.a) (l20.len) (l20.cap)) fun w26 => stC w26 ((a3).add 2) (.bool (b21)) fun w27 => stC w27 ((a3).add 3) (.int .i64 (x22)) fun w28 => stC w28 ((a3).add 4) (.slice (l23.a) (l23.len) (l23.cap)) fun w29 => stC w29 ((a3).add 5) (.int .i64 (0)) fun w30 => stC w30 ((a3).add 6) (.slice (none) (0) (0)) fun w31 => stC w31 ((a3).add 7) (.int .u32 (0)) fun w32 => stC w32 ((a3).add 8) (.int .i64 (0)) fun w33 => stC w33 ((a3).add 9) (.int .i64 (0)) fun w34 => stC w34 ((a3).add 10) (.bool (false)) fun w35 =>
      ldT (.sl) w35 (a3) fun l36 => ldT (.sl) w35 ((a3).add 1) fun l37 => ldT (.bool) w35 ((a3).add 2) fun b38 => ldT (.int .i64) w35 ((a3).add 3) fun x39 => ldT (.sl) w35 ((a3).add 4) fun l40 => ldT (.int .i64) w35 ((a3).add 5) fun x41 => ldT (.sl) w35 ((a3).add 6) fun l42 => ldT (.int .u32) w35 ((a3).add 7) fun x43 => ldT (.int .i64) w35 ((a3).add 8) fun x44 => ldT (.int .i64) w35 ((a3).add 9) fun x45 => ldT (.bool) w35 ((a3).add 10) fun b46 =>
      Q (.tuple #[.agg #[.slice (l36.a) (l36.len) (l36.cap), .slice (l37.a) (l37.len) (l37.cap), .bool (b38), .int .i64 (x39), .slice (l40.a) (l40.len) (l40.cap), .int .i64 (x41), .slice (l42.a) (l42.len) (l42.cap), .int .u32 (x43), .int .i64 (x44), .int .i64 (x45), .bool (b46)], .int .i64 (x18)]) w35)
     (allocK w16 #[.string (s17)] T_string fun a47 w48 =>
      runG (.sl) Tryd.prog w48 (Builtin.append_ #[T_l_string, T_l_string] T_l_string #[.slice (at5.a) (at5.len) (at5.cap), .slice (some (a47)) (1) (1)]) fun l49 w50 =>
      I8 ⟨l49.a, l49.len, l49.cap⟩ (IntKind.wrap .i64 (i6 + 1)) w50 ∧ M9 ⟨l49.a, l49.len, l49.cap⟩ (IntKind.wrap .i64 (i6 + 1)) w50 < M9 at5 i6 w7))
    (Does Tryd.prog N_ref16_State #[.slice (at5.a) (at5.len) (at5.cap)] w7 fun r51 w52 => ∃ l53 : Sl, ∃ l54 : Sl, ∃ b55 : Bool, ∃ x56 : Int, ∃ l57 : Sl, ∃ x58 : Int, ∃ l59 : Sl, ∃ x60 : Int, ∃ x61 : Int, ∃ x62 : Int, ∃ b63 : Bool, ∃ x64 : Int, r51 = .tuple #[.agg #[.slice (l53.a) (l53.len) (l53.cap), .slice (l54.a) (l54.len) (l54.cap), .bool (b55), .int .i64 (x56), .slice (l57.a) (l57.len) (l57.cap), .int .i64 (x58), .slice (l59.a) (l59.len) (l59.cap), .int .u32 (x60), .int .i64 (x61), .int .i64 (x62), .bool (b63)], .int .i64 (x64)] ∧
     allocK w52 (zc Tryd.prog T_ref16_Log) T_ref16_Log fun a65 w66 =>
     stC w66 (a65) (.slice (l53.a) (l53.len) (l53.cap)) fun w68 => stC w68 ((a65).add 1) (.slice (l54.a) (l54.len) (l54.cap)) fun w69 => stC w69 ((a65).add 2) (.bool (b55)) fun w70 => stC w70 ((a65).add 3) (.int .i64 (x56)) fun w71 => stC w71 ((a65).add 4) (.slice (l57.a) (l57.len) (l57.cap)) fun w72 => stC w72 ((a65).add 5) (.int .i64 (x58)) fun w73 => stC w73 ((a65).add 6) (.slice (l59.a) (l59.len) (l59.cap)) fun w74 => stC w74 ((a65).add 7) (.int .u32 (x60)) fun w75 => stC w75 ((a65).add 8) (.int .i64 (x61)) fun w76 => stC w76 ((a65).add 9) (.int .i64 (x62)) fun w77 => stC w77 ((a65).add 10) (.bool (b63)) fun w78 =>
     ldT (.sl) w78 (a1) fun l79 => ldT (.sl) w78 ((a1).add 1) fun l80 => ldT (.bool) w78 ((a1).add 2) fun b81 => ldT (.int .i64) w78 ((a1).add 3) fun x82 => ldT (.sl) w78 ((a1).add 4) fun l83 =>
     stC w78 (a65) (.slice (l79.a) (l79.len) (l79.cap)) fun w85 => stC w85 ((a65).add 1) (.slice (l80.a) (l80.len) (l80.cap)) fun w86 => stC w86 ((a65).add 2) (.bool (b81)) fun w87 => stC w87 ((a65).add 3) (.int .i64 (x82)) fun w88 => stC w88 ((a65).add 4) (.slice (l83.a) (l83.len) (l83.cap)) fun w89 =>
     stC w89 ((a65).add 5) (.int .i64 (from_)) fun w90 =>
     ldT (.sl) w90 (a65) fun l91 => ldT (.sl) w90 ((a65).add 1) fun l92 => ldT (.bool) w90 ((a65).add 2) fun b93 => ldT (.int .i64) w90 ((a65).add 3) fun x94 => ldT (.sl) w90 ((a65).add 4) fun l95 => ldT (.int .i64) w90 ((a65).add 5) fun x96 => ldT (.sl) w90 ((a65).add 6) fun l97 => ldT (.int .u32) w90 ((a65).add 7) fun x98 => ldT (.int .i64) w90 ((a65).add 8) fun x99 => ldT (.int .i64) w90 ((a65).add 9) fun x100 => ldT (.bool) w90 ((a65).add 10) fun b101 =>
     stC w90 (a3) (.slice (l91.a) (l91.len) (l91.cap)) fun w103 => stC w103 ((a3).add 1) (.slice (l92.a) (l92.len) (l92.cap)) fun w104 => stC w104 ((a3).add 2) (.bool (b93)) fun w105 => stC w105 ((a3).add 3) (.int .i64 (x94)) fun w106 => stC w106 ((a3).add 4) (.slice (l95.a) (l95.len) (l95.cap)) fun w107 => stC w107 ((a3).add 5) (.int .i64 (x96)) fun w108 => stC w108 ((a3).add 6) (.slice (l97.a) (l97.len) (l97.cap)) fun w109 => stC w109 ((a3).add 7) (.int .u32 (x98)) fun w110 => stC w110 ((a3).add 8) (.int .i64 (x99)) fun w111 => stC w111 ((a3).add 9) (.int .i64 (x100)) fun w112 => stC w112 ((a3).add 10) (.bool (b101)) fun w113 =>
     ldT (.sl) w113 (a3) fun l114 => ldT (.sl) w113 ((a3).add 1) fun l115 => ldT (.bool) w113 ((a3).add 2) fun b116 => ldT (.int .i64) w113 ((a3).add 3) fun x117 => ldT (.sl) w113 ((a3).add 4) fun l118 => ldT (.int .i64) w113 ((a3).add 5) fun x119 => ldT (.sl) w113 ((a3).add 6) fun l120 => ldT (.int .u32) w113 ((a3).add 7) fun x121 => ldT (.int .i64) w113 ((a3).add 8) fun x122 => ldT (.int .i64) w113 ((a3).add 9) fun x123 => ldT (.bool) w113 ((a3).add 10) fun b124 =>
     Q (.tuple #[.agg #[.slice (l114.a) (l114.len) (l114.cap), .slice (l115.a) (l115.len) (l115.cap), .bool (b116), .int .i64 (x117), .slice (l118.a) (l118.len) (l118.cap), .int .i64 (x119), .slice (l120.a) (l120.len) (l120.cap), .int .u32 (x121), .int .i64 (x122), .int .i64 (x123), .bool (b124)], .int .i64 (x64)]) w113)
def A_ref16_Open : Ann := ⟨[(3, [(6, .one (.sl)), (7, .one (.int .i64))])], [], []⟩
theorem F_ref16_Open_eq (d0 : Sl) (d1 : Sl) (d2 : Bool) (d3 : Int) (d4 : Sl) (from_ : Int) (w : World) (Q : Value → World → Prop) : vcFn Tryd.prog A_ref16_Open Tryd.f39 #[.agg #[.slice (d0.a) (d0.len) (d0.cap), .slice (d1.a) (d1.len) (d1.cap), .bool (d2), .int .i64 (d3), .slice (d4.a) (d4.len) (d4.cap)], .int .i64 (from_)] w Q = F_ref16_Open d0 d1 d2 d3 d4 from_ w Q := by kernel_rfl
theorem F_ref16_Open_does (d0 : Sl) (d1 : Sl) (d2 : Bool) (d3 : Int) (d4 : Sl) (from_ : Int) (w : World) (Q : Value → World → Prop) (hQ : F_ref16_Open d0 d1 d2 d3 d4 from_ w Q) : Does Tryd.prog N_ref16_Open #[.agg #[.slice (d0.a) (d0.len) (d0.cap), .slice (d1.a) (d1.len) (d1.cap), .bool (d2), .int .i64 (d3), .slice (d4.a) (d4.len) (d4.cap)], .int .i64 (from_)] w Q :=
  vcFn_sound noAsk mixed (A := A_ref16_Open) (by kernel_rfl) Tryd.func39 (Nat.le_of_ble_eq_true (by kernel_rfl)) (by kernel_rfl) ((F_ref16_Open_eq d0 d1 d2 d3 d4 from_ w Q).mpr hQ)

/- (nacelle/nacelleref16.Log).Commit -/
def F_ref16_Log_Commit (w_0 : Sl) (w_1 : Sl) (w_2 : Bool) (w_3 : Int) (w_4 : Sl) (w_5 : Int) (w_6 : Sl) (w_7 : Int) (w_8 : Int) (w_9 : Int) (w_10 : Bool) (l : Sl) (w : World) (Q : Value → World → Prop) : Prop :=
  allocK w (#[.slice (w_0.a) (w_0.len) (w_0.cap), .slice (w_1.a) (w_1.len) (w_1.cap), .bool (w_2), .int .i64 (w_3), .slice (w_4.a) (w_4.len) (w_4.cap), .int .i64 (w_5), .slice (w_6.a) (w_6.len) (w_6.cap), .int .u32 (w_7), .int .i64 (w_8), .int .i64 (w_9), .bool (w_10)]) T_ref16_Log fun a1 w2 =>
  allocK w2 (zc Tryd.prog T_ref16_Log) T_ref16_Log fun a3 w4 =>
  ldT (.bool) w4 ((a1).add 10) fun b5 =>
  cond (b5)
  (ldT (.sl) w4 (a1) fun l6 => ldT (.sl) w4 ((a1).add 1) fun l7 => ldT (.bool) w4 ((a1).add 2) fun b8 => ldT (.int .i64) w4 ((a1).add 3) fun x9 => ldT (.sl) w4 ((a1).add 4) fun l10 => ldT (.int .i64) w4 ((a1).add 5) fun x11 => ldT (.sl) w4 ((a1).add 6) fun l12 => ldT (.int .u32) w4 ((a1).add 7) fun x13 => ldT (.int .i64) w4 ((a1).add 8) fun x14 => ldT (.int .i64) w4 ((a1).add 9) fun x15 => ldT (.bool) w4 ((a1).add 10) fun b16 =>
   stC w4 (a3) (.slice (l6.a) (l6.len) (l6.cap)) fun w18 => stC w18 ((a3).add 1) (.slice (l7.a) (l7.len) (l7.cap)) fun w19 => stC w19 ((a3).add 2) (.bool (b8)) fun w20 => stC w20 ((a3).add 3) (.int .i64 (x9)) fun w21 => stC w21 ((a3).add 4) (.slice (l10.a) (l10.len) (l10.cap)) fun w22 => stC w22 ((a3).add 5) (.int .i64 (x11)) fun w23 => stC w23 ((a3).add 6) (.slice (l12.a) (l12.len) (l12.cap)) fun w24 => stC w24 ((a3).add 7) (.int .u32 (x13)) fun w25 => stC w25 ((a3).add 8) (.int .i64 (x14)) fun w26 => stC w26 ((a3).add 9) (.int .i64 (x15)) fun w27 => stC w27 ((a3).add 10) (.bool (b16)) fun w28 =>
   ldT (.sl) w28 (a3) fun l29 => ldT (.sl) w28 ((a3).add 1) fun l30 => ldT (.bool) w28 ((a3).add 2) fun b31 => ldT (.int .i64) w28 ((a3).add 3) fun x32 => ldT (.sl) w28 ((a3).add 4) fun l33 => ldT (.int .i64) w28 ((a3).add 5) fun x34 => ldT (.sl) w28 ((a3).add 6) fun l35 => ldT (.int .u32) w28 ((a3).add 7) fun x36 => ldT (.int .i64) w28 ((a3).add 8) fun x37 => ldT (.int .i64) w28 ((a3).add 9) fun x38 => ldT (.bool) w28 ((a3).add 10) fun b39 =>
   Q (.tuple #[.agg #[.slice (l29.a) (l29.len) (l29.cap), .slice (l30.a) (l30.len) (l30.cap), .bool (b31), .int .i64 (x32), .slice (l33.a) (l33.len) (l33.cap), .int .i64 (x34), .slice (l35.a) (l35.len) (l35.cap), .int .u32 (x36), .int .i64 (x37), .int .i64 (x38), .bool (b39)], .int .i64 (9)]) w28)
  (Does Tryd.prog N_ref16_May #[.slice (l.a) (l.len) (l.cap)] w4 fun r40 w41 => ∃ b42 : Bool, r40 = .bool (b42) ∧
   cond (!b42)
   (ldT (.sl) w41 (a1) fun l43 => ldT (.sl) w41 ((a1).add 1) fun l44 => ldT (.bool) w41 ((a1).add 2) fun b45 => ldT (.int .i64) w41 ((a1).add 3) fun x46 => ldT (.sl) w41 ((a1).add 4) fun l47 => ldT (.int .i64) w41 ((a1).add 5) fun x48 => ldT (.sl) w41 ((a1).add 6) fun l49 => ldT (.int .u32) w41 ((a1).add 7) fun x50 => ldT (.int .i64) w41 ((a1).add 8) fun x51 => ldT (.int .i64) w41 ((a1).add 9) fun x52 => ldT (.bool) w41 ((a1).add 10) fun b53 =>
    stC w41 (a3) (.slice (l43.a) (l43.len) (l43.cap)) fun w55 => stC w55 ((a3).add 1) (.slice (l44.a) (l44.len) (l44.cap)) fun w56 => stC w56 ((a3).add 2) (.bool (b45)) fun w57 => stC w57 ((a3).add 3) (.int .i64 (x46)) fun w58 => stC w58 ((a3).add 4) (.slice (l47.a) (l47.len) (l47.cap)) fun w59 => stC w59 ((a3).add 5) (.int .i64 (x48)) fun w60 => stC w60 ((a3).add 6) (.slice (l49.a) (l49.len) (l49.cap)) fun w61 => stC w61 ((a3).add 7) (.int .u32 (x50)) fun w62 => stC w62 ((a3).add 8) (.int .i64 (x51)) fun w63 => stC w63 ((a3).add 9) (.int .i64 (x52)) fun w64 => stC w64 ((a3).add 10) (.bool (b53)) fun w65 =>
    ldT (.sl) w65 (a3) fun l66 => ldT (.sl) w65 ((a3).add 1) fun l67 => ldT (.bool) w65 ((a3).add 2) fun b68 => ldT (.int .i64) w65 ((a3).add 3) fun x69 => ldT (.sl) w65 ((a3).add 4) fun l70 => ldT (.int .i64) w65 ((a3).add 5) fun x71 => ldT (.sl) w65 ((a3).add 6) fun l72 => ldT (.int .u32) w65 ((a3).add 7) fun x73 => ldT (.int .i64) w65 ((a3).add 8) fun x74 => ldT (.int .i64) w65 ((a3).add 9) fun x75 => ldT (.bool) w65 ((a3).add 10) fun b76 =>
    Q (.tuple #[.agg #[.slice (l66.a) (l66.len) (l66.cap), .slice (l67.a) (l67.len) (l67.cap), .bool (b68), .int .i64 (x69), .slice (l70.a) (l70.len) (l70.cap), .int .i64 (x71), .slice (l72.a) (l72.len) (l72.cap), .int .u32 (x73), .int .i64 (x74), .int .i64 (x75), .bool (b76)], .int .i64 (1)]) w65)
   (cond (((((l.len : Nat) : Int)) : Int) == 0)
    (ldT (.sl) w41 (a1) fun l77 => ldT (.sl) w41 ((a1).add 1) fun l78 => ldT (.bool) w41 ((a1).add 2) fun b79 => ldT (.int .i64) w41 ((a1).add 3) fun x80 => ldT (.sl) w41 ((a1).add 4) fun l81 => ldT (.int .i64) w41 ((a1).add 5) fun x82 => ldT (.sl) w41 ((a1).add 6) fun l83 => ldT (.int .u32) w41 ((a1).add 7) fun x84 => ldT (.int .i64) w41 ((a1).add 8) fun x85 => ldT (.int .i64) w41 ((a1).add 9) fun x86 => ldT (.bool) w41 ((a1).add 10) fun b87 =>
     stC w41 (a3) (.slice (l77.a) (l77.len) (l77.cap)) fun w89 => stC w89 ((a3).add 1) (.slice (l78.a) (l78.len) (l78.cap)) fun w90 => stC w90 ((a3).add 2) (.bool (b79)) fun w91 => stC w91 ((a3).add 3) (.int .i64 (x80)) fun w92 => stC w92 ((a3).add 4) (.slice (l81.a) (l81.len) (l81.cap)) fun w93 => stC w93 ((a3).add 5) (.int .i64 (x82)) fun w94 => stC w94 ((a3).add 6) (.slice (l83.a) (l83.len) (l83.cap)) fun w95 => stC w95 ((a3).add 7) (.int .u32 (x84)) fun w96 => stC w96 ((a3).add 8) (.int .i64 (x85)) fun w97 => stC w97 ((a3).add 9) (.int .i64 (x86)) fun w98 => stC w98 ((a3).add 10) (.bool (b87)) fun w99 =>
     ldT (.sl) w99 (a3) fun l100 => ldT (.sl) w99 ((a3).add 1) fun l101 => ldT (.bool) w99 ((a3).add 2) fun b102 => ldT (.int .i64) w99 ((a3).add 3) fun x103 => ldT (.sl) w99 ((a3).add 4) fun l104 => ldT (.int .i64) w99 ((a3).add 5) fun x105 => ldT (.sl) w99 ((a3).add 6) fun l106 => ldT (.int .u32) w99 ((a3).add 7) fun x107 => ldT (.int .i64) w99 ((a3).add 8) fun x108 => ldT (.int .i64) w99 ((a3).add 9) fun x109 => ldT (.bool) w99 ((a3).add 10) fun b110 =>
     Q (.tuple #[.agg #[.slice (l100.a) (l100.len) (l100.cap), .slice (l101.a) (l101.len) (l101.cap), .bool (b102), .int .i64 (x103), .slice (l104.a) (l104.len) (l104.cap), .int .i64 (x105), .slice (l106.a) (l106.len) (l106.cap), .int .u32 (x107), .int .i64 (x108), .int .i64 (x109), .bool (b110)], .int .i64 (0)]) w99)
    (∀ J112 : World → Prop, (∀ w111 : World, 
       (∃ (I117 : Sl → Sl → Int → World → Prop) (M118 : Sl → Sl → Int → World → Nat), I117 ⟨none, 0, 0⟩ ⟨none, 0, 0⟩ 0 w111 ∧
       ∀ at113 : Sl, ∀ s114 : Sl, ∀ i115 : Int, ∀ w116 : World, I117 at113 s114 i115 w116 →
         cond (decide ((i115 : Int) < (((l.len : Nat) : Int))))
         (ldT (.int .i64) w116 ((a1).add 9) fun x119 =>
          allocK w116 #[.int .i64 (IntKind.wrap .i64 ((IntKind.wrap .i64 (34 + x119)) + i115))] T_int fun a120 w121 =>
          runG (.sl) Tryd.prog w121 (Builtin.append_ #[T_l_int, T_l_int] T_l_int #[.slice (at113.a) (at113.len) (at113.cap), .slice (some (a120)) (1) (1)]) fun l122 w123 =>
          ldT (.int .u32) w123.drew ((a1).add 7) fun x124 =>
          ldT (.int .i64) w123.drew ((a1).add 9) fun x125 =>
          idx (l.a) (l.len) (i115) 2 fun a126 =>
          ldT (.int .i64) w123.drew (a126) fun x127 =>
          idx (l.a) (l.len) (i115) 2 fun a128 =>
          ldT (.sl) w123.drew ((a128).add 1) fun l129 =>
          ∃ s130 : ByteArray, (convert T_l_uint8 T_string (.slice (l129.a) (l129.len) (l129.cap))).run Tryd.prog w123.drew = .ok (.string (s130)) w123.drew ∧
          Does Tryd.prog N_ref16_one #[.int .i64 (IntKind.wrap .i64 (x125 + i115))] w123.drew fun r131 w132 => ∃ s133 : ByteArray, r131 = .string (s133) ∧
          (convert T_l_uint8 T_string (.slice (l129.a) (l129.len) (l129.cap))).run Tryd.prog w132 = .ok (.string (s130)) w132 ∧ w132.cell? ((a128).add 1) = some (.slice (l129.a) (l129.len) (l129.cap)) ∧ w132.cell? (a126) = some (.int .i64 (x127)) ∧ w132.cell? ((a1).add 7) = some (.int .u32 (x124)) ∧ Does Tryd.prog N_ref16_one #[.int .i64 (x127)] w132 fun r134 w135 => ∃ s136 : ByteArray, r134 = .string (s136) ∧
          (convert T_l_uint8 T_string (.slice (l129.a) (l129.len) (l129.cap))).run Tryd.prog w135 = .ok (.string (s130)) w135 ∧ w135.cell? ((a128).add 1) = some (.slice (l129.a) (l129.len) (l129.cap)) ∧ w135.cell? ((a1).add 7) = some (.int .u32 (x124)) ∧ (((s133).size + (s136).size : Nat) : Int) ≤ 9223372036854775807 ∧
          ((((s133 ++ s136)).size + (s130).size : Nat) : Int) ≤ 9223372036854775807 ∧
          Does Tryd.prog N_ref16_Sector #[.string ((⟨#[82]⟩ : ByteArray)), .int .u32 (x124), .string ((s133 ++ s136) ++ s130)] w135 fun r137 w138 => ∃ s139 : ByteArray, r137 = .string (s139) ∧
          allocK w138 #[.string (s139)] T_string fun a140 w141 =>
          runG (.sl) Tryd.prog w141 (Builtin.append_ #[T_l_string, T_l_string] T_l_string #[.slice (s114.a) (s114.len) (s114.cap), .slice (some (a140)) (1) (1)]) fun l142 w143 =>
          I117 ⟨l122.a, l122.len, l122.cap⟩ ⟨l142.a, l142.len, l142.cap⟩ (IntKind.wrap .i64 (i115 + 1)) w143 ∧ M118 ⟨l122.a, l122.len, l122.cap⟩ ⟨l142.a, l142.len, l142.cap⟩ (IntKind.wrap .i64 (i115 + 1)) w143 < M118 at113 s114 i115 w116)
         (ldT (.sl) w116 (a1) fun l144 => ldT (.sl) w116 ((a1).add 1) fun l145 => ldT (.bool) w116 ((a1).add 2) fun b146 => ldT (.int .i64) w116 ((a1).add 3) fun x147 => ldT (.sl) w116 ((a1).add 4) fun l148 => ldT (.int .i64) w116 ((a1).add 5) fun x149 => ldT (.sl) w116 ((a1).add 6) fun l150 => ldT (.int .u32) w116 ((a1).add 7) fun x151 => ldT (.int .i64) w116 ((a1).add 8) fun x152 => ldT (.int .i64) w116 ((a1).add 9) fun x153 => ldT (.bool) w116 ((a1).add 10) fun b154 =>
          Does Tryd.prog N_ref16_Log_all #[.agg #[.slice (l144.a) (l144.len) (l144.cap), .slice (l145.a) (l145.len) (l145.cap), .bool (b146), .int .i64 (x147), .slice (l148.a) (l148.len) (l148.cap), .int .i64 (x149), .slice (l150.a) (l150.len) (l150.cap), .int .u32 (x151), .int .i64 (x152), .int .i64 (x153), .bool (b154)], .slice (at113.a) (at113.len) (at113.cap), .slice (s114.a) (s114.len) (s114.cap)] w116 fun r155 w156 => ∃ l157 : Sl, ∃ l158 : Sl, ∃ b159 : Bool, ∃ x160 : Int, ∃ l161 : Sl, ∃ x162 : Int, ∃ l163 : Sl, ∃ x164 : Int, ∃ x165 : Int, ∃ x166 : Int, ∃ b167 : Bool, ∃ x168 : Int, r155 = .tuple #[.agg #[.slice (l157.a) (l157.len) (l157.cap), .slice (l158.a) (l158.len) (l158.cap), .bool (b159), .int .i64 (x160), .slice (l161.a) (l161.len) (l161.cap), .int .i64 (x162), .slice (l163.a) (l163.len) (l163.cap), .int .u32 (x164), .int .i64 (x165), .int .i64 (x166), .bool (b167)], .int .i64 (x168)] ∧
          allocK w156 (zc Tryd.prog T_ref16_Log) T_ref16_Log fun a169 w170 =>
          stC w170 (a169) (.slice (l157.a) (l157.len) (l157.cap)) fun w172 => stC w172 ((a169).add 1) (.slice (l158.a) (l158.len) (l158.cap)) fun w173 => stC w173 ((a169).add 2) (.bool (b159)) fun w174 => stC w174 ((a169).add 3) (.int .i64 (x160)) fun w175 => stC w175 ((a169).add 4) (.slice (l161.a) (l161.len) (l161.cap)) fun w176 => stC w176 ((a169).add 5) (.int .i64 (x162)) fun w177 => stC w177 ((a169).add 6) (.slice (l163.a) (l163.len) (l163.cap)) fun w178 => stC w178 ((a169).add 7) (.int .u32 (x164)) fun w179 => stC w179 ((a169).add 8) (.int .i64 (x165)) fun w180 => stC w180 ((a169).add 9) (.int .i64 (x166)) fun w181 => stC w181 ((a169).add 10) (.bool (b167)) fun w182 =>
          ∀ J185 : Int → World → Prop, (∀ e183 : Int, ∀ w184 : World, 
            (cond ((e183 : Int) != 0)
            (stC w184 ((a169).add 10) (.bool (true)) fun w186 =>
             ldT (.sl) w186 (a169) fun l187 => ldT (.sl) w186 ((a169).add 1) fun l188 => ldT (.bool) w186 ((a169).add 2) fun b189 => ldT (.int .i64) w186 ((a169).add 3) fun x190 => ldT (.sl) w186 ((a169).add 4) fun l191 => ldT (.int .i64) w186 ((a169).add 5) fun x192 => ldT (.sl) w186 ((a169).add 6) fun l193 => ldT (.int .u32) w186 ((a169).add 7) fun x194 => ldT (.int .i64) w186 ((a169).add 8) fun x195 => ldT (.int .i64) w186 ((a169).add 9) fun x196 => ldT (.bool) w186 ((a169).add 10) fun b197 =>
             stC w186 (a3) (.slice (l187.a) (l187.len) (l187.cap)) fun w199 => stC w199 ((a3).add 1) (.slice (l188.a) (l188.len) (l188.cap)) fun w200 => stC w200 ((a3).add 2) (.bool (b189)) fun w201 => stC w201 ((a3).add 3) (.int .i64 (x190)) fun w202 => stC w202 ((a3).add 4) (.slice (l191.a) (l191.len) (l191.cap)) fun w203 => stC w203 ((a3).add 5) (.int .i64 (x192)) fun w204 => stC w204 ((a3).add 6) (.slice (l193.a) (l193.len) (l193.cap)) fun w205 => stC w205 ((a3).add 7) (.int .u32 (x194)) fun w206 => stC w206 ((a3).add 8) (.int .i64 (x195)) fun w207 => stC w207 ((a3).add 9) (.int .i64 (x196)) fun w208 => stC w208 ((a3).add 10) (.bool (b197)) fun w209 =>
             ldT (.sl) w209 (a3) fun l210 => ldT (.sl) w209 ((a3).add 1) fun l211 => ldT (.bool) w209 ((a3).add 2) fun b212 => ldT (.int .i64) w209 ((a3).add 3) fun x213 => ldT (.sl) w209 ((a3).add 4) fun l214 => ldT (.int .i64) w209 ((a3).add 5) fun x215 => ldT (.sl) w209 ((a3).add 6) fun l216 => ldT (.int .u32) w209 ((a3).add 7) fun x217 => ldT (.int .i64) w209 ((a3).add 8) fun x218 => ldT (.int .i64) w209 ((a3).add 9) fun x219 => ldT (.bool) w209 ((a3).add 10) fun b220 =>
             Q (.tuple #[.agg #[.slice (l210.a) (l210.len) (l210.cap), .slice (l211.a) (l211.len) (l211.cap), .bool (b212), .int .i64 (x213), .slice (l214.a) (l214.len) (l214.cap), .int .i64 (x215), .slice (l216.a) (l216.len) (l216.cap), .int .u32 (x217), .int .i64 (x218), .int .i64 (x219), .bool (b220)], .int .i64 (e183)]) w209)
            (allocK w184 #[] T_string fun a221 w222 =>
             ldT (.sl) w222 ((a1).add 6) fun l223 =>
             runG (.sl) Tryd.prog w222 (Builtin.append_ #[T_l_string, T_l_string] T_l_string #[.slice (some (a221)) (0) (0), .slice (l223.a) (l223.len) (l223.cap)]) fun l224 w225 =>
             stC w225 ((a169).add 6) (.slice (l224.a) (l224.len) (l224.cap)) fun w226 =>
             ∃ (I229 : Int → World → Prop) (M230 : Int → World → Nat), I229 0 w226 ∧
             ∀ i227 : Int, ∀ w228 : World, I229 i227 w228 →
               cond (decide ((i227 : Int) < (((l.len : Nat) : Int))))
               (ldT (.sl) w228.drew ((a169).add 6) fun l231 =>
                idx (l.a) (l.len) (i227) 2 fun a232 =>
                ldT (.int .i64) w228.drew (a232) fun x233 =>
                idx (l.a) (l.len) (i227) 2 fun a234 =>
                ldT (.sl) w228.drew ((a234).add 1) fun l235 =>
                ∃ s236 : ByteArray, (convert T_l_uint8 T_string (.slice (l235.a) (l235.len) (l235.cap))).run Tryd.prog w228.drew = .ok (.string (s236)) w228.drew ∧
                idx (l231.a) (l231.len) (x233) 1 fun a237 =>
                stC w228.drew (a237) (.string (s236)) fun w238 =>
                I229 (IntKind.wrap .i64 (i227 + 1)) w238 ∧ M230 (IntKind.wrap .i64 (i227 + 1)) w238 < M230 i227 w228)
               (ldT (.int .i64) w228 ((a1).add 9) fun x239 =>
                stC w228 ((a169).add 9) (.int .i64 (IntKind.wrap .i64 ((IntKind.wrap .i64 (x239 + (((l.len : Nat) : Int)))) + 1))) fun w240 =>
                ldT (.sl) w240 (a169) fun l241 => ldT (.sl) w240 ((a169).add 1) fun l242 => ldT (.bool) w240 ((a169).add 2) fun b243 => ldT (.int .i64) w240 ((a169).add 3) fun x244 => ldT (.sl) w240 ((a169).add 4) fun l245 => ldT (.int .i64) w240 ((a169).add 5) fun x246 => ldT (.sl) w240 ((a169).add 6) fun l247 => ldT (.int .u32) w240 ((a169).add 7) fun x248 => ldT (.int .i64) w240 ((a169).add 8) fun x249 => ldT (.int .i64) w240 ((a169).add 9) fun x250 => ldT (.bool) w240 ((a169).add 10) fun b251 =>
                stC w240 (a3) (.slice (l241.a) (l241.len) (l241.cap)) fun w253 => stC w253 ((a3).add 1) (.slice (l242.a) (l242.len) (l242.cap)) fun w254 => stC w254 ((a3).add 2) (.bool (b243)) fun w255 => stC w255 ((a3).add 3) (.int .i64 (x244)) fun w256 => stC w256 ((a3).add 4) (.slice (l245.a) (l245.len) (l245.cap)) fun w257 => stC w257 ((a3).add 5) (.int .i64 (x246)) fun w258 => stC w258 ((a3).add 6) (.slice (l247.a) (l247.len) (l247.cap)) fun w259 => stC w259 ((a3).add 7) (.int .u32 (x248)) fun w260 => stC w260 ((a3).add 8) (.int .i64 (x249)) fun w261 => stC w261 ((a3).add 9) (.int .i64 (x250)) fun w262 => stC w262 ((a3).add 10) (.bool (b251)) fun w263 =>
                ldT (.sl) w263 (a3) fun l264 => ldT (.sl) w263 ((a3).add 1) fun l265 => ldT (.bool) w263 ((a3).add 2) fun b266 => ldT (.int .i64) w263 ((a3).add 3) fun x267 => ldT (.sl) w263 ((a3).add 4) fun l268 => ldT (.int .i64) w263 ((a3).add 5) fun x269 => ldT (.sl) w263 ((a3).add 6) fun l270 => ldT (.int .u32) w263 ((a3).add 7) fun x271 => ldT (.int .i64) w263 ((a3).add 8) fun x272 => ldT (.int .i64) w263 ((a3).add 9) fun x273 => ldT (.bool) w263 ((a3).add 10) fun b274 =>
                Q (.tuple #[.agg #[.slice (l264.a) (l264.len) (l264.cap), .slice (l265.a) (l265.len) (l265.cap), .bool (b266), .int .i64 (x267), .slice (l268.a) (l268.len) (l268.cap), .int .i64 (x269), .slice (l270.a) (l270.len) (l270.cap), .int .u32 (x271), .int .i64 (x272), .int .i64 (x273), .bool (b274)], .int .i64 (0)]) w263))) → J185 e183 w184) →
          cond ((x168 : Int) == 0)
          (ldT (.int .i64) w182 ((a1).add 9) fun x275 =>
           ldT (.sl) w182.drew (a169) fun l276 => ldT (.sl) w182.drew ((a169).add 1) fun l277 => ldT (.bool) w182.drew ((a169).add 2) fun b278 => ldT (.int .i64) w182.drew ((a169).add 3) fun x279 => ldT (.sl) w182.drew ((a169).add 4) fun l280 => ldT (.int .i64) w182.drew ((a169).add 5) fun x281 => ldT (.sl) w182.drew ((a169).add 6) fun l282 => ldT (.int .u32) w182.drew ((a169).add 7) fun x283 => ldT (.int .i64) w182.drew ((a169).add 8) fun x284 => ldT (.int .i64) w182.drew ((a169).add 9) fun x285 => ldT (.bool) w182.drew ((a169).add 10) fun b286 =>
           ldT (.int .u32) w182.drew ((a1).add 7) fun x287 =>
           (allocK w182.drew #[.int .i64 (IntKind.wrap .i64 (34 + (IntKind.wrap .i64 (x275 + (((l.len : Nat) : Int))))))] T_int fun a288 w289 =>
            w289.cell? ((a1).add 7) = some (.int .u32 (x287)) ∧ ((#[.slice (l276.a) (l276.len) (l276.cap), .slice (l277.a) (l277.len) (l277.cap), .bool (b278), .int .i64 (x279), .slice (l280.a) (l280.len) (l280.cap), .int .i64 (x281), .slice (l282.a) (l282.len) (l282.cap), .int .u32 (x283), .int .i64 (x284), .int .i64 (x285), .bool (b286)] : Array Value).size = 11 ∧ RowIs w289 (a169) #[.slice (l276.a) (l276.len) (l276.cap), .slice (l277.a) (l277.len) (l277.cap), .bool (b278), .int .i64 (x279), .slice (l280.a) (l280.len) (l280.cap), .int .i64 (x281), .slice (l282.a) (l282.len) (l282.cap), .int .u32 (x283), .int .i64 (x284), .int .i64 (x285), .bool (b286)]) ∧ Does Tryd.prog N_ref16_one #[.int .i64 (IntKind.wrap .i64 (x275 + (((l.len : Nat) : Int))))] w289 fun r290 w291 => ∃ s292 : ByteArray, r290 = .string (s292) ∧
            w291.cell? ((a1).add 7) = some (.int .u32 (x287)) ∧ ((#[.slice (l276.a) (l276.len) (l276.cap), .slice (l277.a) (l277.len) (l277.cap), .bool (b278), .int .i64 (x279), .slice (l280.a) (l280.len) (l280.cap), .int .i64 (x281), .slice (l282.a) (l282.len) (l282.cap), .int .u32 (x283), .int .i64 (x284), .int .i64 (x285), .bool (b286)] : Array Value).size = 11 ∧ RowIs w291 (a169) #[.slice (l276.a) (l276.len) (l276.cap), .slice (l277.a) (l277.len) (l277.cap), .bool (b278), .int .i64 (x279), .slice (l280.a) (l280.len) (l280.cap), .int .i64 (x281), .slice (l282.a) (l282.len) (l282.cap), .int .u32 (x283), .int .i64 (x284), .int .i64 (x285), .bool (b286)]) ∧ Does Tryd.prog N_ref16_Sector #[.string ((⟨#[67]⟩ : ByteArray)), .int .u32 (x287), .string (s292)] w291 fun r293 w294 => ∃ s295 : ByteArray, r293 = .string (s295) ∧
            ((#[.slice (l276.a) (l276.len) (l276.cap), .slice (l277.a) (l277.len) (l277.cap), .bool (b278), .int .i64 (x279), .slice (l280.a) (l280.len) (l280.cap), .int .i64 (x281), .slice (l282.a) (l282.len) (l282.cap), .int .u32 (x283), .int .i64 (x284), .int .i64 (x285), .bool (b286)] : Array Value).size = 11 ∧ RowIs w294 (a169) #[.slice (l276.a) (l276.len) (l276.cap), .slice (l277.a) (l277.len) (l277.cap), .bool (b278), .int .i64 (x279), .slice (l280.a) (l280.len) (l280.cap), .int .i64 (x281), .slice (l282.a) (l282.len) (l282.cap), .int .u32 (x283), .int .i64 (x284), .int .i64 (x285), .bool (b286)]) ∧ allocK w294 #[.string (s295)] T_string fun a296 w297 =>
            ((#[.slice (l276.a) (l276.len) (l276.cap), .slice (l277.a) (l277.len) (l277.cap), .bool (b278), .int .i64 (x279), .slice (l280.a) (l280.len) (l280.cap), .int .i64 (x281), .slice (l282.a) (l282.len) (l282.cap), .int .u32 (x283), .int .i64 (x284), .int .i64 (x285), .bool (b286)] : Array Value).size = 11 ∧ RowIs w297 (a169) #[.slice (l276.a) (l276.len) (l276.cap), .slice (l277.a) (l277.len) (l277.cap), .bool (b278), .int .i64 (x279), .slice (l280.a) (l280.len) (l280.cap), .int .i64 (x281), .slice (l282.a) (l282.len) (l282.cap), .int .u32 (x283), .int .i64 (x284), .int .i64 (x285), .bool (b286)]) ∧ Does Tryd.prog N_ref16_Log_all #[.agg #[.slice (l276.a) (l276.len) (l276.cap), .slice (l277.a) (l277.len) (l277.cap), .bool (b278), .int .i64 (x279), .slice (l280.a) (l280.len) (l280.cap), .int .i64 (x281), .slice (l282.a) (l282.len) (l282.cap), .int .u32 (x283), .int .i64 (x284), .int .i64 (x285), .bool (b286)], .slice (some (a288)) (1) (1), .slice (some (a296)) (1) (1)] w297 fun r298 w299 => ∃ l300 : Sl, ∃ l301 : Sl, ∃ b302 : Bool, ∃ x303 : Int, ∃ l304 : Sl, ∃ x305 : Int, ∃ l306 : Sl, ∃ x307 : Int, ∃ x308 : Int, ∃ x309 : Int, ∃ b310 : Bool, ∃ x311 : Int, r298 = .tuple #[.agg #[.slice (l300.a) (l300.len) (l300.cap), .slice (l301.a) (l301.len) (l301.cap), .bool (b302), .int .i64 (x303), .slice (l304.a) (l304.len) (l304.cap), .int .i64 (x305), .slice (l306.a) (l306.len) (l306.cap), .int .u32 (x307), .int .i64 (x308), .int .i64 (x309), .bool (b310)], .int .i64 (x311)] ∧
            stC w299 (a169) (.slice (l300.a) (l300.len) (l300.cap)) fun w313 => stC w313 ((a169).add 1) (.slice (l301.a) (l301.len) (l301.cap)) fun w314 => stC w314 ((a169).add 2) (.bool (b302)) fun w315 => stC w315 ((a169).add 3) (.int .i64 (x303)) fun w316 => stC w316 ((a169).add 4) (.slice (l304.a) (l304.len) (l304.cap)) fun w317 => stC w317 ((a169).add 5) (.int .i64 (x305)) fun w318 => stC w318 ((a169).add 6) (.slice (l306.a) (l306.len) (l306.cap)) fun w319 => stC w319 ((a169).add 7) (.int .u32 (x307)) fun w320 => stC w320 ((a169).add 8) (.int .i64 (x308)) fun w321 => stC w321 ((a169).add 9) (.int .i64 (x309)) fun w322 => stC w322 ((a169).add 10) (.bool (b310)) fun w323 =>
            J185 x311 w323) ∧
           (Does Tryd.prog N_ref16_one #[.int .i64 (IntKind.wrap .i64 (x275 + (((l.len : Nat) : Int))))] w182.drew fun r324 w325 => ∃ s326 : ByteArray, r324 = .string (s326) ∧
            w325.cell? ((a1).add 7) = some (.int .u32 (x287)) ∧ ((#[.slice (l276.a) (l276.len) (l276.cap), .slice (l277.a) (l277.len) (l277.cap), .bool (b278), .int .i64 (x279), .slice (l280.a) (l280.len) (l280.cap), .int .i64 (x281), .slice (l282.a) (l282.len) (l282.cap), .int .u32 (x283), .int .i64 (x284), .int .i64 (x285), .bool (b286)] : Array Value).size = 11 ∧ RowIs w325 (a169) #[.slice (l276.a) (l276.len) (l276.cap), .slice (l277.a) (l277.len) (l277.cap), .bool (b278), .int .i64 (x279), .slice (l280.a) (l280.len) (l280.cap), .int .i64 (x281), .slice (l282.a) (l282.len) (l282.cap), .int .u32 (x283), .int .i64 (x284), .int .i64 (x285), .bool (b286)]) ∧ (allocK w325 #[.int .i64 (IntKind.wrap .i64 (34 + (IntKind.wrap .i64 (x275 + (((l.len : Nat) : Int))))))] T_int fun a327 w328 =>
             w328.cell? ((a1).add 7) = some (.int .u32 (x287)) ∧ ((#[.slice (l276.a) (l276.len) (l276.cap), .slice (l277.a) (l277.len) (l277.cap), .bool (b278), .int .i64 (x279), .slice (l280.a) (l280.len) (l280.cap), .int .i64 (x281), .slice (l282.a) (l282.len) (l282.cap), .int .u32 (x283), .int .i64 (x284), .int .i64 (x285), .bool (b286)] : Array Value).size = 11 ∧ RowIs w328 (a169) #[.slice (l276.a) (l276.len) (l276.cap), .slice (l277.a) (l277.len) (l277.cap), .bool (b278), .int .i64 (x279), .slice (l280.a) (l280.len) (l280.cap), .int .i64 (x281), .slice (l282.a) (l282.len) (l282.cap), .int .u32 (x283), .int .i64 (x284), .int .i64 (x285), .bool (b286)]) ∧ Does Tryd.prog N_ref16_Sector #[.string ((⟨#[67]⟩ : ByteArray)), .int .u32 (x287), .string (s326)] w328 fun r329 w330 => ∃ s331 : ByteArray, r329 = .string (s331) ∧
             ((#[.slice (l276.a) (l276.len) (l276.cap), .slice (l277.a) (l277.len) (l277.cap), .bool (b278), .int .i64 (x279), .slice (l280.a) (l280.len) (l280.cap), .int .i64 (x281), .slice (l282.a) (l282.len) (l282.cap), .int .u32 (x283), .int .i64 (x284), .int .i64 (x285), .bool (b286)] : Array Value).size = 11 ∧ RowIs w330 (a169) #[.slice (l276.a) (l276.len) (l276.cap), .slice (l277.a) (l277.len) (l277.cap), .bool (b278), .int .i64 (x279), .slice (l280.a) (l280.len) (l280.cap), .int .i64 (x281), .slice (l282.a) (l282.len) (l282.cap), .int .u32 (x283), .int .i64 (x284), .int .i64 (x285), .bool (b286)]) ∧ allocK w330 #[.string (s331)] T_string fun a332 w333 =>
             ((#[.slice (l276.a) (l276.len) (l276.cap), .slice (l277.a) (l277.len) (l277.cap), .bool (b278), .int .i64 (x279), .slice (l280.a) (l280.len) (l280.cap), .int .i64 (x281), .slice (l282.a) (l282.len) (l282.cap), .int .u32 (x283), .int .i64 (x284), .int .i64 (x285), .bool (b286)] : Array Value).size = 11 ∧ RowIs w333 (a169) #[.slice (l276.a) (l276.len) (l276.cap), .slice (l277.a) (l277.len) (l277.cap), .bool (b278), .int .i64 (x279), .slice (l280.a) (l280.len) (l280.cap), .int .i64 (x281), .slice (l282.a) (l282.len) (l282.cap), .int .u32 (x283), .int .i64 (x284), .int .i64 (x285), .bool (b286)]) ∧ Does Tryd.prog N_ref16_Log_all #[.agg #[.slice (l276.a) (l276.len) (l276.cap), .slice (l277.a) (l277.len) (l277.cap), .bool (b278), .int .i64 (x279), .slice (l280.a) (l280.len) (l280.cap), .int .i64 (x281), .slice (l282.a) (l282.len) (l282.cap), .int .u32 (x283), .int .i64 (x284), .int .i64 (x285), .bool (b286)], .slice (some (a327)) (1) (1), .slice (some (a332)) (1) (1)] w333 fun r334 w335 => ∃ l336 : Sl, ∃ l337 : Sl, ∃ b338 : Bool, ∃ x339 : Int, ∃ l340 : Sl, ∃ x341 : Int, ∃ l342 : Sl, ∃ x343 : Int, ∃ x344 : Int, ∃ x345 : Int, ∃ b346 : Bool, ∃ x347 : Int, r334 = .tuple #[.agg #[.slice (l336.a) (l336.len) (l336.cap), .slice (l337.a) (l337.len) (l337.cap), .bool (b338), .int .i64 (x339), .slice (l340.a) (l340.len) (l340.cap), .int .i64 (x341), .slice (l342.a) (l342.len) (l342.cap), .int .u32 (x343), .int .i64 (x344), .int .i64 (x345), .bool (b346)], .int .i64 (x347)] ∧
             stC w335 (a169) (.slice (l336.a) (l336.len) (l336.cap)) fun w349 => stC w349 ((a169).add 1) (.slice (l337.a) (l337.len) (l337.cap)) fun w350 => stC w350 ((a169).add 2) (.bool (b338)) fun w351 => stC w351 ((a169).add 3) (.int .i64 (x339)) fun w352 => stC w352 ((a169).add 4) (.slice (l340.a) (l340.len) (l340.cap)) fun w353 => stC w353 ((a169).add 5) (.int .i64 (x341)) fun w354 => stC w354 ((a169).add 6) (.slice (l342.a) (l342.len) (l342.cap)) fun w355 => stC w355 ((a169).add 7) (.int .u32 (x343)) fun w356 => stC w356 ((a169).add 8) (.int .i64 (x344)) fun w357 => stC w357 ((a169).add 9) (.int .i64 (x345)) fun w358 => stC w358 ((a169).add 10) (.bool (b346)) fun w359 =>
             J185 x347 w359) ∧
            (Does Tryd.prog N_ref16_Sector #[.string ((⟨#[67]⟩ : ByteArray)), .int .u32 (x287), .string (s326)] w325 fun r360 w361 => ∃ s362 : ByteArray, r360 = .string (s362) ∧
             ((#[.slice (l276.a) (l276.len) (l276.cap), .slice (l277.a) (l277.len) (l277.cap), .bool (b278), .int .i64 (x279), .slice (l280.a) (l280.len) (l280.cap), .int .i64 (x281), .slice (l282.a) (l282.len) (l282.cap), .int .u32 (x283), .int .i64 (x284), .int .i64 (x285), .bool (b286)] : Array Value).size = 11 ∧ RowIs w361 (a169) #[.slice (l276.a) (l276.len) (l276.cap), .slice (l277.a) (l277.len) (l277.cap), .bool (b278), .int .i64 (x279), .slice (l280.a) (l280.len) (l280.cap), .int .i64 (x281), .slice (l282.a) (l282.len) (l282.cap), .int .u32 (x283), .int .i64 (x284), .int .i64 (x285), .bool (b286)]) ∧ (allocK w361 #[.int .i64 (IntKind.wrap .i64 (34 + (IntKind.wrap .i64 (x275 + (((l.len : Nat) : Int))))))] T_int fun a363 w364 =>
              ((#[.slice (l276.a) (l276.len) (l276.cap), .slice (l277.a) (l277.len) (l277.cap), .bool (b278), .int .i64 (x279), .slice (l280.a) (l280.len) (l280.cap), .int .i64 (x281), .slice (l282.a) (l282.len) (l282.cap), .int .u32 (x283), .int .i64 (x284), .int .i64 (x285), .bool (b286)] : Array Value).size = 11 ∧ RowIs w364 (a169) #[.slice (l276.a) (l276.len) (l276.cap), .slice (l277.a) (l277.len) (l277.cap), .bool (b278), .int .i64 (x279), .slice (l280.a) (l280.len) (l280.cap), .int .i64 (x281), .slice (l282.a) (l282.len) (l282.cap), .int .u32 (x283), .int .i64 (x284), .int .i64 (x285), .bool (b286)]) ∧ allocK w364 #[.string (s362)] T_string fun a365 w366 =>
              ((#[.slice (l276.a) (l276.len) (l276.cap), .slice (l277.a) (l277.len) (l277.cap), .bool (b278), .int .i64 (x279), .slice (l280.a) (l280.len) (l280.cap), .int .i64 (x281), .slice (l282.a) (l282.len) (l282.cap), .int .u32 (x283), .int .i64 (x284), .int .i64 (x285), .bool (b286)] : Array Value).size = 11 ∧ RowIs w366 (a169) #[.slice (l276.a) (l276.len) (l276.cap), .slice (l277.a) (l277.len) (l277.cap), .bool (b278), .int .i64 (x279), .slice (l280.a) (l280.len) (l280.cap), .int .i64 (x281), .slice (l282.a) (l282.len) (l282.cap), .int .u32 (x283), .int .i64 (x284), .int .i64 (x285), .bool (b286)]) ∧ Does Tryd.prog N_ref16_Log_all #[.agg #[.slice (l276.a) (l276.len) (l276.cap), .slice (l277.a) (l277.len) (l277.cap), .bool (b278), .int .i64 (x279), .slice (l280.a) (l280.len) (l280.cap), .int .i64 (x281), .slice (l282.a) (l282.len) (l282.cap), .int .u32 (x283), .int .i64 (x284), .int .i64 (x285), .bool (b286)], .slice (some (a363)) (1) (1), .slice (some (a365)) (1) (1)] w366 fun r367 w368 => ∃ l369 : Sl, ∃ l370 : Sl, ∃ b371 : Bool, ∃ x372 : Int, ∃ l373 : Sl, ∃ x374 : Int, ∃ l375 : Sl, ∃ x376 : Int, ∃ x377 : Int, ∃ x378 : Int, ∃ b379 : Bool, ∃ x380 : Int, r367 = .tuple #[.agg #[.slice (l369.a) (l369.len) (l369.cap), .slice (l370.a) (l370.len) (l370.cap), .bool (b371), .int .i64 (x372), .slice (l373.a) (l373.len) (l373.cap), .int .i64 (x374), .slice (l375.a) (l375.len) (l375.cap), .int .u32 (x376), .int .i64 (x377), .int .i64 (x378), .bool (b379)], .int .i64 (x380)] ∧
              stC w368 (a169) (.slice (l369.a) (l369.len) (l369.cap)) fun w382 => stC w382 ((a169).add 1) (.slice (l370.a) (l370.len) (l370.cap)) fun w383 => stC w383 ((a169).add 2) (.bool (b371)) fun w384 => stC w384 ((a169).add 3) (.int .i64 (x372)) fun w385 => stC w385 ((a169).add 4) (.slice (l373.a) (l373.len) (l373.cap)) fun w386 => stC w386 ((a169).add 5) (.int .i64 (x374)) fun w387 => stC w387 ((a169).add 6) (.slice (l375.a) (l375.len) (l375.cap)) fun w388 => stC w388 ((a169).add 7) (.int .u32 (x376)) fun w389 => stC w389 ((a169).add 8) (.int .i64 (x377)) fun w390 => stC w390 ((a169).add 9) (.int .i64 (x378)) fun w391 => stC w391 ((a169).add 10) (.bool (b379)) fun w392 =>
              J185 x380 w392) ∧
             (allocK w361 #[.string (s362)] T_string fun a393 w394 =>
              ((#[.slice (l276.a) (l276.len) (l276.cap), .slice (l277.a) (l277.len) (l277.cap), .bool (b278), .int .i64 (x279), .slice (l280.a) (l280.len) (l280.cap), .int .i64 (x281), .slice (l282.a) (l282.len) (l282.cap), .int .u32 (x283), .int .i64 (x284), .int .i64 (x285), .bool (b286)] : Array Value).size = 11 ∧ RowIs w394 (a169) #[.slice (l276.a) (l276.len) (l276.cap), .slice (l277.a) (l277.len) (l277.cap), .bool (b278), .int .i64 (x279), .slice (l280.a) (l280.len) (l280.cap), .int .i64 (x281), .slice (l282.a) (l282.len) (l282.cap), .int .u32 (x283), .int .i64 (x284), .int .i64 (x285), .bool (b286)]) ∧ allocK w394 #[.int .i64 (IntKind.wrap .i64 (34 + (IntKind.wrap .i64 (x275 + (((l.len : Nat) : Int))))))] T_int fun a395 w396 =>
              ((#[.slice (l276.a) (l276.len) (l276.cap), .slice (l277.a) (l277.len) (l277.cap), .bool (b278), .int .i64 (x279), .slice (l280.a) (l280.len) (l280.cap), .int .i64 (x281), .slice (l282.a) (l282.len) (l282.cap), .int .u32 (x283), .int .i64 (x284), .int .i64 (x285), .bool (b286)] : Array Value).size = 11 ∧ RowIs w396 (a169) #[.slice (l276.a) (l276.len) (l276.cap), .slice (l277.a) (l277.len) (l277.cap), .bool (b278), .int .i64 (x279), .slice (l280.a) (l280.len) (l280.cap), .int .i64 (x281), .slice (l282.a) (l282.len) (l282.cap), .int .u32 (x283), .int .i64 (x284), .int .i64 (x285), .bool (b286)]) ∧ Does Tryd.prog N_ref16_Log_all #[.agg #[.slice (l276.a) (l276.len) (l276.cap), .slice (l277.a) (l277.len) (l277.cap), .bool (b278), .int .i64 (x279), .slice (l280.a) (l280.len) (l280.cap), .int .i64 (x281), .slice (l282.a) (l282.len) (l282.cap), .int .u32 (x283), .int .i64 (x284), .int .i64 (x285), .bool (b286)], .slice (some (a395)) (1) (1), .slice (some (a393)) (1) (1)] w396 fun r397 w398 => ∃ l399 : Sl, ∃ l400 : Sl, ∃ b401 : Bool, ∃ x402 : Int, ∃ l403 : Sl, ∃ x404 : Int, ∃ l405 : Sl, ∃ x406 : Int, ∃ x407 : Int, ∃ x408 : Int, ∃ b409 : Bool, ∃ x410 : Int, r397 = .tuple #[.agg #[.slice (l399.a) (l399.len) (l399.cap), .slice (l400.a) (l400.len) (l400.cap), .bool (b401), .int .i64 (x402), .slice (l403.a) (l403.len) (l403.cap), .int .i64 (x404), .slice (l405.a) (l405.len) (l405.cap), .int .u32 (x406), .int .i64 (x407), .int .i64 (x408), .bool (b409)], .int .i64 (x410)] ∧
              stC w398 (a169) (.slice (l399.a) (l399.len) (l399.cap)) fun w412 => stC w412 ((a169).add 1) (.slice (l400.a) (l400.len) (l400.cap)) fun w413 => stC w413 ((a169).add 2) (.bool (b401)) fun w414 => stC w414 ((a169).add 3) (.int .i64 (x402)) fun w415 => stC w415 ((a169).add 4) (.slice (l403.a) (l403.len) (l403.cap)) fun w416 => stC w416 ((a169).add 5) (.int .i64 (x404)) fun w417 => stC w417 ((a169).add 6) (.slice (l405.a) (l405.len) (l405.cap)) fun w418 => stC w418 ((a169).add 7) (.int .u32 (x406)) fun w419 => stC w419 ((a169).add 8) (.int .i64 (x407)) fun w420 => stC w420 ((a169).add 9) (.int .i64 (x408)) fun w421 => stC w421 ((a169).add 10) (.bool (b409)) fun w422 =>
              J185 x410 w422))))
          (J185 x168 w182))) → J112 w111) →
     ldT (.int .i64) w41 ((a1).add 9) fun x423 =>
     cond (decide (((IntKind.wrap .i64 ((IntKind.wrap .i64 (x423 + (((l.len : Nat) : Int)))) + 1)) : Int) > 18))
     (ldT (.int .u32) w41 ((a1).add 7) fun x424 =>
      cond ((x424 : Int) == 4294967295)
      (ldT (.sl) w41 (a1) fun l425 => ldT (.sl) w41 ((a1).add 1) fun l426 => ldT (.bool) w41 ((a1).add 2) fun b427 => ldT (.int .i64) w41 ((a1).add 3) fun x428 => ldT (.sl) w41 ((a1).add 4) fun l429 => ldT (.int .i64) w41 ((a1).add 5) fun x430 => ldT (.sl) w41 ((a1).add 6) fun l431 => ldT (.int .u32) w41 ((a1).add 7) fun x432 => ldT (.int .i64) w41 ((a1).add 8) fun x433 => ldT (.int .i64) w41 ((a1).add 9) fun x434 => ldT (.bool) w41 ((a1).add 10) fun b435 =>
       stC w41 (a3) (.slice (l425.a) (l425.len) (l425.cap)) fun w437 => stC w437 ((a3).add 1) (.slice (l426.a) (l426.len) (l426.cap)) fun w438 => stC w438 ((a3).add 2) (.bool (b427)) fun w439 => stC w439 ((a3).add 3) (.int .i64 (x428)) fun w440 => stC w440 ((a3).add 4) (.slice (l429.a) (l429.len) (l429.cap)) fun w441 => stC w441 ((a3).add 5) (.int .i64 (x430)) fun w442 => stC w442 ((a3).add 6) (.slice (l431.a) (l431.len) (l431.cap)) fun w443 => stC w443 ((a3).add 7) (.int .u32 (x432)) fun w444 => stC w444 ((a3).add 8) (.int .i64 (x433)) fun w445 => stC w445 ((a3).add 9) (.int .i64 (x434)) fun w446 => stC w446 ((a3).add 10) (.bool (b435)) fun w447 =>
       ldT (.sl) w447 (a3) fun l448 => ldT (.sl) w447 ((a3).add 1) fun l449 => ldT (.bool) w447 ((a3).add 2) fun b450 => ldT (.int .i64) w447 ((a3).add 3) fun x451 => ldT (.sl) w447 ((a3).add 4) fun l452 => ldT (.int .i64) w447 ((a3).add 5) fun x453 => ldT (.sl) w447 ((a3).add 6) fun l454 => ldT (.int .u32) w447 ((a3).add 7) fun x455 => ldT (.int .i64) w447 ((a3).add 8) fun x456 => ldT (.int .i64) w447 ((a3).add 9) fun x457 => ldT (.bool) w447 ((a3).add 10) fun b458 =>
       Q (.tuple #[.agg #[.slice (l448.a) (l448.len) (l448.cap), .slice (l449.a) (l449.len) (l449.cap), .bool (b450), .int .i64 (x451), .slice (l452.a) (l452.len) (l452.cap), .int .i64 (x453), .slice (l454.a) (l454.len) (l454.cap), .int .u32 (x455), .int .i64 (x456), .int .i64 (x457), .bool (b458)], .int .i64 (5)]) w447)
      (ldT (.sl) w41 (a1) fun l459 => ldT (.sl) w41 ((a1).add 1) fun l460 => ldT (.bool) w41 ((a1).add 2) fun b461 => ldT (.int .i64) w41 ((a1).add 3) fun x462 => ldT (.sl) w41 ((a1).add 4) fun l463 => ldT (.int .i64) w41 ((a1).add 5) fun x464 => ldT (.sl) w41 ((a1).add 6) fun l465 => ldT (.int .u32) w41 ((a1).add 7) fun x466 => ldT (.int .i64) w41 ((a1).add 8) fun x467 => ldT (.int .i64) w41 ((a1).add 9) fun x468 => ldT (.bool) w41 ((a1).add 10) fun b469 =>
       ldT (.int .u32) w41 ((a1).add 7) fun x470 =>
       ldT (.int .i64) w41 ((a1).add 8) fun x471 =>
       Does Tryd.prog N_ref16_Log_settle #[.agg #[.slice (l459.a) (l459.len) (l459.cap), .slice (l460.a) (l460.len) (l460.cap), .bool (b461), .int .i64 (x462), .slice (l463.a) (l463.len) (l463.cap), .int .i64 (x464), .slice (l465.a) (l465.len) (l465.cap), .int .u32 (x466), .int .i64 (x467), .int .i64 (x468), .bool (b469)], .int .u32 (IntKind.wrap .u32 (x470 + 1)), .int .i64 (IntKind.wrap .i64 (1 - x471)), .slice (none) (0) (0), .slice (none) (0) (0)] w41 fun r472 w473 => ∃ l474 : Sl, ∃ l475 : Sl, ∃ b476 : Bool, ∃ x477 : Int, ∃ l478 : Sl, ∃ x479 : Int, ∃ l480 : Sl, ∃ x481 : Int, ∃ x482 : Int, ∃ x483 : Int, ∃ b484 : Bool, ∃ x485 : Int, r472 = .tuple #[.agg #[.slice (l474.a) (l474.len) (l474.cap), .slice (l475.a) (l475.len) (l475.cap), .bool (b476), .int .i64 (x477), .slice (l478.a) (l478.len) (l478.cap), .int .i64 (x479), .slice (l480.a) (l480.len) (l480.cap), .int .u32 (x481), .int .i64 (x482), .int .i64 (x483), .bool (b484)], .int .i64 (x485)] ∧
       allocK w473 (zc Tryd.prog T_ref16_Log) T_ref16_Log fun a486 w487 =>
       stC w487 (a486) (.slice (l474.a) (l474.len) (l474.cap)) fun w489 => stC w489 ((a486).add 1) (.slice (l475.a) (l475.len) (l475.cap)) fun w490 => stC w490 ((a486).add 2) (.bool (b476)) fun w491 => stC w491 ((a486).add 3) (.int .i64 (x477)) fun w492 => stC w492 ((a486).add 4) (.slice (l478.a) (l478.len) (l478.cap)) fun w493 => stC w493 ((a486).add 5) (.int .i64 (x479)) fun w494 => stC w494 ((a486).add 6) (.slice (l480.a) (l480.len) (l480.cap)) fun w495 => stC w495 ((a486).add 7) (.int .u32 (x481)) fun w496 => stC w496 ((a486).add 8) (.int .i64 (x482)) fun w497 => stC w497 ((a486).add 9) (.int .i64 (x483)) fun w498 => stC w498 ((a486).add 10) (.bool (b484)) fun w499 =>
       cond ((x485 : Int) != 0)
       (stC w499 ((a486).add 10) (.bool (true)) fun w500 =>
        ldT (.sl) w500 (a486) fun l501 => ldT (.sl) w500 ((a486).add 1) fun l502 => ldT (.bool) w500 ((a486).add 2) fun b503 => ldT (.int .i64) w500 ((a486).add 3) fun x504 => ldT (.sl) w500 ((a486).add 4) fun l505 => ldT (.int .i64) w500 ((a486).add 5) fun x506 => ldT (.sl) w500 ((a486).add 6) fun l507 => ldT (.int .u32) w500 ((a486).add 7) fun x508 => ldT (.int .i64) w500 ((a486).add 8) fun x509 => ldT (.int .i64) w500 ((a486).add 9) fun x510 => ldT (.bool) w500 ((a486).add 10) fun b511 =>
        stC w500 (a3) (.slice (l501.a) (l501.len) (l501.cap)) fun w513 => stC w513 ((a3).add 1) (.slice (l502.a) (l502.len) (l502.cap)) fun w514 => stC w514 ((a3).add 2) (.bool (b503)) fun w515 => stC w515 ((a3).add 3) (.int .i64 (x504)) fun w516 => stC w516 ((a3).add 4) (.slice (l505.a) (l505.len) (l505.cap)) fun w517 => stC w517 ((a3).add 5) (.int .i64 (x506)) fun w518 => stC w518 ((a3).add 6) (.slice (l507.a) (l507.len) (l507.cap)) fun w519 => stC w519 ((a3).add 7) (.int .u32 (x508)) fun w520 => stC w520 ((a3).add 8) (.int .i64 (x509)) fun w521 => stC w521 ((a3).add 9) (.int .i64 (x510)) fun w522 => stC w522 ((a3).add 10) (.bool (b511)) fun w523 =>
        ldT (.sl) w523 (a3) fun l524 => ldT (.sl) w523 ((a3).add 1) fun l525 => ldT (.bool) w523 ((a3).add 2) fun b526 => ldT (.int .i64) w523 ((a3).add 3) fun x527 => ldT (.sl) w523 ((a3).add 4) fun l528 => ldT (.int .i64) w523 ((a3).add 5) fun x529 => ldT (.sl) w523 ((a3).add 6) fun l530 => ldT (.int .u32) w523 ((a3).add 7) fun x531 => ldT (.int .i64) w523 ((a3).add 8) fun x532 => ldT (.int .i64) w523 ((a3).add 9) fun x533 => ldT (.bool) w523 ((a3).add 10) fun b534 =>
        Q (.tuple #[.agg #[.slice (l524.a) (l524.len) (l524.cap), .slice (l525.a) (l525.len) (l525.cap), .bool (b526), .int .i64 (x527), .slice (l528.a) (l528.len) (l528.cap), .int .i64 (x529), .slice (l530.a) (l530.len) (l530.cap), .int .u32 (x531), .int .i64 (x532), .int .i64 (x533), .bool (b534)], .int .i64 (x485)]) w523)
       (ldT (.int .u32) w499.drew ((a1).add 7) fun x535 =>
        ldT (.int .i64) w499.drew ((a1).add 8) fun x536 =>
        stC w499.drew ((a486).add 7) (.int .u32 (IntKind.wrap .u32 (x535 + 1))) fun w537 =>
        w537.cell? ((a1).add 8) = some (.int .i64 (x536)) ∧ stC w537 ((a486).add 8) (.int .i64 (IntKind.wrap .i64 (1 - x536))) fun w538 =>
        stC w538 ((a486).add 9) (.int .i64 (0)) fun w539 =>
        ldT (.sl) w539 (a486) fun l540 => ldT (.sl) w539 ((a486).add 1) fun l541 => ldT (.bool) w539 ((a486).add 2) fun b542 => ldT (.int .i64) w539 ((a486).add 3) fun x543 => ldT (.sl) w539 ((a486).add 4) fun l544 => ldT (.int .i64) w539 ((a486).add 5) fun x545 => ldT (.sl) w539 ((a486).add 6) fun l546 => ldT (.int .u32) w539 ((a486).add 7) fun x547 => ldT (.int .i64) w539 ((a486).add 8) fun x548 => ldT (.int .i64) w539 ((a486).add 9) fun x549 => ldT (.bool) w539 ((a486).add 10) fun b550 =>
        stC w539 (a1) (.slice (l540.a) (l540.len) (l540.cap)) fun w552 => stC w552 ((a1).add 1) (.slice (l541.a) (l541.len) (l541.cap)) fun w553 => stC w553 ((a1).add 2) (.bool (b542)) fun w554 => stC w554 ((a1).add 3) (.int .i64 (x543)) fun w555 => stC w555 ((a1).add 4) (.slice (l544.a) (l544.len) (l544.cap)) fun w556 => stC w556 ((a1).add 5) (.int .i64 (x545)) fun w557 => stC w557 ((a1).add 6) (.slice (l546.a) (l546.len) (l546.cap)) fun w558 => stC w558 ((a1).add 7) (.int .u32 (x547)) fun w559 => stC w559 ((a1).add 8) (.int .i64 (x548)) fun w560 => stC w560 ((a1).add 9) (.int .i64 (x549)) fun w561 => stC w561 ((a1).add 10) (.bool (b550)) fun w562 =>
        J112 w562)))
     (J112 w41))))
def A_ref16_Log_Commit : Ann := ⟨[(19, [(8, .one (.sl)), (9, .one (.sl)), (10, .one (.int .i64))]), (32, [(14, .one (.int .i64))])], [(16, []), (27, [(12, .one (.int .i64))])], [(14, [⟨0, 0, 0, true⟩, ⟨1, 1, 1, true⟩, ⟨2, 2, 3, true⟩, ⟨0, 0, 0, true⟩, ⟨8, 8, 8, true⟩, ⟨16, 16, 24, true⟩, ⟨7, 0, 7, true⟩, ⟨71, 0, 71, false⟩, ⟨255, 0, 255, true⟩, ⟨511, 0, 511, false⟩, ⟨1023, 0, 1023, true⟩, ⟨2047, 0, 2047, false⟩]), (22, [⟨0, 0, 0, true⟩, ⟨0, 0, 0, true⟩, ⟨2, 2, 2, true⟩, ⟨0, 0, 0, true⟩, ⟨8, 8, 8, true⟩, ⟨0, 0, 0, true⟩, ⟨48, 48, 56, true⟩, ⟨64, 0, 120, false⟩, ⟨0, 0, 0, true⟩, ⟨0, 0, 0, true⟩, ⟨768, 768, 768, true⟩, ⟨1024, 1024, 1792, true⟩, ⟨2048, 2048, 3840, true⟩, ⟨4224, 0, 8184, false⟩, ⟨8320, 8320, 16376, true⟩, ⟨0, 0, 0, true⟩, ⟨0, 0, 0, true⟩, ⟨98304, 98304, 98304, true⟩, ⟨131072, 131072, 229376, true⟩, ⟨262144, 262144, 491520, true⟩, ⟨524288, 524288, 1015808, true⟩, ⟨1064960, 1064960, 2097144, true⟩, ⟨2105348, 0, 4194302, false⟩, ⟨4194304, 0, 8388606, false⟩, ⟨12582913, 0, 16777215, false⟩, ⟨33554431, 16777217, 33554431, true⟩]), (26, [⟨0, 0, 0, true⟩, ⟨0, 0, 0, true⟩, ⟨2, 2, 2, true⟩, ⟨4, 0, 6, false⟩, ⟨0, 0, 0, true⟩, ⟨16, 16, 16, true⟩, ⟨0, 0, 0, true⟩, ⟨64, 0, 64, false⟩, ⟨160, 0, 240, false⟩, ⟨256, 0, 496, false⟩, ⟨777, 0, 1023, false⟩, ⟨1024, 1024, 2047, true⟩, ⟨2048, 2048, 4095, true⟩, ⟨2048, 2048, 4095, true⟩, ⟨8191, 0, 8191, false⟩, ⟨32767, 8192, 32767, true⟩]), (34, [⟨0, 0, 0, true⟩, ⟨1, 1, 1, true⟩, ⟨0, 0, 0, true⟩, ⟨0, 0, 0, true⟩, ⟨12, 12, 12, true⟩, ⟨16, 16, 28, true⟩, ⟨32, 32, 60, true⟩, ⟨0, 0, 0, true⟩, ⟨0, 0, 0, true⟩, ⟨384, 384, 384, true⟩, ⟨512, 512, 896, true⟩, ⟨1024, 1024, 1920, true⟩, ⟨2048, 2048, 3968, true⟩, ⟨8191, 66, 8191, true⟩, ⟨16383, 0, 16383, false⟩])]⟩
theorem F_ref16_Log_Commit_eq (w_0 : Sl) (w_1 : Sl) (w_2 : Bool) (w_3 : Int) (w_4 : Sl) (w_5 : Int) (w_6 : Sl) (w_7 : Int) (w_8 : Int) (w_9 : Int) (w_10 : Bool) (l : Sl) (w : World) (Q : Value → World → Prop) : vcFn Tryd.prog A_ref16_Log_Commit Tryd.f40 #[.agg #[.slice (w_0.a) (w_0.len) (w_0.cap), .slice (w_1.a) (w_1.len) (w_1.cap), .bool (w_2), .int .i64 (w_3), .slice (w_4.a) (w_4.len) (w_4.cap), .int .i64 (w_5), .slice (w_6.a) (w_6.len) (w_6.cap), .int .u32 (w_7), .int .i64 (w_8), .int .i64 (w_9), .bool (w_10)], .slice (l.a) (l.len) (l.cap)] w Q = F_ref16_Log_Commit w_0 w_1 w_2 w_3 w_4 w_5 w_6 w_7 w_8 w_9 w_10 l w Q := by kernel_rfl
theorem F_ref16_Log_Commit_does (w_0 : Sl) (w_1 : Sl) (w_2 : Bool) (w_3 : Int) (w_4 : Sl) (w_5 : Int) (w_6 : Sl) (w_7 : Int) (w_8 : Int) (w_9 : Int) (w_10 : Bool) (l : Sl) (w : World) (Q : Value → World → Prop) (hQ : F_ref16_Log_Commit w_0 w_1 w_2 w_3 w_4 w_5 w_6 w_7 w_8 w_9 w_10 l w Q) : Does Tryd.prog N_ref16_Log_Commit #[.agg #[.slice (w_0.a) (w_0.len) (w_0.cap), .slice (w_1.a) (w_1.len) (w_1.cap), .bool (w_2), .int .i64 (w_3), .slice (w_4.a) (w_4.len) (w_4.cap), .int .i64 (w_5), .slice (w_6.a) (w_6.len) (w_6.cap), .int .u32 (w_7), .int .i64 (w_8), .int .i64 (w_9), .bool (w_10)], .slice (l.a) (l.len) (l.cap)] w Q :=
  vcFn_sound noAsk mixed (A := A_ref16_Log_Commit) (by kernel_rfl) Tryd.func40 (Nat.le_of_ble_eq_true (by kernel_rfl)) (by kernel_rfl) ((F_ref16_Log_Commit_eq w_0 w_1 w_2 w_3 w_4 w_5 w_6 w_7 w_8 w_9 w_10 l w Q).mpr hQ)

/- (*nacelle/extent.Part).Write -/
def F_extent_Part_Write (p : Option Addr) (at_ : Int) (b : Sl) (w : World) (Q : Value → World → Prop) : Prop :=
  nnil (p) fun a1 =>
  ldT (.int .i64) w (a1) fun x2 => ldT (.int .i64) w ((a1).add 1) fun x3 =>
  Does Tryd.prog N_extent_Place #[.agg #[.int .i64 (x2), .int .i64 (x3)], .int .i64 (at_)] w fun r4 w5 => ∃ x6 : Int, ∃ x7 : Int, r4 = .tuple #[.int .i64 (x6), .int .i64 (x7)] ∧
  cond ((x7 : Int) != 0)
  (Q (.int .i64 (x7)) w5)
  (nnil (p) fun a8 =>
   ldT (.ptr) w5 ((a8).add 2) fun p9 =>
   Does Tryd.prog N_disk_Disk_Write #[.pointer (p9), .int .i64 (x6), .slice (b.a) (b.len) (b.cap)] w5 fun r10 w11 => ∃ x12 : Int, r10 = .int .i64 (x12) ∧
   Q (.int .i64 (x12)) w11)
def A_extent_Part_Write : Ann := ⟨[], [], []⟩
theorem F_extent_Part_Write_eq (p : Option Addr) (at_ : Int) (b : Sl) (w : World) (Q : Value → World → Prop) : vcFn Tryd.prog A_extent_Part_Write Tryd.f41 #[.pointer (p), .int .i64 (at_), .slice (b.a) (b.len) (b.cap)] w Q = F_extent_Part_Write p at_ b w Q := by kernel_rfl
theorem F_extent_Part_Write_does (p : Option Addr) (at_ : Int) (b : Sl) (w : World) (Q : Value → World → Prop) (hQ : F_extent_Part_Write p at_ b w Q) : Does Tryd.prog N_extent_Part_Write #[.pointer (p), .int .i64 (at_), .slice (b.a) (b.len) (b.cap)] w Q :=
  vcFn_sound noAsk mixed (A := A_extent_Part_Write) (by kernel_rfl) Tryd.func41 (Nat.le_of_ble_eq_true (by kernel_rfl)) (by kernel_rfl) ((F_extent_Part_Write_eq p at_ b w Q).mpr hQ)

/- (nacelle/nacelleref05.Disk).Write -/
def F_ref05_Disk_Write (d0 : Sl) (d1 : Sl) (d2 : Bool) (d3 : Int) (d4 : Sl) (at_ : Int) (b : ByteArray) (w : World) (Q : Value → World → Prop) : Prop :=
  allocK w (#[.slice (d0.a) (d0.len) (d0.cap), .slice (d1.a) (d1.len) (d1.cap), .bool (d2), .int .i64 (d3), .slice (d4.a) (d4.len) (d4.cap)]) T_ref05_Disk fun a1 w2 =>
  allocK w2 (zc Tryd.prog T_ref05_Disk) T_ref05_Disk fun a3 w4 =>
  ∀ J6 : World → Prop, (∀ w5 : World, 
    (cond ((((((b).size : Nat) : Int)) : Int) != 64)
    (ldT (.sl) w5 (a1) fun l7 => ldT (.sl) w5 ((a1).add 1) fun l8 => ldT (.bool) w5 ((a1).add 2) fun b9 => ldT (.int .i64) w5 ((a1).add 3) fun x10 => ldT (.sl) w5 ((a1).add 4) fun l11 =>
     stC w5 (a3) (.slice (l7.a) (l7.len) (l7.cap)) fun w13 => stC w13 ((a3).add 1) (.slice (l8.a) (l8.len) (l8.cap)) fun w14 => stC w14 ((a3).add 2) (.bool (b9)) fun w15 => stC w15 ((a3).add 3) (.int .i64 (x10)) fun w16 => stC w16 ((a3).add 4) (.slice (l11.a) (l11.len) (l11.cap)) fun w17 =>
     ldT (.sl) w17 (a3) fun l18 => ldT (.sl) w17 ((a3).add 1) fun l19 => ldT (.bool) w17 ((a3).add 2) fun b20 => ldT (.int .i64) w17 ((a3).add 3) fun x21 => ldT (.sl) w17 ((a3).add 4) fun l22 =>
     Q (.tuple #[.agg #[.slice (l18.a) (l18.len) (l18.cap), .slice (l19.a) (l19.len) (l19.cap), .bool (b20), .int .i64 (x21), .slice (l22.a) (l22.len) (l22.cap)], .int .i64 (1)]) w17)
    (ldT (.sl) w5 (a1) fun l23 => ldT (.sl) w5 ((a1).add 1) fun l24 => ldT (.bool) w5 ((a1).add 2) fun b25 => ldT (.int .i64) w5 ((a1).add 3) fun x26 => ldT (.sl) w5 ((a1).add 4) fun l27 =>
     Does Tryd.prog N_ref05_Disk_step #[.agg #[.slice (l23.a) (l23.len) (l23.cap), .slice (l24.a) (l24.len) (l24.cap), .bool (b25), .int .i64 (x26), .slice (l27.a) (l27.len) (l27.cap)]] w5 fun r28 w29 => ∃ l30 : Sl, ∃ l31 : Sl, ∃ b32 : Bool, ∃ x33 : Int, ∃ l34 : Sl, ∃ b35 : Bool, r28 = .tuple #[.agg #[.slice (l30.a) (l30.len) (l30.cap), .slice (l31.a) (l31.len) (l31.cap), .bool (b32), .int .i64 (x33), .slice (l34.a) (l34.len) (l34.cap)], .bool (b35)] ∧
     stC w29 (a1) (.slice (l30.a) (l30.len) (l30.cap)) fun w37 => stC w37 ((a1).add 1) (.slice (l31.a) (l31.len) (l31.cap)) fun w38 => stC w38 ((a1).add 2) (.bool (b32)) fun w39 => stC w39 ((a1).add 3) (.int .i64 (x33)) fun w40 => stC w40 ((a1).add 4) (.slice (l34.a) (l34.len) (l34.cap)) fun w41 =>
     cond (!b35)
     (ldT (.sl) w41 (a1) fun l42 => ldT (.sl) w41 ((a1).add 1) fun l43 => ldT (.bool) w41 ((a1).add 2) fun b44 => ldT (.int .i64) w41 ((a1).add 3) fun x45 => ldT (.sl) w41 ((a1).add 4) fun l46 =>
      stC w41 (a3) (.slice (l42.a) (l42.len) (l42.cap)) fun w48 => stC w48 ((a3).add 1) (.slice (l43.a) (l43.len) (l43.cap)) fun w49 => stC w49 ((a3).add 2) (.bool (b44)) fun w50 => stC w50 ((a3).add 3) (.int .i64 (x45)) fun w51 => stC w51 ((a3).add 4) (.slice (l46.a) (l46.len) (l46.cap)) fun w52 =>
      ldT (.sl) w52 (a3) fun l53 => ldT (.sl) w52 ((a3).add 1) fun l54 => ldT (.bool) w52 ((a3).add 2) fun b55 => ldT (.int .i64) w52 ((a3).add 3) fun x56 => ldT (.sl) w52 ((a3).add 4) fun l57 =>
      Q (.tuple #[.agg #[.slice (l53.a) (l53.len) (l53.cap), .slice (l54.a) (l54.len) (l54.cap), .bool (b55), .int .i64 (x56), .slice (l57.a) (l57.len) (l57.cap)], .int .i64 (9)]) w52)
     (allocK w41 #[] T_ref05_Write fun a58 w59 =>
      ldT (.sl) w59 ((a1).add 1) fun l60 =>
      runG (.sl) Tryd.prog w59 (Builtin.append_ #[T_l_ref05_Write, T_l_ref05_Write] T_l_ref05_Write #[.slice (some (a58)) (0) (0), .slice (l60.a) (l60.len) (l60.cap)]) fun l61 w62 =>
      allocK w62 #[.int .i64 (at_), .string (b)] T_ref05_Write fun a63 w64 =>
      runG (.sl) Tryd.prog w64 (Builtin.append_ #[T_l_ref05_Write, T_l_ref05_Write] T_l_ref05_Write #[.slice (l61.a) (l61.len) (l61.cap), .slice (some (a63)) (1) (1)]) fun l65 w66 =>
      stC w66 ((a1).add 1) (.slice (l65.a) (l65.len) (l65.cap)) fun w67 =>
      ldT (.sl) w67 (a1) fun l68 => ldT (.sl) w67 ((a1).add 1) fun l69 => ldT (.bool) w67 ((a1).add 2) fun b70 => ldT (.int .i64) w67 ((a1).add 3) fun x71 => ldT (.sl) w67 ((a1).add 4) fun l72 =>
      stC w67 (a3) (.slice (l68.a) (l68.len) (l68.cap)) fun w74 => stC w74 ((a3).add 1) (.slice (l69.a) (l69.len) (l69.cap)) fun w75 => stC w75 ((a3).add 2) (.bool (b70)) fun w76 => stC w76 ((a3).add 3) (.int .i64 (x71)) fun w77 => stC w77 ((a3).add 4) (.slice (l72.a) (l72.len) (l72.cap)) fun w78 =>
      ldT (.sl) w78 (a3) fun l79 => ldT (.sl) w78 ((a3).add 1) fun l80 => ldT (.bool) w78 ((a3).add 2) fun b81 => ldT (.int .i64) w78 ((a3).add 3) fun x82 => ldT (.sl) w78 ((a3).add 4) fun l83 =>
      Q (.tuple #[.agg #[.slice (l79.a) (l79.len) (l79.cap), .slice (l80.a) (l80.len) (l80.cap), .bool (b81), .int .i64 (x82), .slice (l83.a) (l83.len) (l83.cap)], .int .i64 (0)]) w78))) → J6 w5) →
  ∀ J86 : Bool → World → Prop, (∀ b84 : Bool, ∀ w85 : World, 
    (cond (b84)
    (ldT (.sl) w85 (a1) fun l87 => ldT (.sl) w85 ((a1).add 1) fun l88 => ldT (.bool) w85 ((a1).add 2) fun b89 => ldT (.int .i64) w85 ((a1).add 3) fun x90 => ldT (.sl) w85 ((a1).add 4) fun l91 =>
     stC w85 (a3) (.slice (l87.a) (l87.len) (l87.cap)) fun w93 => stC w93 ((a3).add 1) (.slice (l88.a) (l88.len) (l88.cap)) fun w94 => stC w94 ((a3).add 2) (.bool (b89)) fun w95 => stC w95 ((a3).add 3) (.int .i64 (x90)) fun w96 => stC w96 ((a3).add 4) (.slice (l91.a) (l91.len) (l91.cap)) fun w97 =>
     ldT (.sl) w97 (a3) fun l98 => ldT (.sl) w97 ((a3).add 1) fun l99 => ldT (.bool) w97 ((a3).add 2) fun b100 => ldT (.int .i64) w97 ((a3).add 3) fun x101 => ldT (.sl) w97 ((a3).add 4) fun l102 =>
     Q (.tuple #[.agg #[.slice (l98.a) (l98.len) (l98.cap), .slice (l99.a) (l99.len) (l99.cap), .bool (b100), .int .i64 (x101), .slice (l102.a) (l102.len) (l102.cap)], .int .i64 (4)]) w97)
    (J6 w85)) → J86 b84 w85) →
  cond (decide ((at_ : Int) < 0))
  (J86 true w4)
  (ldT (.sl) w4 (a1) fun l103 =>
   J86 (decide ((at_ : Int) ≥ (((l103.len : Nat) : Int)))) w4)
def A_ref05_Disk_Write : Ann := ⟨[], [(2, [(17, .one (.bool))]), (3, [])], []⟩
theorem F_ref05_Disk_Write_eq (d0 : Sl) (d1 : Sl) (d2 : Bool) (d3 : Int) (d4 : Sl) (at_ : Int) (b : ByteArray) (w : World) (Q : Value → World → Prop) : vcFn Tryd.prog A_ref05_Disk_Write Tryd.f42 #[.agg #[.slice (d0.a) (d0.len) (d0.cap), .slice (d1.a) (d1.len) (d1.cap), .bool (d2), .int .i64 (d3), .slice (d4.a) (d4.len) (d4.cap)], .int .i64 (at_), .string (b)] w Q = F_ref05_Disk_Write d0 d1 d2 d3 d4 at_ b w Q := by kernel_rfl
theorem F_ref05_Disk_Write_does (d0 : Sl) (d1 : Sl) (d2 : Bool) (d3 : Int) (d4 : Sl) (at_ : Int) (b : ByteArray) (w : World) (Q : Value → World → Prop) (hQ : F_ref05_Disk_Write d0 d1 d2 d3 d4 at_ b w Q) : Does Tryd.prog N_ref05_Disk_Write #[.agg #[.slice (d0.a) (d0.len) (d0.cap), .slice (d1.a) (d1.len) (d1.cap), .bool (d2), .int .i64 (d3), .slice (d4.a) (d4.len) (d4.cap)], .int .i64 (at_), .string (b)] w Q :=
  vcFn_sound noAsk mixed (A := A_ref05_Disk_Write) (by kernel_rfl) Tryd.func42 (Nat.le_of_ble_eq_true (by kernel_rfl)) (by kernel_rfl) ((F_ref05_Disk_Write_eq d0 d1 d2 d3 d4 at_ b w Q).mpr hQ)

/- nacelle/nacellelaw16.is -/
def F_law16_is (w_ : Option Addr) (m0 : Sl) (m1 : Sl) (m2 : Bool) (m3 : Int) (m4 : Sl) (m5 : Int) (m6 : Sl) (m7 : Int) (m8 : Int) (m9 : Int) (m10 : Bool) (w : World) (Q : Value → World → Prop) : Prop :=
  allocK w (#[.slice (m0.a) (m0.len) (m0.cap), .slice (m1.a) (m1.len) (m1.cap), .bool (m2), .int .i64 (m3), .slice (m4.a) (m4.len) (m4.cap), .int .i64 (m5), .slice (m6.a) (m6.len) (m6.cap), .int .u32 (m7), .int .i64 (m8), .int .i64 (m9), .bool (m10)]) T_ref16_Log fun a1 w2 =>
  ∃ (I5 : Int → World → Prop) (M6 : Int → World → Nat), I5 0 w2 ∧
  ∀ i3 : Int, ∀ w4 : World, I5 i3 w4 →
    cond (decide ((i3 : Int) < 16))
    (∀ J8 : World → Prop, (∀ w7 : World, 
       (I5 (IntKind.wrap .i64 (i3 + 1)) w7 ∧ M6 (IntKind.wrap .i64 (i3 + 1)) w7 < M6 i3 w4) → J8 w7) →
     Does Tryd.prog N_wal_Log_Page #[.pointer (w_), .int .i64 (i3)] w4 fun r9 w10 => ∃ l11 : Sl, ∃ x12 : Int, r9 = .tuple #[.slice (l11.a) (l11.len) (l11.cap), .int .i64 (x12)] ∧
     cond ((x12 : Int) != 0)
     (Q (.bool (false)) w10.drew)
     (∃ s13 : ByteArray, (convert T_l_uint8 T_string (.slice (l11.a) (l11.len) (l11.cap))).run Tryd.prog w10.drew = .ok (.string (s13)) w10.drew ∧
      ldT (.sl) w10.drew ((a1).add 6) fun l14 =>
      idx (l14.a) (l14.len) (i3) 1 fun a15 =>
      ldT (.str) w10.drew (a15) fun s16 =>
      cond (!((s13).toList == (s16).toList))
      (Q (.bool (false)) w10.drew)
      (J8 w10.drew)))
    (ldT (.int .u32) w4.drew ((a1).add 7) fun x17 =>
     Does Tryd.prog N_wal_Log_Epoch #[.pointer (w_)] w4.drew fun r18 w19 => ∃ x20 : Int, r18 = .int .u32 (x20) ∧
     w19.cell? ((a1).add 7) = some (.int .u32 (x17)) ∧ cond ((x20 : Int) == x17)
     (ldT (.int .i64) w19 ((a1).add 9) fun x21 =>
      Does Tryd.prog N_wal_Log_Used #[.pointer (w_)] w19 fun r22 w23 => ∃ x24 : Int, r22 = .int .i64 (x24) ∧
      w23.cell? ((a1).add 9) = some (.int .i64 (x21)) ∧ cond ((x24 : Int) == x21)
      (ldT (.bool) w23 ((a1).add 10) fun b25 =>
       Does Tryd.prog N_wal_Log_Dead #[.pointer (w_)] w23 fun r26 w27 => ∃ b28 : Bool, r26 = .bool (b28) ∧
       w27.cell? ((a1).add 10) = some (.bool (b25)) ∧ Q (.bool (b28 == b25)) w27)
      (Q (.bool (false)) w23))
     (Q (.bool (false)) w19))
def A_law16_is : Ann := ⟨[(2, [(5, .one (.int .i64))])], [(3, [])], [(5, [⟨0, 0, 0, true⟩, ⟨1, 1, 1, true⟩, ⟨2, 2, 3, true⟩, ⟨4, 4, 7, true⟩, ⟨12, 12, 15, true⟩, ⟨4, 4, 7, true⟩, ⟨36, 36, 39, true⟩, ⟨4, 4, 7, true⟩, ⟨196, 196, 231, true⟩, ⟨260, 260, 487, true⟩, ⟨532, 532, 1023, true⟩, ⟨1028, 1028, 2047, true⟩]), (7, [⟨0, 0, 0, true⟩, ⟨1, 0, 1, false⟩, ⟨0, 0, 0, true⟩, ⟨4, 4, 4, true⟩, ⟨10, 10, 15, true⟩, ⟨18, 16, 31, true⟩, ⟨32, 32, 63, true⟩, ⟨96, 0, 127, false⟩, ⟨32, 32, 63, true⟩, ⟨288, 288, 319, true⟩, ⟨672, 672, 1023, true⟩, ⟨1056, 1056, 2047, true⟩, ⟨2176, 2048, 4095, true⟩, ⟨4096, 4096, 8191, true⟩, ⟨12288, 0, 16383, false⟩, ⟨4096, 4096, 8191, true⟩, ⟨36864, 36864, 40959, true⟩, ⟨86016, 86016, 131071, true⟩, ⟨135168, 135168, 262143, true⟩, ⟨524287, 262144, 524287, true⟩])]⟩
theorem F_law16_is_eq (w_ : Option Addr) (m0 : Sl) (m1 : Sl) (m2 : Bool) (m3 : Int) (m4 : Sl) (m5 : Int) (m6 : Sl) (m7 : Int) (m8 : Int) (m9 : Int) (m10 : Bool) (w : World) (Q : Value → World → Prop) : vcFn Tryd.prog A_law16_is Tryd.f43 #[.pointer (w_), .agg #[.slice (m0.a) (m0.len) (m0.cap), .slice (m1.a) (m1.len) (m1.cap), .bool (m2), .int .i64 (m3), .slice (m4.a) (m4.len) (m4.cap), .int .i64 (m5), .slice (m6.a) (m6.len) (m6.cap), .int .u32 (m7), .int .i64 (m8), .int .i64 (m9), .bool (m10)]] w Q = F_law16_is w_ m0 m1 m2 m3 m4 m5 m6 m7 m8 m9 m10 w Q := by kernel_rfl
theorem F_law16_is_does (w_ : Option Addr) (m0 : Sl) (m1 : Sl) (m2 : Bool) (m3 : Int) (m4 : Sl) (m5 : Int) (m6 : Sl) (m7 : Int) (m8 : Int) (m9 : Int) (m10 : Bool) (w : World) (Q : Value → World → Prop) (hQ : F_law16_is w_ m0 m1 m2 m3 m4 m5 m6 m7 m8 m9 m10 w Q) : Does Tryd.prog N_law16_is #[.pointer (w_), .agg #[.slice (m0.a) (m0.len) (m0.cap), .slice (m1.a) (m1.len) (m1.cap), .bool (m2), .int .i64 (m3), .slice (m4.a) (m4.len) (m4.cap), .int .i64 (m5), .slice (m6.a) (m6.len) (m6.cap), .int .u32 (m7), .int .i64 (m8), .int .i64 (m9), .bool (m10)]] w Q :=
  vcFn_sound noAsk mixed (A := A_law16_is) (by kernel_rfl) Tryd.func43 (Nat.le_of_ble_eq_true (by kernel_rfl)) (by kernel_rfl) ((F_law16_is_eq w_ m0 m1 m2 m3 m4 m5 m6 m7 m8 m9 m10 w Q).mpr hQ)

/- nacelle/nacelleref16.Sector -/
def F_ref16_Sector (letter : ByteArray) (epoch : Int) (more : ByteArray) (w : World) (Q : Value → World → Prop) : Prop :=
  Does Tryd.prog N_ref02_Put #[.int .u64 (IntKind.wrap .u64 epoch), .int .i64 (4)] w fun r1 w2 => ∃ l3 : Sl, r1 = .slice (l3.a) (l3.len) (l3.cap) ∧
  lookS Tryd.prog w2 (convert T_l_uint8 T_string (.slice (l3.a) (l3.len) (l3.cap))) fun s4 =>
  (((letter).size + (s4).size : Nat) : Int) ≤ 9223372036854775807 ∧
  ((((letter ++ s4)).size + (more).size : Nat) : Int) ≤ 9223372036854775807 ∧
  Does Tryd.prog N_ref16_Noughts #[.int .i64 (IntKind.wrap .i64 (60 - (((((letter ++ s4) ++ more).size : Nat) : Int))))] w2 fun r5 w6 => ∃ s7 : ByteArray, r5 = .string (s7) ∧
  (((((letter ++ s4) ++ more)).size + (s7).size : Nat) : Int) ≤ 9223372036854775807 ∧
  runG (.sl) Tryd.prog w6 (convert T_string T_l_uint8 (.string (((letter ++ s4) ++ more) ++ s7))) fun l8 w9 =>
  Does Tryd.prog N_ref03_Seal #[.slice (l8.a) (l8.len) (l8.cap)] w9 fun r10 w11 => ∃ l12 : Sl, r10 = .slice (l12.a) (l12.len) (l12.cap) ∧
  lookS Tryd.prog w11 (convert T_l_uint8 T_string (.slice (l12.a) (l12.len) (l12.cap))) fun s13 =>
  Q (.string (s13)) w11
def A_ref16_Sector : Ann := ⟨[], [], []⟩
theorem F_ref16_Sector_eq (letter : ByteArray) (epoch : Int) (more : ByteArray) (w : World) (Q : Value → World → Prop) : vcFn Tryd.prog A_ref16_Sector Tryd.f44 #[.string (letter), .int .u32 (epoch), .string (more)] w Q = F_ref16_Sector letter epoch more w Q := by kernel_rfl
theorem F_ref16_Sector_does (letter : ByteArray) (epoch : Int) (more : ByteArray) (w : World) (Q : Value → World → Prop) (hQ : F_ref16_Sector letter epoch more w Q) : Does Tryd.prog N_ref16_Sector #[.string (letter), .int .u32 (epoch), .string (more)] w Q :=
  vcFn_sound noAsk mixed (A := A_ref16_Sector) (by kernel_rfl) Tryd.func44 (Nat.le_of_ble_eq_true (by kernel_rfl)) (by kernel_rfl) ((F_ref16_Sector_eq letter epoch more w Q).mpr hQ)

/- nacelle/nacelleref16.Noughts -/
def F_ref16_Noughts (n : Int) (w : World) (Q : Value → World → Prop) : Prop :=
  ∃ (I4 : ByteArray → Int → World → Prop) (M5 : ByteArray → Int → World → Nat), I4 ((⟨#[]⟩ : ByteArray)) 0 w ∧
  ∀ s1 : ByteArray, ∀ i2 : Int, ∀ w3 : World, I4 s1 i2 w3 →
    cond (decide ((i2 : Int) < n))
    ((((s1).size + (((⟨#[0]⟩ : ByteArray))).size : Nat) : Int) ≤ 9223372036854775807 ∧
     I4 (s1 ++ ((⟨#[0]⟩ : ByteArray))) (IntKind.wrap .i64 (i2 + 1)) w3 ∧ M5 (s1 ++ ((⟨#[0]⟩ : ByteArray))) (IntKind.wrap .i64 (i2 + 1)) w3 < M5 s1 i2 w3)
    (Q (.string (s1)) w3)
def A_ref16_Noughts : Ann := ⟨[(3, [(3, .one (.str)), (4, .one (.int .i64))])], [], []⟩
theorem F_ref16_Noughts_eq (n : Int) (w : World) (Q : Value → World → Prop) : vcFn Tryd.prog A_ref16_Noughts Tryd.f45 #[.int .i64 (n)] w Q = F_ref16_Noughts n w Q := by kernel_rfl
theorem F_ref16_Noughts_does (n : Int) (w : World) (Q : Value → World → Prop) (hQ : F_ref16_Noughts n w Q) : Does Tryd.prog N_ref16_Noughts #[.int .i64 (n)] w Q :=
  vcFn_sound noAsk mixed (A := A_ref16_Noughts) (by kernel_rfl) Tryd.func45 (Nat.le_of_ble_eq_true (by kernel_rfl)) (by kernel_rfl) ((F_ref16_Noughts_eq n w Q).mpr hQ)

/- (*nacelle/disk.Disk).On -/
def F_disk_Disk_On (d : Option Addr) (w : World) (Q : Value → World → Prop) : Prop :=
  nnil (d) fun a1 =>
  ldT (.bool) w ((a1).add 2) fun b2 =>
  Q (.bool (!b2)) w
def A_disk_Disk_On : Ann := ⟨[], [], []⟩
theorem F_disk_Disk_On_eq (d : Option Addr) (w : World) (Q : Value → World → Prop) : vcFn Tryd.prog A_disk_Disk_On Tryd.f46 #[.pointer (d)] w Q = F_disk_Disk_On d w Q := by kernel_rfl
theorem F_disk_Disk_On_does (d : Option Addr) (w : World) (Q : Value → World → Prop) (hQ : F_disk_Disk_On d w Q) : Does Tryd.prog N_disk_Disk_On #[.pointer (d)] w Q :=
  vcFn_sound noAsk mixed (A := A_disk_Disk_On) (by kernel_rfl) Tryd.func46 (Nat.le_of_ble_eq_true (by kernel_rfl)) (by kernel_rfl) ((F_disk_Disk_On_eq d w Q).mpr hQ)

/- nacelle/nacellelaw16.from -/
def F_law16_from (n : Int) (w : World) (Q : Value → World → Prop) : Prop :=
  cond (decide ((n : Int) < 0))
  (Q (.int .i64 (3)) w)
  (cond (decide ((n : Int) > 8))
   (Q (.int .i64 (3)) w)
   (Q (.int .i64 (n)) w))
def A_law16_from : Ann := ⟨[], [], []⟩
theorem F_law16_from_eq (n : Int) (w : World) (Q : Value → World → Prop) : vcFn Tryd.prog A_law16_from Tryd.f47 #[.int .i64 (n)] w Q = F_law16_from n w Q := by kernel_rfl
theorem F_law16_from_does (n : Int) (w : World) (Q : Value → World → Prop) (hQ : F_law16_from n w Q) : Does Tryd.prog N_law16_from #[.int .i64 (n)] w Q :=
  vcFn_sound noAsk mixed (A := A_law16_from) (by kernel_rfl) Tryd.func47 (Nat.le_of_ble_eq_true (by kernel_rfl)) (by kernel_rfl) ((F_law16_from_eq n w Q).mpr hQ)

/- nacelle/nacellelaw16.pages -/
def F_law16_pages (w_ : Option Addr) (w : World) (Q : Value → World → Prop) : Prop :=
  ∃ (I4 : ByteArray → Int → World → Prop) (M5 : ByteArray → Int → World → Nat), I4 ((⟨#[]⟩ : ByteArray)) 0 w ∧
  ∀ s1 : ByteArray, ∀ i2 : Int, ∀ w3 : World, I4 s1 i2 w3 →
    cond (decide ((i2 : Int) < 16))
    (Does Tryd.prog N_wal_Log_Page #[.pointer (w_), .int .i64 (i2)] w3 fun r6 w7 => ∃ l8 : Sl, ∃ x9 : Int, r6 = .tuple #[.slice (l8.a) (l8.len) (l8.cap), .int .i64 (x9)] ∧
     lookS Tryd.prog w7 (convert T_l_uint8 T_string (.slice (l8.a) (l8.len) (l8.cap))) fun s10 =>
     (((s1).size + (s10).size : Nat) : Int) ≤ 9223372036854775807 ∧
     I4 (s1 ++ s10) (IntKind.wrap .i64 (i2 + 1)) w7 ∧ M5 (s1 ++ s10) (IntKind.wrap .i64 (i2 + 1)) w7 < M5 s1 i2 w3)
    (Q (.string (s1)) w3)
def A_law16_pages : Ann := ⟨[(3, [(3, .one (.str)), (4, .one (.int .i64))])], [], []⟩
theorem F_law16_pages_eq (w_ : Option Addr) (w : World) (Q : Value → World → Prop) : vcFn Tryd.prog A_law16_pages Tryd.f48 #[.pointer (w_)] w Q = F_law16_pages w_ w Q := by kernel_rfl
theorem F_law16_pages_does (w_ : Option Addr) (w : World) (Q : Value → World → Prop) (hQ : F_law16_pages w_ w Q) : Does Tryd.prog N_law16_pages #[.pointer (w_)] w Q :=
  vcFn_sound noAsk mixed (A := A_law16_pages) (by kernel_rfl) Tryd.func48 (Nat.le_of_ble_eq_true (by kernel_rfl)) (by kernel_rfl) ((F_law16_pages_eq w_ w Q).mpr hQ)

/- nacelle/nacelleref16.May -/
def F_ref16_May (l : Sl) (w : World) (Q : Value → World → Prop) : Prop :=
  ∃ (I3 : Int → World → Prop) (M4 : Int → World → Nat), I3 0 w ∧
  ∀ i1 : Int, ∀ w2 : World, I3 i1 w2 →
    cond (decide ((i1 : Int) < (((l.len : Nat) : Int))))
    (∀ J6 : World → Prop, (∀ w5 : World, 
       (I3 (IntKind.wrap .i64 (i1 + 1)) w5 ∧ M4 (IntKind.wrap .i64 (i1 + 1)) w5 < M4 i1 w2) → J6 w5) →
     idx (l.a) (l.len) (i1) 2 fun a7 =>
     ldT (.int .i64) w2 (a7) fun x8 =>
     cond (decide ((x8 : Int) < 0))
     (Q (.bool (false)) w2)
     (idx (l.a) (l.len) (i1) 2 fun a9 =>
      ldT (.int .i64) w2 (a9) fun x10 =>
      cond (decide ((x10 : Int) > 15))
      (Q (.bool (false)) w2)
      (idx (l.a) (l.len) (i1) 2 fun a11 =>
       ldT (.sl) w2 ((a11).add 1) fun l12 =>
       cond (((((l12.len : Nat) : Int)) : Int) != 40)
       (Q (.bool (false)) w2)
       (J6 w2))))
    (Q (.bool (decide (((((l.len : Nat) : Int)) : Int) ≤ 16))) w2)
def A_ref16_May : Ann := ⟨[(2, [(3, .one (.int .i64))])], [(3, [])], []⟩
theorem F_ref16_May_eq (l : Sl) (w : World) (Q : Value → World → Prop) : vcFn Tryd.prog A_ref16_May Tryd.f49 #[.slice (l.a) (l.len) (l.cap)] w Q = F_ref16_May l w Q := by kernel_rfl
theorem F_ref16_May_does (l : Sl) (w : World) (Q : Value → World → Prop) (hQ : F_ref16_May l w Q) : Does Tryd.prog N_ref16_May #[.slice (l.a) (l.len) (l.cap)] w Q :=
  vcFn_sound noAsk mixed (A := A_ref16_May) (by kernel_rfl) Tryd.func49 (Nat.le_of_ble_eq_true (by kernel_rfl)) (by kernel_rfl) ((F_ref16_May_eq l w Q).mpr hQ)

/- (*nacelle/disk.Disk).Waiting -/
def F_disk_Disk_Waiting (d : Option Addr) (w : World) (Q : Value → World → Prop) : Prop :=
  nnil (d) fun a1 =>
  ldT (.sl) w ((a1).add 1) fun l2 =>
  ∃ (I6 : Sl → Int → World → Prop) (M7 : Sl → Int → World → Nat), I6 ⟨none, 0, 0⟩ 0 w ∧
  ∀ out3 : Sl, ∀ x4 : Int, ∀ w5 : World, I6 out3 x4 w5 →
    cond (decide ((x4 : Int) < (((l2.len : Nat) : Int))))
    (idx (l2.a) (l2.len) (x4) 2 fun a8 =>
     ldT (.int .i64) w5 (a8) fun x9 => ldT (.sl) w5 ((a8).add 1) fun l10 =>
     allocK w5 (zc Tryd.prog T_disk_write) T_disk_write fun a11 w12 =>
     stC w12 (a11) (.int .i64 (x9)) fun w14 => stC w14 ((a11).add 1) (.slice (l10.a) (l10.len) (l10.cap)) fun w15 =>
     ldT (.int .i64) w15 (a11) fun x16 =>
     allocK w15 #[.int .i64 (x16)] T_int fun a17 w18 =>
     runG (.sl) Tryd.prog w18 (Builtin.append_ #[T_l_int, T_l_int] T_l_int #[.slice (out3.a) (out3.len) (out3.cap), .slice (some (a17)) (1) (1)]) fun l19 w20 =>
     I6 ⟨l19.a, l19.len, l19.cap⟩ (IntKind.wrap .i64 (x4 + 1)) w20 ∧ M7 ⟨l19.a, l19.len, l19.cap⟩ (IntKind.wrap .i64 (x4 + 1)) w20 < M7 out3 x4 w5)
    (Q (.slice (out3.a) (out3.len) (out3.cap)) w5)
def A_disk_Disk_Waiting : Ann := ⟨[(3, [(3, .one (.sl)), (11, .one (.int .i64))])], [], []⟩
theorem F_disk_Disk_Waiting_eq (d : Option Addr) (w : World) (Q : Value → World → Prop) : vcFn Tryd.prog A_disk_Disk_Waiting Tryd.f50 #[.pointer (d)] w Q = F_disk_Disk_Waiting d w Q := by kernel_rfl
theorem F_disk_Disk_Waiting_does (d : Option Addr) (w : World) (Q : Value → World → Prop) (hQ : F_disk_Disk_Waiting d w Q) : Does Tryd.prog N_disk_Disk_Waiting #[.pointer (d)] w Q :=
  vcFn_sound noAsk mixed (A := A_disk_Disk_Waiting) (by kernel_rfl) Tryd.func50 (Nat.le_of_ble_eq_true (by kernel_rfl)) (by kernel_rfl) ((F_disk_Disk_Waiting_eq d w Q).mpr hQ)

/- (*nacelle/wal.Log).Epoch -/
def F_wal_Log_Epoch (w_ : Option Addr) (w : World) (Q : Value → World → Prop) : Prop :=
  nnil (w_) fun a1 =>
  ldT (.int .u32) w ((a1).add 641) fun x2 =>
  Q (.int .u32 (x2)) w
def A_wal_Log_Epoch : Ann := ⟨[], [], []⟩
theorem F_wal_Log_Epoch_eq (w_ : Option Addr) (w : World) (Q : Value → World → Prop) : vcFn Tryd.prog A_wal_Log_Epoch Tryd.f51 #[.pointer (w_)] w Q = F_wal_Log_Epoch w_ w Q := by kernel_rfl
theorem F_wal_Log_Epoch_does (w_ : Option Addr) (w : World) (Q : Value → World → Prop) (hQ : F_wal_Log_Epoch w_ w Q) : Does Tryd.prog N_wal_Log_Epoch #[.pointer (w_)] w Q :=
  vcFn_sound noAsk mixed (A := A_wal_Log_Epoch) (by kernel_rfl) Tryd.func51 (Nat.le_of_ble_eq_true (by kernel_rfl)) (by kernel_rfl) ((F_wal_Log_Epoch_eq w_ w Q).mpr hQ)

/- (*nacelle/wal.Log).Used -/
def F_wal_Log_Used (w_ : Option Addr) (w : World) (Q : Value → World → Prop) : Prop :=
  nnil (w_) fun a1 =>
  ldT (.int .i64) w ((a1).add 643) fun x2 =>
  Q (.int .i64 (x2)) w
def A_wal_Log_Used : Ann := ⟨[], [], []⟩
theorem F_wal_Log_Used_eq (w_ : Option Addr) (w : World) (Q : Value → World → Prop) : vcFn Tryd.prog A_wal_Log_Used Tryd.f52 #[.pointer (w_)] w Q = F_wal_Log_Used w_ w Q := by kernel_rfl
theorem F_wal_Log_Used_does (w_ : Option Addr) (w : World) (Q : Value → World → Prop) (hQ : F_wal_Log_Used w_ w Q) : Does Tryd.prog N_wal_Log_Used #[.pointer (w_)] w Q :=
  vcFn_sound noAsk mixed (A := A_wal_Log_Used) (by kernel_rfl) Tryd.func52 (Nat.le_of_ble_eq_true (by kernel_rfl)) (by kernel_rfl) ((F_wal_Log_Used_eq w_ w Q).mpr hQ)

/- nacelle/disk.New -/
def F_disk_New (sectors : Int) (w : World) (Q : Value → World → Prop) : Prop :=
  ∀ J2 : World → Prop, (∀ w1 : World, 
    (runG (.sl) Tryd.prog w1 (Instr.makeSlice T_l_uint8 (.int .i64 (IntKind.wrap .i64 (sectors * 64))) (.int .i64 (IntKind.wrap .i64 (sectors * 64)))) fun l3 w4 =>
    allocK w4 (#[.slice (l3.a) (l3.len) (l3.cap), .slice (none) (0) (0), .bool (false), .bool (false), .int .i64 (0), .slice (none) (0) (0)]) T_disk_Disk fun a5 w6 =>
    Q (.tuple #[.pointer (some (a5)), .int .i64 (0)]) w6) → J2 w1) →
  cond (decide ((sectors : Int) < 1))
  (Q (.tuple #[.pointer (none), .int .i64 (1)]) w)
  (cond (decide ((sectors : Int) > 256))
   (Q (.tuple #[.pointer (none), .int .i64 (1)]) w)
   (J2 w))
def A_disk_New : Ann := ⟨[], [(3, [])], []⟩
theorem F_disk_New_eq (sectors : Int) (w : World) (Q : Value → World → Prop) : vcFn Tryd.prog A_disk_New Tryd.f53 #[.int .i64 (sectors)] w Q = F_disk_New sectors w Q := by kernel_rfl
theorem F_disk_New_does (sectors : Int) (w : World) (Q : Value → World → Prop) (hQ : F_disk_New sectors w Q) : Does Tryd.prog N_disk_New #[.int .i64 (sectors)] w Q :=
  vcFn_sound noAsk mixed (A := A_disk_New) (by kernel_rfl) Tryd.func53 (Nat.le_of_ble_eq_true (by kernel_rfl)) (by kernel_rfl) ((F_disk_New_eq sectors w Q).mpr hQ)

/- nacelle/extent.New -/
def F_extent_New (d : Option Addr) (x0 : Int) (x1 : Int) (w : World) (Q : Value → World → Prop) : Prop :=
  allocK w (#[.int .i64 (x0), .int .i64 (x1)]) T_extent_Extent fun a1 w2 =>
  ldT (.int .i64) w2.drew (a1) fun x3 => ldT (.int .i64) w2.drew ((a1).add 1) fun x4 =>
  Does Tryd.prog N_disk_Disk_Size #[.pointer (d)] w2.drew fun r5 w6 => ∃ x7 : Int, r5 = .int .i64 (x7) ∧
  ((#[.int .i64 (x3), .int .i64 (x4)] : Array Value).size = 2 ∧ RowIs w6 (a1) #[.int .i64 (x3), .int .i64 (x4)]) ∧ Does Tryd.prog N_extent_Lies #[.agg #[.int .i64 (x3), .int .i64 (x4)], .int .i64 (x7)] w6 fun r8 w9 => ∃ b10 : Bool, r8 = .bool (b10) ∧
  cond (!b10)
  (Q (.tuple #[.pointer (none), .int .i64 (1)]) w9)
  (ldT (.int .i64) w9 (a1) fun x11 => ldT (.int .i64) w9 ((a1).add 1) fun x12 =>
   allocK w9 (#[.int .i64 (x11), .int .i64 (x12), .pointer (d)]) T_extent_Part fun a13 w14 =>
   Q (.tuple #[.pointer (some (a13)), .int .i64 (0)]) w14)
def A_extent_New : Ann := ⟨[], [], [(1, [⟨0, 0, 0, true⟩, ⟨0, 0, 0, true⟩, ⟨2, 0, 2, false⟩, ⟨5, 0, 7, false⟩, ⟨8, 8, 15, true⟩])]⟩
theorem F_extent_New_eq (d : Option Addr) (x0 : Int) (x1 : Int) (w : World) (Q : Value → World → Prop) : vcFn Tryd.prog A_extent_New Tryd.f54 #[.pointer (d), .agg #[.int .i64 (x0), .int .i64 (x1)]] w Q = F_extent_New d x0 x1 w Q := by kernel_rfl
theorem F_extent_New_does (d : Option Addr) (x0 : Int) (x1 : Int) (w : World) (Q : Value → World → Prop) (hQ : F_extent_New d x0 x1 w Q) : Does Tryd.prog N_extent_New #[.pointer (d), .agg #[.int .i64 (x0), .int .i64 (x1)]] w Q :=
  vcFn_sound noAsk mixed (A := A_extent_New) (by kernel_rfl) Tryd.func54 (Nat.le_of_ble_eq_true (by kernel_rfl)) (by kernel_rfl) ((F_extent_New_eq d x0 x1 w Q).mpr hQ)

/- (*nacelle/audit.Log).at -/
def F_audit_Log_at (l : Option Addr) (n : Int) (w : World) (Q : Value → World → Prop) : Prop :=
  allocK w (zc Tryd.prog T_api_Entry) T_api_Entry fun a1 w2 =>
  nnil (l) fun a3 =>
  ldT (.ptr) w2 (a3) fun p4 =>
  Does Tryd.prog N_extent_Part_Read #[.pointer (p4), .int .i64 (n)] w2 fun r5 w6 => ∃ l7 : Sl, ∃ x8 : Int, r5 = .tuple #[.slice (l7.a) (l7.len) (l7.cap), .int .i64 (x8)] ∧
  cond ((x8 : Int) != 0)
  (stC w6 (a1) (.int .i64 (0)) fun w10 => stC w10 ((a1).add 1) (.int .i64 (0)) fun w11 => stC w11 ((a1).add 2) (.int .u32 (0)) fun w12 => stC w12 ((a1).add 3) (.int .i64 (0)) fun w13 =>
   ldT (.int .i64) w13 (a1) fun x14 => ldT (.int .i64) w13 ((a1).add 1) fun x15 => ldT (.int .u32) w13 ((a1).add 2) fun x16 => ldT (.int .i64) w13 ((a1).add 3) fun x17 =>
   Q (.tuple #[.agg #[.int .i64 (x14), .int .i64 (x15), .int .u32 (x16), .int .i64 (x17)], .bool (false), .int .i64 (x8)]) w13)
  (slcT ⟨l7.a, l7.len, l7.cap⟩ (5) (((l7.len : Nat) : Int)) 1 fun l18 =>
   Does Tryd.prog N_octet_Read #[.slice (l18.a) (l18.len) (l18.cap)] w6 fun r19 w20 => ∃ p21 : Option Addr, r19 = .pointer (p21) ∧
   Does Tryd.prog N_octet_Reader_Num #[.pointer (p21), .int .i64 (1)] w20 fun r22 w23 => ∃ x24 : Int, r22 = .int .u64 (x24) ∧
   Does Tryd.prog N_octet_Reader_Num #[.pointer (p21), .int .i64 (1)] w23 fun r25 w26 => ∃ x27 : Int, r25 = .int .u64 (x27) ∧
   Does Tryd.prog N_octet_Reader_Num #[.pointer (p21), .int .i64 (4)] w26 fun r28 w29 => ∃ x30 : Int, r28 = .int .u64 (x30) ∧
   Does Tryd.prog N_octet_Reader_Num #[.pointer (p21), .int .i64 (1)] w29 fun r31 w32 => ∃ x33 : Int, r31 = .int .u64 (x33) ∧
   allocK w32 (zc Tryd.prog T_api_Entry) T_api_Entry fun a34 w35 =>
   stC w35 (a34) (.int .i64 (IntKind.wrap .i64 x24)) fun w37 => stC w37 ((a34).add 1) (.int .i64 (IntKind.wrap .i64 x27)) fun w38 => stC w38 ((a34).add 2) (.int .u32 (IntKind.wrap .u32 x30)) fun w39 => stC w39 ((a34).add 3) (.int .i64 (IntKind.wrap .i64 x33)) fun w40 =>
   ldT (.int .i64) w40.drew (a34) fun x41 => ldT (.int .i64) w40.drew ((a34).add 1) fun x42 => ldT (.int .u32) w40.drew ((a34).add 2) fun x43 => ldT (.int .i64) w40.drew ((a34).add 3) fun x44 =>
   ldT (.int .i64) w40.drew (a34) fun x45 => ldT (.int .i64) w40.drew ((a34).add 1) fun x46 => ldT (.int .u32) w40.drew ((a34).add 2) fun x47 => ldT (.int .i64) w40.drew ((a34).add 3) fun x48 =>
   Does Tryd.prog N_audit_may #[.agg #[.int .i64 (x45), .int .i64 (x46), .int .u32 (x47), .int .i64 (x48)]] w40.drew fun r49 w50 => ∃ b51 : Bool, r49 = .bool (b51) ∧
   ((#[.int .i64 (x41), .int .i64 (x42), .int .u32 (x43), .int .i64 (x44)] : Array Value).size = 4 ∧ RowIs w50 (a34) #[.int .i64 (x41), .int .i64 (x42), .int .u32 (x43), .int .i64 (x44)]) ∧ cond (b51)
   (ldT (.int .i64) w50 (a34) fun x52 => ldT (.int .i64) w50 ((a34).add 1) fun x53 => ldT (.int .u32) w50 ((a34).add 2) fun x54 => ldT (.int .i64) w50 ((a34).add 3) fun x55 =>
    ∃ s56 : ByteArray, (convert T_l_uint8 T_string (.slice (l7.a) (l7.len) (l7.cap))).run Tryd.prog w50 = .ok (.string (s56)) w50 ∧
    Does Tryd.prog N_audit_sector #[.int .i64 (n), .agg #[.int .i64 (x52), .int .i64 (x53), .int .u32 (x54), .int .i64 (x55)]] w50 fun r57 w58 => ∃ l59 : Sl, r57 = .slice (l59.a) (l59.len) (l59.cap) ∧
    (convert T_l_uint8 T_string (.slice (l7.a) (l7.len) (l7.cap))).run Tryd.prog w58 = .ok (.string (s56)) w58 ∧ ((#[.int .i64 (x41), .int .i64 (x42), .int .u32 (x43), .int .i64 (x44)] : Array Value).size = 4 ∧ RowIs w58 (a34) #[.int .i64 (x41), .int .i64 (x42), .int .u32 (x43), .int .i64 (x44)]) ∧ ∃ s60 : ByteArray, (convert T_l_uint8 T_string (.slice (l59.a) (l59.len) (l59.cap))).run Tryd.prog w58 = .ok (.string (s60)) w58 ∧
    stC w58 (a1) (.int .i64 (x41)) fun w62 => stC w62 ((a1).add 1) (.int .i64 (x42)) fun w63 => stC w63 ((a1).add 2) (.int .u32 (x43)) fun w64 => stC w64 ((a1).add 3) (.int .i64 (x44)) fun w65 =>
    (convert T_l_uint8 T_string (.slice (l59.a) (l59.len) (l59.cap))).run Tryd.prog w65 = .ok (.string (s60)) w65 ∧ (convert T_l_uint8 T_string (.slice (l7.a) (l7.len) (l7.cap))).run Tryd.prog w65 = .ok (.string (s56)) w65 ∧ ldT (.int .i64) w65 (a1) fun x66 => ldT (.int .i64) w65 ((a1).add 1) fun x67 => ldT (.int .u32) w65 ((a1).add 2) fun x68 => ldT (.int .i64) w65 ((a1).add 3) fun x69 =>
    Q (.tuple #[.agg #[.int .i64 (x66), .int .i64 (x67), .int .u32 (x68), .int .i64 (x69)], .bool ((s60).toList == (s56).toList), .int .i64 (0)]) w65)
   (stC w50 (a1) (.int .i64 (x41)) fun w71 => stC w71 ((a1).add 1) (.int .i64 (x42)) fun w72 => stC w72 ((a1).add 2) (.int .u32 (x43)) fun w73 => stC w73 ((a1).add 3) (.int .i64 (x44)) fun w74 =>
    ldT (.int .i64) w74 (a1) fun x75 => ldT (.int .i64) w74 ((a1).add 1) fun x76 => ldT (.int .u32) w74 ((a1).add 2) fun x77 => ldT (.int .i64) w74 ((a1).add 3) fun x78 =>
    Q (.tuple #[.agg #[.int .i64 (x75), .int .i64 (x76), .int .u32 (x77), .int .i64 (x78)], .bool (false), .int .i64 (0)]) w74))
def A_audit_Log_at : Ann := ⟨[], [], [(6, [⟨0, 0, 0, true⟩, ⟨0, 0, 0, true⟩, ⟨2, 0, 2, false⟩, ⟨4, 4, 6, true⟩, ⟨8, 8, 14, true⟩, ⟨8, 8, 14, true⟩, ⟨56, 0, 62, false⟩, ⟨72, 72, 126, true⟩, ⟨8, 8, 14, true⟩, ⟨264, 264, 270, true⟩, ⟨648, 648, 1022, true⟩, ⟨1032, 1032, 2046, true⟩, ⟨65, 0, 127, false⟩, ⟨8191, 2048, 8191, true⟩, ⟨16383, 0, 16383, true⟩])]⟩
theorem F_audit_Log_at_eq (l : Option Addr) (n : Int) (w : World) (Q : Value → World → Prop) : vcFn Tryd.prog A_audit_Log_at Tryd.f55 #[.pointer (l), .int .i64 (n)] w Q = F_audit_Log_at l n w Q := by kernel_rfl
theorem F_audit_Log_at_does (l : Option Addr) (n : Int) (w : World) (Q : Value → World → Prop) (hQ : F_audit_Log_at l n w Q) : Does Tryd.prog N_audit_Log_at #[.pointer (l), .int .i64 (n)] w Q :=
  vcFn_sound noAsk mixed (A := A_audit_Log_at) (by kernel_rfl) Tryd.func55 (Nat.le_of_ble_eq_true (by kernel_rfl)) (by kernel_rfl) ((F_audit_Log_at_eq l n w Q).mpr hQ)

/- (*nacelle/extent.Part).Size -/
def F_extent_Part_Size (p : Option Addr) (w : World) (Q : Value → World → Prop) : Prop :=
  nnil (p) fun a1 =>
  ldT (.int .i64) w ((a1).add 1) fun x2 =>
  Q (.int .i64 (x2)) w
def A_extent_Part_Size : Ann := ⟨[], [], []⟩
theorem F_extent_Part_Size_eq (p : Option Addr) (w : World) (Q : Value → World → Prop) : vcFn Tryd.prog A_extent_Part_Size Tryd.f56 #[.pointer (p)] w Q = F_extent_Part_Size p w Q := by kernel_rfl
theorem F_extent_Part_Size_does (p : Option Addr) (w : World) (Q : Value → World → Prop) (hQ : F_extent_Part_Size p w Q) : Does Tryd.prog N_extent_Part_Size #[.pointer (p)] w Q :=
  vcFn_sound noAsk mixed (A := A_extent_Part_Size) (by kernel_rfl) Tryd.func56 (Nat.le_of_ble_eq_true (by kernel_rfl)) (by kernel_rfl) ((F_extent_Part_Size_eq p w Q).mpr hQ)

/- nacelle/audit.may -/
def F_audit_may (x0 : Int) (x1 : Int) (x2 : Int) (x3 : Int) (w : World) (Q : Value → World → Prop) : Prop :=
  allocK w (#[.int .i64 (x0), .int .i64 (x1), .int .u32 (x2), .int .i64 (x3)]) T_api_Entry fun a1 w2 =>
  ldT (.int .i64) w2 (a1) fun x3 =>
  cond (decide ((x3 : Int) ≥ 1))
  (ldT (.int .i64) w2 (a1) fun x4 =>
   cond (decide ((x4 : Int) ≤ 4))
   (ldT (.int .i64) w2 ((a1).add 1) fun x5 =>
    cond (decide ((x5 : Int) ≥ 0))
    (ldT (.int .i64) w2 ((a1).add 1) fun x6 =>
     cond (decide ((x6 : Int) < 8))
     (ldT (.int .i64) w2 ((a1).add 3) fun x7 =>
      cond (decide ((x7 : Int) ≥ 0))
      (ldT (.int .i64) w2 ((a1).add 3) fun x8 =>
       Q (.bool (decide ((x8 : Int) ≤ 255))) w2)
      (Q (.bool (false)) w2))
     (Q (.bool (false)) w2))
    (Q (.bool (false)) w2))
   (Q (.bool (false)) w2))
  (Q (.bool (false)) w2)
def A_audit_may : Ann := ⟨[], [], []⟩
theorem F_audit_may_eq (x0 : Int) (x1 : Int) (x2 : Int) (x3 : Int) (w : World) (Q : Value → World → Prop) : vcFn Tryd.prog A_audit_may Tryd.f57 #[.agg #[.int .i64 (x0), .int .i64 (x1), .int .u32 (x2), .int .i64 (x3)]] w Q = F_audit_may x0 x1 x2 x3 w Q := by kernel_rfl
theorem F_audit_may_does (x0 : Int) (x1 : Int) (x2 : Int) (x3 : Int) (w : World) (Q : Value → World → Prop) (hQ : F_audit_may x0 x1 x2 x3 w Q) : Does Tryd.prog N_audit_may #[.agg #[.int .i64 (x0), .int .i64 (x1), .int .u32 (x2), .int .i64 (x3)]] w Q :=
  vcFn_sound noAsk mixed (A := A_audit_may) (by kernel_rfl) Tryd.func57 (Nat.le_of_ble_eq_true (by kernel_rfl)) (by kernel_rfl) ((F_audit_may_eq x0 x1 x2 x3 w Q).mpr hQ)

/- nacelle/audit.sector -/
def F_audit_sector (n : Int) (x0 : Int) (x1 : Int) (x2 : Int) (x3 : Int) (w : World) (Q : Value → World → Prop) : Prop :=
  allocK w (#[.int .i64 (x0), .int .i64 (x1), .int .u32 (x2), .int .i64 (x3)]) T_api_Entry fun a1 w2 =>
  allocK w2 #[.int .u8 (65)] T_uint8 fun a3 w4 =>
  Does Tryd.prog N_octet_Put #[.int .u64 (IntKind.wrap .u64 n), .int .i64 (4)] w4 fun r5 w6 => ∃ l7 : Sl, r5 = .slice (l7.a) (l7.len) (l7.cap) ∧
  runG (.sl) Tryd.prog w6 (Builtin.append_ #[T_l_uint8, T_l_uint8] T_l_uint8 #[.slice (some (a3)) (1) (1), .slice (l7.a) (l7.len) (l7.cap)]) fun l8 w9 =>
  ldT (.int .i64) w9 (a1) fun x10 =>
  ldT (.int .i64) w9 ((a1).add 1) fun x11 =>
  allocK w9 #[.int .u8 (IntKind.wrap .u8 x10), .int .u8 (IntKind.wrap .u8 x11)] T_uint8 fun a12 w13 =>
  runG (.sl) Tryd.prog w13 (Builtin.append_ #[T_l_uint8, T_l_uint8] T_l_uint8 #[.slice (l8.a) (l8.len) (l8.cap), .slice (some (a12)) (2) (2)]) fun l14 w15 =>
  ldT (.int .u32) w15 ((a1).add 2) fun x16 =>
  Does Tryd.prog N_octet_Put #[.int .u64 (IntKind.wrap .u64 x16), .int .i64 (4)] w15 fun r17 w18 => ∃ l19 : Sl, r17 = .slice (l19.a) (l19.len) (l19.cap) ∧
  runG (.sl) Tryd.prog w18 (Builtin.append_ #[T_l_uint8, T_l_uint8] T_l_uint8 #[.slice (l14.a) (l14.len) (l14.cap), .slice (l19.a) (l19.len) (l19.cap)]) fun l20 w21 =>
  ldT (.int .i64) w21 ((a1).add 3) fun x22 =>
  allocK w21 #[.int .u8 (IntKind.wrap .u8 x22)] T_uint8 fun a23 w24 =>
  runG (.sl) Tryd.prog w24 (Builtin.append_ #[T_l_uint8, T_l_uint8] T_l_uint8 #[.slice (l20.a) (l20.len) (l20.cap), .slice (some (a23)) (1) (1)]) fun l25 w26 =>
  runG (.sl) Tryd.prog w26 (Builtin.append_ #[T_l_uint8, T_int] T_l_uint8 #[.slice (l25.a) (l25.len) (l25.cap), .int .i64 (IntKind.wrap .i64 (60 - (((l25.len : Nat) : Int))))]) fun l27 w28 =>
  Does Tryd.prog N_crc_Seal #[.slice (l27.a) (l27.len) (l27.cap)] w28 fun r29 w30 => ∃ l31 : Sl, r29 = .slice (l31.a) (l31.len) (l31.cap) ∧
  Q (.slice (l31.a) (l31.len) (l31.cap)) w30
def A_audit_sector : Ann := ⟨[], [], []⟩
theorem F_audit_sector_eq (n : Int) (x0 : Int) (x1 : Int) (x2 : Int) (x3 : Int) (w : World) (Q : Value → World → Prop) : vcFn Tryd.prog A_audit_sector Tryd.f58 #[.int .i64 (n), .agg #[.int .i64 (x0), .int .i64 (x1), .int .u32 (x2), .int .i64 (x3)]] w Q = F_audit_sector n x0 x1 x2 x3 w Q := by kernel_rfl
theorem F_audit_sector_does (n : Int) (x0 : Int) (x1 : Int) (x2 : Int) (x3 : Int) (w : World) (Q : Value → World → Prop) (hQ : F_audit_sector n x0 x1 x2 x3 w Q) : Does Tryd.prog N_audit_sector #[.int .i64 (n), .agg #[.int .i64 (x0), .int .i64 (x1), .int .u32 (x2), .int .i64 (x3)]] w Q :=
  vcFn_sound noAsk mixed (A := A_audit_sector) (by kernel_rfl) Tryd.func58 (Nat.le_of_ble_eq_true (by kernel_rfl)) (by kernel_rfl) ((F_audit_sector_eq n x0 x1 x2 x3 w Q).mpr hQ)

/- (*nacelle/extent.Part).Flush -/
def F_extent_Part_Flush (p : Option Addr) (w : World) (Q : Value → World → Prop) : Prop :=
  nnil (p) fun a1 =>
  ldT (.ptr) w ((a1).add 2) fun p2 =>
  Does Tryd.prog N_disk_Disk_Flush #[.pointer (p2)] w fun r3 w4 => ∃ x5 : Int, r3 = .int .i64 (x5) ∧
  Q (.int .i64 (x5)) w4
def A_extent_Part_Flush : Ann := ⟨[], [], []⟩
theorem F_extent_Part_Flush_eq (p : Option Addr) (w : World) (Q : Value → World → Prop) : vcFn Tryd.prog A_extent_Part_Flush Tryd.f59 #[.pointer (p)] w Q = F_extent_Part_Flush p w Q := by kernel_rfl
theorem F_extent_Part_Flush_does (p : Option Addr) (w : World) (Q : Value → World → Prop) (hQ : F_extent_Part_Flush p w Q) : Does Tryd.prog N_extent_Part_Flush #[.pointer (p)] w Q :=
  vcFn_sound noAsk mixed (A := A_extent_Part_Flush) (by kernel_rfl) Tryd.func59 (Nat.le_of_ble_eq_true (by kernel_rfl)) (by kernel_rfl) ((F_extent_Part_Flush_eq p w Q).mpr hQ)

/- (*nacelle/disk.Disk).in -/
def F_disk_Disk_in (d : Option Addr) (at_ : Int) (w : World) (Q : Value → World → Prop) : Prop :=
  cond (decide ((at_ : Int) ≥ 0))
  (Does Tryd.prog N_disk_Disk_Size #[.pointer (d)] w fun r1 w2 => ∃ x3 : Int, r1 = .int .i64 (x3) ∧
   Q (.bool (decide ((at_ : Int) < x3))) w2)
  (Q (.bool (false)) w)
def A_disk_Disk_in : Ann := ⟨[], [], []⟩
theorem F_disk_Disk_in_eq (d : Option Addr) (at_ : Int) (w : World) (Q : Value → World → Prop) : vcFn Tryd.prog A_disk_Disk_in Tryd.f60 #[.pointer (d), .int .i64 (at_)] w Q = F_disk_Disk_in d at_ w Q := by kernel_rfl
theorem F_disk_Disk_in_does (d : Option Addr) (at_ : Int) (w : World) (Q : Value → World → Prop) (hQ : F_disk_Disk_in d at_ w Q) : Does Tryd.prog N_disk_Disk_in #[.pointer (d), .int .i64 (at_)] w Q :=
  vcFn_sound noAsk mixed (A := A_disk_Disk_in) (by kernel_rfl) Tryd.func60 (Nat.le_of_ble_eq_true (by kernel_rfl)) (by kernel_rfl) ((F_disk_Disk_in_eq d at_ w Q).mpr hQ)

/- (*nacelle/disk.Disk).sector -/
def F_disk_Disk_sector (d : Option Addr) (at_ : Int) (w : World) (Q : Value → World → Prop) : Prop :=
  nnil (d) fun a1 =>
  ldT (.sl) w (a1) fun l2 =>
  slcT ⟨l2.a, l2.len, l2.cap⟩ (IntKind.wrap .i64 (at_ * 64)) (IntKind.wrap .i64 ((IntKind.wrap .i64 (at_ + 1)) * 64)) 1 fun l3 =>
  Q (.slice (l3.a) (l3.len) (l3.cap)) w
def A_disk_Disk_sector : Ann := ⟨[], [], []⟩
theorem F_disk_Disk_sector_eq (d : Option Addr) (at_ : Int) (w : World) (Q : Value → World → Prop) : vcFn Tryd.prog A_disk_Disk_sector Tryd.f61 #[.pointer (d), .int .i64 (at_)] w Q = F_disk_Disk_sector d at_ w Q := by kernel_rfl
theorem F_disk_Disk_sector_does (d : Option Addr) (at_ : Int) (w : World) (Q : Value → World → Prop) (hQ : F_disk_Disk_sector d at_ w Q) : Does Tryd.prog N_disk_Disk_sector #[.pointer (d), .int .i64 (at_)] w Q :=
  vcFn_sound noAsk mixed (A := A_disk_Disk_sector) (by kernel_rfl) Tryd.func61 (Nat.le_of_ble_eq_true (by kernel_rfl)) (by kernel_rfl) ((F_disk_Disk_sector_eq d at_ w Q).mpr hQ)

/- (nacelle/nacelleref05.Disk).Read -/
def F_ref05_Disk_Read (d0 : Sl) (d1 : Sl) (d2 : Bool) (d3 : Int) (d4 : Sl) (at_ : Int) (w : World) (Q : Value → World → Prop) : Prop :=
  allocK w (#[.slice (d0.a) (d0.len) (d0.cap), .slice (d1.a) (d1.len) (d1.cap), .bool (d2), .int .i64 (d3), .slice (d4.a) (d4.len) (d4.cap)]) T_ref05_Disk fun a1 w2 =>
  ∀ J4 : World → Prop, (∀ w3 : World, 
    (ldT (.bool) w3 ((a1).add 2) fun b5 =>
    cond (b5)
    (Q (.tuple #[.string ((⟨#[]⟩ : ByteArray)), .int .i64 (9)]) w3)
    (ldT (.sl) w3 ((a1).add 1) fun l6 =>
     ∃ (I9 : Int → World → Prop) (M10 : Int → World → Nat), I9 (IntKind.wrap .i64 ((((l6.len : Nat) : Int)) - 1)) w3 ∧
     ∀ i7 : Int, ∀ w8 : World, I9 i7 w8 →
       cond (decide ((i7 : Int) ≥ 0))
       (ldT (.sl) w8 ((a1).add 1) fun l11 =>
        idx (l11.a) (l11.len) (i7) 2 fun a12 =>
        ldT (.int .i64) w8 (a12) fun x13 =>
        cond ((x13 : Int) == at_)
        (ldT (.sl) w8 ((a1).add 1) fun l14 =>
         idx (l14.a) (l14.len) (i7) 2 fun a15 =>
         ldT (.str) w8 ((a15).add 1) fun s16 =>
         Q (.tuple #[.string (s16), .int .i64 (0)]) w8)
        (I9 (IntKind.wrap .i64 (i7 - 1)) w8 ∧ M10 (IntKind.wrap .i64 (i7 - 1)) w8 < M10 i7 w8))
       (ldT (.sl) w8 (a1) fun l17 =>
        idx (l17.a) (l17.len) (at_) 1 fun a18 =>
        ldT (.str) w8 (a18) fun s19 =>
        Q (.tuple #[.string (s19), .int .i64 (0)]) w8))) → J4 w3) →
  cond (decide ((at_ : Int) < 0))
  (Q (.tuple #[.string ((⟨#[]⟩ : ByteArray)), .int .i64 (4)]) w2)
  (ldT (.sl) w2 (a1) fun l20 =>
   cond (decide ((at_ : Int) ≥ (((l20.len : Nat) : Int))))
   (Q (.tuple #[.string ((⟨#[]⟩ : ByteArray)), .int .i64 (4)]) w2)
   (J4 w2))
def A_ref05_Disk_Read : Ann := ⟨[(6, [(6, .one (.int .i64))])], [(3, [])], []⟩
theorem F_ref05_Disk_Read_eq (d0 : Sl) (d1 : Sl) (d2 : Bool) (d3 : Int) (d4 : Sl) (at_ : Int) (w : World) (Q : Value → World → Prop) : vcFn Tryd.prog A_ref05_Disk_Read Tryd.f62 #[.agg #[.slice (d0.a) (d0.len) (d0.cap), .slice (d1.a) (d1.len) (d1.cap), .bool (d2), .int .i64 (d3), .slice (d4.a) (d4.len) (d4.cap)], .int .i64 (at_)] w Q = F_ref05_Disk_Read d0 d1 d2 d3 d4 at_ w Q := by kernel_rfl
theorem F_ref05_Disk_Read_does (d0 : Sl) (d1 : Sl) (d2 : Bool) (d3 : Int) (d4 : Sl) (at_ : Int) (w : World) (Q : Value → World → Prop) (hQ : F_ref05_Disk_Read d0 d1 d2 d3 d4 at_ w Q) : Does Tryd.prog N_ref05_Disk_Read #[.agg #[.slice (d0.a) (d0.len) (d0.cap), .slice (d1.a) (d1.len) (d1.cap), .bool (d2), .int .i64 (d3), .slice (d4.a) (d4.len) (d4.cap)], .int .i64 (at_)] w Q :=
  vcFn_sound noAsk mixed (A := A_ref05_Disk_Read) (by kernel_rfl) Tryd.func62 (Nat.le_of_ble_eq_true (by kernel_rfl)) (by kernel_rfl) ((F_ref05_Disk_Read_eq d0 d1 d2 d3 d4 at_ w Q).mpr hQ)

/- nacelle/nacelleref20.Said -/
def F_ref20_Said (n : Int) (s : ByteArray) (w : World) (Q : Value → World → Prop) : Prop :=
  allocK w (zc Tryd.prog T_api_Entry) T_api_Entry fun a1 w2 =>
  ∀ J5 : Addr → World → Prop, (∀ x3 : Addr, ∀ w4 : World, 
    (ldT (.int .i64) w4.drew (x3) fun x6 => ldT (.int .i64) w4.drew ((x3).add 1) fun x7 => ldT (.int .u32) w4.drew ((x3).add 2) fun x8 => ldT (.int .i64) w4.drew ((x3).add 3) fun x9 =>
    ldT (.int .i64) w4.drew (x3) fun x10 => ldT (.int .i64) w4.drew ((x3).add 1) fun x11 => ldT (.int .u32) w4.drew ((x3).add 2) fun x12 => ldT (.int .i64) w4.drew ((x3).add 3) fun x13 =>
    Does Tryd.prog N_ref20_May #[.agg #[.int .i64 (x10), .int .i64 (x11), .int .u32 (x12), .int .i64 (x13)]] w4.drew fun r14 w15 => ∃ b16 : Bool, r14 = .bool (b16) ∧
    ((#[.int .i64 (x6), .int .i64 (x7), .int .u32 (x8), .int .i64 (x9)] : Array Value).size = 4 ∧ RowIs w15 (x3) #[.int .i64 (x6), .int .i64 (x7), .int .u32 (x8), .int .i64 (x9)]) ∧ cond (b16)
    (ldT (.int .i64) w15 (x3) fun x17 => ldT (.int .i64) w15 ((x3).add 1) fun x18 => ldT (.int .u32) w15 ((x3).add 2) fun x19 => ldT (.int .i64) w15 ((x3).add 3) fun x20 =>
     Does Tryd.prog N_ref20_Sector #[.int .i64 (n), .agg #[.int .i64 (x17), .int .i64 (x18), .int .u32 (x19), .int .i64 (x20)]] w15 fun r21 w22 => ∃ s23 : ByteArray, r21 = .string (s23) ∧
     ((#[.int .i64 (x6), .int .i64 (x7), .int .u32 (x8), .int .i64 (x9)] : Array Value).size = 4 ∧ RowIs w22 (x3) #[.int .i64 (x6), .int .i64 (x7), .int .u32 (x8), .int .i64 (x9)]) ∧ stC w22 (a1) (.int .i64 (x6)) fun w25 => stC w25 ((a1).add 1) (.int .i64 (x7)) fun w26 => stC w26 ((a1).add 2) (.int .u32 (x8)) fun w27 => stC w27 ((a1).add 3) (.int .i64 (x9)) fun w28 =>
     ldT (.int .i64) w28 (a1) fun x29 => ldT (.int .i64) w28 ((a1).add 1) fun x30 => ldT (.int .u32) w28 ((a1).add 2) fun x31 => ldT (.int .i64) w28 ((a1).add 3) fun x32 =>
     Q (.tuple #[.agg #[.int .i64 (x29), .int .i64 (x30), .int .u32 (x31), .int .i64 (x32)], .bool ((s23).toList == (s).toList)]) w28)
    (stC w15 (a1) (.int .i64 (x6)) fun w34 => stC w34 ((a1).add 1) (.int .i64 (x7)) fun w35 => stC w35 ((a1).add 2) (.int .u32 (x8)) fun w36 => stC w36 ((a1).add 3) (.int .i64 (x9)) fun w37 =>
     ldT (.int .i64) w37 (a1) fun x38 => ldT (.int .i64) w37 ((a1).add 1) fun x39 => ldT (.int .u32) w37 ((a1).add 2) fun x40 => ldT (.int .i64) w37 ((a1).add 3) fun x41 =>
     Q (.tuple #[.agg #[.int .i64 (x38), .int .i64 (x39), .int .u32 (x40), .int .i64 (x41)], .bool (false)]) w37)) → J5 x3 w4) →
  idxS (s) (5) fun x42 =>
  idxS (s) (6) fun x43 =>
  slcS (s) (7) (11) fun s44 =>
  idxS (s) (11) fun x45 =>
  (runG (.sl) Tryd.prog w2.drew (convert T_string T_l_uint8 (.string (s44))) fun l46 w47 =>
   (Does Tryd.prog N_ref02_Number #[.slice (l46.a) (l46.len) (l46.cap)] w47 fun r48 w49 => ∃ x50 : Int, r48 = .int .u64 (x50) ∧
    allocK w49 (zc Tryd.prog T_api_Entry) T_api_Entry fun a51 w52 =>
    stC w52 (a51) (.int .i64 (IntKind.wrap .i64 x42)) fun w54 => stC w54 ((a51).add 1) (.int .i64 (IntKind.wrap .i64 x43)) fun w55 => stC w55 ((a51).add 2) (.int .u32 (IntKind.wrap .u32 x50)) fun w56 => stC w56 ((a51).add 3) (.int .i64 (IntKind.wrap .i64 x45)) fun w57 =>
    J5 (a51) w57) ∧
   (allocK w47 (zc Tryd.prog T_api_Entry) T_api_Entry fun a58 w59 =>
    Does Tryd.prog N_ref02_Number #[.slice (l46.a) (l46.len) (l46.cap)] w59 fun r60 w61 => ∃ x62 : Int, r60 = .int .u64 (x62) ∧
    stC w61 (a58) (.int .i64 (IntKind.wrap .i64 x42)) fun w64 => stC w64 ((a58).add 1) (.int .i64 (IntKind.wrap .i64 x43)) fun w65 => stC w65 ((a58).add 2) (.int .u32 (IntKind.wrap .u32 x62)) fun w66 => stC w66 ((a58).add 3) (.int .i64 (IntKind.wrap .i64 x45)) fun w67 =>
    J5 (a58) w67)) ∧
  (allocK w2.drew (zc Tryd.prog T_api_Entry) T_api_Entry fun a68 w69 =>
   runG (.sl) Tryd.prog w69 (convert T_string T_l_uint8 (.string (s44))) fun l70 w71 =>
   Does Tryd.prog N_ref02_Number #[.slice (l70.a) (l70.len) (l70.cap)] w71 fun r72 w73 => ∃ x74 : Int, r72 = .int .u64 (x74) ∧
   stC w73 (a68) (.int .i64 (IntKind.wrap .i64 x42)) fun w76 => stC w76 ((a68).add 1) (.int .i64 (IntKind.wrap .i64 x43)) fun w77 => stC w77 ((a68).add 2) (.int .u32 (IntKind.wrap .u32 x74)) fun w78 => stC w78 ((a68).add 3) (.int .i64 (IntKind.wrap .i64 x45)) fun w79 =>
   J5 (a68) w79)
def A_ref20_Said : Ann := ⟨[], [(2, [(6, .one (.adr))])], [(1, [⟨0, 0, 0, true⟩, ⟨1, 1, 1, true⟩, ⟨2, 2, 3, true⟩, ⟨0, 0, 0, true⟩, ⟨8, 8, 8, true⟩, ⟨16, 16, 24, true⟩, ⟨0, 0, 0, true⟩, ⟨64, 64, 64, true⟩, ⟨128, 0, 192, false⟩, ⟨256, 0, 448, false⟩, ⟨512, 512, 960, true⟩, ⟨0, 0, 0, true⟩, ⟨2048, 2048, 2048, true⟩, ⟨4096, 4096, 6144, true⟩, ⟨9252, 9252, 16383, true⟩, ⟨0, 0, 0, false⟩, ⟨65535, 0, 65535, false⟩]), (2, [⟨0, 0, 0, true⟩, ⟨0, 0, 0, true⟩, ⟨2, 0, 2, false⟩, ⟨4, 4, 6, true⟩, ⟨8, 8, 14, true⟩, ⟨8, 8, 14, true⟩, ⟨56, 0, 62, false⟩, ⟨8, 8, 14, true⟩, ⟨200, 200, 254, true⟩, ⟨264, 264, 510, true⟩, ⟨65, 0, 127, false⟩, ⟨2047, 512, 2047, true⟩])]⟩
theorem F_ref20_Said_eq (n : Int) (s : ByteArray) (w : World) (Q : Value → World → Prop) : vcFn Tryd.prog A_ref20_Said Tryd.f63 #[.int .i64 (n), .string (s)] w Q = F_ref20_Said n s w Q := by kernel_rfl
theorem F_ref20_Said_does (n : Int) (s : ByteArray) (w : World) (Q : Value → World → Prop) (hQ : F_ref20_Said n s w Q) : Does Tryd.prog N_ref20_Said #[.int .i64 (n), .string (s)] w Q :=
  vcFn_sound noAsk mixed (A := A_ref20_Said) (by kernel_rfl) Tryd.func63 (Nat.le_of_ble_eq_true (by kernel_rfl)) (by kernel_rfl) ((F_ref20_Said_eq n s w Q).mpr hQ)

/- nacelle/nacelleref20.Sector -/
def F_ref20_Sector (n : Int) (x0 : Int) (x1 : Int) (x2 : Int) (x3 : Int) (w : World) (Q : Value → World → Prop) : Prop :=
  allocK w (#[.int .i64 (x0), .int .i64 (x1), .int .u32 (x2), .int .i64 (x3)]) T_api_Entry fun a1 w2 =>
  ∀ J5 : ByteArray → World → Prop, (∀ s3 : ByteArray, ∀ w4 : World, 
    (Does Tryd.prog N_ref16_Noughts #[.int .i64 (IntKind.wrap .i64 (60 - ((((s3).size : Nat) : Int))))] w4 fun r6 w7 => ∃ s8 : ByteArray, r6 = .string (s8) ∧
    (((s3).size + (s8).size : Nat) : Int) ≤ 9223372036854775807 ∧
    runG (.sl) Tryd.prog w7 (convert T_string T_l_uint8 (.string (s3 ++ s8))) fun l9 w10 =>
    Does Tryd.prog N_ref03_Seal #[.slice (l9.a) (l9.len) (l9.cap)] w10 fun r11 w12 => ∃ l13 : Sl, r11 = .slice (l13.a) (l13.len) (l13.cap) ∧
    lookS Tryd.prog w12 (convert T_l_uint8 T_string (.slice (l13.a) (l13.len) (l13.cap))) fun s14 =>
    Q (.string (s14)) w12) → J5 s3 w4) →
  ldT (.int .i64) w2.drew (a1) fun x15 =>
  ldT (.int .i64) w2.drew ((a1).add 1) fun x16 =>
  ldT (.int .u32) w2.drew ((a1).add 2) fun x17 =>
  ldT (.int .i64) w2.drew ((a1).add 3) fun x18 =>
  (Does Tryd.prog N_ref02_Put #[.int .u64 (IntKind.wrap .u64 n), .int .i64 (4)] w2.drew fun r19 w20 => ∃ l21 : Sl, r19 = .slice (l21.a) (l21.len) (l21.cap) ∧
   w20.cell? ((a1).add 3) = some (.int .i64 (x18)) ∧ w20.cell? ((a1).add 2) = some (.int .u32 (x17)) ∧ w20.cell? ((a1).add 1) = some (.int .i64 (x16)) ∧ w20.cell? (a1) = some (.int .i64 (x15)) ∧ ∃ s22 : ByteArray, (convert T_l_uint8 T_string (.slice (l21.a) (l21.len) (l21.cap))).run Tryd.prog w20 = .ok (.string (s22)) w20 ∧
   (((((⟨#[65]⟩ : ByteArray))).size + (s22).size : Nat) : Int) ≤ 9223372036854775807 ∧
   (allocK w20 #[.int .u8 (IntKind.wrap .u8 x15), .int .u8 (IntKind.wrap .u8 x16)] T_uint8 fun a23 w24 =>
    (convert T_l_uint8 T_string (.slice (l21.a) (l21.len) (l21.cap))).run Tryd.prog w24 = .ok (.string (s22)) w24 ∧ w24.cell? ((a1).add 3) = some (.int .i64 (x18)) ∧ w24.cell? ((a1).add 2) = some (.int .u32 (x17)) ∧ ∃ s25 : ByteArray, (convert T_l_uint8 T_string (.slice (some (a23)) (2) (2))).run Tryd.prog w24 = .ok (.string (s25)) w24 ∧
    ((((((⟨#[65]⟩ : ByteArray)) ++ s22)).size + (s25).size : Nat) : Int) ≤ 9223372036854775807 ∧
    (Does Tryd.prog N_ref02_Put #[.int .u64 (IntKind.wrap .u64 x17), .int .i64 (4)] w24 fun r26 w27 => ∃ l28 : Sl, r26 = .slice (l28.a) (l28.len) (l28.cap) ∧
     (convert T_l_uint8 T_string (.slice (some (a23)) (2) (2))).run Tryd.prog w27 = .ok (.string (s25)) w27 ∧ (convert T_l_uint8 T_string (.slice (l21.a) (l21.len) (l21.cap))).run Tryd.prog w27 = .ok (.string (s22)) w27 ∧ w27.cell? ((a1).add 3) = some (.int .i64 (x18)) ∧ ∃ s29 : ByteArray, (convert T_l_uint8 T_string (.slice (l28.a) (l28.len) (l28.cap))).run Tryd.prog w27 = .ok (.string (s29)) w27 ∧
     (((((((⟨#[65]⟩ : ByteArray)) ++ s22) ++ s25)).size + (s29).size : Nat) : Int) ≤ 9223372036854775807 ∧
     allocK w27 #[.int .u8 (IntKind.wrap .u8 x18)] T_uint8 fun a30 w31 =>
     (convert T_l_uint8 T_string (.slice (l28.a) (l28.len) (l28.cap))).run Tryd.prog w31 = .ok (.string (s29)) w31 ∧ (convert T_l_uint8 T_string (.slice (some (a23)) (2) (2))).run Tryd.prog w31 = .ok (.string (s25)) w31 ∧ (convert T_l_uint8 T_string (.slice (l21.a) (l21.len) (l21.cap))).run Tryd.prog w31 = .ok (.string (s22)) w31 ∧ ∃ s32 : ByteArray, (convert T_l_uint8 T_string (.slice (some (a30)) (1) (1))).run Tryd.prog w31 = .ok (.string (s32)) w31 ∧
     ((((((((⟨#[65]⟩ : ByteArray)) ++ s22) ++ s25) ++ s29)).size + (s32).size : Nat) : Int) ≤ 9223372036854775807 ∧
     J5 ((((((⟨#[65]⟩ : ByteArray)) ++ s22) ++ s25) ++ s29) ++ s32) w31) ∧
    (allocK w24 #[.int .u8 (IntKind.wrap .u8 x18)] T_uint8 fun a33 w34 =>
     (convert T_l_uint8 T_string (.slice (some (a23)) (2) (2))).run Tryd.prog w34 = .ok (.string (s25)) w34 ∧ (convert T_l_uint8 T_string (.slice (l21.a) (l21.len) (l21.cap))).run Tryd.prog w34 = .ok (.string (s22)) w34 ∧ w34.cell? ((a1).add 2) = some (.int .u32 (x17)) ∧ ∃ s35 : ByteArray, (convert T_l_uint8 T_string (.slice (some (a33)) (1) (1))).run Tryd.prog w34 = .ok (.string (s35)) w34 ∧
     Does Tryd.prog N_ref02_Put #[.int .u64 (IntKind.wrap .u64 x17), .int .i64 (4)] w34 fun r36 w37 => ∃ l38 : Sl, r36 = .slice (l38.a) (l38.len) (l38.cap) ∧
     (convert T_l_uint8 T_string (.slice (some (a33)) (1) (1))).run Tryd.prog w37 = .ok (.string (s35)) w37 ∧ (convert T_l_uint8 T_string (.slice (some (a23)) (2) (2))).run Tryd.prog w37 = .ok (.string (s25)) w37 ∧ (convert T_l_uint8 T_string (.slice (l21.a) (l21.len) (l21.cap))).run Tryd.prog w37 = .ok (.string (s22)) w37 ∧ ∃ s39 : ByteArray, (convert T_l_uint8 T_string (.slice (l38.a) (l38.len) (l38.cap))).run Tryd.prog w37 = .ok (.string (s39)) w37 ∧
     (((((((⟨#[65]⟩ : ByteArray)) ++ s22) ++ s25)).size + (s39).size : Nat) : Int) ≤ 9223372036854775807 ∧
     ((((((((⟨#[65]⟩ : ByteArray)) ++ s22) ++ s25) ++ s39)).size + (s35).size : Nat) : Int) ≤ 9223372036854775807 ∧
     J5 ((((((⟨#[65]⟩ : ByteArray)) ++ s22) ++ s25) ++ s39) ++ s35) w37)) ∧
   (Does Tryd.prog N_ref02_Put #[.int .u64 (IntKind.wrap .u64 x17), .int .i64 (4)] w20 fun r40 w41 => ∃ l42 : Sl, r40 = .slice (l42.a) (l42.len) (l42.cap) ∧
    (convert T_l_uint8 T_string (.slice (l21.a) (l21.len) (l21.cap))).run Tryd.prog w41 = .ok (.string (s22)) w41 ∧ w41.cell? ((a1).add 3) = some (.int .i64 (x18)) ∧ w41.cell? ((a1).add 1) = some (.int .i64 (x16)) ∧ w41.cell? (a1) = some (.int .i64 (x15)) ∧ ∃ s43 : ByteArray, (convert T_l_uint8 T_string (.slice (l42.a) (l42.len) (l42.cap))).run Tryd.prog w41 = .ok (.string (s43)) w41 ∧
    (allocK w41 #[.int .u8 (IntKind.wrap .u8 x15), .int .u8 (IntKind.wrap .u8 x16)] T_uint8 fun a44 w45 =>
     (convert T_l_uint8 T_string (.slice (l42.a) (l42.len) (l42.cap))).run Tryd.prog w45 = .ok (.string (s43)) w45 ∧ (convert T_l_uint8 T_string (.slice (l21.a) (l21.len) (l21.cap))).run Tryd.prog w45 = .ok (.string (s22)) w45 ∧ w45.cell? ((a1).add 3) = some (.int .i64 (x18)) ∧ ∃ s46 : ByteArray, (convert T_l_uint8 T_string (.slice (some (a44)) (2) (2))).run Tryd.prog w45 = .ok (.string (s46)) w45 ∧
     ((((((⟨#[65]⟩ : ByteArray)) ++ s22)).size + (s46).size : Nat) : Int) ≤ 9223372036854775807 ∧
     (((((((⟨#[65]⟩ : ByteArray)) ++ s22) ++ s46)).size + (s43).size : Nat) : Int) ≤ 9223372036854775807 ∧
     allocK w45 #[.int .u8 (IntKind.wrap .u8 x18)] T_uint8 fun a47 w48 =>
     (convert T_l_uint8 T_string (.slice (some (a44)) (2) (2))).run Tryd.prog w48 = .ok (.string (s46)) w48 ∧ (convert T_l_uint8 T_string (.slice (l42.a) (l42.len) (l42.cap))).run Tryd.prog w48 = .ok (.string (s43)) w48 ∧ (convert T_l_uint8 T_string (.slice (l21.a) (l21.len) (l21.cap))).run Tryd.prog w48 = .ok (.string (s22)) w48 ∧ ∃ s49 : ByteArray, (convert T_l_uint8 T_string (.slice (some (a47)) (1) (1))).run Tryd.prog w48 = .ok (.string (s49)) w48 ∧
     ((((((((⟨#[65]⟩ : ByteArray)) ++ s22) ++ s46) ++ s43)).size + (s49).size : Nat) : Int) ≤ 9223372036854775807 ∧
     J5 ((((((⟨#[65]⟩ : ByteArray)) ++ s22) ++ s46) ++ s43) ++ s49) w48) ∧
    (allocK w41 #[.int .u8 (IntKind.wrap .u8 x18)] T_uint8 fun a50 w51 =>
     (convert T_l_uint8 T_string (.slice (l42.a) (l42.len) (l42.cap))).run Tryd.prog w51 = .ok (.string (s43)) w51 ∧ (convert T_l_uint8 T_string (.slice (l21.a) (l21.len) (l21.cap))).run Tryd.prog w51 = .ok (.string (s22)) w51 ∧ w51.cell? ((a1).add 1) = some (.int .i64 (x16)) ∧ w51.cell? (a1) = some (.int .i64 (x15)) ∧ ∃ s52 : ByteArray, (convert T_l_uint8 T_string (.slice (some (a50)) (1) (1))).run Tryd.prog w51 = .ok (.string (s52)) w51 ∧
     allocK w51 #[.int .u8 (IntKind.wrap .u8 x15), .int .u8 (IntKind.wrap .u8 x16)] T_uint8 fun a53 w54 =>
     (convert T_l_uint8 T_string (.slice (some (a50)) (1) (1))).run Tryd.prog w54 = .ok (.string (s52)) w54 ∧ (convert T_l_uint8 T_string (.slice (l42.a) (l42.len) (l42.cap))).run Tryd.prog w54 = .ok (.string (s43)) w54 ∧ (convert T_l_uint8 T_string (.slice (l21.a) (l21.len) (l21.cap))).run Tryd.prog w54 = .ok (.string (s22)) w54 ∧ ∃ s55 : ByteArray, (convert T_l_uint8 T_string (.slice (some (a53)) (2) (2))).run Tryd.prog w54 = .ok (.string (s55)) w54 ∧
     ((((((⟨#[65]⟩ : ByteArray)) ++ s22)).size + (s55).size : Nat) : Int) ≤ 9223372036854775807 ∧
     (((((((⟨#[65]⟩ : ByteArray)) ++ s22) ++ s55)).size + (s43).size : Nat) : Int) ≤ 9223372036854775807 ∧
     ((((((((⟨#[65]⟩ : ByteArray)) ++ s22) ++ s55) ++ s43)).size + (s52).size : Nat) : Int) ≤ 9223372036854775807 ∧
     J5 ((((((⟨#[65]⟩ : ByteArray)) ++ s22) ++ s55) ++ s43) ++ s52) w54)) ∧
   (allocK w20 #[.int .u8 (IntKind.wrap .u8 x18)] T_uint8 fun a56 w57 =>
    (convert T_l_uint8 T_string (.slice (l21.a) (l21.len) (l21.cap))).run Tryd.prog w57 = .ok (.string (s22)) w57 ∧ w57.cell? ((a1).add 2) = some (.int .u32 (x17)) ∧ w57.cell? ((a1).add 1) = some (.int .i64 (x16)) ∧ w57.cell? (a1) = some (.int .i64 (x15)) ∧ ∃ s58 : ByteArray, (convert T_l_uint8 T_string (.slice (some (a56)) (1) (1))).run Tryd.prog w57 = .ok (.string (s58)) w57 ∧
    (allocK w57 #[.int .u8 (IntKind.wrap .u8 x15), .int .u8 (IntKind.wrap .u8 x16)] T_uint8 fun a59 w60 =>
     (convert T_l_uint8 T_string (.slice (some (a56)) (1) (1))).run Tryd.prog w60 = .ok (.string (s58)) w60 ∧ (convert T_l_uint8 T_string (.slice (l21.a) (l21.len) (l21.cap))).run Tryd.prog w60 = .ok (.string (s22)) w60 ∧ w60.cell? ((a1).add 2) = some (.int .u32 (x17)) ∧ ∃ s61 : ByteArray, (convert T_l_uint8 T_string (.slice (some (a59)) (2) (2))).run Tryd.prog w60 = .ok (.string (s61)) w60 ∧
     ((((((⟨#[65]⟩ : ByteArray)) ++ s22)).size + (s61).size : Nat) : Int) ≤ 9223372036854775807 ∧
     Does Tryd.prog N_ref02_Put #[.int .u64 (IntKind.wrap .u64 x17), .int .i64 (4)] w60 fun r62 w63 => ∃ l64 : Sl, r62 = .slice (l64.a) (l64.len) (l64.cap) ∧
     (convert T_l_uint8 T_string (.slice (some (a59)) (2) (2))).run Tryd.prog w63 = .ok (.string (s61)) w63 ∧ (convert T_l_uint8 T_string (.slice (some (a56)) (1) (1))).run Tryd.prog w63 = .ok (.string (s58)) w63 ∧ (convert T_l_uint8 T_string (.slice (l21.a) (l21.len) (l21.cap))).run Tryd.prog w63 = .ok (.string (s22)) w63 ∧ ∃ s65 : ByteArray, (convert T_l_uint8 T_string (.slice (l64.a) (l64.len) (l64.cap))).run Tryd.prog w63 = .ok (.string (s65)) w63 ∧
     (((((((⟨#[65]⟩ : ByteArray)) ++ s22) ++ s61)).size + (s65).size : Nat) : Int) ≤ 9223372036854775807 ∧
     ((((((((⟨#[65]⟩ : ByteArray)) ++ s22) ++ s61) ++ s65)).size + (s58).size : Nat) : Int) ≤ 9223372036854775807 ∧
     J5 ((((((⟨#[65]⟩ : ByteArray)) ++ s22) ++ s61) ++ s65) ++ s58) w63) ∧
    (Does Tryd.prog N_ref02_Put #[.int .u64 (IntKind.wrap .u64 x17), .int .i64 (4)] w57 fun r66 w67 => ∃ l68 : Sl, r66 = .slice (l68.a) (l68.len) (l68.cap) ∧
     (convert T_l_uint8 T_string (.slice (some (a56)) (1) (1))).run Tryd.prog w67 = .ok (.string (s58)) w67 ∧ (convert T_l_uint8 T_string (.slice (l21.a) (l21.len) (l21.cap))).run Tryd.prog w67 = .ok (.string (s22)) w67 ∧ w67.cell? ((a1).add 1) = some (.int .i64 (x16)) ∧ w67.cell? (a1) = some (.int .i64 (x15)) ∧ ∃ s69 : ByteArray, (convert T_l_uint8 T_string (.slice (l68.a) (l68.len) (l68.cap))).run Tryd.prog w67 = .ok (.string (s69)) w67 ∧
     allocK w67 #[.int .u8 (IntKind.wrap .u8 x15), .int .u8 (IntKind.wrap .u8 x16)] T_uint8 fun a70 w71 =>
     (convert T_l_uint8 T_string (.slice (l68.a) (l68.len) (l68.cap))).run Tryd.prog w71 = .ok (.string (s69)) w71 ∧ (convert T_l_uint8 T_string (.slice (some (a56)) (1) (1))).run Tryd.prog w71 = .ok (.string (s58)) w71 ∧ (convert T_l_uint8 T_string (.slice (l21.a) (l21.len) (l21.cap))).run Tryd.prog w71 = .ok (.string (s22)) w71 ∧ ∃ s72 : ByteArray, (convert T_l_uint8 T_string (.slice (some (a70)) (2) (2))).run Tryd.prog w71 = .ok (.string (s72)) w71 ∧
     ((((((⟨#[65]⟩ : ByteArray)) ++ s22)).size + (s72).size : Nat) : Int) ≤ 9223372036854775807 ∧
     (((((((⟨#[65]⟩ : ByteArray)) ++ s22) ++ s72)).size + (s69).size : Nat) : Int) ≤ 9223372036854775807 ∧
     ((((((((⟨#[65]⟩ : ByteArray)) ++ s22) ++ s72) ++ s69)).size + (s58).size : Nat) : Int) ≤ 9223372036854775807 ∧
     J5 ((((((⟨#[65]⟩ : ByteArray)) ++ s22) ++ s72) ++ s69) ++ s58) w71))) ∧
  (allocK w2.drew #[.int .u8 (IntKind.wrap .u8 x15), .int .u8 (IntKind.wrap .u8 x16)] T_uint8 fun a73 w74 =>
   w74.cell? ((a1).add 3) = some (.int .i64 (x18)) ∧ w74.cell? ((a1).add 2) = some (.int .u32 (x17)) ∧ ∃ s75 : ByteArray, (convert T_l_uint8 T_string (.slice (some (a73)) (2) (2))).run Tryd.prog w74 = .ok (.string (s75)) w74 ∧
   (Does Tryd.prog N_ref02_Put #[.int .u64 (IntKind.wrap .u64 n), .int .i64 (4)] w74 fun r76 w77 => ∃ l78 : Sl, r76 = .slice (l78.a) (l78.len) (l78.cap) ∧
    (convert T_l_uint8 T_string (.slice (some (a73)) (2) (2))).run Tryd.prog w77 = .ok (.string (s75)) w77 ∧ w77.cell? ((a1).add 3) = some (.int .i64 (x18)) ∧ w77.cell? ((a1).add 2) = some (.int .u32 (x17)) ∧ ∃ s79 : ByteArray, (convert T_l_uint8 T_string (.slice (l78.a) (l78.len) (l78.cap))).run Tryd.prog w77 = .ok (.string (s79)) w77 ∧
    (((((⟨#[65]⟩ : ByteArray))).size + (s79).size : Nat) : Int) ≤ 9223372036854775807 ∧
    ((((((⟨#[65]⟩ : ByteArray)) ++ s79)).size + (s75).size : Nat) : Int) ≤ 9223372036854775807 ∧
    (Does Tryd.prog N_ref02_Put #[.int .u64 (IntKind.wrap .u64 x17), .int .i64 (4)] w77 fun r80 w81 => ∃ l82 : Sl, r80 = .slice (l82.a) (l82.len) (l82.cap) ∧
     (convert T_l_uint8 T_string (.slice (l78.a) (l78.len) (l78.cap))).run Tryd.prog w81 = .ok (.string (s79)) w81 ∧ (convert T_l_uint8 T_string (.slice (some (a73)) (2) (2))).run Tryd.prog w81 = .ok (.string (s75)) w81 ∧ w81.cell? ((a1).add 3) = some (.int .i64 (x18)) ∧ ∃ s83 : ByteArray, (convert T_l_uint8 T_string (.slice (l82.a) (l82.len) (l82.cap))).run Tryd.prog w81 = .ok (.string (s83)) w81 ∧
     (((((((⟨#[65]⟩ : ByteArray)) ++ s79) ++ s75)).size + (s83).size : Nat) : Int) ≤ 9223372036854775807 ∧
     allocK w81 #[.int .u8 (IntKind.wrap .u8 x18)] T_uint8 fun a84 w85 =>
     (convert T_l_uint8 T_string (.slice (l82.a) (l82.len) (l82.cap))).run Tryd.prog w85 = .ok (.string (s83)) w85 ∧ (convert T_l_uint8 T_string (.slice (l78.a) (l78.len) (l78.cap))).run Tryd.prog w85 = .ok (.string (s79)) w85 ∧ (convert T_l_uint8 T_string (.slice (some (a73)) (2) (2))).run Tryd.prog w85 = .ok (.string (s75)) w85 ∧ ∃ s86 : ByteArray, (convert T_l_uint8 T_string (.slice (some (a84)) (1) (1))).run Tryd.prog w85 = .ok (.string (s86)) w85 ∧
     ((((((((⟨#[65]⟩ : ByteArray)) ++ s79) ++ s75) ++ s83)).size + (s86).size : Nat) : Int) ≤ 9223372036854775807 ∧
     J5 ((((((⟨#[65]⟩ : ByteArray)) ++ s79) ++ s75) ++ s83) ++ s86) w85) ∧
    (allocK w77 #[.int .u8 (IntKind.wrap .u8 x18)] T_uint8 fun a87 w88 =>
     (convert T_l_uint8 T_string (.slice (l78.a) (l78.len) (l78.cap))).run Tryd.prog w88 = .ok (.string (s79)) w88 ∧ (convert T_l_uint8 T_string (.slice (some (a73)) (2) (2))).run Tryd.prog w88 = .ok (.string (s75)) w88 ∧ w88.cell? ((a1).add 2) = some (.int .u32 (x17)) ∧ ∃ s89 : ByteArray, (convert T_l_uint8 T_string (.slice (some (a87)) (1) (1))).run Tryd.prog w88 = .ok (.string (s89)) w88 ∧
     Does Tryd.prog N_ref02_Put #[.int .u64 (IntKind.wrap .u64 x17), .int .i64 (4)] w88 fun r90 w91 => ∃ l92 : Sl, r90 = .slice (l92.a) (l92.len) (l92.cap) ∧
     (convert T_l_uint8 T_string (.slice (some (a87)) (1) (1))).run Tryd.prog w91 = .ok (.string (s89)) w91 ∧ (convert T_l_uint8 T_string (.slice (l78.a) (l78.len) (l78.cap))).run Tryd.prog w91 = .ok (.string (s79)) w91 ∧ (convert T_l_uint8 T_string (.slice (some (a73)) (2) (2))).run Tryd.prog w91 = .ok (.string (s75)) w91 ∧ ∃ s93 : ByteArray, (convert T_l_uint8 T_string (.slice (l92.a) (l92.len) (l92.cap))).run Tryd.prog w91 = .ok (.string (s93)) w91 ∧
     (((((((⟨#[65]⟩ : ByteArray)) ++ s79) ++ s75)).size + (s93).size : Nat) : Int) ≤ 9223372036854775807 ∧
     ((((((((⟨#[65]⟩ : ByteArray)) ++ s79) ++ s75) ++ s93)).size + (s89).size : Nat) : Int) ≤ 9223372036854775807 ∧
     J5 ((((((⟨#[65]⟩ : ByteArray)) ++ s79) ++ s75) ++ s93) ++ s89) w91)) ∧
   (allocK w74 #[.int .u8 (IntKind.wrap .u8 x18)] T_uint8 fun a94 w95 =>
    (convert T_l_uint8 T_string (.slice (some (a73)) (2) (2))).run Tryd.prog w95 = .ok (.string (s75)) w95 ∧ w95.cell? ((a1).add 2) = some (.int .u32 (x17)) ∧ ∃ s96 : ByteArray, (convert T_l_uint8 T_string (.slice (some (a94)) (1) (1))).run Tryd.prog w95 = .ok (.string (s96)) w95 ∧
    Does Tryd.prog N_ref02_Put #[.int .u64 (IntKind.wrap .u64 n), .int .i64 (4)] w95 fun r97 w98 => ∃ l99 : Sl, r97 = .slice (l99.a) (l99.len) (l99.cap) ∧
    (convert T_l_uint8 T_string (.slice (some (a94)) (1) (1))).run Tryd.prog w98 = .ok (.string (s96)) w98 ∧ (convert T_l_uint8 T_string (.slice (some (a73)) (2) (2))).run Tryd.prog w98 = .ok (.string (s75)) w98 ∧ w98.cell? ((a1).add 2) = some (.int .u32 (x17)) ∧ ∃ s100 : ByteArray, (convert T_l_uint8 T_string (.slice (l99.a) (l99.len) (l99.cap))).run Tryd.prog w98 = .ok (.string (s100)) w98 ∧
    (((((⟨#[65]⟩ : ByteArray))).size + (s100).size : Nat) : Int) ≤ 9223372036854775807 ∧
    ((((((⟨#[65]⟩ : ByteArray)) ++ s100)).size + (s75).size : Nat) : Int) ≤ 9223372036854775807 ∧
    Does Tryd.prog N_ref02_Put #[.int .u64 (IntKind.wrap .u64 x17), .int .i64 (4)] w98 fun r101 w102 => ∃ l103 : Sl, r101 = .slice (l103.a) (l103.len) (l103.cap) ∧
    (convert T_l_uint8 T_string (.slice (l99.a) (l99.len) (l99.cap))).run Tryd.prog w102 = .ok (.string (s100)) w102 ∧ (convert T_l_uint8 T_string (.slice (some (a94)) (1) (1))).run Tryd.prog w102 = .ok (.string (s96)) w102 ∧ (convert T_l_uint8 T_string (.slice (some (a73)) (2) (2))).run Tryd.prog w102 = .ok (.string (s75)) w102 ∧ ∃ s104 : ByteArray, (convert T_l_uint8 T_string (.slice (l103.a) (l103.len) (l103.cap))).run Tryd.prog w102 = .ok (.string (s104)) w102 ∧
    (((((((⟨#[65]⟩ : ByteArray)) ++ s100) ++ s75)).size + (s104).size : Nat) : Int) ≤ 9223372036854775807 ∧
    ((((((((⟨#[65]⟩ : ByteArray)) ++ s100) ++ s75) ++ s104)).size + (s96).size : Nat) : Int) ≤ 9223372036854775807 ∧
    J5 ((((((⟨#[65]⟩ : ByteArray)) ++ s100) ++ s75) ++ s104) ++ s96) w102)) ∧
  (allocK w2.drew #[.int .u8 (IntKind.wrap .u8 x18)] T_uint8 fun a105 w106 =>
   w106.cell? ((a1).add 2) = some (.int .u32 (x17)) ∧ w106.cell? ((a1).add 1) = some (.int .i64 (x16)) ∧ w106.cell? (a1) = some (.int .i64 (x15)) ∧ ∃ s107 : ByteArray, (convert T_l_uint8 T_string (.slice (some (a105)) (1) (1))).run Tryd.prog w106 = .ok (.string (s107)) w106 ∧
   (Does Tryd.prog N_ref02_Put #[.int .u64 (IntKind.wrap .u64 n), .int .i64 (4)] w106 fun r108 w109 => ∃ l110 : Sl, r108 = .slice (l110.a) (l110.len) (l110.cap) ∧
    (convert T_l_uint8 T_string (.slice (some (a105)) (1) (1))).run Tryd.prog w109 = .ok (.string (s107)) w109 ∧ w109.cell? ((a1).add 2) = some (.int .u32 (x17)) ∧ w109.cell? ((a1).add 1) = some (.int .i64 (x16)) ∧ w109.cell? (a1) = some (.int .i64 (x15)) ∧ ∃ s111 : ByteArray, (convert T_l_uint8 T_string (.slice (l110.a) (l110.len) (l110.cap))).run Tryd.prog w109 = .ok (.string (s111)) w109 ∧
    (((((⟨#[65]⟩ : ByteArray))).size + (s111).size : Nat) : Int) ≤ 9223372036854775807 ∧
    (allocK w109 #[.int .u8 (IntKind.wrap .u8 x15), .int .u8 (IntKind.wrap .u8 x16)] T_uint8 fun a112 w113 =>
     (convert T_l_uint8 T_string (.slice (l110.a) (l110.len) (l110.cap))).run Tryd.prog w113 = .ok (.string (s111)) w113 ∧ (convert T_l_uint8 T_string (.slice (some (a105)) (1) (1))).run Tryd.prog w113 = .ok (.string (s107)) w113 ∧ w113.cell? ((a1).add 2) = some (.int .u32 (x17)) ∧ ∃ s114 : ByteArray, (convert T_l_uint8 T_string (.slice (some (a112)) (2) (2))).run Tryd.prog w113 = .ok (.string (s114)) w113 ∧
     ((((((⟨#[65]⟩ : ByteArray)) ++ s111)).size + (s114).size : Nat) : Int) ≤ 9223372036854775807 ∧
     Does Tryd.prog N_ref02_Put #[.int .u64 (IntKind.wrap .u64 x17), .int .i64 (4)] w113 fun r115 w116 => ∃ l117 : Sl, r115 = .slice (l117.a) (l117.len) (l117.cap) ∧
     (convert T_l_uint8 T_string (.slice (some (a112)) (2) (2))).run Tryd.prog w116 = .ok (.string (s114)) w116 ∧ (convert T_l_uint8 T_string (.slice (l110.a) (l110.len) (l110.cap))).run Tryd.prog w116 = .ok (.string (s111)) w116 ∧ (convert T_l_uint8 T_string (.slice (some (a105)) (1) (1))).run Tryd.prog w116 = .ok (.string (s107)) w116 ∧ ∃ s118 : ByteArray, (convert T_l_uint8 T_string (.slice (l117.a) (l117.len) (l117.cap))).run Tryd.prog w116 = .ok (.string (s118)) w116 ∧
     (((((((⟨#[65]⟩ : ByteArray)) ++ s111) ++ s114)).size + (s118).size : Nat) : Int) ≤ 9223372036854775807 ∧
     ((((((((⟨#[65]⟩ : ByteArray)) ++ s111) ++ s114) ++ s118)).size + (s107).size : Nat) : Int) ≤ 9223372036854775807 ∧
     J5 ((((((⟨#[65]⟩ : ByteArray)) ++ s111) ++ s114) ++ s118) ++ s107) w116) ∧
    (Does Tryd.prog N_ref02_Put #[.int .u64 (IntKind.wrap .u64 x17), .int .i64 (4)] w109 fun r119 w120 => ∃ l121 : Sl, r119 = .slice (l121.a) (l121.len) (l121.cap) ∧
     (convert T_l_uint8 T_string (.slice (l110.a) (l110.len) (l110.cap))).run Tryd.prog w120 = .ok (.string (s111)) w120 ∧ (convert T_l_uint8 T_string (.slice (some (a105)) (1) (1))).run Tryd.prog w120 = .ok (.string (s107)) w120 ∧ w120.cell? ((a1).add 1) = some (.int .i64 (x16)) ∧ w120.cell? (a1) = some (.int .i64 (x15)) ∧ ∃ s122 : ByteArray, (convert T_l_uint8 T_string (.slice (l121.a) (l121.len) (l121.cap))).run Tryd.prog w120 = .ok (.string (s122)) w120 ∧
     allocK w120 #[.int .u8 (IntKind.wrap .u8 x15), .int .u8 (IntKind.wrap .u8 x16)] T_uint8 fun a123 w124 =>
     (convert T_l_uint8 T_string (.slice (l121.a) (l121.len) (l121.cap))).run Tryd.prog w124 = .ok (.string (s122)) w124 ∧ (convert T_l_uint8 T_string (.slice (l110.a) (l110.len) (l110.cap))).run Tryd.prog w124 = .ok (.string (s111)) w124 ∧ (convert T_l_uint8 T_string (.slice (some (a105)) (1) (1))).run Tryd.prog w124 = .ok (.string (s107)) w124 ∧ ∃ s125 : ByteArray, (convert T_l_uint8 T_string (.slice (some (a123)) (2) (2))).run Tryd.prog w124 = .ok (.string (s125)) w124 ∧
     ((((((⟨#[65]⟩ : ByteArray)) ++ s111)).size + (s125).size : Nat) : Int) ≤ 9223372036854775807 ∧
     (((((((⟨#[65]⟩ : ByteArray)) ++ s111) ++ s125)).size + (s122).size : Nat) : Int) ≤ 9223372036854775807 ∧
     ((((((((⟨#[65]⟩ : ByteArray)) ++ s111) ++ s125) ++ s122)).size + (s107).size : Nat) : Int) ≤ 9223372036854775807 ∧
     J5 ((((((⟨#[65]⟩ : ByteArray)) ++ s111) ++ s125) ++ s122) ++ s107) w124)) ∧
   (allocK w106 #[.int .u8 (IntKind.wrap .u8 x15), .int .u8 (IntKind.wrap .u8 x16)] T_uint8 fun a126 w127 =>
    (convert T_l_uint8 T_string (.slice (some (a105)) (1) (1))).run Tryd.prog w127 = .ok (.string (s107)) w127 ∧ w127.cell? ((a1).add 2) = some (.int .u32 (x17)) ∧ ∃ s128 : ByteArray, (convert T_l_uint8 T_string (.slice (some (a126)) (2) (2))).run Tryd.prog w127 = .ok (.string (s128)) w127 ∧
    Does Tryd.prog N_ref02_Put #[.int .u64 (IntKind.wrap .u64 n), .int .i64 (4)] w127 fun r129 w130 => ∃ l131 : Sl, r129 = .slice (l131.a) (l131.len) (l131.cap) ∧
    (convert T_l_uint8 T_string (.slice (some (a126)) (2) (2))).run Tryd.prog w130 = .ok (.string (s128)) w130 ∧ (convert T_l_uint8 T_string (.slice (some (a105)) (1) (1))).run Tryd.prog w130 = .ok (.string (s107)) w130 ∧ w130.cell? ((a1).add 2) = some (.int .u32 (x17)) ∧ ∃ s132 : ByteArray, (convert T_l_uint8 T_string (.slice (l131.a) (l131.len) (l131.cap))).run Tryd.prog w130 = .ok (.string (s132)) w130 ∧
    (((((⟨#[65]⟩ : ByteArray))).size + (s132).size : Nat) : Int) ≤ 9223372036854775807 ∧
    ((((((⟨#[65]⟩ : ByteArray)) ++ s132)).size + (s128).size : Nat) : Int) ≤ 9223372036854775807 ∧
    Does Tryd.prog N_ref02_Put #[.int .u64 (IntKind.wrap .u64 x17), .int .i64 (4)] w130 fun r133 w134 => ∃ l135 : Sl, r133 = .slice (l135.a) (l135.len) (l135.cap) ∧
    (convert T_l_uint8 T_string (.slice (l131.a) (l131.len) (l131.cap))).run Tryd.prog w134 = .ok (.string (s132)) w134 ∧ (convert T_l_uint8 T_string (.slice (some (a126)) (2) (2))).run Tryd.prog w134 = .ok (.string (s128)) w134 ∧ (convert T_l_uint8 T_string (.slice (some (a105)) (1) (1))).run Tryd.prog w134 = .ok (.string (s107)) w134 ∧ ∃ s136 : ByteArray, (convert T_l_uint8 T_string (.slice (l135.a) (l135.len) (l135.cap))).run Tryd.prog w134 = .ok (.string (s136)) w134 ∧
    (((((((⟨#[65]⟩ : ByteArray)) ++ s132) ++ s128)).size + (s136).size : Nat) : Int) ≤ 9223372036854775807 ∧
    ((((((((⟨#[65]⟩ : ByteArray)) ++ s132) ++ s128) ++ s136)).size + (s107).size : Nat) : Int) ≤ 9223372036854775807 ∧
    J5 ((((((⟨#[65]⟩ : ByteArray)) ++ s132) ++ s128) ++ s136) ++ s107) w134))
def A_ref20_Sector : Ann := ⟨[], [(2, [(5, .one (.str))])], [(1, [⟨0, 0, 0, true⟩, ⟨1, 1, 1, true⟩, ⟨2, 0, 3, false⟩, ⟨4, 4, 7, true⟩, ⟨8, 8, 15, true⟩, ⟨0, 0, 0, true⟩, ⟨32, 32, 32, true⟩, ⟨64, 64, 96, true⟩, ⟨0, 0, 0, true⟩, ⟨256, 256, 256, true⟩, ⟨512, 512, 768, true⟩, ⟨1152, 0, 2016, false⟩, ⟨2048, 2048, 4064, true⟩, ⟨4112, 4112, 8191, true⟩, ⟨0, 0, 0, true⟩, ⟨16384, 16384, 16384, true⟩, ⟨32768, 32768, 49152, true⟩, ⟨65540, 0, 114695, false⟩, ⟨131072, 131072, 245767, true⟩, ⟨270336, 270336, 524287, true⟩, ⟨0, 0, 0, true⟩, ⟨1048576, 1048576, 1048576, true⟩, ⟨2097152, 2097152, 3145728, true⟩, ⟨4194304, 0, 7340032, false⟩, ⟨8388608, 8388608, 15728640, true⟩, ⟨17301504, 17301504, 33554431, true⟩, ⟨67108863, 33554432, 67108863, true⟩])]⟩
theorem F_ref20_Sector_eq (n : Int) (x0 : Int) (x1 : Int) (x2 : Int) (x3 : Int) (w : World) (Q : Value → World → Prop) : vcFn Tryd.prog A_ref20_Sector Tryd.f64 #[.int .i64 (n), .agg #[.int .i64 (x0), .int .i64 (x1), .int .u32 (x2), .int .i64 (x3)]] w Q = F_ref20_Sector n x0 x1 x2 x3 w Q := by kernel_rfl
theorem F_ref20_Sector_does (n : Int) (x0 : Int) (x1 : Int) (x2 : Int) (x3 : Int) (w : World) (Q : Value → World → Prop) (hQ : F_ref20_Sector n x0 x1 x2 x3 w Q) : Does Tryd.prog N_ref20_Sector #[.int .i64 (n), .agg #[.int .i64 (x0), .int .i64 (x1), .int .u32 (x2), .int .i64 (x3)]] w Q :=
  vcFn_sound noAsk mixed (A := A_ref20_Sector) (by kernel_rfl) Tryd.func64 (Nat.le_of_ble_eq_true (by kernel_rfl)) (by kernel_rfl) ((F_ref20_Sector_eq n x0 x1 x2 x3 w Q).mpr hQ)

/- (nacelle/nacelleref05.Disk).Flush -/
def F_ref05_Disk_Flush (d0 : Sl) (d1 : Sl) (d2 : Bool) (d3 : Int) (d4 : Sl) (w : World) (Q : Value → World → Prop) : Prop :=
  allocK w (#[.slice (d0.a) (d0.len) (d0.cap), .slice (d1.a) (d1.len) (d1.cap), .bool (d2), .int .i64 (d3), .slice (d4.a) (d4.len) (d4.cap)]) T_ref05_Disk fun a1 w2 =>
  allocK w2 (zc Tryd.prog T_ref05_Disk) T_ref05_Disk fun a3 w4 =>
  ldT (.sl) w4 (a1) fun l5 => ldT (.sl) w4 ((a1).add 1) fun l6 => ldT (.bool) w4 ((a1).add 2) fun b7 => ldT (.int .i64) w4 ((a1).add 3) fun x8 => ldT (.sl) w4 ((a1).add 4) fun l9 =>
  Does Tryd.prog N_ref05_Disk_step #[.agg #[.slice (l5.a) (l5.len) (l5.cap), .slice (l6.a) (l6.len) (l6.cap), .bool (b7), .int .i64 (x8), .slice (l9.a) (l9.len) (l9.cap)]] w4 fun r10 w11 => ∃ l12 : Sl, ∃ l13 : Sl, ∃ b14 : Bool, ∃ x15 : Int, ∃ l16 : Sl, ∃ b17 : Bool, r10 = .tuple #[.agg #[.slice (l12.a) (l12.len) (l12.cap), .slice (l13.a) (l13.len) (l13.cap), .bool (b14), .int .i64 (x15), .slice (l16.a) (l16.len) (l16.cap)], .bool (b17)] ∧
  stC w11 (a1) (.slice (l12.a) (l12.len) (l12.cap)) fun w19 => stC w19 ((a1).add 1) (.slice (l13.a) (l13.len) (l13.cap)) fun w20 => stC w20 ((a1).add 2) (.bool (b14)) fun w21 => stC w21 ((a1).add 3) (.int .i64 (x15)) fun w22 => stC w22 ((a1).add 4) (.slice (l16.a) (l16.len) (l16.cap)) fun w23 =>
  cond (!b17)
  (ldT (.sl) w23 (a1) fun l24 => ldT (.sl) w23 ((a1).add 1) fun l25 => ldT (.bool) w23 ((a1).add 2) fun b26 => ldT (.int .i64) w23 ((a1).add 3) fun x27 => ldT (.sl) w23 ((a1).add 4) fun l28 =>
   stC w23 (a3) (.slice (l24.a) (l24.len) (l24.cap)) fun w30 => stC w30 ((a3).add 1) (.slice (l25.a) (l25.len) (l25.cap)) fun w31 => stC w31 ((a3).add 2) (.bool (b26)) fun w32 => stC w32 ((a3).add 3) (.int .i64 (x27)) fun w33 => stC w33 ((a3).add 4) (.slice (l28.a) (l28.len) (l28.cap)) fun w34 =>
   ldT (.sl) w34 (a3) fun l35 => ldT (.sl) w34 ((a3).add 1) fun l36 => ldT (.bool) w34 ((a3).add 2) fun b37 => ldT (.int .i64) w34 ((a3).add 3) fun x38 => ldT (.sl) w34 ((a3).add 4) fun l39 =>
   Q (.tuple #[.agg #[.slice (l35.a) (l35.len) (l35.cap), .slice (l36.a) (l36.len) (l36.cap), .bool (b37), .int .i64 (x38), .slice (l39.a) (l39.len) (l39.cap)], .int .i64 (9)]) w34)
  (ldT (.sl) w23 (a1) fun l40 => ldT (.sl) w23 ((a1).add 1) fun l41 => ldT (.bool) w23 ((a1).add 2) fun b42 => ldT (.int .i64) w23 ((a1).add 3) fun x43 => ldT (.sl) w23 ((a1).add 4) fun l44 =>
   Does Tryd.prog N_ref05_Disk_laid #[.agg #[.slice (l40.a) (l40.len) (l40.cap), .slice (l41.a) (l41.len) (l41.cap), .bool (b42), .int .i64 (x43), .slice (l44.a) (l44.len) (l44.cap)], .bool (true), .slice (none) (0) (0)] w23 fun r45 w46 => ∃ l47 : Sl, ∃ l48 : Sl, ∃ b49 : Bool, ∃ x50 : Int, ∃ l51 : Sl, r45 = .agg #[.slice (l47.a) (l47.len) (l47.cap), .slice (l48.a) (l48.len) (l48.cap), .bool (b49), .int .i64 (x50), .slice (l51.a) (l51.len) (l51.cap)] ∧
   stC w46 (a3) (.slice (l47.a) (l47.len) (l47.cap)) fun w53 => stC w53 ((a3).add 1) (.slice (l48.a) (l48.len) (l48.cap)) fun w54 => stC w54 ((a3).add 2) (.bool (b49)) fun w55 => stC w55 ((a3).add 3) (.int .i64 (x50)) fun w56 => stC w56 ((a3).add 4) (.slice (l51.a) (l51.len) (l51.cap)) fun w57 =>
   ldT (.sl) w57 (a3) fun l58 => ldT (.sl) w57 ((a3).add 1) fun l59 => ldT (.bool) w57 ((a3).add 2) fun b60 => ldT (.int .i64) w57 ((a3).add 3) fun x61 => ldT (.sl) w57 ((a3).add 4) fun l62 =>
   Q (.tuple #[.agg #[.slice (l58.a) (l58.len) (l58.cap), .slice (l59.a) (l59.len) (l59.cap), .bool (b60), .int .i64 (x61), .slice (l62.a) (l62.len) (l62.cap)], .int .i64 (0)]) w57)
def A_ref05_Disk_Flush : Ann := ⟨[], [], []⟩
theorem F_ref05_Disk_Flush_eq (d0 : Sl) (d1 : Sl) (d2 : Bool) (d3 : Int) (d4 : Sl) (w : World) (Q : Value → World → Prop) : vcFn Tryd.prog A_ref05_Disk_Flush Tryd.f65 #[.agg #[.slice (d0.a) (d0.len) (d0.cap), .slice (d1.a) (d1.len) (d1.cap), .bool (d2), .int .i64 (d3), .slice (d4.a) (d4.len) (d4.cap)]] w Q = F_ref05_Disk_Flush d0 d1 d2 d3 d4 w Q := by kernel_rfl
theorem F_ref05_Disk_Flush_does (d0 : Sl) (d1 : Sl) (d2 : Bool) (d3 : Int) (d4 : Sl) (w : World) (Q : Value → World → Prop) (hQ : F_ref05_Disk_Flush d0 d1 d2 d3 d4 w Q) : Does Tryd.prog N_ref05_Disk_Flush #[.agg #[.slice (d0.a) (d0.len) (d0.cap), .slice (d1.a) (d1.len) (d1.cap), .bool (d2), .int .i64 (d3), .slice (d4.a) (d4.len) (d4.cap)]] w Q :=
  vcFn_sound noAsk mixed (A := A_ref05_Disk_Flush) (by kernel_rfl) Tryd.func65 (Nat.le_of_ble_eq_true (by kernel_rfl)) (by kernel_rfl) ((F_ref05_Disk_Flush_eq d0 d1 d2 d3 d4 w Q).mpr hQ)

/- (nacelle/nacelleref05.Disk).laid -/
def F_ref05_Disk_laid (d0 : Sl) (d1 : Sl) (d2 : Bool) (d3 : Int) (d4 : Sl) (all : Bool) (survivors : Sl) (w : World) (Q : Value → World → Prop) : Prop :=
  allocK w (#[.slice (d0.a) (d0.len) (d0.cap), .slice (d1.a) (d1.len) (d1.cap), .bool (d2), .int .i64 (d3), .slice (d4.a) (d4.len) (d4.cap)]) T_ref05_Disk fun a1 w2 =>
  allocK w2 (zc Tryd.prog T_ref05_Disk) T_ref05_Disk fun a3 w4 =>
  ∃ (I7 : Int → World → Prop) (M8 : Int → World → Nat), I7 0 w4 ∧
  ∀ i5 : Int, ∀ w6 : World, I7 i5 w6 →
    ldT (.sl) w6 ((a1).add 1) fun l9 =>
    cond (decide ((i5 : Int) < (((l9.len : Nat) : Int))))
    (∀ J11 : World → Prop, (∀ w10 : World, 
       (I7 (IntKind.wrap .i64 (i5 + 1)) w10 ∧ M8 (IntKind.wrap .i64 (i5 + 1)) w10 < M8 i5 w6) → J11 w10) →
     ∀ J14 : Bool → World → Prop, (∀ b12 : Bool, ∀ w13 : World, 
       (cond (b12)
       (ldT (.sl) w13.drew (a1) fun l15 =>
        ldT (.sl) w13.drew ((a1).add 1) fun l16 =>
        idx (l16.a) (l16.len) (i5) 2 fun a17 =>
        ldT (.int .i64) w13.drew (a17) fun x18 =>
        ldT (.sl) w13.drew ((a1).add 1) fun l19 =>
        idx (l19.a) (l19.len) (i5) 2 fun a20 =>
        ldT (.str) w13.drew ((a20).add 1) fun s21 =>
        Does Tryd.prog N_ref05_with #[.slice (l15.a) (l15.len) (l15.cap), .int .i64 (x18), .string (s21)] w13.drew fun r22 w23 => ∃ l24 : Sl, r22 = .slice (l24.a) (l24.len) (l24.cap) ∧
        stC w23 (a1) (.slice (l24.a) (l24.len) (l24.cap)) fun w25 =>
        J11 w25)
       (J11 w13)) → J14 b12 w13) →
     cond (all)
     (J14 true w6)
     (cond (decide ((i5 : Int) < (((survivors.len : Nat) : Int))))
      (idx (survivors.a) (survivors.len) (i5) 1 fun a26 =>
       ldT (.bool) w6 (a26) fun b27 =>
       J14 b27 w6)
      (J14 false w6)))
    (stC w6 ((a1).add 1) (.slice (none) (0) (0)) fun w28 =>
     ldT (.sl) w28 (a1) fun l29 => ldT (.sl) w28 ((a1).add 1) fun l30 => ldT (.bool) w28 ((a1).add 2) fun b31 => ldT (.int .i64) w28 ((a1).add 3) fun x32 => ldT (.sl) w28 ((a1).add 4) fun l33 =>
     stC w28 (a3) (.slice (l29.a) (l29.len) (l29.cap)) fun w35 => stC w35 ((a3).add 1) (.slice (l30.a) (l30.len) (l30.cap)) fun w36 => stC w36 ((a3).add 2) (.bool (b31)) fun w37 => stC w37 ((a3).add 3) (.int .i64 (x32)) fun w38 => stC w38 ((a3).add 4) (.slice (l33.a) (l33.len) (l33.cap)) fun w39 =>
     ldT (.sl) w39 (a3) fun l40 => ldT (.sl) w39 ((a3).add 1) fun l41 => ldT (.bool) w39 ((a3).add 2) fun b42 => ldT (.int .i64) w39 ((a3).add 3) fun x43 => ldT (.sl) w39 ((a3).add 4) fun l44 =>
     Q (.agg #[.slice (l40.a) (l40.len) (l40.cap), .slice (l41.a) (l41.len) (l41.cap), .bool (b42), .int .i64 (x43), .slice (l44.a) (l44.len) (l44.cap)]) w39)
def A_ref05_Disk_laid : Ann := ⟨[(2, [(7, .one (.int .i64))])], [(3, []), (5, [(27, .one (.bool))])], [(5, [⟨0, 0, 0, true⟩, ⟨1, 1, 1, true⟩, ⟨0, 0, 0, true⟩, ⟨4, 4, 4, true⟩, ⟨0, 0, 0, true⟩, ⟨24, 24, 28, true⟩, ⟨32, 32, 60, true⟩, ⟨64, 64, 124, true⟩, ⟨0, 0, 0, true⟩, ⟨256, 256, 256, true⟩, ⟨0, 0, 0, true⟩, ⟨1536, 1536, 1792, true⟩, ⟨2048, 2048, 3840, true⟩, ⟨4096, 4096, 7936, true⟩, ⟨8322, 0, 16383, false⟩, ⟨32767, 0, 32767, true⟩, ⟨65535, 0, 65535, false⟩])]⟩
theorem F_ref05_Disk_laid_eq (d0 : Sl) (d1 : Sl) (d2 : Bool) (d3 : Int) (d4 : Sl) (all : Bool) (survivors : Sl) (w : World) (Q : Value → World → Prop) : vcFn Tryd.prog A_ref05_Disk_laid Tryd.f66 #[.agg #[.slice (d0.a) (d0.len) (d0.cap), .slice (d1.a) (d1.len) (d1.cap), .bool (d2), .int .i64 (d3), .slice (d4.a) (d4.len) (d4.cap)], .bool (all), .slice (survivors.a) (survivors.len) (survivors.cap)] w Q = F_ref05_Disk_laid d0 d1 d2 d3 d4 all survivors w Q := by kernel_rfl
theorem F_ref05_Disk_laid_does (d0 : Sl) (d1 : Sl) (d2 : Bool) (d3 : Int) (d4 : Sl) (all : Bool) (survivors : Sl) (w : World) (Q : Value → World → Prop) (hQ : F_ref05_Disk_laid d0 d1 d2 d3 d4 all survivors w Q) : Does Tryd.prog N_ref05_Disk_laid #[.agg #[.slice (d0.a) (d0.len) (d0.cap), .slice (d1.a) (d1.len) (d1.cap), .bool (d2), .int .i64 (d3), .slice (d4.a) (d4.len) (d4.cap)], .bool (all), .slice (survivors.a) (survivors.len) (survivors.cap)] w Q :=
  vcFn_sound noAsk mixed (A := A_ref05_Disk_laid) (by kernel_rfl) Tryd.func66 (Nat.le_of_ble_eq_true (by kernel_rfl)) (by kernel_rfl) ((F_ref05_Disk_laid_eq d0 d1 d2 d3 d4 all survivors w Q).mpr hQ)

/- (*nacelle/wal.Log).Page -/
def F_wal_Log_Page (w_ : Option Addr) (n : Int) (w : World) (Q : Value → World → Prop) : Prop :=
  ∀ J2 : World → Prop, (∀ w1 : World, 
    (nnil (w_) fun a3 =>
    idxR 16 (n) (
    slcA (((a3).add 1).add (Int.toNat (n) * 40)) 40 (0) (((40 : Nat) : Int)) 1 fun l4 =>
    runG (.sl) Tryd.prog w1 (Builtin.append_ #[T_l_uint8, T_l_uint8] T_l_uint8 #[.slice (none) (0) (0), .slice (l4.a) (l4.len) (l4.cap)]) fun l5 w6 =>
    Q (.tuple #[.slice (l5.a) (l5.len) (l5.cap), .int .i64 (0)]) w6)) → J2 w1) →
  cond (decide ((n : Int) < 0))
  (Q (.tuple #[.slice (none) (0) (0), .int .i64 (4)]) w)
  (cond (decide ((n : Int) ≥ 16))
   (Q (.tuple #[.slice (none) (0) (0), .int .i64 (4)]) w)
   (J2 w))
def A_wal_Log_Page : Ann := ⟨[], [(3, [])], []⟩
theorem F_wal_Log_Page_eq (w_ : Option Addr) (n : Int) (w : World) (Q : Value → World → Prop) : vcFn Tryd.prog A_wal_Log_Page Tryd.f67 #[.pointer (w_), .int .i64 (n)] w Q = F_wal_Log_Page w_ n w Q := by kernel_rfl
theorem F_wal_Log_Page_does (w_ : Option Addr) (n : Int) (w : World) (Q : Value → World → Prop) (hQ : F_wal_Log_Page w_ n w Q) : Does Tryd.prog N_wal_Log_Page #[.pointer (w_), .int .i64 (n)] w Q :=
  vcFn_sound noAsk mixed (A := A_wal_Log_Page) (by kernel_rfl) Tryd.func67 (Nat.le_of_ble_eq_true (by kernel_rfl)) (by kernel_rfl) ((F_wal_Log_Page_eq w_ n w Q).mpr hQ)

/- nacelle/wal.Format -/
def F_wal_Format (p : Option Addr) (w : World) (Q : Value → World → Prop) : Prop :=
  Does Tryd.prog N_extent_Part_Size #[.pointer (p)] w fun r1 w2 => ∃ x3 : Int, r1 = .int .i64 (x3) ∧
  cond (decide ((x3 : Int) < 52))
  (Q (.int .i64 (1)) w2)
  (∃ (I6 : Int → World → Prop) (M7 : Int → World → Nat), I6 34 w2 ∧
   ∀ i4 : Int, ∀ w5 : World, I6 i4 w5 →
     cond (decide ((i4 : Int) < 52))
     (runG (.sl) Tryd.prog w5 (Instr.makeSlice T_l_uint8 (.int .i64 (64)) (.int .i64 (64))) fun l8 w9 =>
      Does Tryd.prog N_extent_Part_Write #[.pointer (p), .int .i64 (i4), .slice (l8.a) (l8.len) (l8.cap)] w9 fun r10 w11 => ∃ x12 : Int, r10 = .int .i64 (x12) ∧
      cond ((x12 : Int) != 0)
      (Q (.int .i64 (x12)) w11)
      (I6 (IntKind.wrap .i64 (i4 + 1)) w11 ∧ M7 (IntKind.wrap .i64 (i4 + 1)) w11 < M7 i4 w5))
     (allocK w5 (#[.pointer (p), .int .u8 (0), .int .u8 (0), .int .u8 (0), .int .u8 (0), .int .u8 (0), .int .u8 (0), .int .u8 (0), .int .u8 (0), .int .u8 (0), .int .u8 (0), .int .u8 (0), .int .u8 (0), .int .u8 (0), .int .u8 (0), .int .u8 (0), .int .u8 (0), .int .u8 (0), .int .u8 (0), .int .u8 (0), .int .u8 (0), .int .u8 (0), .int .u8 (0), .int .u8 (0), .int .u8 (0), .int .u8 (0), .int .u8 (0), .int .u8 (0), .int .u8 (0), .int .u8 (0), .int .u8 (0), .int .u8 (0), .int .u8 (0), .int .u8 (0), .int .u8 (0), .int .u8 (0), .int .u8 (0), .int .u8 (0), .int .u8 (0), .int .u8 (0), .int .u8 (0), .int .u8 (0), .int .u8 (0), .int .u8 (0), .int .u8 (0), .int .u8 (0), .int .u8 (0), .int .u8 (0), .int .u8 (0), .int .u8 (0), .int .u8 (0), .int .u8 (0), .int .u8 (0), .int .u8 (0), .int .u8 (0), .int .u8 (0), .int .u8 (0), .int .u8 (0), .int .u8 (0), .int .u8 (0), .int .u8 (0), .int .u8 (0), .int .u8 (0), .int .u8 (0), .int .u8 (0), .int .u8 (0), .int .u8 (0), .int .u8 (0), .int .u8 (0), .int .u8 (0), .int .u8 (0), .int .u8 (0), .int .u8 (0), .int .u8 (0), .int .u8 (0), .int .u8 (0), .int .u8 (0), .int .u8 (0), .int .u8 (0), .int .u8 (0), .int .u8 (0), .int .u8 (0), .int .u8 (0), .int .u8 (0), .int .u8 (0), .int .u8 (0), .int .u8 (0), .int .u8 (0), .int .u8 (0), .int .u8 (0), .int .u8 (0), .int .u8 (0), .int .u8 (0), .int .u8 (0), .int .u8 (0), .int .u8 (0), .int .u8 (0), .int .u8 (0), .int .u8 (0), .int .u8 (0), .int .u8 (0), .int .u8 (0), .int .u8 (0), .int .u8 (0), .int .u8 (0), .int .u8 (0), .int .u8 (0), .int .u8 (0), .int .u8 (0), .int .u8 (0), .int .u8 (0), .int .u8 (0), .int .u8 (0), .int .u8 (0), .int .u8 (0), .int .u8 (0), .int .u8 (0), .int .u8 (0), .int .u8 (0), .int .u8 (0), .int .u8 (0), .int .u8 (0), .int .u8 (0), .int .u8 (0), .int .u8 (0), .int .u8 (0), .int .u8 (0), .int .u8 (0), .int .u8 (0), .int .u8 (0), .int .u8 (0), .int .u8 (0), .int .u8 (0), .int .u8 (0), .int .u8 (0), .int .u8 (0), .int .u8 (0), .int .u8 (0), .int .u8 (0), .int .u8 (0), .int .u8 (0), .int .u8 (0), .int .u8 (0), .int .u8 (0), .int .u8 (0), .int .u8 (0), .int .u8 (0), .int .u8 (0), .int .u8 (0), .int .u8 (0), .int .u8 (0), .int .u8 (0), .int .u8 (0), .int .u8 (0), .int .u8 (0), .int .u8 (0), .int .u8 (0), .int .u8 (0), .int .u8 (0), .int .u8 (0), .int .u8 (0), .int .u8 (0), .int .u8 (0), .int .u8 (0), .int .u8 (0), .int .u8 (0), .int .u8 (0), .int .u8 (0), .int .u8 (0), .int .u8 (0), .int .u8 (0), .int .u8 (0), .int .u8 (0), .int .u8 (0), .int .u8 (0), .int .u8 (0), .int .u8 (0), .int .u8 (0), .int .u8 (0), .int .u8 (0), .int .u8 (0), .int .u8 (0), .int .u8 (0), .int .u8 (0), .int .u8 (0), .int .u8 (0), .int .u8 (0), .int .u8 (0), .int .u8 (0), .int .u8 (0), .int .u8 (0), .int .u8 (0), .int .u8 (0), .int .u8 (0), .int .u8 (0), .int .u8 (0), .int .u8 (0), .int .u8 (0), .int .u8 (0), .int .u8 (0), .int .u8 (0), .int .u8 (0), .int .u8 (0), .int .u8 (0), .int .u8 (0), .int .u8 (0), .int .u8 (0), .int .u8 (0), .int .u8 (0), .int .u8 (0), .int .u8 (0), .int .u8 (0), .int .u8 (0), .int .u8 (0), .int .u8 (0), .int .u8 (0), .int .u8 (0), .int .u8 (0), .int .u8 (0), .int .u8 (0), .int .u8 (0), .int .u8 (0), .int .u8 (0), .int .u8 (0), .int .u8 (0), .int .u8 (0), .int .u8 (0), .int .u8 (0), .int .u8 (0), .int .u8 (0), .int .u8 (0), .int .u8 (0), .int .u8 (0), .int .u8 (0), .int .u8 (0), .int .u8 (0), .int .u8 (0), .int .u8 (0), .int .u8 (0), .int .u8 (0), .int .u8 (0), .int .u8 (0), .int .u8 (0), .int .u8 (0), .int .u8 (0), .int .u8 (0), .int .u8 (0), .int .u8 (0), .int .u8 (0), .int .u8 (0), .int .u8 (0), .int .u8 (0), .int .u8 (0), .int .u8 (0), .int .u8 (0), .int .u8 (0), .int .u8 (0), .int .u8 (0), .int .u8 (0), .int .u8 (0), .int .u8 (0), .int .u8 (0), .int .u8 (0), .int .u8 (0), .int .u8 (0), .int .u8 (0), .int .u8 (0), .int .u8 (0), .int .u8 (0), .int .u8 (0), .int .u8 (0), .int .u8 (0), .int .u8 (0), .int .u8 (0), .int .u8 (0), .int .u8 (0), .int .u8 (0), .int .u8 (0), .int .u8 (0), .int .u8 (0), .int .u8 (0), .int .u8 (0), .int .u8 (0), .int .u8 (0), .int .u8 (0), .int .u8 (0), .int .u8 (0), .int .u8 (0), .int .u8 (0), .int .u8 (0), .int .u8 (0), .int .u8 (0), .int .u8 (0), .int .u8 (0), .int .u8 (0), .int .u8 (0), .int .u8 (0), .int .u8 (0), .int .u8 (0), .int .u8 (0), .int .u8 (0), .int .u8 (0), .int .u8 (0), .int .u8 (0), .int .u8 (0), .int .u8 (0), .int .u8 (0), .int .u8 (0), .int .u8 (0), .int .u8 (0), .int .u8 (0), .int .u8 (0), .int .u8 (0), .int .u8 (0), .int .u8 (0), .int .u8 (0), .int .u8 (0), .int .u8 (0), .int .u8 (0), .int .u8 (0), .int .u8 (0), .int .u8 (0), .int .u8 (0), .int .u8 (0), .int .u8 (0), .int .u8 (0), .int .u8 (0), .int .u8 (0), .int .u8 (0), .int .u8 (0), .int .u8 (0), .int .u8 (0), .int .u8 (0), .int .u8 (0), .int .u8 (0), .int .u8 (0), .int .u8 (0), .int .u8 (0), .int .u8 (0), .int .u8 (0), .int .u8 (0), .int .u8 (0), .int .u8 (0), .int .u8 (0), .int .u8 (0), .int .u8 (0), .int .u8 (0), .int .u8 (0), .int .u8 (0), .int .u8 (0), .int .u8 (0), .int .u8 (0), .int .u8 (0), .int .u8 (0), .int .u8 (0), .int .u8 (0), .int .u8 (0), .int .u8 (0), .int .u8 (0), .int .u8 (0), .int .u8 (0), .int .u8 (0), .int .u8 (0), .int .u8 (0), .int .u8 (0), .int .u8 (0), .int .u8 (0), .int .u8 (0), .int .u8 (0), .int .u8 (0), .int .u8 (0), .int .u8 (0), .int .u8 (0), .int .u8 (0), .int .u8 (0), .int .u8 (0), .int .u8 (0), .int .u8 (0), .int .u8 (0), .int .u8 (0), .int .u8 (0), .int .u8 (0), .int .u8 (0), .int .u8 (0), .int .u8 (0), .int .u8 (0), .int .u8 (0), .int .u8 (0), .int .u8 (0), .int .u8 (0), .int .u8 (0), .int .u8 (0), .int .u8 (0), .int .u8 (0), .int .u8 (0), .int .u8 (0), .int .u8 (0), .int .u8 (0), .int .u8 (0), .int .u8 (0), .int .u8 (0), .int .u8 (0), .int .u8 (0), .int .u8 (0), .int .u8 (0), .int .u8 (0), .int .u8 (0), .int .u8 (0), .int .u8 (0), .int .u8 (0), .int .u8 (0), .int .u8 (0), .int .u8 (0), .int .u8 (0), .int .u8 (0), .int .u8 (0), .int .u8 (0), .int .u8 (0), .int .u8 (0), .int .u8 (0), .int .u8 (0), .int .u8 (0), .int .u8 (0), .int .u8 (0), .int .u8 (0), .int .u8 (0), .int .u8 (0), .int .u8 (0), .int .u8 (0), .int .u8 (0), .int .u8 (0), .int .u8 (0), .int .u8 (0), .int .u8 (0), .int .u8 (0), .int .u8 (0), .int .u8 (0), .int .u8 (0), .int .u8 (0), .int .u8 (0), .int .u8 (0), .int .u8 (0), .int .u8 (0), .int .u8 (0), .int .u8 (0), .int .u8 (0), .int .u8 (0), .int .u8 (0), .int .u8 (0), .int .u8 (0), .int .u8 (0), .int .u8 (0), .int .u8 (0), .int .u8 (0), .int .u8 (0), .int .u8 (0), .int .u8 (0), .int .u8 (0), .int .u8 (0), .int .u8 (0), .int .u8 (0), .int .u8 (0), .int .u8 (0), .int .u8 (0), .int .u8 (0), .int .u8 (0), .int .u8 (0), .int .u8 (0), .int .u8 (0), .int .u8 (0), .int .u8 (0), .int .u8 (0), .int .u8 (0), .int .u8 (0), .int .u8 (0), .int .u8 (0), .int .u8 (0), .int .u8 (0), .int .u8 (0), .int .u8 (0), .int .u8 (0), .int .u8 (0), .int .u8 (0), .int .u8 (0), .int .u8 (0), .int .u8 (0), .int .u8 (0), .int .u8 (0), .int .u8 (0), .int .u8 (0), .int .u8 (0), .int .u8 (0), .int .u8 (0), .int .u8 (0), .int .u8 (0), .int .u8 (0), .int .u8 (0), .int .u8 (0), .int .u8 (0), .int .u8 (0), .int .u8 (0), .int .u8 (0), .int .u8 (0), .int .u8 (0), .int .u8 (0), .int .u8 (0), .int .u8 (0), .int .u8 (0), .int .u8 (0), .int .u8 (0), .int .u8 (0), .int .u8 (0), .int .u8 (0), .int .u8 (0), .int .u8 (0), .int .u8 (0), .int .u8 (0), .int .u8 (0), .int .u8 (0), .int .u8 (0), .int .u8 (0), .int .u8 (0), .int .u8 (0), .int .u8 (0), .int .u8 (0), .int .u8 (0), .int .u8 (0), .int .u8 (0), .int .u8 (0), .int .u8 (0), .int .u8 (0), .int .u8 (0), .int .u8 (0), .int .u8 (0), .int .u8 (0), .int .u8 (0), .int .u8 (0), .int .u8 (0), .int .u8 (0), .int .u8 (0), .int .u8 (0), .int .u8 (0), .int .u8 (0), .int .u8 (0), .int .u8 (0), .int .u8 (0), .int .u8 (0), .int .u8 (0), .int .u8 (0), .int .u8 (0), .int .u8 (0), .int .u8 (0), .int .u8 (0), .int .u8 (0), .int .u8 (0), .int .u8 (0), .int .u8 (0), .int .u8 (0), .int .u8 (0), .int .u8 (0), .int .u8 (0), .int .u8 (0), .int .u8 (0), .int .u8 (0), .int .u8 (0), .int .u8 (0), .int .u8 (0), .int .u8 (0), .int .u8 (0), .int .u8 (0), .int .u8 (0), .int .u8 (0), .int .u8 (0), .int .u8 (0), .int .u8 (0), .int .u8 (0), .int .u8 (0), .int .u8 (0), .int .u8 (0), .int .u8 (0), .int .u8 (0), .int .u8 (0), .int .u8 (0), .int .u8 (0), .int .u8 (0), .int .u8 (0), .int .u8 (0), .int .u8 (0), .int .u8 (0), .int .u8 (0), .int .u8 (0), .int .u8 (0), .int .u8 (0), .int .u8 (0), .int .u8 (0), .int .u8 (0), .int .u8 (0), .int .u8 (0), .int .u8 (0), .int .u8 (0), .int .u8 (0), .int .u8 (0), .int .u8 (0), .int .u8 (0), .int .u8 (0), .int .u8 (0), .int .u8 (0), .int .u8 (0), .int .u8 (0), .int .u8 (0), .int .u8 (0), .int .u8 (0), .int .u8 (0), .int .u8 (0), .int .u8 (0), .int .u8 (0), .int .u8 (0), .int .u8 (0), .int .u8 (0), .int .u8 (0), .int .u8 (0), .int .u8 (0), .int .u8 (0), .int .u8 (0), .int .u8 (0), .int .u8 (0), .int .u8 (0), .int .u8 (0), .int .u8 (0), .int .u8 (0), .int .u8 (0), .int .u8 (0), .int .u8 (0), .int .u8 (0), .int .u8 (0), .int .u8 (0), .int .u8 (0), .int .u8 (0), .int .u8 (0), .int .u8 (0), .int .u8 (0), .int .u32 (0), .int .i64 (0), .int .i64 (0), .bool (false)]) T_wal_Log fun a13 w14 =>
      Does Tryd.prog N_wal_Log_settle #[.pointer (some (a13)), .int .u32 (1), .int .i64 (0)] w14 fun r15 w16 => ∃ x17 : Int, r15 = .int .i64 (x17) ∧
      Q (.int .i64 (x17)) w16))
def A_wal_Format : Ann := ⟨[(4, [(3, .one (.int .i64))])], [], []⟩
theorem F_wal_Format_eq (p : Option Addr) (w : World) (Q : Value → World → Prop) : vcFn Tryd.prog A_wal_Format Tryd.f68 #[.pointer (p)] w Q = F_wal_Format p w Q := by kernel_rfl
theorem F_wal_Format_does (p : Option Addr) (w : World) (Q : Value → World → Prop) (hQ : F_wal_Format p w Q) : Does Tryd.prog N_wal_Format #[.pointer (p)] w Q :=
  vcFn_sound noAsk mixed (A := A_wal_Format) (by kernel_rfl) Tryd.func68 (Nat.le_of_ble_eq_true (by kernel_rfl)) (by kernel_rfl) ((F_wal_Format_eq p w Q).mpr hQ)

end Go.Proofs.YtkfcmpngcanffaaDoor.G
