import Derived.Test.YtkfcmpngcanffaaDoorGen
set_option linter.unusedVariables false
namespace Go.Proofs.YtkfcmpngcanffaaDoor.G
open Go Go.VC Go.Proofs Go.Proofs.YtkfcmpngcanffaaDoor
set_option maxRecDepth 100000
/- nacelle/nacellelaw20.AuditConfined -/
def F_law20_AuditConfined (l : Sl) (w : World) (Q : Value → World → Prop) : Prop :=
  Does Tryd.prog N_law20_part #[.int .i64 (4)] w fun r1 w2 => ∃ p3 : Option Addr, ∃ p4 : Option Addr, ∃ b5 : Bool, r1 = .tuple #[.pointer (p3), .pointer (p4), .bool (b5)] ∧
  cond (!b5)
  (Q (.bool (false)) w2)
  (Does Tryd.prog N_audit_Open #[.pointer (p4)] w2 fun r6 w7 => ∃ p8 : Option Addr, ∃ x9 : Int, r6 = .tuple #[.pointer (p8), .int .i64 (x9)] ∧
   cond ((x9 : Int) != 0)
   (Q (.bool (false)) w7)
   (∀ J12 : Int → World → Prop, (∀ n10 : Int, ∀ w11 : World, 
      (∃ (I15 : Int → World → Prop) (M16 : Int → World → Nat), I15 0 w11 ∧
      ∀ i13 : Int, ∀ w14 : World, I15 i13 w14 →
        cond (decide ((i13 : Int) < 12))
        (∀ J18 : World → Prop, (∀ w17 : World, 
           (I15 (IntKind.wrap .i64 (i13 + 1)) w17 ∧ M16 (IntKind.wrap .i64 (i13 + 1)) w17 < M16 i13 w14) → J18 w17) →
         Does Tryd.prog N_disk_Disk_Read #[.pointer (p3), .int .i64 (i13)] w14 fun r19 w20 => ∃ l21 : Sl, ∃ x22 : Int, r19 = .tuple #[.slice (l21.a) (l21.len) (l21.cap), .int .i64 (x22)] ∧
         cond ((x22 : Int) != 0)
         (Q (.bool (false)) w20.drew)
         (cond (decide ((i13 : Int) < 2))
          (∃ s23 : ByteArray, (convert T_l_uint8 T_string (.slice (l21.a) (l21.len) (l21.cap))).run Tryd.prog w20.drew = .ok (.string (s23)) w20.drew ∧
           Does Tryd.prog N_ref05_Noughts #[] w20.drew fun r24 w25 => ∃ s26 : ByteArray, r24 = .string (s26) ∧
           (convert T_l_uint8 T_string (.slice (l21.a) (l21.len) (l21.cap))).run Tryd.prog w25 = .ok (.string (s23)) w25 ∧ cond (!((s23).toList == (s26).toList))
           (Q (.bool (false)) w25)
           (J18 w25))
          (cond (decide ((i13 : Int) ≥ (IntKind.wrap .i64 (2 + n10))))
           (∃ s27 : ByteArray, (convert T_l_uint8 T_string (.slice (l21.a) (l21.len) (l21.cap))).run Tryd.prog w20.drew = .ok (.string (s27)) w20.drew ∧
            Does Tryd.prog N_ref05_Noughts #[] w20.drew fun r28 w29 => ∃ s30 : ByteArray, r28 = .string (s30) ∧
            (convert T_l_uint8 T_string (.slice (l21.a) (l21.len) (l21.cap))).run Tryd.prog w29 = .ok (.string (s27)) w29 ∧ cond (!((s27).toList == (s30).toList))
            (Q (.bool (false)) w29)
            (J18 w29))
           (J18 w20.drew))))
        (Does Tryd.prog N_law20_awake #[] w14 fun r31 w32 => ∃ b33 : Bool, r31 = .bool (b33) ∧
         Q (.bool (b33)) w32)) → J12 n10 w11) →
    ∃ (I37 : Int → Int → World → Prop) (M38 : Int → Int → World → Nat), I37 0 0 w7 ∧
    ∀ n34 : Int, ∀ i35 : Int, ∀ w36 : World, I37 n34 i35 w36 →
      ∀ J40 : World → Prop, (∀ w39 : World, 
        (∀ J43 : Int → World → Prop, (∀ n41 : Int, ∀ w42 : World, 
          (I37 n41 (IntKind.wrap .i64 (i35 + 1)) w42 ∧ M38 n41 (IntKind.wrap .i64 (i35 + 1)) w42 < M38 n34 i35 w36) → J43 n41 w42) →
        idx (l.a) (l.len) (i35) 4 fun a44 =>
        ldT (.int .i64) w39 (a44) fun x45 => ldT (.int .i64) w39 ((a44).add 1) fun x46 => ldT (.int .u32) w39 ((a44).add 2) fun x47 => ldT (.int .i64) w39 ((a44).add 3) fun x48 =>
        Does Tryd.prog N_audit_Log_Add #[.pointer (p8), .agg #[.int .i64 (x45), .int .i64 (x46), .int .u32 (x47), .int .i64 (x48)]] w39 fun r49 w50 => ∃ x51 : Int, r49 = .int .i64 (x51) ∧
        ∀ J54 : Int → World → Prop, (∀ n52 : Int, ∀ w53 : World, 
          (idx (l.a) (l.len) (i35) 4 fun a55 =>
          ldT (.int .i64) w53 (a55) fun x56 => ldT (.int .i64) w53 ((a55).add 1) fun x57 => ldT (.int .u32) w53 ((a55).add 2) fun x58 => ldT (.int .i64) w53 ((a55).add 3) fun x59 =>
          Does Tryd.prog N_ref20_May #[.agg #[.int .i64 (x56), .int .i64 (x57), .int .u32 (x58), .int .i64 (x59)]] w53 fun r60 w61 => ∃ b62 : Bool, r60 = .bool (b62) ∧
          cond (!(b62 == ((x51 : Int) != 1)))
          (Q (.bool (false)) w61)
          (cond ((x51 : Int) == 5)
           (cond ((n52 : Int) != 4)
            (Q (.bool (false)) w61)
            (cond (decide ((n52 : Int) > 4))
             (Q (.bool (false)) w61)
             (Does Tryd.prog N_audit_Log_Entries #[.pointer (p8)] w61 fun r63 w64 => ∃ l65 : Sl, r63 = .slice (l65.a) (l65.len) (l65.cap) ∧
              cond (((((l65.len : Nat) : Int)) : Int) != n52)
              (Q (.bool (false)) w64)
              (J43 n52 w64))))
           (cond (decide ((n52 : Int) > 4))
            (Q (.bool (false)) w61)
            (Does Tryd.prog N_audit_Log_Entries #[.pointer (p8)] w61 fun r66 w67 => ∃ l68 : Sl, r66 = .slice (l68.a) (l68.len) (l68.cap) ∧
             cond (((((l68.len : Nat) : Int)) : Int) != n52)
             (Q (.bool (false)) w67)
             (J43 n52 w67))))) → J54 n52 w53) →
        cond ((x51 : Int) == 0)
        (J54 (IntKind.wrap .i64 (n34 + 1)) w50)
        (J54 n34 w50)) → J40 w39) →
      cond (decide ((i35 : Int) < (((l.len : Nat) : Int))))
      (cond (decide ((i35 : Int) < 30))
       (J40 w36)
       (J12 n34 w36))
      (J12 n34 w36)))
def A_law20_AuditConfined : Ann := ⟨[(9, [(8, .one (.int .i64)), (9, .one (.int .i64))]), (17, [(11, .one (.int .i64))])], [(10, [(8, .one (.int .i64))]), (11, []), (14, [(8, .one (.int .i64))]), (16, [(8, .one (.int .i64))]), (18, [])], [(20, [⟨0, 0, 0, true⟩, ⟨1, 1, 1, true⟩, ⟨2, 2, 3, true⟩, ⟨4, 4, 7, true⟩, ⟨12, 12, 15, true⟩, ⟨20, 20, 31, true⟩, ⟨32, 32, 63, true⟩, ⟨32, 32, 63, true⟩, ⟨160, 160, 191, true⟩, ⟨352, 352, 511, true⟩, ⟨548, 548, 1023, true⟩, ⟨1060, 1028, 2047, true⟩, ⟨2048, 2048, 4095, true⟩, ⟨6144, 6144, 8191, true⟩, ⟨2048, 0, 4095, false⟩, ⟨26624, 26624, 32767, true⟩, ⟨34820, 34820, 65535, true⟩, ⟨65540, 65540, 131071, true⟩])]⟩
theorem F_law20_AuditConfined_eq (l : Sl) (w : World) (Q : Value → World → Prop) : vcFn Tryd.prog A_law20_AuditConfined Tryd.f3 #[.slice (l.a) (l.len) (l.cap)] w Q = F_law20_AuditConfined l w Q := by kernel_rfl
theorem F_law20_AuditConfined_does (l : Sl) (w : World) (Q : Value → World → Prop) (hQ : F_law20_AuditConfined l w Q) : Does Tryd.prog N_law20_AuditConfined #[.slice (l.a) (l.len) (l.cap)] w Q :=
  vcFn_sound noAsk mixed (A := A_law20_AuditConfined) (by kernel_rfl) Tryd.func3 (Nat.le_of_ble_eq_true (by kernel_rfl)) (by kernel_rfl) ((F_law20_AuditConfined_eq l w Q).mpr hQ)

/- nacelle/nacellelaw20.AuditKeeps -/
def F_law20_AuditKeeps (acts : Sl) (w : World) (Q : Value → World → Prop) : Prop :=
  Does Tryd.prog N_law20_part #[.int .i64 (9)] w fun r1 w2 => ∃ p3 : Option Addr, ∃ p4 : Option Addr, ∃ b5 : Bool, r1 = .tuple #[.pointer (p3), .pointer (p4), .bool (b5)] ∧
  cond (!b5)
  (Q (.bool (false)) w2)
  (Does Tryd.prog N_audit_Open #[.pointer (p4)] w2 fun r6 w7 => ∃ p8 : Option Addr, ∃ x9 : Int, r6 = .tuple #[.pointer (p8), .int .i64 (x9)] ∧
   cond ((x9 : Int) != 0)
   (Q (.bool (false)) w7)
   (∀ J13 : Option Addr → Sl → World → Prop, (∀ l10 : Option Addr, ∀ noted11 : Sl, ∀ w12 : World, 
      (Does Tryd.prog N_audit_Log_Entries #[.pointer (l10)] w12 fun r14 w15 => ∃ l16 : Sl, r14 = .slice (l16.a) (l16.len) (l16.cap) ∧
      Does Tryd.prog N_law20_same #[.slice (l16.a) (l16.len) (l16.cap), .slice (noted11.a) (noted11.len) (noted11.cap)] w15 fun r17 w18 => ∃ b19 : Bool, r17 = .bool (b19) ∧
      cond (b19)
      (Does Tryd.prog N_law20_awake #[] w18 fun r20 w21 => ∃ b22 : Bool, r20 = .bool (b22) ∧
       Q (.bool (b22)) w21)
      (Q (.bool (false)) w18)) → J13 l10 noted11 w12) →
    ∃ (I27 : Option Addr → Sl → Int → World → Prop) (M28 : Option Addr → Sl → Int → World → Nat), I27 p8 ⟨none, 0, 0⟩ 0 w7 ∧
    ∀ l23 : Option Addr, ∀ noted24 : Sl, ∀ i25 : Int, ∀ w26 : World, I27 l23 noted24 i25 w26 →
      ∀ J30 : World → Prop, (∀ w29 : World, 
        (∀ J34 : Option Addr → Sl → World → Prop, (∀ l31 : Option Addr, ∀ noted32 : Sl, ∀ w33 : World, 
          (I27 l31 ⟨noted32.a, noted32.len, noted32.cap⟩ (IntKind.wrap .i64 (i25 + 1)) w33 ∧ M28 l31 ⟨noted32.a, noted32.len, noted32.cap⟩ (IntKind.wrap .i64 (i25 + 1)) w33 < M28 l23 noted24 i25 w26) → J34 l31 noted32 w33) →
        idx (acts.a) (acts.len) (i25) 7 fun a35 =>
        ldT (.int .i64) w29 (a35) fun x36 => ldT (.int .i64) w29 ((a35).add 1) fun x37 => ldT (.int .i64) w29 ((a35).add 2) fun x38 => ldT (.int .i64) w29 ((a35).add 3) fun x39 => ldT (.int .u32) w29 ((a35).add 4) fun x40 => ldT (.int .i64) w29 ((a35).add 5) fun x41 => ldT (.sl) w29 ((a35).add 6) fun l42 =>
        allocK w29 (zc Tryd.prog T_law20_Act) T_law20_Act fun a43 w44 =>
        stC w44 (a43) (.int .i64 (x36)) fun w46 => stC w46 ((a43).add 1) (.int .i64 (x37)) fun w47 => stC w47 ((a43).add 2) (.int .i64 (x38)) fun w48 => stC w48 ((a43).add 3) (.int .i64 (x39)) fun w49 => stC w49 ((a43).add 4) (.int .u32 (x40)) fun w50 => stC w50 ((a43).add 5) (.int .i64 (x41)) fun w51 => stC w51 ((a43).add 6) (.slice (l42.a) (l42.len) (l42.cap)) fun w52 =>
        ∀ J54 : World → Prop, (∀ w53 : World, 
          (ldT (.int .i64) w53 ((a43).add 2) fun x55 => ldT (.int .i64) w53 (((a43).add 2).add 1) fun x56 => ldT (.int .u32) w53 (((a43).add 2).add 2) fun x57 => ldT (.int .i64) w53 (((a43).add 2).add 3) fun x58 =>
          Does Tryd.prog N_audit_Log_Add #[.pointer (l23), .agg #[.int .i64 (x55), .int .i64 (x56), .int .u32 (x57), .int .i64 (x58)]] w53 fun r59 w60 => ∃ x61 : Int, r59 = .int .i64 (x61) ∧
          Does Tryd.prog N_disk_Disk_Arm #[.pointer (p3), .int .i64 (-1), .slice (none) (0) (0)] w60 fun r62 w63 => r62 = .tuple #[] ∧
          cond ((x61 : Int) == 0)
          (ldT (.int .i64) w63 ((a43).add 2) fun x64 => ldT (.int .i64) w63 (((a43).add 2).add 1) fun x65 => ldT (.int .u32) w63 (((a43).add 2).add 2) fun x66 => ldT (.int .i64) w63 (((a43).add 2).add 3) fun x67 =>
           allocK w63 #[.int .i64 (x64), .int .i64 (x65), .int .u32 (x66), .int .i64 (x67)] T_api_Entry fun a68 w69 =>
           runG (.sl) Tryd.prog w69 (Builtin.append_ #[T_l_api_Entry, T_l_api_Entry] T_l_api_Entry #[.slice (noted24.a) (noted24.len) (noted24.cap), .slice (some (a68)) (1) (1)]) fun l70 w71 =>
           J34 l23 ⟨l70.a, l70.len, l70.cap⟩ w71)
          (Does Tryd.prog N_disk_Disk_Power #[.pointer (p3)] w63 fun r72 w73 => r72 = .tuple #[] ∧
           Does Tryd.prog N_audit_Open #[.pointer (p4)] w73 fun r74 w75 => ∃ p76 : Option Addr, ∃ x77 : Int, r74 = .tuple #[.pointer (p76), .int .i64 (x77)] ∧
           cond ((x77 : Int) != 0)
           (Q (.bool (false)) w75)
           (Does Tryd.prog N_audit_Log_Entries #[.pointer (p76)] w75 fun r78 w79 => ∃ l80 : Sl, r78 = .slice (l80.a) (l80.len) (l80.cap) ∧
            ∀ J83 : Sl → World → Prop, (∀ noted81 : Sl, ∀ w82 : World, 
              (Does Tryd.prog N_law20_same #[.slice (l80.a) (l80.len) (l80.cap), .slice (noted81.a) (noted81.len) (noted81.cap)] w82 fun r84 w85 => ∃ b86 : Bool, r84 = .bool (b86) ∧
              cond (!b86)
              (Q (.bool (false)) w85)
              (J34 p76 ⟨noted81.a, noted81.len, noted81.cap⟩ w85)) → J83 noted81 w82) →
            ∀ J89 : Bool → World → Prop, (∀ b87 : Bool, ∀ w88 : World, 
              (cond (b87)
              (ldT (.int .i64) w88 ((a43).add 2) fun x90 => ldT (.int .i64) w88 (((a43).add 2).add 1) fun x91 => ldT (.int .u32) w88 (((a43).add 2).add 2) fun x92 => ldT (.int .i64) w88 (((a43).add 2).add 3) fun x93 =>
               allocK w88 #[.int .i64 (x90), .int .i64 (x91), .int .u32 (x92), .int .i64 (x93)] T_api_Entry fun a94 w95 =>
               runG (.sl) Tryd.prog w95 (Builtin.append_ #[T_l_api_Entry, T_l_api_Entry] T_l_api_Entry #[.slice (noted24.a) (noted24.len) (noted24.cap), .slice (some (a94)) (1) (1)]) fun l96 w97 =>
               J83 ⟨l96.a, l96.len, l96.cap⟩ w97)
              (J83 ⟨noted24.a, noted24.len, noted24.cap⟩ w88)) → J89 b87 w88) →
            cond (((((l80.len : Nat) : Int)) : Int) == (IntKind.wrap .i64 ((((noted24.len : Nat) : Int)) + 1)))
            (cond ((x61 : Int) == 9)
             (idx (l80.a) (l80.len) (((noted24.len : Nat) : Int)) 4 fun a98 =>
              ldT (.int .i64) w79.drew (a98) fun x99 => ldT (.int .i64) w79.drew ((a98).add 1) fun x100 => ldT (.int .u32) w79.drew ((a98).add 2) fun x101 => ldT (.int .i64) w79.drew ((a98).add 3) fun x102 =>
              ldT (.int .i64) w79.drew ((a43).add 2) fun x103 => ldT (.int .i64) w79.drew (((a43).add 2).add 1) fun x104 => ldT (.int .u32) w79.drew (((a43).add 2).add 2) fun x105 => ldT (.int .i64) w79.drew (((a43).add 2).add 3) fun x106 =>
              runG (.bool) Tryd.prog w79.drew (do eqGuard .eql T_api_Entry (.tmp 91) (.tmp 93) (.agg #[.int .i64 (x99), .int .i64 (x100), .int .u32 (x101), .int .i64 (x102)]) (.agg #[.int .i64 (x103), .int .i64 (x104), .int .u32 (x105), .int .i64 (x106)]); binOp .eql T_api_Entry (.agg #[.int .i64 (x99), .int .i64 (x100), .int .u32 (x101), .int .i64 (x102)]) (.agg #[.int .i64 (x103), .int .i64 (x104), .int .u32 (x105), .int .i64 (x106)])) fun b107 w108 =>
              J89 b107 w108)
             (J89 false w79.drew))
            (J89 false w79.drew)))) → J54 w53) →
        ldT (.int .i64) w52 (a43) fun x109 =>
        cond (decide ((x109 : Int) ≥ 3))
        (ldT (.int .i64) w52 ((a43).add 1) fun x110 =>
         ldT (.sl) w52 ((a43).add 6) fun l111 =>
         Does Tryd.prog N_disk_Disk_Arm #[.pointer (p3), .int .i64 (x110), .slice (l111.a) (l111.len) (l111.cap)] w52 fun r112 w113 => r112 = .tuple #[] ∧
         J54 w113)
        (J54 w52)) → J30 w29) →
      cond (decide ((i25 : Int) < (((acts.len : Nat) : Int))))
      (cond (decide ((i25 : Int) < 20))
       (J30 w26)
       (J13 l23 ⟨noted24.a, noted24.len, noted24.cap⟩ w26))
      (J13 l23 ⟨noted24.a, noted24.len, noted24.cap⟩ w26)))
def A_law20_AuditKeeps : Ann := ⟨[(9, [(6, .one (.ptr)), (8, .one (.sl)), (9, .one (.int .i64))])], [(10, [(6, .one (.ptr)), (8, .one (.sl))]), (11, []), (14, []), (24, [(95, .one (.bool))]), (25, [(8, .one (.sl))]), (28, [(6, .one (.ptr)), (8, .one (.sl))])], [(23, [⟨0, 0, 0, true⟩, ⟨1, 1, 1, true⟩, ⟨0, 0, 0, true⟩, ⟨4, 4, 4, true⟩, ⟨8, 8, 12, true⟩, ⟨18, 18, 31, true⟩, ⟨32, 32, 63, true⟩, ⟨64, 64, 127, true⟩, ⟨192, 192, 255, true⟩, ⟨320, 320, 511, true⟩, ⟨576, 512, 1023, true⟩, ⟨1024, 1024, 2047, true⟩, ⟨1024, 1024, 2047, true⟩, ⟨5120, 5120, 6143, true⟩, ⟨11264, 11264, 16383, true⟩, ⟨17408, 17408, 32767, true⟩, ⟨1024, 1024, 2047, true⟩, ⟨66560, 66560, 67583, true⟩, ⟨164864, 0, 262143, false⟩, ⟨263168, 263168, 524287, true⟩])]⟩
theorem F_law20_AuditKeeps_eq (acts : Sl) (w : World) (Q : Value → World → Prop) : vcFn Tryd.prog A_law20_AuditKeeps Tryd.f4 #[.slice (acts.a) (acts.len) (acts.cap)] w Q = F_law20_AuditKeeps acts w Q := by kernel_rfl
theorem F_law20_AuditKeeps_does (acts : Sl) (w : World) (Q : Value → World → Prop) (hQ : F_law20_AuditKeeps acts w Q) : Does Tryd.prog N_law20_AuditKeeps #[.slice (acts.a) (acts.len) (acts.cap)] w Q :=
  vcFn_sound noAsk mixed (A := A_law20_AuditKeeps) (by kernel_rfl) Tryd.func4 (Nat.le_of_ble_eq_true (by kernel_rfl)) (by kernel_rfl) ((F_law20_AuditKeeps_eq acts w Q).mpr hQ)

/- nacelle/nacellelaw20.AuditPlays -/
def F_law20_AuditPlays (n : Int) (acts : Sl) (w : World) (Q : Value → World → Prop) : Prop :=
  Does Tryd.prog N_law20_count #[.int .i64 (n)] w fun r1 w2 => ∃ x3 : Int, r1 = .int .i64 (x3) ∧
  Does Tryd.prog N_law20_part #[.int .i64 (x3)] w2 fun r4 w5 => ∃ p6 : Option Addr, ∃ p7 : Option Addr, ∃ b8 : Bool, r4 = .tuple #[.pointer (p6), .pointer (p7), .bool (b8)] ∧
  Does Tryd.prog N_ref05_New #[.int .i64 (12)] w5 fun r9 w10 => ∃ l11 : Sl, ∃ l12 : Sl, ∃ b13 : Bool, ∃ x14 : Int, ∃ l15 : Sl, ∃ b16 : Bool, r9 = .tuple #[.agg #[.slice (l11.a) (l11.len) (l11.cap), .slice (l12.a) (l12.len) (l12.cap), .bool (b13), .int .i64 (x14), .slice (l15.a) (l15.len) (l15.cap)], .bool (b16)] ∧
  allocK w10 (zc Tryd.prog T_ref05_Disk) T_ref05_Disk fun a17 w18 =>
  stC w18 (a17) (.slice (l11.a) (l11.len) (l11.cap)) fun w20 => stC w20 ((a17).add 1) (.slice (l12.a) (l12.len) (l12.cap)) fun w21 => stC w21 ((a17).add 2) (.bool (b13)) fun w22 => stC w22 ((a17).add 3) (.int .i64 (x14)) fun w23 => stC w23 ((a17).add 4) (.slice (l15.a) (l15.len) (l15.cap)) fun w24 =>
  cond (!b8)
  (Q (.bool (false)) w24)
  (Does Tryd.prog N_audit_Open #[.pointer (p7)] w24 fun r25 w26 => ∃ p27 : Option Addr, ∃ x28 : Int, r25 = .tuple #[.pointer (p27), .int .i64 (x28)] ∧
   ∀ J32 : Addr → Int → World → Prop, (∀ r29 : Addr, ∀ k30 : Int, ∀ w31 : World, 
     (∀ J34 : World → Prop, (∀ w33 : World, 
       (∀ J36 : World → Prop, (∀ w35 : World, 
         (Does Tryd.prog N_law20_awake #[] w35 fun r37 w38 => ∃ b39 : Bool, r37 = .bool (b39) ∧
         Q (.bool (b39)) w38) → J36 w35) →
       ∃ (I43 : Option Addr → Int → World → Prop) (M44 : Option Addr → Int → World → Nat), I43 p27 0 w33 ∧
       ∀ l40 : Option Addr, ∀ i41 : Int, ∀ w42 : World, I43 l40 i41 w42 →
         ∀ J46 : World → Prop, (∀ w45 : World, 
           (∀ J49 : Option Addr → World → Prop, (∀ l47 : Option Addr, ∀ w48 : World, 
             (I43 l47 (IntKind.wrap .i64 (i41 + 1)) w48 ∧ M44 l47 (IntKind.wrap .i64 (i41 + 1)) w48 < M44 l40 i41 w42) → J49 l47 w48) →
           idx (acts.a) (acts.len) (i41) 7 fun a50 =>
           ldT (.int .i64) w45 (a50) fun x51 => ldT (.int .i64) w45 ((a50).add 1) fun x52 => ldT (.int .i64) w45 ((a50).add 2) fun x53 => ldT (.int .i64) w45 ((a50).add 3) fun x54 => ldT (.int .u32) w45 ((a50).add 4) fun x55 => ldT (.int .i64) w45 ((a50).add 5) fun x56 => ldT (.sl) w45 ((a50).add 6) fun l57 =>
           allocK w45 (zc Tryd.prog T_law20_Act) T_law20_Act fun a58 w59 =>
           stC w59 (a58) (.int .i64 (x51)) fun w61 => stC w61 ((a58).add 1) (.int .i64 (x52)) fun w62 => stC w62 ((a58).add 2) (.int .i64 (x53)) fun w63 => stC w63 ((a58).add 3) (.int .i64 (x54)) fun w64 => stC w64 ((a58).add 4) (.int .u32 (x55)) fun w65 => stC w65 ((a58).add 5) (.int .i64 (x56)) fun w66 => stC w66 ((a58).add 6) (.slice (l57.a) (l57.len) (l57.cap)) fun w67 =>
           ∀ J70 : Option Addr → World → Prop, (∀ l68 : Option Addr, ∀ w69 : World, 
             (ldT (.sl) w69.drew ((r29).add 7) fun l71 =>
             Does Tryd.prog N_audit_Log_Entries #[.pointer (l68)] w69.drew fun r72 w73 => ∃ l74 : Sl, r72 = .slice (l74.a) (l74.len) (l74.cap) ∧
             w73.cell? ((r29).add 7) = some (.slice (l71.a) (l71.len) (l71.cap)) ∧ Does Tryd.prog N_law20_same #[.slice (l74.a) (l74.len) (l74.cap), .slice (l71.a) (l71.len) (l71.cap)] w73 fun r75 w76 => ∃ b77 : Bool, r75 = .bool (b77) ∧
             cond (!b77)
             (Q (.bool (false)) w76)
             (ldT (.bool) w76 ((r29).add 8) fun b78 =>
              Does Tryd.prog N_audit_Log_Dead #[.pointer (l68)] w76 fun r79 w80 => ∃ b81 : Bool, r79 = .bool (b81) ∧
              w80.cell? ((r29).add 8) = some (.bool (b78)) ∧ cond (!(b81 == b78))
              (Q (.bool (false)) w80)
              (ldT (.sl) w80 (r29) fun l82 => ldT (.sl) w80 ((r29).add 1) fun l83 => ldT (.bool) w80 ((r29).add 2) fun b84 => ldT (.int .i64) w80 ((r29).add 3) fun x85 => ldT (.sl) w80 ((r29).add 4) fun l86 =>
               Does Tryd.prog N_disk_Disk_Image #[.pointer (p6)] w80 fun r87 w88 => ∃ l89 : Sl, r87 = .slice (l89.a) (l89.len) (l89.cap) ∧
               ((#[.slice (l82.a) (l82.len) (l82.cap), .slice (l83.a) (l83.len) (l83.cap), .bool (b84), .int .i64 (x85), .slice (l86.a) (l86.len) (l86.cap)] : Array Value).size = 5 ∧ RowIs w88 (r29) #[.slice (l82.a) (l82.len) (l82.cap), .slice (l83.a) (l83.len) (l83.cap), .bool (b84), .int .i64 (x85), .slice (l86.a) (l86.len) (l86.cap)]) ∧ ∃ s90 : ByteArray, (convert T_l_uint8 T_string (.slice (l89.a) (l89.len) (l89.cap))).run Tryd.prog w88 = .ok (.string (s90)) w88 ∧
               Does Tryd.prog N_ref05_Disk_Image #[.agg #[.slice (l82.a) (l82.len) (l82.cap), .slice (l83.a) (l83.len) (l83.cap), .bool (b84), .int .i64 (x85), .slice (l86.a) (l86.len) (l86.cap)]] w88 fun r91 w92 => ∃ s93 : ByteArray, r91 = .string (s93) ∧
               (convert T_l_uint8 T_string (.slice (l89.a) (l89.len) (l89.cap))).run Tryd.prog w92 = .ok (.string (s90)) w92 ∧ cond (!((s90).toList == (s93).toList))
               (Q (.bool (false)) w92)
               (J49 l68 w92)))) → J70 l68 w69) →
           ldT (.int .i64) w67 (a58) fun x94 =>
           ∀ J97 : Bool → World → Prop, (∀ b95 : Bool, ∀ w96 : World, 
             (cond (b95)
             (ldT (.sl) w96 (r29) fun l98 => ldT (.sl) w96 ((r29).add 1) fun l99 => ldT (.bool) w96 ((r29).add 2) fun b100 => ldT (.int .i64) w96 ((r29).add 3) fun x101 => ldT (.sl) w96 ((r29).add 4) fun l102 => ldT (.int .i64) w96 ((r29).add 5) fun x103 => ldT (.int .i64) w96 ((r29).add 6) fun x104 => ldT (.sl) w96 ((r29).add 7) fun l105 => ldT (.bool) w96 ((r29).add 8) fun b106 =>
              ldT (.int .i64) w96 ((a58).add 2) fun x107 => ldT (.int .i64) w96 (((a58).add 2).add 1) fun x108 => ldT (.int .u32) w96 (((a58).add 2).add 2) fun x109 => ldT (.int .i64) w96 (((a58).add 2).add 3) fun x110 =>
              Does Tryd.prog N_ref20_Log_Add #[.agg #[.slice (l98.a) (l98.len) (l98.cap), .slice (l99.a) (l99.len) (l99.cap), .bool (b100), .int .i64 (x101), .slice (l102.a) (l102.len) (l102.cap), .int .i64 (x103), .int .i64 (x104), .slice (l105.a) (l105.len) (l105.cap), .bool (b106)], .agg #[.int .i64 (x107), .int .i64 (x108), .int .u32 (x109), .int .i64 (x110)]] w96 fun r111 w112 => ∃ l113 : Sl, ∃ l114 : Sl, ∃ b115 : Bool, ∃ x116 : Int, ∃ l117 : Sl, ∃ x118 : Int, ∃ x119 : Int, ∃ l120 : Sl, ∃ b121 : Bool, ∃ x122 : Int, r111 = .tuple #[.agg #[.slice (l113.a) (l113.len) (l113.cap), .slice (l114.a) (l114.len) (l114.cap), .bool (b115), .int .i64 (x116), .slice (l117.a) (l117.len) (l117.cap), .int .i64 (x118), .int .i64 (x119), .slice (l120.a) (l120.len) (l120.cap), .bool (b121)], .int .i64 (x122)] ∧
              allocK w112 (zc Tryd.prog T_ref20_Log) T_ref20_Log fun a123 w124 =>
              stC w124 (a123) (.slice (l113.a) (l113.len) (l113.cap)) fun w126 => stC w126 ((a123).add 1) (.slice (l114.a) (l114.len) (l114.cap)) fun w127 => stC w127 ((a123).add 2) (.bool (b115)) fun w128 => stC w128 ((a123).add 3) (.int .i64 (x116)) fun w129 => stC w129 ((a123).add 4) (.slice (l117.a) (l117.len) (l117.cap)) fun w130 => stC w130 ((a123).add 5) (.int .i64 (x118)) fun w131 => stC w131 ((a123).add 6) (.int .i64 (x119)) fun w132 => stC w132 ((a123).add 7) (.slice (l120.a) (l120.len) (l120.cap)) fun w133 => stC w133 ((a123).add 8) (.bool (b121)) fun w134 =>
              ldT (.sl) w134 (a123) fun l135 => ldT (.sl) w134 ((a123).add 1) fun l136 => ldT (.bool) w134 ((a123).add 2) fun b137 => ldT (.int .i64) w134 ((a123).add 3) fun x138 => ldT (.sl) w134 ((a123).add 4) fun l139 => ldT (.int .i64) w134 ((a123).add 5) fun x140 => ldT (.int .i64) w134 ((a123).add 6) fun x141 => ldT (.sl) w134 ((a123).add 7) fun l142 => ldT (.bool) w134 ((a123).add 8) fun b143 =>
              stC w134 (r29) (.slice (l135.a) (l135.len) (l135.cap)) fun w145 => stC w145 ((r29).add 1) (.slice (l136.a) (l136.len) (l136.cap)) fun w146 => stC w146 ((r29).add 2) (.bool (b137)) fun w147 => stC w147 ((r29).add 3) (.int .i64 (x138)) fun w148 => stC w148 ((r29).add 4) (.slice (l139.a) (l139.len) (l139.cap)) fun w149 => stC w149 ((r29).add 5) (.int .i64 (x140)) fun w150 => stC w150 ((r29).add 6) (.int .i64 (x141)) fun w151 => stC w151 ((r29).add 7) (.slice (l142.a) (l142.len) (l142.cap)) fun w152 => stC w152 ((r29).add 8) (.bool (b143)) fun w153 =>
              ldT (.int .i64) w153 ((a58).add 2) fun x154 => ldT (.int .i64) w153 (((a58).add 2).add 1) fun x155 => ldT (.int .u32) w153 (((a58).add 2).add 2) fun x156 => ldT (.int .i64) w153 (((a58).add 2).add 3) fun x157 =>
              Does Tryd.prog N_audit_Log_Add #[.pointer (l40), .agg #[.int .i64 (x154), .int .i64 (x155), .int .u32 (x156), .int .i64 (x157)]] w153 fun r158 w159 => ∃ x160 : Int, r158 = .int .i64 (x160) ∧
              cond ((x160 : Int) != x122)
              (Q (.bool (false)) w159)
              (J70 l40 w159))
             (cond ((x94 : Int) == 5)
              (ldT (.int .i64) w96 ((a58).add 1) fun x161 =>
               ldT (.sl) w96 ((a58).add 6) fun l162 =>
               Does Tryd.prog N_disk_Disk_Arm #[.pointer (p6), .int .i64 (x161), .slice (l162.a) (l162.len) (l162.cap)] w96 fun r163 w164 => r163 = .tuple #[] ∧
               ldT (.sl) w164 (r29) fun l165 => ldT (.sl) w164 ((r29).add 1) fun l166 => ldT (.bool) w164 ((r29).add 2) fun b167 => ldT (.int .i64) w164 ((r29).add 3) fun x168 => ldT (.sl) w164 ((r29).add 4) fun l169 =>
               ldT (.int .i64) w164 ((a58).add 1) fun x170 =>
               ldT (.sl) w164 ((a58).add 6) fun l171 =>
               Does Tryd.prog N_ref05_Disk_Arm #[.agg #[.slice (l165.a) (l165.len) (l165.cap), .slice (l166.a) (l166.len) (l166.cap), .bool (b167), .int .i64 (x168), .slice (l169.a) (l169.len) (l169.cap)], .int .i64 (x170), .slice (l171.a) (l171.len) (l171.cap)] w164 fun r172 w173 => ∃ l174 : Sl, ∃ l175 : Sl, ∃ b176 : Bool, ∃ x177 : Int, ∃ l178 : Sl, r172 = .agg #[.slice (l174.a) (l174.len) (l174.cap), .slice (l175.a) (l175.len) (l175.cap), .bool (b176), .int .i64 (x177), .slice (l178.a) (l178.len) (l178.cap)] ∧
               stC w173 (r29) (.slice (l174.a) (l174.len) (l174.cap)) fun w180 => stC w180 ((r29).add 1) (.slice (l175.a) (l175.len) (l175.cap)) fun w181 => stC w181 ((r29).add 2) (.bool (b176)) fun w182 => stC w182 ((r29).add 3) (.int .i64 (x177)) fun w183 => stC w183 ((r29).add 4) (.slice (l178.a) (l178.len) (l178.cap)) fun w184 =>
               J70 l40 w184)
              (∀ J186 : World → Prop, (∀ w185 : World, 
                 (Does Tryd.prog N_audit_Open #[.pointer (p7)] w185 fun r187 w188 => ∃ p189 : Option Addr, ∃ x190 : Int, r187 = .tuple #[.pointer (p189), .int .i64 (x190)] ∧
                 ∀ J194 : Addr → Int → World → Prop, (∀ x191 : Addr, ∀ k192 : Int, ∀ w193 : World, 
                   (∀ J196 : World → Prop, (∀ w195 : World, 
                     (cond ((k192 : Int) == 0)
                     (ldT (.sl) w195.drew (x191) fun l197 => ldT (.sl) w195.drew ((x191).add 1) fun l198 => ldT (.bool) w195.drew ((x191).add 2) fun b199 => ldT (.int .i64) w195.drew ((x191).add 3) fun x200 => ldT (.sl) w195.drew ((x191).add 4) fun l201 => ldT (.int .i64) w195.drew ((x191).add 5) fun x202 => ldT (.int .i64) w195.drew ((x191).add 6) fun x203 => ldT (.sl) w195.drew ((x191).add 7) fun l204 => ldT (.bool) w195.drew ((x191).add 8) fun b205 =>
                      stC w195.drew (r29) (.slice (l197.a) (l197.len) (l197.cap)) fun w207 => stC w207 ((r29).add 1) (.slice (l198.a) (l198.len) (l198.cap)) fun w208 => stC w208 ((r29).add 2) (.bool (b199)) fun w209 => stC w209 ((r29).add 3) (.int .i64 (x200)) fun w210 => stC w210 ((r29).add 4) (.slice (l201.a) (l201.len) (l201.cap)) fun w211 => stC w211 ((r29).add 5) (.int .i64 (x202)) fun w212 => stC w212 ((r29).add 6) (.int .i64 (x203)) fun w213 => stC w213 ((r29).add 7) (.slice (l204.a) (l204.len) (l204.cap)) fun w214 => stC w214 ((r29).add 8) (.bool (b205)) fun w215 =>
                      J70 p189 w215)
                     (J70 l40 w195)) → J196 w195) →
                   cond ((x190 : Int) != k192)
                   (Q (.bool (false)) w193)
                   (runG (.bool) Tryd.prog w193 (do eqGuard .eql T_p_audit_Log (.tmp 102) (.const (.pointer (none))) (.pointer (p189)) (.pointer (none)); binOp .eql T_p_audit_Log (.pointer (p189)) (.pointer (none))) fun b216 w217 =>
                    cond (!(b216 == ((k192 : Int) != 0)))
                    (Q (.bool (false)) w217)
                    (J196 w217))) → J194 x191 k192 w193) →
                 ldT (.sl) w188.drew (r29) fun l218 => ldT (.sl) w188.drew ((r29).add 1) fun l219 => ldT (.bool) w188.drew ((r29).add 2) fun b220 => ldT (.int .i64) w188.drew ((r29).add 3) fun x221 => ldT (.sl) w188.drew ((r29).add 4) fun l222 =>
                 (Does Tryd.prog N_law20_count #[.int .i64 (n)] w188.drew fun r223 w224 => ∃ x225 : Int, r223 = .int .i64 (x225) ∧
                  ((#[.slice (l218.a) (l218.len) (l218.cap), .slice (l219.a) (l219.len) (l219.cap), .bool (b220), .int .i64 (x221), .slice (l222.a) (l222.len) (l222.cap)] : Array Value).size = 5 ∧ RowIs w224 (r29) #[.slice (l218.a) (l218.len) (l218.cap), .slice (l219.a) (l219.len) (l219.cap), .bool (b220), .int .i64 (x221), .slice (l222.a) (l222.len) (l222.cap)]) ∧ (Does Tryd.prog N_ref20_Open #[.agg #[.slice (l218.a) (l218.len) (l218.cap), .slice (l219.a) (l219.len) (l219.cap), .bool (b220), .int .i64 (x221), .slice (l222.a) (l222.len) (l222.cap)], .int .i64 (2), .int .i64 (x225)] w224 fun r226 w227 => ∃ l228 : Sl, ∃ l229 : Sl, ∃ b230 : Bool, ∃ x231 : Int, ∃ l232 : Sl, ∃ x233 : Int, ∃ x234 : Int, ∃ l235 : Sl, ∃ b236 : Bool, ∃ x237 : Int, r226 = .tuple #[.agg #[.slice (l228.a) (l228.len) (l228.cap), .slice (l229.a) (l229.len) (l229.cap), .bool (b230), .int .i64 (x231), .slice (l232.a) (l232.len) (l232.cap), .int .i64 (x233), .int .i64 (x234), .slice (l235.a) (l235.len) (l235.cap), .bool (b236)], .int .i64 (x237)] ∧
                   allocK w227 (zc Tryd.prog T_ref20_Log) T_ref20_Log fun a238 w239 =>
                   stC w239 (a238) (.slice (l228.a) (l228.len) (l228.cap)) fun w241 => stC w241 ((a238).add 1) (.slice (l229.a) (l229.len) (l229.cap)) fun w242 => stC w242 ((a238).add 2) (.bool (b230)) fun w243 => stC w243 ((a238).add 3) (.int .i64 (x231)) fun w244 => stC w244 ((a238).add 4) (.slice (l232.a) (l232.len) (l232.cap)) fun w245 => stC w245 ((a238).add 5) (.int .i64 (x233)) fun w246 => stC w246 ((a238).add 6) (.int .i64 (x234)) fun w247 => stC w247 ((a238).add 7) (.slice (l235.a) (l235.len) (l235.cap)) fun w248 => stC w248 ((a238).add 8) (.bool (b236)) fun w249 =>
                   J194 (a238) x237 w249) ∧
                  (allocK w224 (zc Tryd.prog T_ref20_Log) T_ref20_Log fun a250 w251 =>
                   ((#[.slice (l218.a) (l218.len) (l218.cap), .slice (l219.a) (l219.len) (l219.cap), .bool (b220), .int .i64 (x221), .slice (l222.a) (l222.len) (l222.cap)] : Array Value).size = 5 ∧ RowIs w251 (r29) #[.slice (l218.a) (l218.len) (l218.cap), .slice (l219.a) (l219.len) (l219.cap), .bool (b220), .int .i64 (x221), .slice (l222.a) (l222.len) (l222.cap)]) ∧ Does Tryd.prog N_ref20_Open #[.agg #[.slice (l218.a) (l218.len) (l218.cap), .slice (l219.a) (l219.len) (l219.cap), .bool (b220), .int .i64 (x221), .slice (l222.a) (l222.len) (l222.cap)], .int .i64 (2), .int .i64 (x225)] w251 fun r252 w253 => ∃ l254 : Sl, ∃ l255 : Sl, ∃ b256 : Bool, ∃ x257 : Int, ∃ l258 : Sl, ∃ x259 : Int, ∃ x260 : Int, ∃ l261 : Sl, ∃ b262 : Bool, ∃ x263 : Int, r252 = .tuple #[.agg #[.slice (l254.a) (l254.len) (l254.cap), .slice (l255.a) (l255.len) (l255.cap), .bool (b256), .int .i64 (x257), .slice (l258.a) (l258.len) (l258.cap), .int .i64 (x259), .int .i64 (x260), .slice (l261.a) (l261.len) (l261.cap), .bool (b262)], .int .i64 (x263)] ∧
                   stC w253 (a250) (.slice (l254.a) (l254.len) (l254.cap)) fun w265 => stC w265 ((a250).add 1) (.slice (l255.a) (l255.len) (l255.cap)) fun w266 => stC w266 ((a250).add 2) (.bool (b256)) fun w267 => stC w267 ((a250).add 3) (.int .i64 (x257)) fun w268 => stC w268 ((a250).add 4) (.slice (l258.a) (l258.len) (l258.cap)) fun w269 => stC w269 ((a250).add 5) (.int .i64 (x259)) fun w270 => stC w270 ((a250).add 6) (.int .i64 (x260)) fun w271 => stC w271 ((a250).add 7) (.slice (l261.a) (l261.len) (l261.cap)) fun w272 => stC w272 ((a250).add 8) (.bool (b262)) fun w273 =>
                   J194 (a250) x263 w273)) ∧
                 (allocK w188.drew (zc Tryd.prog T_ref20_Log) T_ref20_Log fun a274 w275 =>
                  ((#[.slice (l218.a) (l218.len) (l218.cap), .slice (l219.a) (l219.len) (l219.cap), .bool (b220), .int .i64 (x221), .slice (l222.a) (l222.len) (l222.cap)] : Array Value).size = 5 ∧ RowIs w275 (r29) #[.slice (l218.a) (l218.len) (l218.cap), .slice (l219.a) (l219.len) (l219.cap), .bool (b220), .int .i64 (x221), .slice (l222.a) (l222.len) (l222.cap)]) ∧ Does Tryd.prog N_law20_count #[.int .i64 (n)] w275 fun r276 w277 => ∃ x278 : Int, r276 = .int .i64 (x278) ∧
                  ((#[.slice (l218.a) (l218.len) (l218.cap), .slice (l219.a) (l219.len) (l219.cap), .bool (b220), .int .i64 (x221), .slice (l222.a) (l222.len) (l222.cap)] : Array Value).size = 5 ∧ RowIs w277 (r29) #[.slice (l218.a) (l218.len) (l218.cap), .slice (l219.a) (l219.len) (l219.cap), .bool (b220), .int .i64 (x221), .slice (l222.a) (l222.len) (l222.cap)]) ∧ Does Tryd.prog N_ref20_Open #[.agg #[.slice (l218.a) (l218.len) (l218.cap), .slice (l219.a) (l219.len) (l219.cap), .bool (b220), .int .i64 (x221), .slice (l222.a) (l222.len) (l222.cap)], .int .i64 (2), .int .i64 (x278)] w277 fun r279 w280 => ∃ l281 : Sl, ∃ l282 : Sl, ∃ b283 : Bool, ∃ x284 : Int, ∃ l285 : Sl, ∃ x286 : Int, ∃ x287 : Int, ∃ l288 : Sl, ∃ b289 : Bool, ∃ x290 : Int, r279 = .tuple #[.agg #[.slice (l281.a) (l281.len) (l281.cap), .slice (l282.a) (l282.len) (l282.cap), .bool (b283), .int .i64 (x284), .slice (l285.a) (l285.len) (l285.cap), .int .i64 (x286), .int .i64 (x287), .slice (l288.a) (l288.len) (l288.cap), .bool (b289)], .int .i64 (x290)] ∧
                  stC w280 (a274) (.slice (l281.a) (l281.len) (l281.cap)) fun w292 => stC w292 ((a274).add 1) (.slice (l282.a) (l282.len) (l282.cap)) fun w293 => stC w293 ((a274).add 2) (.bool (b283)) fun w294 => stC w294 ((a274).add 3) (.int .i64 (x284)) fun w295 => stC w295 ((a274).add 4) (.slice (l285.a) (l285.len) (l285.cap)) fun w296 => stC w296 ((a274).add 5) (.int .i64 (x286)) fun w297 => stC w297 ((a274).add 6) (.int .i64 (x287)) fun w298 => stC w298 ((a274).add 7) (.slice (l288.a) (l288.len) (l288.cap)) fun w299 => stC w299 ((a274).add 8) (.bool (b289)) fun w300 =>
                  J194 (a274) x290 w300)) → J186 w185) →
               ldT (.int .i64) w96 (a58) fun x301 =>
               cond ((x301 : Int) == 6)
               (ldT (.sl) w96 ((a58).add 6) fun l302 =>
                Does Tryd.prog N_disk_Disk_Crash #[.pointer (p6), .slice (l302.a) (l302.len) (l302.cap)] w96 fun r303 w304 => r303 = .tuple #[] ∧
                Does Tryd.prog N_disk_Disk_Power #[.pointer (p6)] w304 fun r305 w306 => r305 = .tuple #[] ∧
                ldT (.sl) w306 (r29) fun l307 => ldT (.sl) w306 ((r29).add 1) fun l308 => ldT (.bool) w306 ((r29).add 2) fun b309 => ldT (.int .i64) w306 ((r29).add 3) fun x310 => ldT (.sl) w306 ((r29).add 4) fun l311 =>
                ldT (.sl) w306 ((a58).add 6) fun l312 =>
                Does Tryd.prog N_ref05_Disk_Crash #[.agg #[.slice (l307.a) (l307.len) (l307.cap), .slice (l308.a) (l308.len) (l308.cap), .bool (b309), .int .i64 (x310), .slice (l311.a) (l311.len) (l311.cap)], .slice (l312.a) (l312.len) (l312.cap)] w306 fun r313 w314 => ∃ l315 : Sl, ∃ l316 : Sl, ∃ b317 : Bool, ∃ x318 : Int, ∃ l319 : Sl, r313 = .agg #[.slice (l315.a) (l315.len) (l315.cap), .slice (l316.a) (l316.len) (l316.cap), .bool (b317), .int .i64 (x318), .slice (l319.a) (l319.len) (l319.cap)] ∧
                Does Tryd.prog N_ref05_Disk_Power #[.agg #[.slice (l315.a) (l315.len) (l315.cap), .slice (l316.a) (l316.len) (l316.cap), .bool (b317), .int .i64 (x318), .slice (l319.a) (l319.len) (l319.cap)]] w314 fun r320 w321 => ∃ l322 : Sl, ∃ l323 : Sl, ∃ b324 : Bool, ∃ x325 : Int, ∃ l326 : Sl, r320 = .agg #[.slice (l322.a) (l322.len) (l322.cap), .slice (l323.a) (l323.len) (l323.cap), .bool (b324), .int .i64 (x325), .slice (l326.a) (l326.len) (l326.cap)] ∧
                stC w321 (r29) (.slice (l322.a) (l322.len) (l322.cap)) fun w328 => stC w328 ((r29).add 1) (.slice (l323.a) (l323.len) (l323.cap)) fun w329 => stC w329 ((r29).add 2) (.bool (b324)) fun w330 => stC w330 ((r29).add 3) (.int .i64 (x325)) fun w331 => stC w331 ((r29).add 4) (.slice (l326.a) (l326.len) (l326.cap)) fun w332 =>
                J186 w332)
               (J186 w96)))) → J97 b95 w96) →
           cond ((x94 : Int) == 0)
           (J97 ((x94 : Int) == 0) w67)
           (cond ((x94 : Int) == 1)
            (J97 ((x94 : Int) == 1) w67)
            (cond ((x94 : Int) == 2)
             (J97 ((x94 : Int) == 2) w67)
             (cond ((x94 : Int) == 3)
              (J97 ((x94 : Int) == 3) w67)
              (J97 ((x94 : Int) == 4) w67))))) → J46 w45) →
         cond (decide ((i41 : Int) < (((acts.len : Nat) : Int))))
         (cond (decide ((i41 : Int) < 30))
          (J46 w42)
          (J36 w42))
         (J36 w42)) → J34 w33) →
     cond ((x28 : Int) != 0)
     (Q (.bool (false)) w31)
     (cond ((k30 : Int) != 0)
      (Q (.bool (false)) w31)
      (J34 w31))) → J32 r29 k30 w31) →
   ldT (.sl) w26.drew (a17) fun l333 => ldT (.sl) w26.drew ((a17).add 1) fun l334 => ldT (.bool) w26.drew ((a17).add 2) fun b335 => ldT (.int .i64) w26.drew ((a17).add 3) fun x336 => ldT (.sl) w26.drew ((a17).add 4) fun l337 =>
   (Does Tryd.prog N_law20_count #[.int .i64 (n)] w26.drew fun r338 w339 => ∃ x340 : Int, r338 = .int .i64 (x340) ∧
    ((#[.slice (l333.a) (l333.len) (l333.cap), .slice (l334.a) (l334.len) (l334.cap), .bool (b335), .int .i64 (x336), .slice (l337.a) (l337.len) (l337.cap)] : Array Value).size = 5 ∧ RowIs w339 (a17) #[.slice (l333.a) (l333.len) (l333.cap), .slice (l334.a) (l334.len) (l334.cap), .bool (b335), .int .i64 (x336), .slice (l337.a) (l337.len) (l337.cap)]) ∧ (Does Tryd.prog N_ref20_Open #[.agg #[.slice (l333.a) (l333.len) (l333.cap), .slice (l334.a) (l334.len) (l334.cap), .bool (b335), .int .i64 (x336), .slice (l337.a) (l337.len) (l337.cap)], .int .i64 (2), .int .i64 (x340)] w339 fun r341 w342 => ∃ l343 : Sl, ∃ l344 : Sl, ∃ b345 : Bool, ∃ x346 : Int, ∃ l347 : Sl, ∃ x348 : Int, ∃ x349 : Int, ∃ l350 : Sl, ∃ b351 : Bool, ∃ x352 : Int, r341 = .tuple #[.agg #[.slice (l343.a) (l343.len) (l343.cap), .slice (l344.a) (l344.len) (l344.cap), .bool (b345), .int .i64 (x346), .slice (l347.a) (l347.len) (l347.cap), .int .i64 (x348), .int .i64 (x349), .slice (l350.a) (l350.len) (l350.cap), .bool (b351)], .int .i64 (x352)] ∧
     allocK w342 (zc Tryd.prog T_ref20_Log) T_ref20_Log fun a353 w354 =>
     stC w354 (a353) (.slice (l343.a) (l343.len) (l343.cap)) fun w356 => stC w356 ((a353).add 1) (.slice (l344.a) (l344.len) (l344.cap)) fun w357 => stC w357 ((a353).add 2) (.bool (b345)) fun w358 => stC w358 ((a353).add 3) (.int .i64 (x346)) fun w359 => stC w359 ((a353).add 4) (.slice (l347.a) (l347.len) (l347.cap)) fun w360 => stC w360 ((a353).add 5) (.int .i64 (x348)) fun w361 => stC w361 ((a353).add 6) (.int .i64 (x349)) fun w362 => stC w362 ((a353).add 7) (.slice (l350.a) (l350.len) (l350.cap)) fun w363 => stC w363 ((a353).add 8) (.bool (b351)) fun w364 =>
     J32 (a353) x352 w364) ∧
    (allocK w339 (zc Tryd.prog T_ref20_Log) T_ref20_Log fun a365 w366 =>
     ((#[.slice (l333.a) (l333.len) (l333.cap), .slice (l334.a) (l334.len) (l334.cap), .bool (b335), .int .i64 (x336), .slice (l337.a) (l337.len) (l337.cap)] : Array Value).size = 5 ∧ RowIs w366 (a17) #[.slice (l333.a) (l333.len) (l333.cap), .slice (l334.a) (l334.len) (l334.cap), .bool (b335), .int .i64 (x336), .slice (l337.a) (l337.len) (l337.cap)]) ∧ Does Tryd.prog N_ref20_Open #[.agg #[.slice (l333.a) (l333.len) (l333.cap), .slice (l334.a) (l334.len) (l334.cap), .bool (b335), .int .i64 (x336), .slice (l337.a) (l337.len) (l337.cap)], .int .i64 (2), .int .i64 (x340)] w366 fun r367 w368 => ∃ l369 : Sl, ∃ l370 : Sl, ∃ b371 : Bool, ∃ x372 : Int, ∃ l373 : Sl, ∃ x374 : Int, ∃ x375 : Int, ∃ l376 : Sl, ∃ b377 : Bool, ∃ x378 : Int, r367 = .tuple #[.agg #[.slice (l369.a) (l369.len) (l369.cap), .slice (l370.a) (l370.len) (l370.cap), .bool (b371), .int .i64 (x372), .slice (l373.a) (l373.len) (l373.cap), .int .i64 (x374), .int .i64 (x375), .slice (l376.a) (l376.len) (l376.cap), .bool (b377)], .int .i64 (x378)] ∧
     stC w368 (a365) (.slice (l369.a) (l369.len) (l369.cap)) fun w380 => stC w380 ((a365).add 1) (.slice (l370.a) (l370.len) (l370.cap)) fun w381 => stC w381 ((a365).add 2) (.bool (b371)) fun w382 => stC w382 ((a365).add 3) (.int .i64 (x372)) fun w383 => stC w383 ((a365).add 4) (.slice (l373.a) (l373.len) (l373.cap)) fun w384 => stC w384 ((a365).add 5) (.int .i64 (x374)) fun w385 => stC w385 ((a365).add 6) (.int .i64 (x375)) fun w386 => stC w386 ((a365).add 7) (.slice (l376.a) (l376.len) (l376.cap)) fun w387 => stC w387 ((a365).add 8) (.bool (b377)) fun w388 =>
     J32 (a365) x378 w388)) ∧
   (allocK w26.drew (zc Tryd.prog T_ref20_Log) T_ref20_Log fun a389 w390 =>
    ((#[.slice (l333.a) (l333.len) (l333.cap), .slice (l334.a) (l334.len) (l334.cap), .bool (b335), .int .i64 (x336), .slice (l337.a) (l337.len) (l337.cap)] : Array Value).size = 5 ∧ RowIs w390 (a17) #[.slice (l333.a) (l333.len) (l333.cap), .slice (l334.a) (l334.len) (l334.cap), .bool (b335), .int .i64 (x336), .slice (l337.a) (l337.len) (l337.cap)]) ∧ Does Tryd.prog N_law20_count #[.int .i64 (n)] w390 fun r391 w392 => ∃ x393 : Int, r391 = .int .i64 (x393) ∧
    ((#[.slice (l333.a) (l333.len) (l333.cap), .slice (l334.a) (l334.len) (l334.cap), .bool (b335), .int .i64 (x336), .slice (l337.a) (l337.len) (l337.cap)] : Array Value).size = 5 ∧ RowIs w392 (a17) #[.slice (l333.a) (l333.len) (l333.cap), .slice (l334.a) (l334.len) (l334.cap), .bool (b335), .int .i64 (x336), .slice (l337.a) (l337.len) (l337.cap)]) ∧ Does Tryd.prog N_ref20_Open #[.agg #[.slice (l333.a) (l333.len) (l333.cap), .slice (l334.a) (l334.len) (l334.cap), .bool (b335), .int .i64 (x336), .slice (l337.a) (l337.len) (l337.cap)], .int .i64 (2), .int .i64 (x393)] w392 fun r394 w395 => ∃ l396 : Sl, ∃ l397 : Sl, ∃ b398 : Bool, ∃ x399 : Int, ∃ l400 : Sl, ∃ x401 : Int, ∃ x402 : Int, ∃ l403 : Sl, ∃ b404 : Bool, ∃ x405 : Int, r394 = .tuple #[.agg #[.slice (l396.a) (l396.len) (l396.cap), .slice (l397.a) (l397.len) (l397.cap), .bool (b398), .int .i64 (x399), .slice (l400.a) (l400.len) (l400.cap), .int .i64 (x401), .int .i64 (x402), .slice (l403.a) (l403.len) (l403.cap), .bool (b404)], .int .i64 (x405)] ∧
    stC w395 (a389) (.slice (l396.a) (l396.len) (l396.cap)) fun w407 => stC w407 ((a389).add 1) (.slice (l397.a) (l397.len) (l397.cap)) fun w408 => stC w408 ((a389).add 2) (.bool (b398)) fun w409 => stC w409 ((a389).add 3) (.int .i64 (x399)) fun w410 => stC w410 ((a389).add 4) (.slice (l400.a) (l400.len) (l400.cap)) fun w411 => stC w411 ((a389).add 5) (.int .i64 (x401)) fun w412 => stC w412 ((a389).add 6) (.int .i64 (x402)) fun w413 => stC w413 ((a389).add 7) (.slice (l403.a) (l403.len) (l403.cap)) fun w414 => stC w414 ((a389).add 8) (.bool (b404)) fun w415 =>
    J32 (a389) x405 w415))
def A_law20_AuditPlays : Ann := ⟨[(10, [(10, .one (.ptr)), (14, .one (.int .i64))])], [(7, [(12, .one (.adr)), (13, .one (.int .i64))]), (9, []), (11, [(10, .one (.ptr))]), (12, []), (18, []), (20, [(20, .one (.adr)), (21, .one (.int .i64))]), (22, []), (29, [(112, .one (.bool))]), (36, [(10, .one (.ptr))]), (38, [])], [(6, [⟨0, 0, 0, true⟩, ⟨0, 0, 0, true⟩, ⟨2, 0, 2, false⟩, ⟨5, 0, 7, false⟩, ⟨8, 8, 15, true⟩, ⟨16, 16, 31, true⟩, ⟨16, 16, 31, true⟩, ⟨0, 0, 0, false⟩, ⟨191, 0, 191, false⟩, ⟨511, 64, 511, true⟩]), (19, [⟨0, 0, 0, true⟩, ⟨1, 1, 1, true⟩, ⟨0, 0, 0, true⟩, ⟨4, 0, 4, false⟩, ⟨10, 0, 15, false⟩, ⟨16, 16, 31, true⟩, ⟨32, 32, 63, true⟩, ⟨32, 32, 63, true⟩, ⟨0, 0, 0, false⟩, ⟨383, 0, 383, false⟩, ⟨1023, 128, 1023, true⟩]), (23, [⟨0, 0, 0, true⟩, ⟨0, 0, 0, true⟩, ⟨1, 1, 1, true⟩, ⟨7, 0, 7, false⟩]), (36, [⟨0, 0, 0, true⟩, ⟨1, 0, 1, false⟩, ⟨0, 0, 0, true⟩, ⟨4, 4, 4, true⟩, ⟨10, 0, 15, false⟩, ⟨16, 16, 31, true⟩, ⟨48, 32, 63, true⟩, ⟨64, 64, 127, true⟩, ⟨192, 0, 255, false⟩, ⟨64, 64, 127, true⟩, ⟨576, 576, 639, true⟩, ⟨1344, 1344, 2047, true⟩, ⟨2112, 2112, 4095, true⟩, ⟨4352, 4096, 8191, true⟩, ⟨8192, 8192, 16383, true⟩, ⟨24576, 0, 32767, false⟩, ⟨40960, 40960, 65535, true⟩, ⟨8192, 8192, 16383, true⟩, ⟨139264, 139264, 147455, true⟩, ⟨303104, 0, 458751, false⟩, ⟨598016, 598016, 1048575, true⟩, ⟨1056768, 1056768, 2097151, true⟩])]⟩
theorem F_law20_AuditPlays_eq (n : Int) (acts : Sl) (w : World) (Q : Value → World → Prop) : vcFn Tryd.prog A_law20_AuditPlays Tryd.f5 #[.int .i64 (n), .slice (acts.a) (acts.len) (acts.cap)] w Q = F_law20_AuditPlays n acts w Q := by kernel_rfl
theorem F_law20_AuditPlays_does (n : Int) (acts : Sl) (w : World) (Q : Value → World → Prop) (hQ : F_law20_AuditPlays n acts w Q) : Does Tryd.prog N_law20_AuditPlays #[.int .i64 (n), .slice (acts.a) (acts.len) (acts.cap)] w Q :=
  vcFn_sound noAsk mixed (A := A_law20_AuditPlays) (by kernel_rfl) Tryd.func5 (Nat.le_of_ble_eq_true (by kernel_rfl)) (by kernel_rfl) ((F_law20_AuditPlays_eq n acts w Q).mpr hQ)

/- nacelle/nacellelaw16.WalNumbers -/
def F_law16_WalNumbers (w : World) (Q : Value → World → Prop) : Prop :=
  Does Tryd.prog N_law16_awake #[] w fun r1 w2 => ∃ b3 : Bool, r1 = .bool (b3) ∧
  Q (.bool (b3)) w2
def A_law16_WalNumbers : Ann := ⟨[], [], []⟩
theorem F_law16_WalNumbers_eq (w : World) (Q : Value → World → Prop) : vcFn Tryd.prog A_law16_WalNumbers Tryd.f6 #[] w Q = F_law16_WalNumbers w Q := by kernel_rfl
theorem F_law16_WalNumbers_does (w : World) (Q : Value → World → Prop) (hQ : F_law16_WalNumbers w Q) : Does Tryd.prog N_law16_WalNumbers #[] w Q :=
  vcFn_sound noAsk mixed (A := A_law16_WalNumbers) (by kernel_rfl) Tryd.func6 (Nat.le_of_ble_eq_true (by kernel_rfl)) (by kernel_rfl) ((F_law16_WalNumbers_eq w Q).mpr hQ)

/- nacelle/nacellelaw16.WalConfined -/
def F_law16_WalConfined (acts : Sl) (w : World) (Q : Value → World → Prop) : Prop :=
  Does Tryd.prog N_law16_part #[.int .i64 (4)] w fun r1 w2 => ∃ p3 : Option Addr, ∃ p4 : Option Addr, ∃ l5 : Sl, ∃ l6 : Sl, ∃ b7 : Bool, ∃ x8 : Int, ∃ l9 : Sl, ∃ b10 : Bool, r1 = .tuple #[.pointer (p3), .pointer (p4), .agg #[.slice (l5.a) (l5.len) (l5.cap), .slice (l6.a) (l6.len) (l6.cap), .bool (b7), .int .i64 (x8), .slice (l9.a) (l9.len) (l9.cap)], .bool (b10)] ∧
  allocK w2 (zc Tryd.prog T_ref05_Disk) T_ref05_Disk fun a11 w12 =>
  stC w12 (a11) (.slice (l5.a) (l5.len) (l5.cap)) fun w14 => stC w14 ((a11).add 1) (.slice (l6.a) (l6.len) (l6.cap)) fun w15 => stC w15 ((a11).add 2) (.bool (b7)) fun w16 => stC w16 ((a11).add 3) (.int .i64 (x8)) fun w17 => stC w17 ((a11).add 4) (.slice (l9.a) (l9.len) (l9.cap)) fun w18 =>
  cond (!b10)
  (Q (.bool (false)) w18)
  (Does Tryd.prog N_wal_Open #[.pointer (p4)] w18 fun r19 w20 => ∃ p21 : Option Addr, ∃ x22 : Int, r19 = .tuple #[.pointer (p21), .int .i64 (x22)] ∧
   cond ((x22 : Int) != 0)
   (Q (.bool (false)) w20)
   (∀ J24 : World → Prop, (∀ w23 : World, 
      (∃ (I27 : Int → World → Prop) (M28 : Int → World → Nat), I27 0 w23 ∧
      ∀ i25 : Int, ∀ w26 : World, I27 i25 w26 →
        cond (decide ((i25 : Int) < 60))
        (∀ J30 : World → Prop, (∀ w29 : World, 
           (I27 (IntKind.wrap .i64 (i25 + 1)) w29 ∧ M28 (IntKind.wrap .i64 (i25 + 1)) w29 < M28 i25 w26) → J30 w29) →
         Does Tryd.prog N_disk_Disk_Read #[.pointer (p3), .int .i64 (i25)] w26 fun r31 w32 => ∃ l33 : Sl, ∃ x34 : Int, r31 = .tuple #[.slice (l33.a) (l33.len) (l33.cap), .int .i64 (x34)] ∧
         cond ((x34 : Int) != 0)
         (Q (.bool (false)) w32.drew)
         (cond (decide ((i25 : Int) < 4))
          (∃ s35 : ByteArray, (convert T_l_uint8 T_string (.slice (l33.a) (l33.len) (l33.cap))).run Tryd.prog w32.drew = .ok (.string (s35)) w32.drew ∧
           Does Tryd.prog N_ref05_Noughts #[] w32.drew fun r36 w37 => ∃ s38 : ByteArray, r36 = .string (s38) ∧
           (convert T_l_uint8 T_string (.slice (l33.a) (l33.len) (l33.cap))).run Tryd.prog w37 = .ok (.string (s35)) w37 ∧ cond (!((s35).toList == (s38).toList))
           (Q (.bool (false)) w37)
           (J30 w37))
          (cond (decide ((i25 : Int) ≥ 56))
           (∃ s39 : ByteArray, (convert T_l_uint8 T_string (.slice (l33.a) (l33.len) (l33.cap))).run Tryd.prog w32.drew = .ok (.string (s39)) w32.drew ∧
            Does Tryd.prog N_ref05_Noughts #[] w32.drew fun r40 w41 => ∃ s42 : ByteArray, r40 = .string (s42) ∧
            (convert T_l_uint8 T_string (.slice (l33.a) (l33.len) (l33.cap))).run Tryd.prog w41 = .ok (.string (s39)) w41 ∧ cond (!((s39).toList == (s42).toList))
            (Q (.bool (false)) w41)
            (J30 w41))
           (J30 w32.drew))))
        (Does Tryd.prog N_law16_awake #[] w26 fun r43 w44 => ∃ b45 : Bool, r43 = .bool (b45) ∧
         Q (.bool (b45)) w44)) → J24 w23) →
    ∃ (I48 : Int → World → Prop) (M49 : Int → World → Nat), I48 0 w20 ∧
    ∀ i46 : Int, ∀ w47 : World, I48 i46 w47 →
      ∀ J51 : World → Prop, (∀ w50 : World, 
        (idx (acts.a) (acts.len) (i46) 6 fun a52 =>
        ldT (.int .i64) w50 (a52) fun x53 => ldT (.int .i64) w50 ((a52).add 1) fun x54 => ldT (.int .i64) w50 ((a52).add 2) fun x55 => ldT (.int .i64) w50 ((a52).add 3) fun x56 => ldT (.int .u8) w50 ((a52).add 4) fun x57 => ldT (.sl) w50 ((a52).add 5) fun l58 =>
        Does Tryd.prog N_law16_Changes #[.agg #[.int .i64 (x53), .int .i64 (x54), .int .i64 (x55), .int .i64 (x56), .int .u8 (x57), .slice (l58.a) (l58.len) (l58.cap)]] w50 fun r59 w60 => ∃ l61 : Sl, r59 = .slice (l61.a) (l61.len) (l61.cap) ∧
        Does Tryd.prog N_wal_Log_Commit #[.pointer (p21), .slice (l61.a) (l61.len) (l61.cap)] w60 fun r62 w63 => ∃ x64 : Int, r62 = .int .i64 (x64) ∧
        I48 (IntKind.wrap .i64 (i46 + 1)) w63 ∧ M49 (IntKind.wrap .i64 (i46 + 1)) w63 < M49 i46 w47) → J51 w50) →
      cond (decide ((i46 : Int) < (((acts.len : Nat) : Int))))
      (cond (decide ((i46 : Int) < 20))
       (J51 w47)
       (J24 w47))
      (J24 w47)))
def A_law16_WalConfined : Ann := ⟨[(8, [(9, .one (.int .i64))]), (12, [(10, .one (.int .i64))])], [(10, []), (11, []), (13, [])], [(15, [⟨0, 0, 0, true⟩, ⟨1, 1, 1, true⟩, ⟨2, 2, 3, true⟩, ⟨4, 4, 7, true⟩, ⟨12, 12, 15, true⟩, ⟨20, 20, 31, true⟩, ⟨32, 32, 63, true⟩, ⟨96, 96, 127, true⟩, ⟨164, 164, 255, true⟩, ⟨292, 260, 511, true⟩, ⟨512, 512, 1023, true⟩, ⟨1536, 1536, 2047, true⟩, ⟨512, 0, 1023, false⟩, ⟨6656, 6656, 8191, true⟩, ⟨8708, 8708, 16383, true⟩, ⟨16388, 16388, 32767, true⟩])]⟩
theorem F_law16_WalConfined_eq (acts : Sl) (w : World) (Q : Value → World → Prop) : vcFn Tryd.prog A_law16_WalConfined Tryd.f7 #[.slice (acts.a) (acts.len) (acts.cap)] w Q = F_law16_WalConfined acts w Q := by kernel_rfl
theorem F_law16_WalConfined_does (acts : Sl) (w : World) (Q : Value → World → Prop) (hQ : F_law16_WalConfined acts w Q) : Does Tryd.prog N_law16_WalConfined #[.slice (acts.a) (acts.len) (acts.cap)] w Q :=
  vcFn_sound noAsk mixed (A := A_law16_WalConfined) (by kernel_rfl) Tryd.func7 (Nat.le_of_ble_eq_true (by kernel_rfl)) (by kernel_rfl) ((F_law16_WalConfined_eq acts w Q).mpr hQ)

/- nacelle/nacellelaw16.WalOpens -/
def F_law16_WalOpens (x0 : Sl) (x1 : Int) (x2 : Sl) (x3 : Sl) (w : World) (Q : Value → World → Prop) : Prop :=
  allocK w (#[.slice (x0.a) (x0.len) (x0.cap), .int .i64 (x1), .slice (x2.a) (x2.len) (x2.cap), .slice (x3.a) (x3.len) (x3.cap)]) T_law16_Forged fun a1 w2 =>
  ldT (.sl) w2.drew (a1) fun l3 =>
  ldT (.int .i64) w2.drew ((a1).add 1) fun x4 =>
  ldT (.sl) w2.drew ((a1).add 2) fun l5 =>
  ldT (.sl) w2.drew ((a1).add 3) fun l6 =>
  Does Tryd.prog N_law16_part #[.int .i64 (3)] w2.drew fun r7 w8 => ∃ p9 : Option Addr, ∃ p10 : Option Addr, ∃ l11 : Sl, ∃ l12 : Sl, ∃ b13 : Bool, ∃ x14 : Int, ∃ l15 : Sl, ∃ b16 : Bool, r7 = .tuple #[.pointer (p9), .pointer (p10), .agg #[.slice (l11.a) (l11.len) (l11.cap), .slice (l12.a) (l12.len) (l12.cap), .bool (b13), .int .i64 (x14), .slice (l15.a) (l15.len) (l15.cap)], .bool (b16)] ∧
  allocK w8 (zc Tryd.prog T_ref05_Disk) T_ref05_Disk fun a17 w18 =>
  stC w18 (a17) (.slice (l11.a) (l11.len) (l11.cap)) fun w20 => stC w20 ((a17).add 1) (.slice (l12.a) (l12.len) (l12.cap)) fun w21 => stC w21 ((a17).add 2) (.bool (b13)) fun w22 => stC w22 ((a17).add 3) (.int .i64 (x14)) fun w23 => stC w23 ((a17).add 4) (.slice (l15.a) (l15.len) (l15.cap)) fun w24 =>
  cond (!b16)
  (Q (.bool (false)) w24)
  (Does Tryd.prog N_wal_Open #[.pointer (p10)] w24 fun r25 w26 => ∃ p27 : Option Addr, ∃ x28 : Int, r25 = .tuple #[.pointer (p27), .int .i64 (x28)] ∧
   cond ((x28 : Int) != 0)
   (Q (.bool (false)) w26)
   (ldT (.sl) w26 (a17) fun l29 => ldT (.sl) w26 ((a17).add 1) fun l30 => ldT (.bool) w26 ((a17).add 2) fun b31 => ldT (.int .i64) w26 ((a17).add 3) fun x32 => ldT (.sl) w26 ((a17).add 4) fun l33 =>
    Does Tryd.prog N_ref16_Open #[.agg #[.slice (l29.a) (l29.len) (l29.cap), .slice (l30.a) (l30.len) (l30.cap), .bool (b31), .int .i64 (x32), .slice (l33.a) (l33.len) (l33.cap)], .int .i64 (3)] w26 fun r34 w35 => ∃ l36 : Sl, ∃ l37 : Sl, ∃ b38 : Bool, ∃ x39 : Int, ∃ l40 : Sl, ∃ x41 : Int, ∃ l42 : Sl, ∃ x43 : Int, ∃ x44 : Int, ∃ x45 : Int, ∃ b46 : Bool, ∃ x47 : Int, r34 = .tuple #[.agg #[.slice (l36.a) (l36.len) (l36.cap), .slice (l37.a) (l37.len) (l37.cap), .bool (b38), .int .i64 (x39), .slice (l40.a) (l40.len) (l40.cap), .int .i64 (x41), .slice (l42.a) (l42.len) (l42.cap), .int .u32 (x43), .int .i64 (x44), .int .i64 (x45), .bool (b46)], .int .i64 (x47)] ∧
    allocK w35 (zc Tryd.prog T_ref16_Log) T_ref16_Log fun a48 w49 =>
    stC w49 (a48) (.slice (l36.a) (l36.len) (l36.cap)) fun w51 => stC w51 ((a48).add 1) (.slice (l37.a) (l37.len) (l37.cap)) fun w52 => stC w52 ((a48).add 2) (.bool (b38)) fun w53 => stC w53 ((a48).add 3) (.int .i64 (x39)) fun w54 => stC w54 ((a48).add 4) (.slice (l40.a) (l40.len) (l40.cap)) fun w55 => stC w55 ((a48).add 5) (.int .i64 (x41)) fun w56 => stC w56 ((a48).add 6) (.slice (l42.a) (l42.len) (l42.cap)) fun w57 => stC w57 ((a48).add 7) (.int .u32 (x43)) fun w58 => stC w58 ((a48).add 8) (.int .i64 (x44)) fun w59 => stC w59 ((a48).add 9) (.int .i64 (x45)) fun w60 => stC w60 ((a48).add 10) (.bool (b46)) fun w61 =>
    ∀ J63 : World → Prop, (∀ w62 : World, 
      (runG (.sl) Tryd.prog w62 (Instr.makeSlice T_l_uint8 (.int .i64 (64)) (.int .i64 (64))) fun l64 w65 =>
      runG (.int .i64) Tryd.prog w65 (Builtin.copy_ #[T_l_uint8, T_l_uint8] T_int #[.slice (l64.a) (l64.len) (l64.cap), .slice (l5.a) (l5.len) (l5.cap)]) fun x66 w67 =>
      ∀ J69 : World → Prop, (∀ w68 : World, 
        (Does Tryd.prog N_wal_Open #[.pointer (p10)] w68 fun r70 w71 => ∃ p72 : Option Addr, ∃ x73 : Int, r70 = .tuple #[.pointer (p72), .int .i64 (x73)] ∧
        ldT (.sl) w71 (a48) fun l74 => ldT (.sl) w71 ((a48).add 1) fun l75 => ldT (.bool) w71 ((a48).add 2) fun b76 => ldT (.int .i64) w71 ((a48).add 3) fun x77 => ldT (.sl) w71 ((a48).add 4) fun l78 =>
        Does Tryd.prog N_ref16_Open #[.agg #[.slice (l74.a) (l74.len) (l74.cap), .slice (l75.a) (l75.len) (l75.cap), .bool (b76), .int .i64 (x77), .slice (l78.a) (l78.len) (l78.cap)], .int .i64 (3)] w71 fun r79 w80 => ∃ l81 : Sl, ∃ l82 : Sl, ∃ b83 : Bool, ∃ x84 : Int, ∃ l85 : Sl, ∃ x86 : Int, ∃ l87 : Sl, ∃ x88 : Int, ∃ x89 : Int, ∃ x90 : Int, ∃ b91 : Bool, ∃ x92 : Int, r79 = .tuple #[.agg #[.slice (l81.a) (l81.len) (l81.cap), .slice (l82.a) (l82.len) (l82.cap), .bool (b83), .int .i64 (x84), .slice (l85.a) (l85.len) (l85.cap), .int .i64 (x86), .slice (l87.a) (l87.len) (l87.cap), .int .u32 (x88), .int .i64 (x89), .int .i64 (x90), .bool (b91)], .int .i64 (x92)] ∧
        allocK w80 (zc Tryd.prog T_ref16_Log) T_ref16_Log fun a93 w94 =>
        stC w94 (a93) (.slice (l81.a) (l81.len) (l81.cap)) fun w96 => stC w96 ((a93).add 1) (.slice (l82.a) (l82.len) (l82.cap)) fun w97 => stC w97 ((a93).add 2) (.bool (b83)) fun w98 => stC w98 ((a93).add 3) (.int .i64 (x84)) fun w99 => stC w99 ((a93).add 4) (.slice (l85.a) (l85.len) (l85.cap)) fun w100 => stC w100 ((a93).add 5) (.int .i64 (x86)) fun w101 => stC w101 ((a93).add 6) (.slice (l87.a) (l87.len) (l87.cap)) fun w102 => stC w102 ((a93).add 7) (.int .u32 (x88)) fun w103 => stC w103 ((a93).add 8) (.int .i64 (x89)) fun w104 => stC w104 ((a93).add 9) (.int .i64 (x90)) fun w105 => stC w105 ((a93).add 10) (.bool (b91)) fun w106 =>
        ∀ J108 : World → Prop, (∀ w107 : World, 
          (cond ((x92 : Int) != 0)
          (Does Tryd.prog N_law16_awake #[] w107 fun r109 w110 => ∃ b111 : Bool, r109 = .bool (b111) ∧
           Q (.bool (b111)) w110)
          (ldT (.sl) w107 (a93) fun l112 => ldT (.sl) w107 ((a93).add 1) fun l113 => ldT (.bool) w107 ((a93).add 2) fun b114 => ldT (.int .i64) w107 ((a93).add 3) fun x115 => ldT (.sl) w107 ((a93).add 4) fun l116 => ldT (.int .i64) w107 ((a93).add 5) fun x117 => ldT (.sl) w107 ((a93).add 6) fun l118 => ldT (.int .u32) w107 ((a93).add 7) fun x119 => ldT (.int .i64) w107 ((a93).add 8) fun x120 => ldT (.int .i64) w107 ((a93).add 9) fun x121 => ldT (.bool) w107 ((a93).add 10) fun b122 =>
           Does Tryd.prog N_law16_is #[.pointer (p72), .agg #[.slice (l112.a) (l112.len) (l112.cap), .slice (l113.a) (l113.len) (l113.cap), .bool (b114), .int .i64 (x115), .slice (l116.a) (l116.len) (l116.cap), .int .i64 (x117), .slice (l118.a) (l118.len) (l118.cap), .int .u32 (x119), .int .i64 (x120), .int .i64 (x121), .bool (b122)]] w107 fun r123 w124 => ∃ b125 : Bool, r123 = .bool (b125) ∧
           cond (!b125)
           (Q (.bool (false)) w124)
           (∀ J127 : World → Prop, (∀ w126 : World, 
              (Does Tryd.prog N_law16_awake #[] w126 fun r128 w129 => ∃ b130 : Bool, r128 = .bool (b130) ∧
              Q (.bool (b130)) w129) → J127 w126) →
            ∃ (I133 : Int → World → Prop) (M134 : Int → World → Nat), I133 0 w124 ∧
            ∀ i131 : Int, ∀ w132 : World, I133 i131 w132 →
              ∀ J136 : World → Prop, (∀ w135 : World, 
                (∀ J138 : World → Prop, (∀ w137 : World, 
                  (I133 (IntKind.wrap .i64 (i131 + 1)) w137 ∧ M134 (IntKind.wrap .i64 (i131 + 1)) w137 < M134 i131 w132) → J138 w137) →
                ∀ J142 : Addr → Int → World → Prop, (∀ z139 : Addr, ∀ k140 : Int, ∀ w141 : World, 
                  (ldT (.sl) w141 (z139) fun l143 => ldT (.sl) w141 ((z139).add 1) fun l144 => ldT (.bool) w141 ((z139).add 2) fun b145 => ldT (.int .i64) w141 ((z139).add 3) fun x146 => ldT (.sl) w141 ((z139).add 4) fun l147 => ldT (.int .i64) w141 ((z139).add 5) fun x148 => ldT (.sl) w141 ((z139).add 6) fun l149 => ldT (.int .u32) w141 ((z139).add 7) fun x150 => ldT (.int .i64) w141 ((z139).add 8) fun x151 => ldT (.int .i64) w141 ((z139).add 9) fun x152 => ldT (.bool) w141 ((z139).add 10) fun b153 =>
                  stC w141 (a93) (.slice (l143.a) (l143.len) (l143.cap)) fun w155 => stC w155 ((a93).add 1) (.slice (l144.a) (l144.len) (l144.cap)) fun w156 => stC w156 ((a93).add 2) (.bool (b145)) fun w157 => stC w157 ((a93).add 3) (.int .i64 (x146)) fun w158 => stC w158 ((a93).add 4) (.slice (l147.a) (l147.len) (l147.cap)) fun w159 => stC w159 ((a93).add 5) (.int .i64 (x148)) fun w160 => stC w160 ((a93).add 6) (.slice (l149.a) (l149.len) (l149.cap)) fun w161 => stC w161 ((a93).add 7) (.int .u32 (x150)) fun w162 => stC w162 ((a93).add 8) (.int .i64 (x151)) fun w163 => stC w163 ((a93).add 9) (.int .i64 (x152)) fun w164 => stC w164 ((a93).add 10) (.bool (b153)) fun w165 =>
                  idx (l6.a) (l6.len) (i131) 6 fun a166 =>
                  ldT (.int .i64) w165 (a166) fun x167 => ldT (.int .i64) w165 ((a166).add 1) fun x168 => ldT (.int .i64) w165 ((a166).add 2) fun x169 => ldT (.int .i64) w165 ((a166).add 3) fun x170 => ldT (.int .u8) w165 ((a166).add 4) fun x171 => ldT (.sl) w165 ((a166).add 5) fun l172 =>
                  Does Tryd.prog N_law16_Changes #[.agg #[.int .i64 (x167), .int .i64 (x168), .int .i64 (x169), .int .i64 (x170), .int .u8 (x171), .slice (l172.a) (l172.len) (l172.cap)]] w165 fun r173 w174 => ∃ l175 : Sl, r173 = .slice (l175.a) (l175.len) (l175.cap) ∧
                  Does Tryd.prog N_wal_Log_Commit #[.pointer (p72), .slice (l175.a) (l175.len) (l175.cap)] w174 fun r176 w177 => ∃ x178 : Int, r176 = .int .i64 (x178) ∧
                  cond ((x178 : Int) != k140)
                  (Q (.bool (false)) w177)
                  (ldT (.sl) w177 (a93) fun l179 => ldT (.sl) w177 ((a93).add 1) fun l180 => ldT (.bool) w177 ((a93).add 2) fun b181 => ldT (.int .i64) w177 ((a93).add 3) fun x182 => ldT (.sl) w177 ((a93).add 4) fun l183 => ldT (.int .i64) w177 ((a93).add 5) fun x184 => ldT (.sl) w177 ((a93).add 6) fun l185 => ldT (.int .u32) w177 ((a93).add 7) fun x186 => ldT (.int .i64) w177 ((a93).add 8) fun x187 => ldT (.int .i64) w177 ((a93).add 9) fun x188 => ldT (.bool) w177 ((a93).add 10) fun b189 =>
                   Does Tryd.prog N_law16_is #[.pointer (p72), .agg #[.slice (l179.a) (l179.len) (l179.cap), .slice (l180.a) (l180.len) (l180.cap), .bool (b181), .int .i64 (x182), .slice (l183.a) (l183.len) (l183.cap), .int .i64 (x184), .slice (l185.a) (l185.len) (l185.cap), .int .u32 (x186), .int .i64 (x187), .int .i64 (x188), .bool (b189)]] w177 fun r190 w191 => ∃ b192 : Bool, r190 = .bool (b192) ∧
                   cond (!b192)
                   (Q (.bool (false)) w191)
                   (J138 w191))) → J142 z139 k140 w141) →
                ldT (.sl) w135.drew (a93) fun l193 => ldT (.sl) w135.drew ((a93).add 1) fun l194 => ldT (.bool) w135.drew ((a93).add 2) fun b195 => ldT (.int .i64) w135.drew ((a93).add 3) fun x196 => ldT (.sl) w135.drew ((a93).add 4) fun l197 => ldT (.int .i64) w135.drew ((a93).add 5) fun x198 => ldT (.sl) w135.drew ((a93).add 6) fun l199 => ldT (.int .u32) w135.drew ((a93).add 7) fun x200 => ldT (.int .i64) w135.drew ((a93).add 8) fun x201 => ldT (.int .i64) w135.drew ((a93).add 9) fun x202 => ldT (.bool) w135.drew ((a93).add 10) fun b203 =>
                idx (l6.a) (l6.len) (i131) 6 fun a204 =>
                ldT (.int .i64) w135.drew (a204) fun x205 => ldT (.int .i64) w135.drew ((a204).add 1) fun x206 => ldT (.int .i64) w135.drew ((a204).add 2) fun x207 => ldT (.int .i64) w135.drew ((a204).add 3) fun x208 => ldT (.int .u8) w135.drew ((a204).add 4) fun x209 => ldT (.sl) w135.drew ((a204).add 5) fun l210 =>
                (Does Tryd.prog N_law16_Changes #[.agg #[.int .i64 (x205), .int .i64 (x206), .int .i64 (x207), .int .i64 (x208), .int .u8 (x209), .slice (l210.a) (l210.len) (l210.cap)]] w135.drew fun r211 w212 => ∃ l213 : Sl, r211 = .slice (l213.a) (l213.len) (l213.cap) ∧
                 ((#[.slice (l193.a) (l193.len) (l193.cap), .slice (l194.a) (l194.len) (l194.cap), .bool (b195), .int .i64 (x196), .slice (l197.a) (l197.len) (l197.cap), .int .i64 (x198), .slice (l199.a) (l199.len) (l199.cap), .int .u32 (x200), .int .i64 (x201), .int .i64 (x202), .bool (b203)] : Array Value).size = 11 ∧ RowIs w212 (a93) #[.slice (l193.a) (l193.len) (l193.cap), .slice (l194.a) (l194.len) (l194.cap), .bool (b195), .int .i64 (x196), .slice (l197.a) (l197.len) (l197.cap), .int .i64 (x198), .slice (l199.a) (l199.len) (l199.cap), .int .u32 (x200), .int .i64 (x201), .int .i64 (x202), .bool (b203)]) ∧ (Does Tryd.prog N_ref16_Log_Commit #[.agg #[.slice (l193.a) (l193.len) (l193.cap), .slice (l194.a) (l194.len) (l194.cap), .bool (b195), .int .i64 (x196), .slice (l197.a) (l197.len) (l197.cap), .int .i64 (x198), .slice (l199.a) (l199.len) (l199.cap), .int .u32 (x200), .int .i64 (x201), .int .i64 (x202), .bool (b203)], .slice (l213.a) (l213.len) (l213.cap)] w212 fun r214 w215 => ∃ l216 : Sl, ∃ l217 : Sl, ∃ b218 : Bool, ∃ x219 : Int, ∃ l220 : Sl, ∃ x221 : Int, ∃ l222 : Sl, ∃ x223 : Int, ∃ x224 : Int, ∃ x225 : Int, ∃ b226 : Bool, ∃ x227 : Int, r214 = .tuple #[.agg #[.slice (l216.a) (l216.len) (l216.cap), .slice (l217.a) (l217.len) (l217.cap), .bool (b218), .int .i64 (x219), .slice (l220.a) (l220.len) (l220.cap), .int .i64 (x221), .slice (l222.a) (l222.len) (l222.cap), .int .u32 (x223), .int .i64 (x224), .int .i64 (x225), .bool (b226)], .int .i64 (x227)] ∧
                  allocK w215 (zc Tryd.prog T_ref16_Log) T_ref16_Log fun a228 w229 =>
                  stC w229 (a228) (.slice (l216.a) (l216.len) (l216.cap)) fun w231 => stC w231 ((a228).add 1) (.slice (l217.a) (l217.len) (l217.cap)) fun w232 => stC w232 ((a228).add 2) (.bool (b218)) fun w233 => stC w233 ((a228).add 3) (.int .i64 (x219)) fun w234 => stC w234 ((a228).add 4) (.slice (l220.a) (l220.len) (l220.cap)) fun w235 => stC w235 ((a228).add 5) (.int .i64 (x221)) fun w236 => stC w236 ((a228).add 6) (.slice (l222.a) (l222.len) (l222.cap)) fun w237 => stC w237 ((a228).add 7) (.int .u32 (x223)) fun w238 => stC w238 ((a228).add 8) (.int .i64 (x224)) fun w239 => stC w239 ((a228).add 9) (.int .i64 (x225)) fun w240 => stC w240 ((a228).add 10) (.bool (b226)) fun w241 =>
                  J142 (a228) x227 w241) ∧
                 (allocK w212 (zc Tryd.prog T_ref16_Log) T_ref16_Log fun a242 w243 =>
                  ((#[.slice (l193.a) (l193.len) (l193.cap), .slice (l194.a) (l194.len) (l194.cap), .bool (b195), .int .i64 (x196), .slice (l197.a) (l197.len) (l197.cap), .int .i64 (x198), .slice (l199.a) (l199.len) (l199.cap), .int .u32 (x200), .int .i64 (x201), .int .i64 (x202), .bool (b203)] : Array Value).size = 11 ∧ RowIs w243 (a93) #[.slice (l193.a) (l193.len) (l193.cap), .slice (l194.a) (l194.len) (l194.cap), .bool (b195), .int .i64 (x196), .slice (l197.a) (l197.len) (l197.cap), .int .i64 (x198), .slice (l199.a) (l199.len) (l199.cap), .int .u32 (x200), .int .i64 (x201), .int .i64 (x202), .bool (b203)]) ∧ Does Tryd.prog N_ref16_Log_Commit #[.agg #[.slice (l193.a) (l193.len) (l193.cap), .slice (l194.a) (l194.len) (l194.cap), .bool (b195), .int .i64 (x196), .slice (l197.a) (l197.len) (l197.cap), .int .i64 (x198), .slice (l199.a) (l199.len) (l199.cap), .int .u32 (x200), .int .i64 (x201), .int .i64 (x202), .bool (b203)], .slice (l213.a) (l213.len) (l213.cap)] w243 fun r244 w245 => ∃ l246 : Sl, ∃ l247 : Sl, ∃ b248 : Bool, ∃ x249 : Int, ∃ l250 : Sl, ∃ x251 : Int, ∃ l252 : Sl, ∃ x253 : Int, ∃ x254 : Int, ∃ x255 : Int, ∃ b256 : Bool, ∃ x257 : Int, r244 = .tuple #[.agg #[.slice (l246.a) (l246.len) (l246.cap), .slice (l247.a) (l247.len) (l247.cap), .bool (b248), .int .i64 (x249), .slice (l250.a) (l250.len) (l250.cap), .int .i64 (x251), .slice (l252.a) (l252.len) (l252.cap), .int .u32 (x253), .int .i64 (x254), .int .i64 (x255), .bool (b256)], .int .i64 (x257)] ∧
                  stC w245 (a242) (.slice (l246.a) (l246.len) (l246.cap)) fun w259 => stC w259 ((a242).add 1) (.slice (l247.a) (l247.len) (l247.cap)) fun w260 => stC w260 ((a242).add 2) (.bool (b248)) fun w261 => stC w261 ((a242).add 3) (.int .i64 (x249)) fun w262 => stC w262 ((a242).add 4) (.slice (l250.a) (l250.len) (l250.cap)) fun w263 => stC w263 ((a242).add 5) (.int .i64 (x251)) fun w264 => stC w264 ((a242).add 6) (.slice (l252.a) (l252.len) (l252.cap)) fun w265 => stC w265 ((a242).add 7) (.int .u32 (x253)) fun w266 => stC w266 ((a242).add 8) (.int .i64 (x254)) fun w267 => stC w267 ((a242).add 9) (.int .i64 (x255)) fun w268 => stC w268 ((a242).add 10) (.bool (b256)) fun w269 =>
                  J142 (a242) x257 w269)) ∧
                (allocK w135.drew (zc Tryd.prog T_ref16_Log) T_ref16_Log fun a270 w271 =>
                 ((#[.int .i64 (x205), .int .i64 (x206), .int .i64 (x207), .int .i64 (x208), .int .u8 (x209), .slice (l210.a) (l210.len) (l210.cap)] : Array Value).size = 6 ∧ RowIs w271 (a204) #[.int .i64 (x205), .int .i64 (x206), .int .i64 (x207), .int .i64 (x208), .int .u8 (x209), .slice (l210.a) (l210.len) (l210.cap)]) ∧ ((#[.slice (l193.a) (l193.len) (l193.cap), .slice (l194.a) (l194.len) (l194.cap), .bool (b195), .int .i64 (x196), .slice (l197.a) (l197.len) (l197.cap), .int .i64 (x198), .slice (l199.a) (l199.len) (l199.cap), .int .u32 (x200), .int .i64 (x201), .int .i64 (x202), .bool (b203)] : Array Value).size = 11 ∧ RowIs w271 (a93) #[.slice (l193.a) (l193.len) (l193.cap), .slice (l194.a) (l194.len) (l194.cap), .bool (b195), .int .i64 (x196), .slice (l197.a) (l197.len) (l197.cap), .int .i64 (x198), .slice (l199.a) (l199.len) (l199.cap), .int .u32 (x200), .int .i64 (x201), .int .i64 (x202), .bool (b203)]) ∧ Does Tryd.prog N_law16_Changes #[.agg #[.int .i64 (x205), .int .i64 (x206), .int .i64 (x207), .int .i64 (x208), .int .u8 (x209), .slice (l210.a) (l210.len) (l210.cap)]] w271 fun r272 w273 => ∃ l274 : Sl, r272 = .slice (l274.a) (l274.len) (l274.cap) ∧
                 ((#[.slice (l193.a) (l193.len) (l193.cap), .slice (l194.a) (l194.len) (l194.cap), .bool (b195), .int .i64 (x196), .slice (l197.a) (l197.len) (l197.cap), .int .i64 (x198), .slice (l199.a) (l199.len) (l199.cap), .int .u32 (x200), .int .i64 (x201), .int .i64 (x202), .bool (b203)] : Array Value).size = 11 ∧ RowIs w273 (a93) #[.slice (l193.a) (l193.len) (l193.cap), .slice (l194.a) (l194.len) (l194.cap), .bool (b195), .int .i64 (x196), .slice (l197.a) (l197.len) (l197.cap), .int .i64 (x198), .slice (l199.a) (l199.len) (l199.cap), .int .u32 (x200), .int .i64 (x201), .int .i64 (x202), .bool (b203)]) ∧ Does Tryd.prog N_ref16_Log_Commit #[.agg #[.slice (l193.a) (l193.len) (l193.cap), .slice (l194.a) (l194.len) (l194.cap), .bool (b195), .int .i64 (x196), .slice (l197.a) (l197.len) (l197.cap), .int .i64 (x198), .slice (l199.a) (l199.len) (l199.cap), .int .u32 (x200), .int .i64 (x201), .int .i64 (x202), .bool (b203)], .slice (l274.a) (l274.len) (l274.cap)] w273 fun r275 w276 => ∃ l277 : Sl, ∃ l278 : Sl, ∃ b279 : Bool, ∃ x280 : Int, ∃ l281 : Sl, ∃ x282 : Int, ∃ l283 : Sl, ∃ x284 : Int, ∃ x285 : Int, ∃ x286 : Int, ∃ b287 : Bool, ∃ x288 : Int, r275 = .tuple #[.agg #[.slice (l277.a) (l277.len) (l277.cap), .slice (l278.a) (l278.len) (l278.cap), .bool (b279), .int .i64 (x280), .slice (l281.a) (l281.len) (l281.cap), .int .i64 (x282), .slice (l283.a) (l283.len) (l283.cap), .int .u32 (x284), .int .i64 (x285), .int .i64 (x286), .bool (b287)], .int .i64 (x288)] ∧
                 stC w276 (a270) (.slice (l277.a) (l277.len) (l277.cap)) fun w290 => stC w290 ((a270).add 1) (.slice (l278.a) (l278.len) (l278.cap)) fun w291 => stC w291 ((a270).add 2) (.bool (b279)) fun w292 => stC w292 ((a270).add 3) (.int .i64 (x280)) fun w293 => stC w293 ((a270).add 4) (.slice (l281.a) (l281.len) (l281.cap)) fun w294 => stC w294 ((a270).add 5) (.int .i64 (x282)) fun w295 => stC w295 ((a270).add 6) (.slice (l283.a) (l283.len) (l283.cap)) fun w296 => stC w296 ((a270).add 7) (.int .u32 (x284)) fun w297 => stC w297 ((a270).add 8) (.int .i64 (x285)) fun w298 => stC w298 ((a270).add 9) (.int .i64 (x286)) fun w299 => stC w299 ((a270).add 10) (.bool (b287)) fun w300 =>
                 J142 (a270) x288 w300)) → J136 w135) →
              cond (decide ((i131 : Int) < (((l6.len : Nat) : Int))))
              (cond (decide ((i131 : Int) < 4))
               (J136 w132)
               (J127 w132))
              (J127 w132)))) → J108 w107) →
        cond ((x73 : Int) != x92)
        (Q (.bool (false)) w106.drew)
        (runG (.bool) Tryd.prog w106.drew (do eqGuard .eql T_p_wal_Log (.tmp 120) (.const (.pointer (none))) (.pointer (p72)) (.pointer (none)); binOp .eql T_p_wal_Log (.pointer (p72)) (.pointer (none))) fun b301 w302 =>
         cond (!(b301 == ((x92 : Int) != 0)))
         (Q (.bool (false)) w302)
         (ldT (.sl) w302 (a48) fun l303 => ldT (.sl) w302 ((a48).add 1) fun l304 => ldT (.bool) w302 ((a48).add 2) fun b305 => ldT (.int .i64) w302 ((a48).add 3) fun x306 => ldT (.sl) w302 ((a48).add 4) fun l307 =>
          Does Tryd.prog N_disk_Disk_Image #[.pointer (p9)] w302 fun r308 w309 => ∃ l310 : Sl, r308 = .slice (l310.a) (l310.len) (l310.cap) ∧
          ((#[.slice (l303.a) (l303.len) (l303.cap), .slice (l304.a) (l304.len) (l304.cap), .bool (b305), .int .i64 (x306), .slice (l307.a) (l307.len) (l307.cap)] : Array Value).size = 5 ∧ RowIs w309 (a48) #[.slice (l303.a) (l303.len) (l303.cap), .slice (l304.a) (l304.len) (l304.cap), .bool (b305), .int .i64 (x306), .slice (l307.a) (l307.len) (l307.cap)]) ∧ ∃ s311 : ByteArray, (convert T_l_uint8 T_string (.slice (l310.a) (l310.len) (l310.cap))).run Tryd.prog w309 = .ok (.string (s311)) w309 ∧
          Does Tryd.prog N_ref05_Disk_Image #[.agg #[.slice (l303.a) (l303.len) (l303.cap), .slice (l304.a) (l304.len) (l304.cap), .bool (b305), .int .i64 (x306), .slice (l307.a) (l307.len) (l307.cap)]] w309 fun r312 w313 => ∃ s314 : ByteArray, r312 = .string (s314) ∧
          (convert T_l_uint8 T_string (.slice (l310.a) (l310.len) (l310.cap))).run Tryd.prog w313 = .ok (.string (s311)) w313 ∧ cond (!((s311).toList == (s314).toList))
          (Q (.bool (false)) w313)
          (J108 w313)))) → J69 w68) →
      Does Tryd.prog N_extent_Part_Write #[.pointer (p10), .int .i64 (x4), .slice (l64.a) (l64.len) (l64.cap)] w67 fun r315 w316 => ∃ x317 : Int, r315 = .int .i64 (x317) ∧
      cond ((x317 : Int) == 0)
      (ldT (.sl) w316 (a48) fun l318 => ldT (.sl) w316 ((a48).add 1) fun l319 => ldT (.bool) w316 ((a48).add 2) fun b320 => ldT (.int .i64) w316 ((a48).add 3) fun x321 => ldT (.sl) w316 ((a48).add 4) fun l322 =>
       lookS Tryd.prog w316 (convert T_l_uint8 T_string (.slice (l64.a) (l64.len) (l64.cap))) fun s323 =>
       Does Tryd.prog N_ref05_Disk_Write #[.agg #[.slice (l318.a) (l318.len) (l318.cap), .slice (l319.a) (l319.len) (l319.cap), .bool (b320), .int .i64 (x321), .slice (l322.a) (l322.len) (l322.cap)], .int .i64 (IntKind.wrap .i64 (3 + x4)), .string (s323)] w316 fun r324 w325 => ∃ l326 : Sl, ∃ l327 : Sl, ∃ b328 : Bool, ∃ x329 : Int, ∃ l330 : Sl, ∃ x331 : Int, r324 = .tuple #[.agg #[.slice (l326.a) (l326.len) (l326.cap), .slice (l327.a) (l327.len) (l327.cap), .bool (b328), .int .i64 (x329), .slice (l330.a) (l330.len) (l330.cap)], .int .i64 (x331)] ∧
       allocK w325 (zc Tryd.prog T_ref05_Disk) T_ref05_Disk fun a332 w333 =>
       stC w333 (a332) (.slice (l326.a) (l326.len) (l326.cap)) fun w335 => stC w335 ((a332).add 1) (.slice (l327.a) (l327.len) (l327.cap)) fun w336 => stC w336 ((a332).add 2) (.bool (b328)) fun w337 => stC w337 ((a332).add 3) (.int .i64 (x329)) fun w338 => stC w338 ((a332).add 4) (.slice (l330.a) (l330.len) (l330.cap)) fun w339 =>
       ldT (.sl) w339 (a332) fun l340 => ldT (.sl) w339 ((a332).add 1) fun l341 => ldT (.bool) w339 ((a332).add 2) fun b342 => ldT (.int .i64) w339 ((a332).add 3) fun x343 => ldT (.sl) w339 ((a332).add 4) fun l344 =>
       stC w339 (a48) (.slice (l340.a) (l340.len) (l340.cap)) fun w346 => stC w346 ((a48).add 1) (.slice (l341.a) (l341.len) (l341.cap)) fun w347 => stC w347 ((a48).add 2) (.bool (b342)) fun w348 => stC w348 ((a48).add 3) (.int .i64 (x343)) fun w349 => stC w349 ((a48).add 4) (.slice (l344.a) (l344.len) (l344.cap)) fun w350 =>
       J69 w350)
      (J69 w316)) → J63 w62) →
    ∃ (I353 : Int → World → Prop) (M354 : Int → World → Nat), I353 0 w61 ∧
    ∀ i351 : Int, ∀ w352 : World, I353 i351 w352 →
      ∀ J356 : World → Prop, (∀ w355 : World, 
        (∀ J358 : World → Prop, (∀ w357 : World, 
          (I353 (IntKind.wrap .i64 (i351 + 1)) w357 ∧ M354 (IntKind.wrap .i64 (i351 + 1)) w357 < M354 i351 w352) → J358 w357) →
        idx (l3.a) (l3.len) (i351) 6 fun a359 =>
        ldT (.int .i64) w355 (a359) fun x360 => ldT (.int .i64) w355 ((a359).add 1) fun x361 => ldT (.int .i64) w355 ((a359).add 2) fun x362 => ldT (.int .i64) w355 ((a359).add 3) fun x363 => ldT (.int .u8) w355 ((a359).add 4) fun x364 => ldT (.sl) w355 ((a359).add 5) fun l365 =>
        Does Tryd.prog N_law16_Changes #[.agg #[.int .i64 (x360), .int .i64 (x361), .int .i64 (x362), .int .i64 (x363), .int .u8 (x364), .slice (l365.a) (l365.len) (l365.cap)]] w355 fun r366 w367 => ∃ l368 : Sl, r366 = .slice (l368.a) (l368.len) (l368.cap) ∧
        Does Tryd.prog N_wal_Log_Commit #[.pointer (p27), .slice (l368.a) (l368.len) (l368.cap)] w367 fun r369 w370 => ∃ x371 : Int, r369 = .int .i64 (x371) ∧
        ∀ J374 : Addr → World → Prop, (∀ z372 : Addr, ∀ w373 : World, 
          (ldT (.sl) w373 (z372) fun l375 => ldT (.sl) w373 ((z372).add 1) fun l376 => ldT (.bool) w373 ((z372).add 2) fun b377 => ldT (.int .i64) w373 ((z372).add 3) fun x378 => ldT (.sl) w373 ((z372).add 4) fun l379 => ldT (.int .i64) w373 ((z372).add 5) fun x380 => ldT (.sl) w373 ((z372).add 6) fun l381 => ldT (.int .u32) w373 ((z372).add 7) fun x382 => ldT (.int .i64) w373 ((z372).add 8) fun x383 => ldT (.int .i64) w373 ((z372).add 9) fun x384 => ldT (.bool) w373 ((z372).add 10) fun b385 =>
          stC w373 (a48) (.slice (l375.a) (l375.len) (l375.cap)) fun w387 => stC w387 ((a48).add 1) (.slice (l376.a) (l376.len) (l376.cap)) fun w388 => stC w388 ((a48).add 2) (.bool (b377)) fun w389 => stC w389 ((a48).add 3) (.int .i64 (x378)) fun w390 => stC w390 ((a48).add 4) (.slice (l379.a) (l379.len) (l379.cap)) fun w391 => stC w391 ((a48).add 5) (.int .i64 (x380)) fun w392 => stC w392 ((a48).add 6) (.slice (l381.a) (l381.len) (l381.cap)) fun w393 => stC w393 ((a48).add 7) (.int .u32 (x382)) fun w394 => stC w394 ((a48).add 8) (.int .i64 (x383)) fun w395 => stC w395 ((a48).add 9) (.int .i64 (x384)) fun w396 => stC w396 ((a48).add 10) (.bool (b385)) fun w397 =>
          J358 w397) → J374 z372 w373) →
        ldT (.sl) w370.drew (a48) fun l398 => ldT (.sl) w370.drew ((a48).add 1) fun l399 => ldT (.bool) w370.drew ((a48).add 2) fun b400 => ldT (.int .i64) w370.drew ((a48).add 3) fun x401 => ldT (.sl) w370.drew ((a48).add 4) fun l402 => ldT (.int .i64) w370.drew ((a48).add 5) fun x403 => ldT (.sl) w370.drew ((a48).add 6) fun l404 => ldT (.int .u32) w370.drew ((a48).add 7) fun x405 => ldT (.int .i64) w370.drew ((a48).add 8) fun x406 => ldT (.int .i64) w370.drew ((a48).add 9) fun x407 => ldT (.bool) w370.drew ((a48).add 10) fun b408 =>
        idx (l3.a) (l3.len) (i351) 6 fun a409 =>
        ldT (.int .i64) w370.drew (a409) fun x410 => ldT (.int .i64) w370.drew ((a409).add 1) fun x411 => ldT (.int .i64) w370.drew ((a409).add 2) fun x412 => ldT (.int .i64) w370.drew ((a409).add 3) fun x413 => ldT (.int .u8) w370.drew ((a409).add 4) fun x414 => ldT (.sl) w370.drew ((a409).add 5) fun l415 =>
        (Does Tryd.prog N_law16_Changes #[.agg #[.int .i64 (x410), .int .i64 (x411), .int .i64 (x412), .int .i64 (x413), .int .u8 (x414), .slice (l415.a) (l415.len) (l415.cap)]] w370.drew fun r416 w417 => ∃ l418 : Sl, r416 = .slice (l418.a) (l418.len) (l418.cap) ∧
         ((#[.slice (l398.a) (l398.len) (l398.cap), .slice (l399.a) (l399.len) (l399.cap), .bool (b400), .int .i64 (x401), .slice (l402.a) (l402.len) (l402.cap), .int .i64 (x403), .slice (l404.a) (l404.len) (l404.cap), .int .u32 (x405), .int .i64 (x406), .int .i64 (x407), .bool (b408)] : Array Value).size = 11 ∧ RowIs w417 (a48) #[.slice (l398.a) (l398.len) (l398.cap), .slice (l399.a) (l399.len) (l399.cap), .bool (b400), .int .i64 (x401), .slice (l402.a) (l402.len) (l402.cap), .int .i64 (x403), .slice (l404.a) (l404.len) (l404.cap), .int .u32 (x405), .int .i64 (x406), .int .i64 (x407), .bool (b408)]) ∧ (Does Tryd.prog N_ref16_Log_Commit #[.agg #[.slice (l398.a) (l398.len) (l398.cap), .slice (l399.a) (l399.len) (l399.cap), .bool (b400), .int .i64 (x401), .slice (l402.a) (l402.len) (l402.cap), .int .i64 (x403), .slice (l404.a) (l404.len) (l404.cap), .int .u32 (x405), .int .i64 (x406), .int .i64 (x407), .bool (b408)], .slice (l418.a) (l418.len) (l418.cap)] w417 fun r419 w420 => ∃ l421 : Sl, ∃ l422 : Sl, ∃ b423 : Bool, ∃ x424 : Int, ∃ l425 : Sl, ∃ x426 : Int, ∃ l427 : Sl, ∃ x428 : Int, ∃ x429 : Int, ∃ x430 : Int, ∃ b431 : Bool, ∃ x432 : Int, r419 = .tuple #[.agg #[.slice (l421.a) (l421.len) (l421.cap), .slice (l422.a) (l422.len) (l422.cap), .bool (b423), .int .i64 (x424), .slice (l425.a) (l425.len) (l425.cap), .int .i64 (x426), .slice (l427.a) (l427.len) (l427.cap), .int .u32 (x428), .int .i64 (x429), .int .i64 (x430), .bool (b431)], .int .i64 (x432)] ∧
          allocK w420 (zc Tryd.prog T_ref16_Log) T_ref16_Log fun a433 w434 =>
          stC w434 (a433) (.slice (l421.a) (l421.len) (l421.cap)) fun w436 => stC w436 ((a433).add 1) (.slice (l422.a) (l422.len) (l422.cap)) fun w437 => stC w437 ((a433).add 2) (.bool (b423)) fun w438 => stC w438 ((a433).add 3) (.int .i64 (x424)) fun w439 => stC w439 ((a433).add 4) (.slice (l425.a) (l425.len) (l425.cap)) fun w440 => stC w440 ((a433).add 5) (.int .i64 (x426)) fun w441 => stC w441 ((a433).add 6) (.slice (l427.a) (l427.len) (l427.cap)) fun w442 => stC w442 ((a433).add 7) (.int .u32 (x428)) fun w443 => stC w443 ((a433).add 8) (.int .i64 (x429)) fun w444 => stC w444 ((a433).add 9) (.int .i64 (x430)) fun w445 => stC w445 ((a433).add 10) (.bool (b431)) fun w446 =>
          J374 (a433) w446) ∧
         (allocK w417 (zc Tryd.prog T_ref16_Log) T_ref16_Log fun a447 w448 =>
          ((#[.slice (l398.a) (l398.len) (l398.cap), .slice (l399.a) (l399.len) (l399.cap), .bool (b400), .int .i64 (x401), .slice (l402.a) (l402.len) (l402.cap), .int .i64 (x403), .slice (l404.a) (l404.len) (l404.cap), .int .u32 (x405), .int .i64 (x406), .int .i64 (x407), .bool (b408)] : Array Value).size = 11 ∧ RowIs w448 (a48) #[.slice (l398.a) (l398.len) (l398.cap), .slice (l399.a) (l399.len) (l399.cap), .bool (b400), .int .i64 (x401), .slice (l402.a) (l402.len) (l402.cap), .int .i64 (x403), .slice (l404.a) (l404.len) (l404.cap), .int .u32 (x405), .int .i64 (x406), .int .i64 (x407), .bool (b408)]) ∧ Does Tryd.prog N_ref16_Log_Commit #[.agg #[.slice (l398.a) (l398.len) (l398.cap), .slice (l399.a) (l399.len) (l399.cap), .bool (b400), .int .i64 (x401), .slice (l402.a) (l402.len) (l402.cap), .int .i64 (x403), .slice (l404.a) (l404.len) (l404.cap), .int .u32 (x405), .int .i64 (x406), .int .i64 (x407), .bool (b408)], .slice (l418.a) (l418.len) (l418.cap)] w448 fun r449 w450 => ∃ l451 : Sl, ∃ l452 : Sl, ∃ b453 : Bool, ∃ x454 : Int, ∃ l455 : Sl, ∃ x456 : Int, ∃ l457 : Sl, ∃ x458 : Int, ∃ x459 : Int, ∃ x460 : Int, ∃ b461 : Bool, ∃ x462 : Int, r449 = .tuple #[.agg #[.slice (l451.a) (l451.len) (l451.cap), .slice (l452.a) (l452.len) (l452.cap), .bool (b453), .int .i64 (x454), .slice (l455.a) (l455.len) (l455.cap), .int .i64 (x456), .slice (l457.a) (l457.len) (l457.cap), .int .u32 (x458), .int .i64 (x459), .int .i64 (x460), .bool (b461)], .int .i64 (x462)] ∧
          stC w450 (a447) (.slice (l451.a) (l451.len) (l451.cap)) fun w464 => stC w464 ((a447).add 1) (.slice (l452.a) (l452.len) (l452.cap)) fun w465 => stC w465 ((a447).add 2) (.bool (b453)) fun w466 => stC w466 ((a447).add 3) (.int .i64 (x454)) fun w467 => stC w467 ((a447).add 4) (.slice (l455.a) (l455.len) (l455.cap)) fun w468 => stC w468 ((a447).add 5) (.int .i64 (x456)) fun w469 => stC w469 ((a447).add 6) (.slice (l457.a) (l457.len) (l457.cap)) fun w470 => stC w470 ((a447).add 7) (.int .u32 (x458)) fun w471 => stC w471 ((a447).add 8) (.int .i64 (x459)) fun w472 => stC w472 ((a447).add 9) (.int .i64 (x460)) fun w473 => stC w473 ((a447).add 10) (.bool (b461)) fun w474 =>
          J374 (a447) w474)) ∧
        (allocK w370.drew (zc Tryd.prog T_ref16_Log) T_ref16_Log fun a475 w476 =>
         ((#[.int .i64 (x410), .int .i64 (x411), .int .i64 (x412), .int .i64 (x413), .int .u8 (x414), .slice (l415.a) (l415.len) (l415.cap)] : Array Value).size = 6 ∧ RowIs w476 (a409) #[.int .i64 (x410), .int .i64 (x411), .int .i64 (x412), .int .i64 (x413), .int .u8 (x414), .slice (l415.a) (l415.len) (l415.cap)]) ∧ ((#[.slice (l398.a) (l398.len) (l398.cap), .slice (l399.a) (l399.len) (l399.cap), .bool (b400), .int .i64 (x401), .slice (l402.a) (l402.len) (l402.cap), .int .i64 (x403), .slice (l404.a) (l404.len) (l404.cap), .int .u32 (x405), .int .i64 (x406), .int .i64 (x407), .bool (b408)] : Array Value).size = 11 ∧ RowIs w476 (a48) #[.slice (l398.a) (l398.len) (l398.cap), .slice (l399.a) (l399.len) (l399.cap), .bool (b400), .int .i64 (x401), .slice (l402.a) (l402.len) (l402.cap), .int .i64 (x403), .slice (l404.a) (l404.len) (l404.cap), .int .u32 (x405), .int .i64 (x406), .int .i64 (x407), .bool (b408)]) ∧ Does Tryd.prog N_law16_Changes #[.agg #[.int .i64 (x410), .int .i64 (x411), .int .i64 (x412), .int .i64 (x413), .int .u8 (x414), .slice (l415.a) (l415.len) (l415.cap)]] w476 fun r477 w478 => ∃ l479 : Sl, r477 = .slice (l479.a) (l479.len) (l479.cap) ∧
         ((#[.slice (l398.a) (l398.len) (l398.cap), .slice (l399.a) (l399.len) (l399.cap), .bool (b400), .int .i64 (x401), .slice (l402.a) (l402.len) (l402.cap), .int .i64 (x403), .slice (l404.a) (l404.len) (l404.cap), .int .u32 (x405), .int .i64 (x406), .int .i64 (x407), .bool (b408)] : Array Value).size = 11 ∧ RowIs w478 (a48) #[.slice (l398.a) (l398.len) (l398.cap), .slice (l399.a) (l399.len) (l399.cap), .bool (b400), .int .i64 (x401), .slice (l402.a) (l402.len) (l402.cap), .int .i64 (x403), .slice (l404.a) (l404.len) (l404.cap), .int .u32 (x405), .int .i64 (x406), .int .i64 (x407), .bool (b408)]) ∧ Does Tryd.prog N_ref16_Log_Commit #[.agg #[.slice (l398.a) (l398.len) (l398.cap), .slice (l399.a) (l399.len) (l399.cap), .bool (b400), .int .i64 (x401), .slice (l402.a) (l402.len) (l402.cap), .int .i64 (x403), .slice (l404.a) (l404.len) (l404.cap), .int .u32 (x405), .int .i64 (x406), .int .i64 (x407), .bool (b408)], .slice (l479.a) (l479.len) (l479.cap)] w478 fun r480 w481 => ∃ l482 : Sl, ∃ l483 : Sl, ∃ b484 : Bool, ∃ x485 : Int, ∃ l486 : Sl, ∃ x487 : Int, ∃ l488 : Sl, ∃ x489 : Int, ∃ x490 : Int, ∃ x491 : Int, ∃ b492 : Bool, ∃ x493 : Int, r480 = .tuple #[.agg #[.slice (l482.a) (l482.len) (l482.cap), .slice (l483.a) (l483.len) (l483.cap), .bool (b484), .int .i64 (x485), .slice (l486.a) (l486.len) (l486.cap), .int .i64 (x487), .slice (l488.a) (l488.len) (l488.cap), .int .u32 (x489), .int .i64 (x490), .int .i64 (x491), .bool (b492)], .int .i64 (x493)] ∧
         stC w481 (a475) (.slice (l482.a) (l482.len) (l482.cap)) fun w495 => stC w495 ((a475).add 1) (.slice (l483.a) (l483.len) (l483.cap)) fun w496 => stC w496 ((a475).add 2) (.bool (b484)) fun w497 => stC w497 ((a475).add 3) (.int .i64 (x485)) fun w498 => stC w498 ((a475).add 4) (.slice (l486.a) (l486.len) (l486.cap)) fun w499 => stC w499 ((a475).add 5) (.int .i64 (x487)) fun w500 => stC w500 ((a475).add 6) (.slice (l488.a) (l488.len) (l488.cap)) fun w501 => stC w501 ((a475).add 7) (.int .u32 (x489)) fun w502 => stC w502 ((a475).add 8) (.int .i64 (x490)) fun w503 => stC w503 ((a475).add 9) (.int .i64 (x491)) fun w504 => stC w504 ((a475).add 10) (.bool (b492)) fun w505 =>
         J374 (a475) w505)) → J356 w355) →
      cond (decide ((i351 : Int) < (((l3.len : Nat) : Int))))
      (cond (decide ((i351 : Int) < 12))
       (J356 w352)
       (J63 w352))
      (J63 w352)))
def A_law16_WalOpens : Ann := ⟨[(10, [(15, .one (.int .i64))]), (29, [(25, .one (.int .i64))])], [(11, []), (12, []), (14, [(16, .one (.adr))]), (15, []), (20, []), (24, []), (30, []), (31, []), (32, [(26, .one (.adr)), (27, .one (.int .i64))]), (35, [])], [(1, [⟨0, 0, 0, true⟩, ⟨1, 1, 1, true⟩, ⟨0, 0, 0, true⟩, ⟨4, 4, 4, true⟩, ⟨0, 0, 0, true⟩, ⟨16, 16, 16, true⟩, ⟨0, 0, 0, true⟩, ⟨64, 64, 64, true⟩, ⟨3, 2, 3, true⟩, ⟨271, 8, 271, true⟩, ⟨831, 32, 831, true⟩, ⟨2047, 128, 2047, true⟩]), (13, [⟨0, 0, 0, true⟩, ⟨0, 0, 0, true⟩, ⟨0, 0, 0, true⟩, ⟨6, 6, 6, true⟩, ⟨8, 8, 14, true⟩, ⟨16, 0, 30, false⟩, ⟨33, 0, 63, false⟩, ⟨64, 64, 127, true⟩, ⟨128, 128, 255, true⟩, ⟨128, 128, 255, true⟩, ⟨0, 0, 0, false⟩, ⟨1535, 0, 1535, false⟩, ⟨4095, 512, 4095, true⟩]), (22, [⟨0, 0, 0, true⟩, ⟨0, 0, 0, true⟩, ⟨3, 3, 3, true⟩, ⟨4, 4, 7, true⟩, ⟨8, 8, 15, true⟩, ⟨24, 0, 31, false⟩, ⟨8, 8, 15, true⟩, ⟨72, 72, 79, true⟩, ⟨168, 168, 255, true⟩, ⟨264, 264, 511, true⟩, ⟨520, 512, 1023, true⟩, ⟨1024, 1024, 2047, true⟩, ⟨3072, 0, 4095, false⟩, ⟨5120, 5120, 8191, true⟩, ⟨1024, 1024, 2047, true⟩, ⟨17408, 17408, 18431, true⟩, ⟨37888, 0, 57343, false⟩, ⟨74752, 74752, 131071, true⟩, ⟨132096, 132096, 262143, true⟩]), (31, [⟨0, 0, 0, true⟩, ⟨0, 0, 0, true⟩, ⟨0, 0, 0, true⟩, ⟨6, 6, 6, true⟩, ⟨8, 8, 14, true⟩, ⟨16, 0, 30, false⟩, ⟨33, 0, 63, false⟩, ⟨64, 64, 127, true⟩, ⟨128, 128, 255, true⟩, ⟨128, 128, 255, true⟩, ⟨0, 0, 0, false⟩, ⟨1535, 0, 1535, false⟩, ⟨4095, 512, 4095, true⟩])]⟩
theorem F_law16_WalOpens_eq (x0 : Sl) (x1 : Int) (x2 : Sl) (x3 : Sl) (w : World) (Q : Value → World → Prop) : vcFn Tryd.prog A_law16_WalOpens Tryd.f8 #[.agg #[.slice (x0.a) (x0.len) (x0.cap), .int .i64 (x1), .slice (x2.a) (x2.len) (x2.cap), .slice (x3.a) (x3.len) (x3.cap)]] w Q = F_law16_WalOpens x0 x1 x2 x3 w Q := by kernel_rfl
theorem F_law16_WalOpens_does (x0 : Sl) (x1 : Int) (x2 : Sl) (x3 : Sl) (w : World) (Q : Value → World → Prop) (hQ : F_law16_WalOpens x0 x1 x2 x3 w Q) : Does Tryd.prog N_law16_WalOpens #[.agg #[.slice (x0.a) (x0.len) (x0.cap), .int .i64 (x1), .slice (x2.a) (x2.len) (x2.cap), .slice (x3.a) (x3.len) (x3.cap)]] w Q :=
  vcFn_sound noAsk mixed (A := A_law16_WalOpens) (by kernel_rfl) Tryd.func8 (Nat.le_of_ble_eq_true (by kernel_rfl)) (by kernel_rfl) ((F_law16_WalOpens_eq x0 x1 x2 x3 w Q).mpr hQ)

/- nacelle/nacellelaw16.WalFull -/
def F_law16_WalFull (fills : Sl) (less : Int) (w : World) (Q : Value → World → Prop) : Prop :=
  Does Tryd.prog N_law16_part #[.int .i64 (0)] w fun r1 w2 => ∃ p3 : Option Addr, ∃ p4 : Option Addr, ∃ l5 : Sl, ∃ l6 : Sl, ∃ b7 : Bool, ∃ x8 : Int, ∃ l9 : Sl, ∃ b10 : Bool, r1 = .tuple #[.pointer (p3), .pointer (p4), .agg #[.slice (l5.a) (l5.len) (l5.cap), .slice (l6.a) (l6.len) (l6.cap), .bool (b7), .int .i64 (x8), .slice (l9.a) (l9.len) (l9.cap)], .bool (b10)] ∧
  allocK w2 (zc Tryd.prog T_ref05_Disk) T_ref05_Disk fun a11 w12 =>
  stC w12 (a11) (.slice (l5.a) (l5.len) (l5.cap)) fun w14 => stC w14 ((a11).add 1) (.slice (l6.a) (l6.len) (l6.cap)) fun w15 => stC w15 ((a11).add 2) (.bool (b7)) fun w16 => stC w16 ((a11).add 3) (.int .i64 (x8)) fun w17 => stC w17 ((a11).add 4) (.slice (l9.a) (l9.len) (l9.cap)) fun w18 =>
  cond (!b10)
  (Q (.bool (false)) w18)
  ((3 : Int) ≠ 0 ∧
   ∃ (I21 : Int → World → Prop) (M22 : Int → World → Nat), I21 0 w18 ∧
   ∀ i19 : Int, ∀ w20 : World, I21 i19 w20 →
     cond (decide ((i19 : Int) < 16))
     (∀ J24 : World → Prop, (∀ w23 : World, 
        (I21 (IntKind.wrap .i64 (i19 + 1)) w23 ∧ M22 (IntKind.wrap .i64 (i19 + 1)) w23 < M22 i19 w20) → J24 w23) →
      ∀ J27 : ByteArray → World → Prop, (∀ s25 : ByteArray, ∀ w26 : World, 
        (runG (.sl) Tryd.prog w26 (convert T_string T_l_uint8 (.string (s25))) fun l28 w29 =>
        Does Tryd.prog N_extent_Part_Write #[.pointer (p4), .int .i64 (IntKind.wrap .i64 (2 + i19)), .slice (l28.a) (l28.len) (l28.cap)] w29 fun r30 w31 => ∃ x32 : Int, r30 = .int .i64 (x32) ∧
        ldT (.sl) w31 (a11) fun l33 => ldT (.sl) w31 ((a11).add 1) fun l34 => ldT (.bool) w31 ((a11).add 2) fun b35 => ldT (.int .i64) w31 ((a11).add 3) fun x36 => ldT (.sl) w31 ((a11).add 4) fun l37 =>
        Does Tryd.prog N_ref05_Disk_Write #[.agg #[.slice (l33.a) (l33.len) (l33.cap), .slice (l34.a) (l34.len) (l34.cap), .bool (b35), .int .i64 (x36), .slice (l37.a) (l37.len) (l37.cap)], .int .i64 (IntKind.wrap .i64 (2 + i19)), .string (s25)] w31 fun r38 w39 => ∃ l40 : Sl, ∃ l41 : Sl, ∃ b42 : Bool, ∃ x43 : Int, ∃ l44 : Sl, ∃ x45 : Int, r38 = .tuple #[.agg #[.slice (l40.a) (l40.len) (l40.cap), .slice (l41.a) (l41.len) (l41.cap), .bool (b42), .int .i64 (x43), .slice (l44.a) (l44.len) (l44.cap)], .int .i64 (x45)] ∧
        allocK w39 (zc Tryd.prog T_ref05_Disk) T_ref05_Disk fun a46 w47 =>
        stC w47 (a46) (.slice (l40.a) (l40.len) (l40.cap)) fun w49 => stC w49 ((a46).add 1) (.slice (l41.a) (l41.len) (l41.cap)) fun w50 => stC w50 ((a46).add 2) (.bool (b42)) fun w51 => stC w51 ((a46).add 3) (.int .i64 (x43)) fun w52 => stC w52 ((a46).add 4) (.slice (l44.a) (l44.len) (l44.cap)) fun w53 =>
        ldT (.sl) w53 (a46) fun l54 => ldT (.sl) w53 ((a46).add 1) fun l55 => ldT (.bool) w53 ((a46).add 2) fun b56 => ldT (.int .i64) w53 ((a46).add 3) fun x57 => ldT (.sl) w53 ((a46).add 4) fun l58 =>
        stC w53 (a11) (.slice (l54.a) (l54.len) (l54.cap)) fun w60 => stC w60 ((a11).add 1) (.slice (l55.a) (l55.len) (l55.cap)) fun w61 => stC w61 ((a11).add 2) (.bool (b56)) fun w62 => stC w62 ((a11).add 3) (.int .i64 (x57)) fun w63 => stC w63 ((a11).add 4) (.slice (l58.a) (l58.len) (l58.cap)) fun w64 =>
        J24 w64) → J27 s25 w26) →
      (allocK w20.drew #[.int .u8 (IntKind.wrap .u8 i19)] T_uint8 fun a65 w66 =>
       ∃ s67 : ByteArray, (convert T_l_uint8 T_string (.slice (some (a65)) (1) (1))).run Tryd.prog w66 = .ok (.string (s67)) w66 ∧
       Does Tryd.prog N_ref16_Noughts #[.int .i64 (40)] w66 fun r68 w69 => ∃ s70 : ByteArray, r68 = .string (s70) ∧
       (convert T_l_uint8 T_string (.slice (some (a65)) (1) (1))).run Tryd.prog w69 = .ok (.string (s67)) w69 ∧ (((s67).size + (s70).size : Nat) : Int) ≤ 9223372036854775807 ∧
       Does Tryd.prog N_ref16_Sector #[.string ((⟨#[80]⟩ : ByteArray)), .int .u32 (IntKind.wrap .u32 (4294967295 - (Int.tmod less 3))), .string (s67 ++ s70)] w69 fun r71 w72 => ∃ s73 : ByteArray, r71 = .string (s73) ∧
       J27 s73 w72) ∧
      (Does Tryd.prog N_ref16_Noughts #[.int .i64 (40)] w20.drew fun r74 w75 => ∃ s76 : ByteArray, r74 = .string (s76) ∧
       allocK w75 #[.int .u8 (IntKind.wrap .u8 i19)] T_uint8 fun a77 w78 =>
       ∃ s79 : ByteArray, (convert T_l_uint8 T_string (.slice (some (a77)) (1) (1))).run Tryd.prog w78 = .ok (.string (s79)) w78 ∧
       (((s79).size + (s76).size : Nat) : Int) ≤ 9223372036854775807 ∧
       Does Tryd.prog N_ref16_Sector #[.string ((⟨#[80]⟩ : ByteArray)), .int .u32 (IntKind.wrap .u32 (4294967295 - (Int.tmod less 3))), .string (s79 ++ s76)] w78 fun r80 w81 => ∃ s82 : ByteArray, r80 = .string (s82) ∧
       J27 s82 w81))
     (Does Tryd.prog N_ref16_Sector #[.string ((⟨#[72]⟩ : ByteArray)), .int .u32 (IntKind.wrap .u32 (4294967295 - (Int.tmod less 3))), .string ((⟨#[0]⟩ : ByteArray))] w20 fun r83 w84 => ∃ s85 : ByteArray, r83 = .string (s85) ∧
      (2 : Int) ≠ 0 ∧
      runG (.sl) Tryd.prog w84 (convert T_string T_l_uint8 (.string (s85))) fun l86 w87 =>
      Does Tryd.prog N_extent_Part_Write #[.pointer (p4), .int .i64 (IntKind.wrap .i64 (Int.tmod (IntKind.wrap .u32 (4294967295 - (Int.tmod less 3))) 2)), .slice (l86.a) (l86.len) (l86.cap)] w87 fun r88 w89 => ∃ x90 : Int, r88 = .int .i64 (x90) ∧
      ldT (.sl) w89 (a11) fun l91 => ldT (.sl) w89 ((a11).add 1) fun l92 => ldT (.bool) w89 ((a11).add 2) fun b93 => ldT (.int .i64) w89 ((a11).add 3) fun x94 => ldT (.sl) w89 ((a11).add 4) fun l95 =>
      (2 : Int) ≠ 0 ∧
      Does Tryd.prog N_ref05_Disk_Write #[.agg #[.slice (l91.a) (l91.len) (l91.cap), .slice (l92.a) (l92.len) (l92.cap), .bool (b93), .int .i64 (x94), .slice (l95.a) (l95.len) (l95.cap)], .int .i64 (IntKind.wrap .i64 (Int.tmod (IntKind.wrap .u32 (4294967295 - (Int.tmod less 3))) 2)), .string (s85)] w89 fun r96 w97 => ∃ l98 : Sl, ∃ l99 : Sl, ∃ b100 : Bool, ∃ x101 : Int, ∃ l102 : Sl, ∃ x103 : Int, r96 = .tuple #[.agg #[.slice (l98.a) (l98.len) (l98.cap), .slice (l99.a) (l99.len) (l99.cap), .bool (b100), .int .i64 (x101), .slice (l102.a) (l102.len) (l102.cap)], .int .i64 (x103)] ∧
      stC w97 (a11) (.slice (l98.a) (l98.len) (l98.cap)) fun w105 => stC w105 ((a11).add 1) (.slice (l99.a) (l99.len) (l99.cap)) fun w106 => stC w106 ((a11).add 2) (.bool (b100)) fun w107 => stC w107 ((a11).add 3) (.int .i64 (x101)) fun w108 => stC w108 ((a11).add 4) (.slice (l102.a) (l102.len) (l102.cap)) fun w109 =>
      Does Tryd.prog N_wal_Open #[.pointer (p4)] w109 fun r110 w111 => ∃ p112 : Option Addr, ∃ x113 : Int, r110 = .tuple #[.pointer (p112), .int .i64 (x113)] ∧
      ldT (.sl) w111 (a11) fun l114 => ldT (.sl) w111 ((a11).add 1) fun l115 => ldT (.bool) w111 ((a11).add 2) fun b116 => ldT (.int .i64) w111 ((a11).add 3) fun x117 => ldT (.sl) w111 ((a11).add 4) fun l118 =>
      Does Tryd.prog N_ref16_Open #[.agg #[.slice (l114.a) (l114.len) (l114.cap), .slice (l115.a) (l115.len) (l115.cap), .bool (b116), .int .i64 (x117), .slice (l118.a) (l118.len) (l118.cap)], .int .i64 (0)] w111 fun r119 w120 => ∃ l121 : Sl, ∃ l122 : Sl, ∃ b123 : Bool, ∃ x124 : Int, ∃ l125 : Sl, ∃ x126 : Int, ∃ l127 : Sl, ∃ x128 : Int, ∃ x129 : Int, ∃ x130 : Int, ∃ b131 : Bool, ∃ x132 : Int, r119 = .tuple #[.agg #[.slice (l121.a) (l121.len) (l121.cap), .slice (l122.a) (l122.len) (l122.cap), .bool (b123), .int .i64 (x124), .slice (l125.a) (l125.len) (l125.cap), .int .i64 (x126), .slice (l127.a) (l127.len) (l127.cap), .int .u32 (x128), .int .i64 (x129), .int .i64 (x130), .bool (b131)], .int .i64 (x132)] ∧
      allocK w120 (zc Tryd.prog T_ref16_Log) T_ref16_Log fun a133 w134 =>
      stC w134 (a133) (.slice (l121.a) (l121.len) (l121.cap)) fun w136 => stC w136 ((a133).add 1) (.slice (l122.a) (l122.len) (l122.cap)) fun w137 => stC w137 ((a133).add 2) (.bool (b123)) fun w138 => stC w138 ((a133).add 3) (.int .i64 (x124)) fun w139 => stC w139 ((a133).add 4) (.slice (l125.a) (l125.len) (l125.cap)) fun w140 => stC w140 ((a133).add 5) (.int .i64 (x126)) fun w141 => stC w141 ((a133).add 6) (.slice (l127.a) (l127.len) (l127.cap)) fun w142 => stC w142 ((a133).add 7) (.int .u32 (x128)) fun w143 => stC w143 ((a133).add 8) (.int .i64 (x129)) fun w144 => stC w144 ((a133).add 9) (.int .i64 (x130)) fun w145 => stC w145 ((a133).add 10) (.bool (b131)) fun w146 =>
      ∀ J148 : World → Prop, (∀ w147 : World, 
        (∀ J150 : World → Prop, (∀ w149 : World, 
          (Does Tryd.prog N_disk_Disk_On #[.pointer (p3)] w149 fun r151 w152 => ∃ b153 : Bool, r151 = .bool (b153) ∧
          cond (b153)
          (Does Tryd.prog N_law16_awake #[] w152 fun r154 w155 => ∃ b156 : Bool, r154 = .bool (b156) ∧
           Q (.bool (b156)) w155)
          (Q (.bool (false)) w152)) → J150 w149) →
        ∃ (I159 : Int → World → Prop) (M160 : Int → World → Nat), I159 0 w147 ∧
        ∀ i157 : Int, ∀ w158 : World, I159 i157 w158 →
          ∀ J162 : World → Prop, (∀ w161 : World, 
            (∀ J164 : World → Prop, (∀ w163 : World, 
              (I159 (IntKind.wrap .i64 (i157 + 1)) w163 ∧ M160 (IntKind.wrap .i64 (i157 + 1)) w163 < M160 i157 w158) → J164 w163) →
            idx (fills.a) (fills.len) (i157) 1 fun a165 =>
            ldT (.int .u8) w161.drew (a165) fun x166 =>
            (5 : Int) ≠ 0 ∧
            (16 : Int) ≠ 0 ∧
            idx (fills.a) (fills.len) (i157) 1 fun a167 =>
            ldT (.int .u8) w161.drew (a167) fun x168 =>
            allocK w161.drew (zc Tryd.prog T_law16_Act) T_law16_Act fun a169 w170 =>
            w170.cell? (a167) = some (.int .u8 (x168)) ∧ w170.cell? (a165) = some (.int .u8 (x166)) ∧ stC w170 (a169) (.int .i64 (0)) fun w172 => stC w172 ((a169).add 1) (.int .i64 (IntKind.wrap .i64 (1 + (Int.tmod (IntKind.wrap .i64 x166) 5)))) fun w173 => stC w173 ((a169).add 2) (.int .i64 (Int.tmod i157 16)) fun w174 => stC w174 ((a169).add 3) (.int .i64 (0)) fun w175 => stC w175 ((a169).add 4) (.int .u8 (x168)) fun w176 => stC w176 ((a169).add 5) (.slice (none) (0) (0)) fun w177 =>
            ∀ J181 : Addr → Int → World → Prop, (∀ x178 : Addr, ∀ k179 : Int, ∀ w180 : World, 
              (ldT (.sl) w180 (x178) fun l182 => ldT (.sl) w180 ((x178).add 1) fun l183 => ldT (.bool) w180 ((x178).add 2) fun b184 => ldT (.int .i64) w180 ((x178).add 3) fun x185 => ldT (.sl) w180 ((x178).add 4) fun l186 => ldT (.int .i64) w180 ((x178).add 5) fun x187 => ldT (.sl) w180 ((x178).add 6) fun l188 => ldT (.int .u32) w180 ((x178).add 7) fun x189 => ldT (.int .i64) w180 ((x178).add 8) fun x190 => ldT (.int .i64) w180 ((x178).add 9) fun x191 => ldT (.bool) w180 ((x178).add 10) fun b192 =>
              stC w180 (a133) (.slice (l182.a) (l182.len) (l182.cap)) fun w194 => stC w194 ((a133).add 1) (.slice (l183.a) (l183.len) (l183.cap)) fun w195 => stC w195 ((a133).add 2) (.bool (b184)) fun w196 => stC w196 ((a133).add 3) (.int .i64 (x185)) fun w197 => stC w197 ((a133).add 4) (.slice (l186.a) (l186.len) (l186.cap)) fun w198 => stC w198 ((a133).add 5) (.int .i64 (x187)) fun w199 => stC w199 ((a133).add 6) (.slice (l188.a) (l188.len) (l188.cap)) fun w200 => stC w200 ((a133).add 7) (.int .u32 (x189)) fun w201 => stC w201 ((a133).add 8) (.int .i64 (x190)) fun w202 => stC w202 ((a133).add 9) (.int .i64 (x191)) fun w203 => stC w203 ((a133).add 10) (.bool (b192)) fun w204 =>
              ldT (.int .i64) w204 (a169) fun x205 => ldT (.int .i64) w204 ((a169).add 1) fun x206 => ldT (.int .i64) w204 ((a169).add 2) fun x207 => ldT (.int .i64) w204 ((a169).add 3) fun x208 => ldT (.int .u8) w204 ((a169).add 4) fun x209 => ldT (.sl) w204 ((a169).add 5) fun l210 =>
              Does Tryd.prog N_law16_Changes #[.agg #[.int .i64 (x205), .int .i64 (x206), .int .i64 (x207), .int .i64 (x208), .int .u8 (x209), .slice (l210.a) (l210.len) (l210.cap)]] w204 fun r211 w212 => ∃ l213 : Sl, r211 = .slice (l213.a) (l213.len) (l213.cap) ∧
              Does Tryd.prog N_wal_Log_Commit #[.pointer (p112), .slice (l213.a) (l213.len) (l213.cap)] w212 fun r214 w215 => ∃ x216 : Int, r214 = .int .i64 (x216) ∧
              cond ((x216 : Int) != k179)
              (Q (.bool (false)) w215)
              (ldT (.sl) w215 (a133) fun l217 => ldT (.sl) w215 ((a133).add 1) fun l218 => ldT (.bool) w215 ((a133).add 2) fun b219 => ldT (.int .i64) w215 ((a133).add 3) fun x220 => ldT (.sl) w215 ((a133).add 4) fun l221 => ldT (.int .i64) w215 ((a133).add 5) fun x222 => ldT (.sl) w215 ((a133).add 6) fun l223 => ldT (.int .u32) w215 ((a133).add 7) fun x224 => ldT (.int .i64) w215 ((a133).add 8) fun x225 => ldT (.int .i64) w215 ((a133).add 9) fun x226 => ldT (.bool) w215 ((a133).add 10) fun b227 =>
               Does Tryd.prog N_law16_is #[.pointer (p112), .agg #[.slice (l217.a) (l217.len) (l217.cap), .slice (l218.a) (l218.len) (l218.cap), .bool (b219), .int .i64 (x220), .slice (l221.a) (l221.len) (l221.cap), .int .i64 (x222), .slice (l223.a) (l223.len) (l223.cap), .int .u32 (x224), .int .i64 (x225), .int .i64 (x226), .bool (b227)]] w215 fun r228 w229 => ∃ b230 : Bool, r228 = .bool (b230) ∧
               cond (!b230)
               (Q (.bool (false)) w229)
               (J164 w229))) → J181 x178 k179 w180) →
            ldT (.sl) w177.drew (a133) fun l231 => ldT (.sl) w177.drew ((a133).add 1) fun l232 => ldT (.bool) w177.drew ((a133).add 2) fun b233 => ldT (.int .i64) w177.drew ((a133).add 3) fun x234 => ldT (.sl) w177.drew ((a133).add 4) fun l235 => ldT (.int .i64) w177.drew ((a133).add 5) fun x236 => ldT (.sl) w177.drew ((a133).add 6) fun l237 => ldT (.int .u32) w177.drew ((a133).add 7) fun x238 => ldT (.int .i64) w177.drew ((a133).add 8) fun x239 => ldT (.int .i64) w177.drew ((a133).add 9) fun x240 => ldT (.bool) w177.drew ((a133).add 10) fun b241 =>
            ldT (.int .i64) w177.drew (a169) fun x242 => ldT (.int .i64) w177.drew ((a169).add 1) fun x243 => ldT (.int .i64) w177.drew ((a169).add 2) fun x244 => ldT (.int .i64) w177.drew ((a169).add 3) fun x245 => ldT (.int .u8) w177.drew ((a169).add 4) fun x246 => ldT (.sl) w177.drew ((a169).add 5) fun l247 =>
            (Does Tryd.prog N_law16_Changes #[.agg #[.int .i64 (x242), .int .i64 (x243), .int .i64 (x244), .int .i64 (x245), .int .u8 (x246), .slice (l247.a) (l247.len) (l247.cap)]] w177.drew fun r248 w249 => ∃ l250 : Sl, r248 = .slice (l250.a) (l250.len) (l250.cap) ∧
             ((#[.slice (l231.a) (l231.len) (l231.cap), .slice (l232.a) (l232.len) (l232.cap), .bool (b233), .int .i64 (x234), .slice (l235.a) (l235.len) (l235.cap), .int .i64 (x236), .slice (l237.a) (l237.len) (l237.cap), .int .u32 (x238), .int .i64 (x239), .int .i64 (x240), .bool (b241)] : Array Value).size = 11 ∧ RowIs w249 (a133) #[.slice (l231.a) (l231.len) (l231.cap), .slice (l232.a) (l232.len) (l232.cap), .bool (b233), .int .i64 (x234), .slice (l235.a) (l235.len) (l235.cap), .int .i64 (x236), .slice (l237.a) (l237.len) (l237.cap), .int .u32 (x238), .int .i64 (x239), .int .i64 (x240), .bool (b241)]) ∧ (Does Tryd.prog N_ref16_Log_Commit #[.agg #[.slice (l231.a) (l231.len) (l231.cap), .slice (l232.a) (l232.len) (l232.cap), .bool (b233), .int .i64 (x234), .slice (l235.a) (l235.len) (l235.cap), .int .i64 (x236), .slice (l237.a) (l237.len) (l237.cap), .int .u32 (x238), .int .i64 (x239), .int .i64 (x240), .bool (b241)], .slice (l250.a) (l250.len) (l250.cap)] w249 fun r251 w252 => ∃ l253 : Sl, ∃ l254 : Sl, ∃ b255 : Bool, ∃ x256 : Int, ∃ l257 : Sl, ∃ x258 : Int, ∃ l259 : Sl, ∃ x260 : Int, ∃ x261 : Int, ∃ x262 : Int, ∃ b263 : Bool, ∃ x264 : Int, r251 = .tuple #[.agg #[.slice (l253.a) (l253.len) (l253.cap), .slice (l254.a) (l254.len) (l254.cap), .bool (b255), .int .i64 (x256), .slice (l257.a) (l257.len) (l257.cap), .int .i64 (x258), .slice (l259.a) (l259.len) (l259.cap), .int .u32 (x260), .int .i64 (x261), .int .i64 (x262), .bool (b263)], .int .i64 (x264)] ∧
              allocK w252 (zc Tryd.prog T_ref16_Log) T_ref16_Log fun a265 w266 =>
              stC w266 (a265) (.slice (l253.a) (l253.len) (l253.cap)) fun w268 => stC w268 ((a265).add 1) (.slice (l254.a) (l254.len) (l254.cap)) fun w269 => stC w269 ((a265).add 2) (.bool (b255)) fun w270 => stC w270 ((a265).add 3) (.int .i64 (x256)) fun w271 => stC w271 ((a265).add 4) (.slice (l257.a) (l257.len) (l257.cap)) fun w272 => stC w272 ((a265).add 5) (.int .i64 (x258)) fun w273 => stC w273 ((a265).add 6) (.slice (l259.a) (l259.len) (l259.cap)) fun w274 => stC w274 ((a265).add 7) (.int .u32 (x260)) fun w275 => stC w275 ((a265).add 8) (.int .i64 (x261)) fun w276 => stC w276 ((a265).add 9) (.int .i64 (x262)) fun w277 => stC w277 ((a265).add 10) (.bool (b263)) fun w278 =>
              J181 (a265) x264 w278) ∧
             (allocK w249 (zc Tryd.prog T_ref16_Log) T_ref16_Log fun a279 w280 =>
              ((#[.slice (l231.a) (l231.len) (l231.cap), .slice (l232.a) (l232.len) (l232.cap), .bool (b233), .int .i64 (x234), .slice (l235.a) (l235.len) (l235.cap), .int .i64 (x236), .slice (l237.a) (l237.len) (l237.cap), .int .u32 (x238), .int .i64 (x239), .int .i64 (x240), .bool (b241)] : Array Value).size = 11 ∧ RowIs w280 (a133) #[.slice (l231.a) (l231.len) (l231.cap), .slice (l232.a) (l232.len) (l232.cap), .bool (b233), .int .i64 (x234), .slice (l235.a) (l235.len) (l235.cap), .int .i64 (x236), .slice (l237.a) (l237.len) (l237.cap), .int .u32 (x238), .int .i64 (x239), .int .i64 (x240), .bool (b241)]) ∧ Does Tryd.prog N_ref16_Log_Commit #[.agg #[.slice (l231.a) (l231.len) (l231.cap), .slice (l232.a) (l232.len) (l232.cap), .bool (b233), .int .i64 (x234), .slice (l235.a) (l235.len) (l235.cap), .int .i64 (x236), .slice (l237.a) (l237.len) (l237.cap), .int .u32 (x238), .int .i64 (x239), .int .i64 (x240), .bool (b241)], .slice (l250.a) (l250.len) (l250.cap)] w280 fun r281 w282 => ∃ l283 : Sl, ∃ l284 : Sl, ∃ b285 : Bool, ∃ x286 : Int, ∃ l287 : Sl, ∃ x288 : Int, ∃ l289 : Sl, ∃ x290 : Int, ∃ x291 : Int, ∃ x292 : Int, ∃ b293 : Bool, ∃ x294 : Int, r281 = .tuple #[.agg #[.slice (l283.a) (l283.len) (l283.cap), .slice (l284.a) (l284.len) (l284.cap), .bool (b285), .int .i64 (x286), .slice (l287.a) (l287.len) (l287.cap), .int .i64 (x288), .slice (l289.a) (l289.len) (l289.cap), .int .u32 (x290), .int .i64 (x291), .int .i64 (x292), .bool (b293)], .int .i64 (x294)] ∧
              stC w282 (a279) (.slice (l283.a) (l283.len) (l283.cap)) fun w296 => stC w296 ((a279).add 1) (.slice (l284.a) (l284.len) (l284.cap)) fun w297 => stC w297 ((a279).add 2) (.bool (b285)) fun w298 => stC w298 ((a279).add 3) (.int .i64 (x286)) fun w299 => stC w299 ((a279).add 4) (.slice (l287.a) (l287.len) (l287.cap)) fun w300 => stC w300 ((a279).add 5) (.int .i64 (x288)) fun w301 => stC w301 ((a279).add 6) (.slice (l289.a) (l289.len) (l289.cap)) fun w302 => stC w302 ((a279).add 7) (.int .u32 (x290)) fun w303 => stC w303 ((a279).add 8) (.int .i64 (x291)) fun w304 => stC w304 ((a279).add 9) (.int .i64 (x292)) fun w305 => stC w305 ((a279).add 10) (.bool (b293)) fun w306 =>
              J181 (a279) x294 w306)) ∧
            (allocK w177.drew (zc Tryd.prog T_ref16_Log) T_ref16_Log fun a307 w308 =>
             ((#[.int .i64 (x242), .int .i64 (x243), .int .i64 (x244), .int .i64 (x245), .int .u8 (x246), .slice (l247.a) (l247.len) (l247.cap)] : Array Value).size = 6 ∧ RowIs w308 (a169) #[.int .i64 (x242), .int .i64 (x243), .int .i64 (x244), .int .i64 (x245), .int .u8 (x246), .slice (l247.a) (l247.len) (l247.cap)]) ∧ ((#[.slice (l231.a) (l231.len) (l231.cap), .slice (l232.a) (l232.len) (l232.cap), .bool (b233), .int .i64 (x234), .slice (l235.a) (l235.len) (l235.cap), .int .i64 (x236), .slice (l237.a) (l237.len) (l237.cap), .int .u32 (x238), .int .i64 (x239), .int .i64 (x240), .bool (b241)] : Array Value).size = 11 ∧ RowIs w308 (a133) #[.slice (l231.a) (l231.len) (l231.cap), .slice (l232.a) (l232.len) (l232.cap), .bool (b233), .int .i64 (x234), .slice (l235.a) (l235.len) (l235.cap), .int .i64 (x236), .slice (l237.a) (l237.len) (l237.cap), .int .u32 (x238), .int .i64 (x239), .int .i64 (x240), .bool (b241)]) ∧ Does Tryd.prog N_law16_Changes #[.agg #[.int .i64 (x242), .int .i64 (x243), .int .i64 (x244), .int .i64 (x245), .int .u8 (x246), .slice (l247.a) (l247.len) (l247.cap)]] w308 fun r309 w310 => ∃ l311 : Sl, r309 = .slice (l311.a) (l311.len) (l311.cap) ∧
             ((#[.slice (l231.a) (l231.len) (l231.cap), .slice (l232.a) (l232.len) (l232.cap), .bool (b233), .int .i64 (x234), .slice (l235.a) (l235.len) (l235.cap), .int .i64 (x236), .slice (l237.a) (l237.len) (l237.cap), .int .u32 (x238), .int .i64 (x239), .int .i64 (x240), .bool (b241)] : Array Value).size = 11 ∧ RowIs w310 (a133) #[.slice (l231.a) (l231.len) (l231.cap), .slice (l232.a) (l232.len) (l232.cap), .bool (b233), .int .i64 (x234), .slice (l235.a) (l235.len) (l235.cap), .int .i64 (x236), .slice (l237.a) (l237.len) (l237.cap), .int .u32 (x238), .int .i64 (x239), .int .i64 (x240), .bool (b241)]) ∧ Does Tryd.prog N_ref16_Log_Commit #[.agg #[.slice (l231.a) (l231.len) (l231.cap), .slice (l232.a) (l232.len) (l232.cap), .bool (b233), .int .i64 (x234), .slice (l235.a) (l235.len) (l235.cap), .int .i64 (x236), .slice (l237.a) (l237.len) (l237.cap), .int .u32 (x238), .int .i64 (x239), .int .i64 (x240), .bool (b241)], .slice (l311.a) (l311.len) (l311.cap)] w310 fun r312 w313 => ∃ l314 : Sl, ∃ l315 : Sl, ∃ b316 : Bool, ∃ x317 : Int, ∃ l318 : Sl, ∃ x319 : Int, ∃ l320 : Sl, ∃ x321 : Int, ∃ x322 : Int, ∃ x323 : Int, ∃ b324 : Bool, ∃ x325 : Int, r312 = .tuple #[.agg #[.slice (l314.a) (l314.len) (l314.cap), .slice (l315.a) (l315.len) (l315.cap), .bool (b316), .int .i64 (x317), .slice (l318.a) (l318.len) (l318.cap), .int .i64 (x319), .slice (l320.a) (l320.len) (l320.cap), .int .u32 (x321), .int .i64 (x322), .int .i64 (x323), .bool (b324)], .int .i64 (x325)] ∧
             stC w313 (a307) (.slice (l314.a) (l314.len) (l314.cap)) fun w327 => stC w327 ((a307).add 1) (.slice (l315.a) (l315.len) (l315.cap)) fun w328 => stC w328 ((a307).add 2) (.bool (b316)) fun w329 => stC w329 ((a307).add 3) (.int .i64 (x317)) fun w330 => stC w330 ((a307).add 4) (.slice (l318.a) (l318.len) (l318.cap)) fun w331 => stC w331 ((a307).add 5) (.int .i64 (x319)) fun w332 => stC w332 ((a307).add 6) (.slice (l320.a) (l320.len) (l320.cap)) fun w333 => stC w333 ((a307).add 7) (.int .u32 (x321)) fun w334 => stC w334 ((a307).add 8) (.int .i64 (x322)) fun w335 => stC w335 ((a307).add 9) (.int .i64 (x323)) fun w336 => stC w336 ((a307).add 10) (.bool (b324)) fun w337 =>
             J181 (a307) x325 w337)) → J162 w161) →
          cond (decide ((i157 : Int) < (((fills.len : Nat) : Int))))
          (cond (decide ((i157 : Int) < 24))
           (J162 w158)
           (J150 w158))
          (J150 w158)) → J148 w147) →
      cond ((x113 : Int) != 0)
      (Q (.bool (false)) w146)
      (cond ((x132 : Int) != 0)
       (Q (.bool (false)) w146)
       (ldT (.sl) w146 (a133) fun l338 => ldT (.sl) w146 ((a133).add 1) fun l339 => ldT (.bool) w146 ((a133).add 2) fun b340 => ldT (.int .i64) w146 ((a133).add 3) fun x341 => ldT (.sl) w146 ((a133).add 4) fun l342 => ldT (.int .i64) w146 ((a133).add 5) fun x343 => ldT (.sl) w146 ((a133).add 6) fun l344 => ldT (.int .u32) w146 ((a133).add 7) fun x345 => ldT (.int .i64) w146 ((a133).add 8) fun x346 => ldT (.int .i64) w146 ((a133).add 9) fun x347 => ldT (.bool) w146 ((a133).add 10) fun b348 =>
        Does Tryd.prog N_law16_is #[.pointer (p112), .agg #[.slice (l338.a) (l338.len) (l338.cap), .slice (l339.a) (l339.len) (l339.cap), .bool (b340), .int .i64 (x341), .slice (l342.a) (l342.len) (l342.cap), .int .i64 (x343), .slice (l344.a) (l344.len) (l344.cap), .int .u32 (x345), .int .i64 (x346), .int .i64 (x347), .bool (b348)]] w146 fun r349 w350 => ∃ b351 : Bool, r349 = .bool (b351) ∧
        cond (!b351)
        (Q (.bool (false)) w350)
        (J148 w350)))))
def A_law16_WalFull : Ann := ⟨[(6, [(10, .one (.int .i64))]), (20, [(19, .one (.int .i64))])], [(7, []), (9, [(11, .one (.str))]), (19, []), (21, []), (22, []), (24, [(21, .one (.adr)), (22, .one (.int .i64))]), (27, [])], [(8, [⟨0, 0, 0, true⟩, ⟨0, 0, 0, true⟩, ⟨2, 2, 2, true⟩, ⟨4, 0, 6, false⟩, ⟨8, 8, 14, true⟩, ⟨0, 0, 0, false⟩, ⟨48, 48, 62, true⟩, ⟨97, 0, 127, false⟩, ⟨255, 128, 255, true⟩]), (22, [⟨0, 0, 0, true⟩, ⟨0, 0, 0, true⟩, ⟨3, 3, 3, true⟩, ⟨4, 4, 7, true⟩, ⟨8, 8, 15, true⟩, ⟨16, 16, 31, true⟩, ⟨32, 32, 63, true⟩, ⟨0, 0, 0, true⟩, ⟨128, 128, 128, true⟩, ⟨0, 0, 0, true⟩, ⟨0, 0, 0, true⟩, ⟨1536, 1536, 1536, true⟩, ⟨2048, 2048, 3584, true⟩, ⟨4416, 4416, 8191, true⟩, ⟨0, 0, 0, false⟩, ⟨32767, 0, 32767, false⟩]), (23, [⟨0, 0, 0, true⟩, ⟨0, 0, 0, true⟩, ⟨2, 0, 2, false⟩, ⟨5, 0, 7, false⟩, ⟨8, 8, 15, true⟩, ⟨16, 16, 31, true⟩, ⟨16, 16, 31, true⟩, ⟨0, 0, 0, false⟩, ⟨191, 0, 191, false⟩, ⟨511, 64, 511, true⟩])]⟩
theorem F_law16_WalFull_eq (fills : Sl) (less : Int) (w : World) (Q : Value → World → Prop) : vcFn Tryd.prog A_law16_WalFull Tryd.f9 #[.slice (fills.a) (fills.len) (fills.cap), .int .u32 (less)] w Q = F_law16_WalFull fills less w Q := by kernel_rfl
theorem F_law16_WalFull_does (fills : Sl) (less : Int) (w : World) (Q : Value → World → Prop) (hQ : F_law16_WalFull fills less w Q) : Does Tryd.prog N_law16_WalFull #[.slice (fills.a) (fills.len) (fills.cap), .int .u32 (less)] w Q :=
  vcFn_sound noAsk mixed (A := A_law16_WalFull) (by kernel_rfl) Tryd.func9 (Nat.le_of_ble_eq_true (by kernel_rfl)) (by kernel_rfl) ((F_law16_WalFull_eq fills less w Q).mpr hQ)

/- nacelle/nacellelaw16.WalCrashes -/
def F_law16_WalCrashes (begin : Int) (acts : Sl) (w : World) (Q : Value → World → Prop) : Prop :=
  Does Tryd.prog N_law16_from #[.int .i64 (begin)] w fun r1 w2 => ∃ x3 : Int, r1 = .int .i64 (x3) ∧
  Does Tryd.prog N_law16_part #[.int .i64 (x3)] w2 fun r4 w5 => ∃ p6 : Option Addr, ∃ p7 : Option Addr, ∃ l8 : Sl, ∃ l9 : Sl, ∃ b10 : Bool, ∃ x11 : Int, ∃ l12 : Sl, ∃ b13 : Bool, r4 = .tuple #[.pointer (p6), .pointer (p7), .agg #[.slice (l8.a) (l8.len) (l8.cap), .slice (l9.a) (l9.len) (l9.cap), .bool (b10), .int .i64 (x11), .slice (l12.a) (l12.len) (l12.cap)], .bool (b13)] ∧
  allocK w5 (zc Tryd.prog T_ref05_Disk) T_ref05_Disk fun a14 w15 =>
  stC w15 (a14) (.slice (l8.a) (l8.len) (l8.cap)) fun w17 => stC w17 ((a14).add 1) (.slice (l9.a) (l9.len) (l9.cap)) fun w18 => stC w18 ((a14).add 2) (.bool (b10)) fun w19 => stC w19 ((a14).add 3) (.int .i64 (x11)) fun w20 => stC w20 ((a14).add 4) (.slice (l12.a) (l12.len) (l12.cap)) fun w21 =>
  cond (!b13)
  (Q (.bool (false)) w21)
  (Does Tryd.prog N_wal_Open #[.pointer (p7)] w21 fun r22 w23 => ∃ p24 : Option Addr, ∃ x25 : Int, r22 = .tuple #[.pointer (p24), .int .i64 (x25)] ∧
   cond ((x25 : Int) != 0)
   (Q (.bool (false)) w23)
   (∀ J27 : World → Prop, (∀ w26 : World, 
      (Does Tryd.prog N_law16_awake #[] w26 fun r28 w29 => ∃ b30 : Bool, r28 = .bool (b30) ∧
      Q (.bool (b30)) w29) → J27 w26) →
    ∃ (I34 : Option Addr → Int → World → Prop) (M35 : Option Addr → Int → World → Nat), I34 p24 0 w23 ∧
    ∀ w31 : Option Addr, ∀ i32 : Int, ∀ w33 : World, I34 w31 i32 w33 →
      ∀ J37 : World → Prop, (∀ w36 : World, 
        (∀ J40 : Option Addr → World → Prop, (∀ w38 : Option Addr, ∀ w39 : World, 
          (I34 w38 (IntKind.wrap .i64 (i32 + 1)) w39 ∧ M35 w38 (IntKind.wrap .i64 (i32 + 1)) w39 < M35 w31 i32 w33) → J40 w38 w39) →
        idx (acts.a) (acts.len) (i32) 6 fun a41 =>
        ldT (.int .i64) w36 (a41) fun x42 => ldT (.int .i64) w36 ((a41).add 1) fun x43 => ldT (.int .i64) w36 ((a41).add 2) fun x44 => ldT (.int .i64) w36 ((a41).add 3) fun x45 => ldT (.int .u8) w36 ((a41).add 4) fun x46 => ldT (.sl) w36 ((a41).add 5) fun l47 =>
        allocK w36 (zc Tryd.prog T_law16_Act) T_law16_Act fun a48 w49 =>
        stC w49 (a48) (.int .i64 (x42)) fun w51 => stC w51 ((a48).add 1) (.int .i64 (x43)) fun w52 => stC w52 ((a48).add 2) (.int .i64 (x44)) fun w53 => stC w53 ((a48).add 3) (.int .i64 (x45)) fun w54 => stC w54 ((a48).add 4) (.int .u8 (x46)) fun w55 => stC w55 ((a48).add 5) (.slice (l47.a) (l47.len) (l47.cap)) fun w56 =>
        Does Tryd.prog N_law16_pages #[.pointer (w31)] w56 fun r57 w58 => ∃ s59 : ByteArray, r57 = .string (s59) ∧
        ldT (.int .i64) w58 (a48) fun x60 => ldT (.int .i64) w58 ((a48).add 1) fun x61 => ldT (.int .i64) w58 ((a48).add 2) fun x62 => ldT (.int .i64) w58 ((a48).add 3) fun x63 => ldT (.int .u8) w58 ((a48).add 4) fun x64 => ldT (.sl) w58 ((a48).add 5) fun l65 =>
        Does Tryd.prog N_law16_Changes #[.agg #[.int .i64 (x60), .int .i64 (x61), .int .i64 (x62), .int .i64 (x63), .int .u8 (x64), .slice (l65.a) (l65.len) (l65.cap)]] w58 fun r66 w67 => ∃ l68 : Sl, r66 = .slice (l68.a) (l68.len) (l68.cap) ∧
        runG (.sl) Tryd.prog w67 (convert T_string T_l_uint8 (.string (s59))) fun l69 w70 =>
        cond (((((l69.len : Nat) : Int)) : Int) != 640)
        (Q (.bool (false)) w70)
        (∃ (I73 : Int → World → Prop) (M74 : Int → World → Nat), I73 0 w70 ∧
         ∀ k71 : Int, ∀ w72 : World, I73 k71 w72 →
           cond (decide ((k71 : Int) < (((l68.len : Nat) : Int))))
           (∀ J76 : World → Prop, (∀ w75 : World, 
              (I73 (IntKind.wrap .i64 (k71 + 1)) w75 ∧ M74 (IntKind.wrap .i64 (k71 + 1)) w75 < M74 k71 w72) → J76 w75) →
            Does Tryd.prog N_ref16_May #[.slice (l68.a) (l68.len) (l68.cap)] w72 fun r77 w78 => ∃ b79 : Bool, r77 = .bool (b79) ∧
            cond (b79)
            (idx (l68.a) (l68.len) (k71) 2 fun a80 =>
             ldT (.int .i64) w78.drew (a80) fun x81 =>
             slcT ⟨l69.a, l69.len, l69.cap⟩ (IntKind.wrap .i64 (40 * x81)) (((l69.len : Nat) : Int)) 1 fun l82 =>
             idx (l68.a) (l68.len) (k71) 2 fun a83 =>
             ldT (.sl) w78.drew ((a83).add 1) fun l84 =>
             runG (.int .i64) Tryd.prog w78.drew (Builtin.copy_ #[T_l_uint8, T_l_uint8] T_int #[.slice (l82.a) (l82.len) (l82.cap), .slice (l84.a) (l84.len) (l84.cap)]) fun x85 w86 =>
             J76 w86)
            (J76 w78))
           (∀ J88 : World → Prop, (∀ w87 : World, 
              (Does Tryd.prog N_wal_Log_Commit #[.pointer (w31), .slice (l68.a) (l68.len) (l68.cap)] w87 fun r89 w90 => ∃ x91 : Int, r89 = .int .i64 (x91) ∧
              ∀ J93 : World → Prop, (∀ w92 : World, 
                (Does Tryd.prog N_disk_Disk_Arm #[.pointer (p6), .int .i64 (-1), .slice (none) (0) (0)] w92 fun r94 w95 => r94 = .tuple #[] ∧
                Does Tryd.prog N_disk_Disk_Power #[.pointer (p6)] w95 fun r96 w97 => r96 = .tuple #[] ∧
                Does Tryd.prog N_wal_Open #[.pointer (p7)] w97 fun r98 w99 => ∃ p100 : Option Addr, ∃ x101 : Int, r98 = .tuple #[.pointer (p100), .int .i64 (x101)] ∧
                cond ((x101 : Int) != 0)
                (Q (.bool (false)) w99)
                (Does Tryd.prog N_law16_pages #[.pointer (p100)] w99 fun r102 w103 => ∃ s104 : ByteArray, r102 = .string (s104) ∧
                 lookS Tryd.prog w103 (convert T_l_uint8 T_string (.slice (l69.a) (l69.len) (l69.cap))) fun s105 =>
                 cond (!((s104).toList == (s105).toList))
                 (cond ((x91 : Int) == 0)
                  (Q (.bool (false)) w103)
                  (cond (!((s104).toList == (s59).toList))
                   (Q (.bool (false)) w103)
                   (J40 p100 w103)))
                 (J40 p100 w103))) → J93 w92) →
              cond ((x91 : Int) == 0)
              (∃ s106 : ByteArray, (convert T_l_uint8 T_string (.slice (l69.a) (l69.len) (l69.cap))).run Tryd.prog w90.drew = .ok (.string (s106)) w90.drew ∧
               Does Tryd.prog N_law16_pages #[.pointer (w31)] w90.drew fun r107 w108 => ∃ s109 : ByteArray, r107 = .string (s109) ∧
               (convert T_l_uint8 T_string (.slice (l69.a) (l69.len) (l69.cap))).run Tryd.prog w108 = .ok (.string (s106)) w108 ∧ cond (!((s109).toList == (s106).toList))
               (Q (.bool (false)) w108)
               (cond ((x91 : Int) != 0)
                (Does Tryd.prog N_law16_pages #[.pointer (w31)] w108 fun r110 w111 => ∃ s112 : ByteArray, r110 = .string (s112) ∧
                 cond (!((s112).toList == (s59).toList))
                 (Q (.bool (false)) w111)
                 (Does Tryd.prog N_disk_Disk_On #[.pointer (p6)] w111 fun r113 w114 => ∃ b115 : Bool, r113 = .bool (b115) ∧
                  cond (((x91 : Int) == 9) == b115)
                  (Q (.bool (false)) w114)
                  (J93 w114)))
                (Does Tryd.prog N_disk_Disk_On #[.pointer (p6)] w108 fun r116 w117 => ∃ b118 : Bool, r116 = .bool (b118) ∧
                 cond (((x91 : Int) == 9) == b118)
                 (Q (.bool (false)) w117)
                 (J93 w117))))
              (cond ((x91 : Int) != 0)
               (Does Tryd.prog N_law16_pages #[.pointer (w31)] w90.drew fun r119 w120 => ∃ s121 : ByteArray, r119 = .string (s121) ∧
                cond (!((s121).toList == (s59).toList))
                (Q (.bool (false)) w120)
                (Does Tryd.prog N_disk_Disk_On #[.pointer (p6)] w120 fun r122 w123 => ∃ b124 : Bool, r122 = .bool (b124) ∧
                 cond (((x91 : Int) == 9) == b124)
                 (Q (.bool (false)) w123)
                 (J93 w123)))
               (Does Tryd.prog N_disk_Disk_On #[.pointer (p6)] w90.drew fun r125 w126 => ∃ b127 : Bool, r125 = .bool (b127) ∧
                cond (((x91 : Int) == 9) == b127)
                (Q (.bool (false)) w126)
                (J93 w126)))) → J88 w87) →
            ldT (.int .i64) w72 (a48) fun x128 =>
            cond (decide ((x128 : Int) ≥ 3))
            (ldT (.int .i64) w72 ((a48).add 2) fun x129 =>
             ldT (.sl) w72 ((a48).add 5) fun l130 =>
             Does Tryd.prog N_disk_Disk_Arm #[.pointer (p6), .int .i64 (x129), .slice (l130.a) (l130.len) (l130.cap)] w72 fun r131 w132 => r131 = .tuple #[] ∧
             J88 w132)
            (J88 w72)))) → J37 w36) →
      cond (decide ((i32 : Int) < (((acts.len : Nat) : Int))))
      (cond (decide ((i32 : Int) < 24))
       (J37 w33)
       (J27 w33))
      (J27 w33)))
def A_law16_WalCrashes : Ann := ⟨[(8, [(9, .one (.ptr)), (11, .one (.int .i64))]), (17, [(16, .one (.int .i64))])], [(9, [(9, .one (.ptr))]), (10, []), (18, []), (23, []), (26, []), (35, [])], [(20, [⟨0, 0, 0, true⟩, ⟨0, 0, 0, true⟩, ⟨0, 0, 0, true⟩, ⟨6, 6, 6, true⟩, ⟨8, 8, 14, true⟩, ⟨16, 16, 30, true⟩, ⟨32, 32, 62, true⟩, ⟨65, 65, 127, true⟩, ⟨0, 0, 0, true⟩, ⟨0, 0, 0, true⟩, ⟨768, 768, 768, true⟩, ⟨1024, 1024, 1792, true⟩, ⟨2048, 2048, 3840, true⟩, ⟨4224, 0, 8191, false⟩]), (24, [⟨0, 0, 0, true⟩, ⟨1, 1, 1, true⟩, ⟨2, 2, 3, true⟩, ⟨4, 4, 7, true⟩, ⟨12, 0, 15, false⟩, ⟨4, 4, 7, true⟩, ⟨36, 36, 39, true⟩, ⟨84, 84, 127, true⟩, ⟨132, 132, 255, true⟩, ⟨272, 256, 511, true⟩, ⟨512, 512, 1023, true⟩, ⟨1536, 1536, 2047, true⟩, ⟨2560, 2560, 4095, true⟩, ⟨4096, 4096, 8191, true⟩, ⟨12288, 0, 16383, false⟩, ⟨4096, 4096, 8191, true⟩, ⟨53248, 53248, 65535, true⟩, ⟨70144, 70144, 131071, true⟩, ⟨131584, 131584, 262143, true⟩, ⟨278528, 262144, 524287, true⟩, ⟨524288, 524288, 1048575, true⟩, ⟨1572864, 1572864, 2097151, true⟩, ⟨524288, 524288, 1048575, true⟩, ⟨4718592, 0, 5242879, false⟩, ⟨11010048, 11010048, 16777215, true⟩, ⟨17301504, 17301504, 33554431, true⟩])]⟩
theorem F_law16_WalCrashes_eq (begin : Int) (acts : Sl) (w : World) (Q : Value → World → Prop) : vcFn Tryd.prog A_law16_WalCrashes Tryd.f10 #[.int .i64 (begin), .slice (acts.a) (acts.len) (acts.cap)] w Q = F_law16_WalCrashes begin acts w Q := by kernel_rfl
theorem F_law16_WalCrashes_does (begin : Int) (acts : Sl) (w : World) (Q : Value → World → Prop) (hQ : F_law16_WalCrashes begin acts w Q) : Does Tryd.prog N_law16_WalCrashes #[.int .i64 (begin), .slice (acts.a) (acts.len) (acts.cap)] w Q :=
  vcFn_sound noAsk mixed (A := A_law16_WalCrashes) (by kernel_rfl) Tryd.func10 (Nat.le_of_ble_eq_true (by kernel_rfl)) (by kernel_rfl) ((F_law16_WalCrashes_eq begin acts w Q).mpr hQ)

/- nacelle/nacellelaw16.WalTwice -/
def F_law16_WalTwice (begin : Int) (acts : Sl) (keep : Sl) (w : World) (Q : Value → World → Prop) : Prop :=
  Does Tryd.prog N_law16_from #[.int .i64 (begin)] w fun r1 w2 => ∃ x3 : Int, r1 = .int .i64 (x3) ∧
  Does Tryd.prog N_law16_part #[.int .i64 (x3)] w2 fun r4 w5 => ∃ p6 : Option Addr, ∃ p7 : Option Addr, ∃ l8 : Sl, ∃ l9 : Sl, ∃ b10 : Bool, ∃ x11 : Int, ∃ l12 : Sl, ∃ b13 : Bool, r4 = .tuple #[.pointer (p6), .pointer (p7), .agg #[.slice (l8.a) (l8.len) (l8.cap), .slice (l9.a) (l9.len) (l9.cap), .bool (b10), .int .i64 (x11), .slice (l12.a) (l12.len) (l12.cap)], .bool (b13)] ∧
  allocK w5 (zc Tryd.prog T_ref05_Disk) T_ref05_Disk fun a14 w15 =>
  stC w15 (a14) (.slice (l8.a) (l8.len) (l8.cap)) fun w17 => stC w17 ((a14).add 1) (.slice (l9.a) (l9.len) (l9.cap)) fun w18 => stC w18 ((a14).add 2) (.bool (b10)) fun w19 => stC w19 ((a14).add 3) (.int .i64 (x11)) fun w20 => stC w20 ((a14).add 4) (.slice (l12.a) (l12.len) (l12.cap)) fun w21 =>
  cond (!b13)
  (Q (.bool (false)) w21)
  (Does Tryd.prog N_wal_Open #[.pointer (p7)] w21 fun r22 w23 => ∃ p24 : Option Addr, ∃ x25 : Int, r22 = .tuple #[.pointer (p24), .int .i64 (x25)] ∧
   cond ((x25 : Int) != 0)
   (Q (.bool (false)) w23)
   (∀ J27 : World → Prop, (∀ w26 : World, 
      (Does Tryd.prog N_disk_Disk_Power #[.pointer (p6)] w26 fun r28 w29 => r28 = .tuple #[] ∧
      Does Tryd.prog N_disk_Disk_Image #[.pointer (p6)] w29 fun r30 w31 => ∃ l32 : Sl, r30 = .slice (l32.a) (l32.len) (l32.cap) ∧
      lookS Tryd.prog w31 (convert T_l_uint8 T_string (.slice (l32.a) (l32.len) (l32.cap))) fun s33 =>
      Does Tryd.prog N_wal_Open #[.pointer (p7)] w31 fun r34 w35 => ∃ p36 : Option Addr, ∃ x37 : Int, r34 = .tuple #[.pointer (p36), .int .i64 (x37)] ∧
      ∀ J39 : World → Prop, (∀ w38 : World, 
        (Does Tryd.prog N_disk_Disk_Crash #[.pointer (p6), .slice (keep.a) (keep.len) (keep.cap)] w38 fun r40 w41 => r40 = .tuple #[] ∧
        Does Tryd.prog N_disk_Disk_Power #[.pointer (p6)] w41 fun r42 w43 => r42 = .tuple #[] ∧
        Does Tryd.prog N_wal_Open #[.pointer (p7)] w43 fun r44 w45 => ∃ p46 : Option Addr, ∃ x47 : Int, r44 = .tuple #[.pointer (p46), .int .i64 (x47)] ∧
        cond ((x47 : Int) == 0)
        (Does Tryd.prog N_law16_pages #[.pointer (p36)] w45 fun r48 w49 => ∃ s50 : ByteArray, r48 = .string (s50) ∧
         Does Tryd.prog N_law16_pages #[.pointer (p46)] w49 fun r51 w52 => ∃ s53 : ByteArray, r51 = .string (s53) ∧
         cond ((s50).toList == (s53).toList)
         (Does Tryd.prog N_wal_Log_Epoch #[.pointer (p36)] w52 fun r54 w55 => ∃ x56 : Int, r54 = .int .u32 (x56) ∧
          Does Tryd.prog N_wal_Log_Epoch #[.pointer (p46)] w55 fun r57 w58 => ∃ x59 : Int, r57 = .int .u32 (x59) ∧
          cond ((x56 : Int) == x59)
          (Does Tryd.prog N_wal_Log_Used #[.pointer (p36)] w58 fun r60 w61 => ∃ x62 : Int, r60 = .int .i64 (x62) ∧
           Does Tryd.prog N_wal_Log_Used #[.pointer (p46)] w61 fun r63 w64 => ∃ x65 : Int, r63 = .int .i64 (x65) ∧
           cond ((x62 : Int) == x65)
           (Does Tryd.prog N_disk_Disk_Image #[.pointer (p6)] w64 fun r66 w67 => ∃ l68 : Sl, r66 = .slice (l68.a) (l68.len) (l68.cap) ∧
            lookS Tryd.prog w67 (convert T_l_uint8 T_string (.slice (l68.a) (l68.len) (l68.cap))) fun s69 =>
            cond ((s69).toList == (s33).toList)
            (Does Tryd.prog N_law16_awake #[] w67 fun r70 w71 => ∃ b72 : Bool, r70 = .bool (b72) ∧
             Q (.bool (b72)) w71)
            (Q (.bool (false)) w67))
           (Q (.bool (false)) w64))
          (Q (.bool (false)) w58))
         (Q (.bool (false)) w52))
        (Q (.bool (false)) w45)) → J39 w38) →
      cond ((x37 : Int) != 0)
      (Q (.bool (false)) w35)
      (Does Tryd.prog N_disk_Disk_Waiting #[.pointer (p6)] w35 fun r73 w74 => ∃ l75 : Sl, r73 = .slice (l75.a) (l75.len) (l75.cap) ∧
       cond (((((l75.len : Nat) : Int)) : Int) != 0)
       (Q (.bool (false)) w74)
       (J39 w74))) → J27 w26) →
    ∃ (I78 : Int → World → Prop) (M79 : Int → World → Nat), I78 0 w23 ∧
    ∀ i76 : Int, ∀ w77 : World, I78 i76 w77 →
      ∀ J81 : World → Prop, (∀ w80 : World, 
        (∀ J83 : World → Prop, (∀ w82 : World, 
          (I78 (IntKind.wrap .i64 (i76 + 1)) w82 ∧ M79 (IntKind.wrap .i64 (i76 + 1)) w82 < M79 i76 w77) → J83 w82) →
        ∀ J85 : World → Prop, (∀ w84 : World, 
          (idx (acts.a) (acts.len) (i76) 6 fun a86 =>
          ldT (.int .i64) w84 (a86) fun x87 => ldT (.int .i64) w84 ((a86).add 1) fun x88 => ldT (.int .i64) w84 ((a86).add 2) fun x89 => ldT (.int .i64) w84 ((a86).add 3) fun x90 => ldT (.int .u8) w84 ((a86).add 4) fun x91 => ldT (.sl) w84 ((a86).add 5) fun l92 =>
          Does Tryd.prog N_law16_Changes #[.agg #[.int .i64 (x87), .int .i64 (x88), .int .i64 (x89), .int .i64 (x90), .int .u8 (x91), .slice (l92.a) (l92.len) (l92.cap)]] w84 fun r93 w94 => ∃ l95 : Sl, r93 = .slice (l95.a) (l95.len) (l95.cap) ∧
          Does Tryd.prog N_wal_Log_Commit #[.pointer (p24), .slice (l95.a) (l95.len) (l95.cap)] w94 fun r96 w97 => ∃ x98 : Int, r96 = .int .i64 (x98) ∧
          J83 w97) → J85 w84) →
        cond ((i76 : Int) == (IntKind.wrap .i64 ((((acts.len : Nat) : Int)) - 1)))
        (idx (acts.a) (acts.len) (i76) 6 fun a99 =>
         ldT (.int .i64) w80.drew ((a99).add 2) fun x100 =>
         idx (acts.a) (acts.len) (i76) 6 fun a101 =>
         ldT (.sl) w80.drew ((a101).add 5) fun l102 =>
         Does Tryd.prog N_disk_Disk_Arm #[.pointer (p6), .int .i64 (x100), .slice (l102.a) (l102.len) (l102.cap)] w80.drew fun r103 w104 => r103 = .tuple #[] ∧
         J85 w104)
        (J85 w80)) → J81 w80) →
      cond (decide ((i76 : Int) < (((acts.len : Nat) : Int))))
      (cond (decide ((i76 : Int) < 12))
       (J81 w77)
       (J27 w77))
      (J27 w77)))
def A_law16_WalTwice : Ann := ⟨[(8, [(13, .one (.int .i64))])], [(9, []), (10, []), (12, []), (13, []), (18, [])], [(11, [⟨0, 0, 0, true⟩, ⟨0, 0, 0, true⟩, ⟨0, 0, 0, true⟩, ⟨6, 6, 6, true⟩, ⟨8, 8, 14, true⟩, ⟨16, 16, 30, true⟩, ⟨0, 0, 0, true⟩, ⟨0, 0, 0, true⟩, ⟨192, 192, 192, true⟩, ⟨256, 256, 448, true⟩, ⟨512, 512, 960, true⟩, ⟨1057, 0, 2047, false⟩])]⟩
theorem F_law16_WalTwice_eq (begin : Int) (acts : Sl) (keep : Sl) (w : World) (Q : Value → World → Prop) : vcFn Tryd.prog A_law16_WalTwice Tryd.f11 #[.int .i64 (begin), .slice (acts.a) (acts.len) (acts.cap), .slice (keep.a) (keep.len) (keep.cap)] w Q = F_law16_WalTwice begin acts keep w Q := by kernel_rfl
theorem F_law16_WalTwice_does (begin : Int) (acts : Sl) (keep : Sl) (w : World) (Q : Value → World → Prop) (hQ : F_law16_WalTwice begin acts keep w Q) : Does Tryd.prog N_law16_WalTwice #[.int .i64 (begin), .slice (acts.a) (acts.len) (acts.cap), .slice (keep.a) (keep.len) (keep.cap)] w Q :=
  vcFn_sound noAsk mixed (A := A_law16_WalTwice) (by kernel_rfl) Tryd.func11 (Nat.le_of_ble_eq_true (by kernel_rfl)) (by kernel_rfl) ((F_law16_WalTwice_eq begin acts keep w Q).mpr hQ)

/- nacelle/nacellelaw20.part -/
def F_law20_part (count : Int) (w : World) (Q : Value → World → Prop) : Prop :=
  Does Tryd.prog N_disk_New #[.int .i64 (12)] w fun r1 w2 => ∃ p3 : Option Addr, ∃ x4 : Int, r1 = .tuple #[.pointer (p3), .int .i64 (x4)] ∧
  cond ((x4 : Int) != 0)
  (Q (.tuple #[.pointer (none), .pointer (none), .bool (false)]) w2)
  (Does Tryd.prog N_extent_New #[.pointer (p3), .agg #[.int .i64 (2), .int .i64 (count)]] w2 fun r5 w6 => ∃ p7 : Option Addr, ∃ x8 : Int, r5 = .tuple #[.pointer (p7), .int .i64 (x8)] ∧
   Q (.tuple #[.pointer (p3), .pointer (p7), .bool ((x8 : Int) == 0)]) w6)
def A_law20_part : Ann := ⟨[], [], []⟩
theorem F_law20_part_eq (count : Int) (w : World) (Q : Value → World → Prop) : vcFn Tryd.prog A_law20_part Tryd.f12 #[.int .i64 (count)] w Q = F_law20_part count w Q := by kernel_rfl
theorem F_law20_part_does (count : Int) (w : World) (Q : Value → World → Prop) (hQ : F_law20_part count w Q) : Does Tryd.prog N_law20_part #[.int .i64 (count)] w Q :=
  vcFn_sound noAsk mixed (A := A_law20_part) (by kernel_rfl) Tryd.func12 (Nat.le_of_ble_eq_true (by kernel_rfl)) (by kernel_rfl) ((F_law20_part_eq count w Q).mpr hQ)

/- nacelle/audit.Open -/
def F_audit_Open (p : Option Addr) (w : World) (Q : Value → World → Prop) : Prop :=
  allocK w (#[.pointer (p), .slice (none) (0) (0), .bool (false)]) T_audit_Log fun a1 w2 =>
  Does Tryd.prog N_extent_Part_Size #[.pointer (p)] w2 fun r3 w4 => ∃ x5 : Int, r3 = .int .i64 (x5) ∧
  ∃ (I8 : Int → World → Prop) (M9 : Int → World → Nat), I8 0 w4 ∧
  ∀ x6 : Int, ∀ w7 : World, I8 x6 w7 →
    cond (decide ((x6 : Int) < x5))
    (Does Tryd.prog N_audit_Log_at #[.pointer (some (a1)), .int .i64 (x6)] w7 fun r10 w11 => ∃ x12 : Int, ∃ x13 : Int, ∃ x14 : Int, ∃ x15 : Int, ∃ b16 : Bool, ∃ x17 : Int, r10 = .tuple #[.agg #[.int .i64 (x12), .int .i64 (x13), .int .u32 (x14), .int .i64 (x15)], .bool (b16), .int .i64 (x17)] ∧
     allocK w11 (zc Tryd.prog T_api_Entry) T_api_Entry fun a18 w19 =>
     stC w19 (a18) (.int .i64 (x12)) fun w21 => stC w21 ((a18).add 1) (.int .i64 (x13)) fun w22 => stC w22 ((a18).add 2) (.int .u32 (x14)) fun w23 => stC w23 ((a18).add 3) (.int .i64 (x15)) fun w24 =>
     cond ((x17 : Int) != 0)
     (Q (.tuple #[.pointer (none), .int .i64 (x17)]) w24)
     (cond (!b16)
      (Q (.tuple #[.pointer (some (a1)), .int .i64 (0)]) w24)
      (nnil (some (a1)) fun a25 =>
       ldT (.sl) w24.drew ((a25).add 1) fun l26 =>
       ldT (.int .i64) w24.drew (a18) fun x27 => ldT (.int .i64) w24.drew ((a18).add 1) fun x28 => ldT (.int .u32) w24.drew ((a18).add 2) fun x29 => ldT (.int .i64) w24.drew ((a18).add 3) fun x30 =>
       allocK w24.drew #[.int .i64 (x27), .int .i64 (x28), .int .u32 (x29), .int .i64 (x30)] T_api_Entry fun a31 w32 =>
       w32.cell? ((a25).add 1) = some (.slice (l26.a) (l26.len) (l26.cap)) ∧ runG (.sl) Tryd.prog w32 (Builtin.append_ #[T_l_api_Entry, T_l_api_Entry] T_l_api_Entry #[.slice (l26.a) (l26.len) (l26.cap), .slice (some (a31)) (1) (1)]) fun l33 w34 =>
       nnil (some (a1)) fun a35 =>
       stC w34 ((a35).add 1) (.slice (l33.a) (l33.len) (l33.cap)) fun w36 =>
       I8 (IntKind.wrap .i64 (x6 + 1)) w36 ∧ M9 (IntKind.wrap .i64 (x6 + 1)) w36 < M9 x6 w7)))
    (Q (.tuple #[.pointer (some (a1)), .int .i64 (0)]) w7)
def A_audit_Open : Ann := ⟨[(4, [(17, .one (.int .i64))])], [], [(10, [⟨0, 0, 0, true⟩, ⟨0, 0, 0, true⟩, ⟨2, 2, 2, true⟩, ⟨4, 4, 6, true⟩, ⟨8, 8, 14, true⟩, ⟨0, 0, 0, true⟩, ⟨32, 0, 32, false⟩, ⟨80, 0, 126, false⟩, ⟨255, 1, 255, true⟩, ⟨511, 256, 511, true⟩, ⟨767, 0, 1023, false⟩])]⟩
theorem F_audit_Open_eq (p : Option Addr) (w : World) (Q : Value → World → Prop) : vcFn Tryd.prog A_audit_Open Tryd.f13 #[.pointer (p)] w Q = F_audit_Open p w Q := by kernel_rfl
theorem F_audit_Open_does (p : Option Addr) (w : World) (Q : Value → World → Prop) (hQ : F_audit_Open p w Q) : Does Tryd.prog N_audit_Open #[.pointer (p)] w Q :=
  vcFn_sound noAsk mixed (A := A_audit_Open) (by kernel_rfl) Tryd.func13 (Nat.le_of_ble_eq_true (by kernel_rfl)) (by kernel_rfl) ((F_audit_Open_eq p w Q).mpr hQ)

/- (*nacelle/audit.Log).Add -/
def F_audit_Log_Add (l : Option Addr) (x0 : Int) (x1 : Int) (x2 : Int) (x3 : Int) (w : World) (Q : Value → World → Prop) : Prop :=
  allocK w (#[.int .i64 (x0), .int .i64 (x1), .int .u32 (x2), .int .i64 (x3)]) T_api_Entry fun a1 w2 =>
  nnil (l) fun a3 =>
  ldT (.bool) w2 ((a3).add 2) fun b4 =>
  cond (b4)
  (Q (.int .i64 (9)) w2)
  (ldT (.int .i64) w2 (a1) fun x5 => ldT (.int .i64) w2 ((a1).add 1) fun x6 => ldT (.int .u32) w2 ((a1).add 2) fun x7 => ldT (.int .i64) w2 ((a1).add 3) fun x8 =>
   Does Tryd.prog N_audit_may #[.agg #[.int .i64 (x5), .int .i64 (x6), .int .u32 (x7), .int .i64 (x8)]] w2 fun r9 w10 => ∃ b11 : Bool, r9 = .bool (b11) ∧
   cond (!b11)
   (Q (.int .i64 (1)) w10)
   (nnil (l) fun a12 =>
    ldT (.sl) w10.drew ((a12).add 1) fun l13 =>
    nnil (l) fun a14 =>
    ldT (.ptr) w10.drew (a14) fun p15 =>
    Does Tryd.prog N_extent_Part_Size #[.pointer (p15)] w10.drew fun r16 w17 => ∃ x18 : Int, r16 = .int .i64 (x18) ∧
    w17.cell? ((a12).add 1) = some (.slice (l13.a) (l13.len) (l13.cap)) ∧ cond (((((l13.len : Nat) : Int)) : Int) == x18)
    (Q (.int .i64 (5)) w17)
    (nnil (l) fun a19 =>
     ldT (.ptr) w17.drew (a19) fun p20 =>
     nnil (l) fun a21 =>
     ldT (.sl) w17.drew ((a21).add 1) fun l22 =>
     nnil (l) fun a23 =>
     ldT (.sl) w17.drew ((a23).add 1) fun l24 =>
     ldT (.int .i64) w17.drew (a1) fun x25 => ldT (.int .i64) w17.drew ((a1).add 1) fun x26 => ldT (.int .u32) w17.drew ((a1).add 2) fun x27 => ldT (.int .i64) w17.drew ((a1).add 3) fun x28 =>
     Does Tryd.prog N_audit_sector #[.int .i64 (((l24.len : Nat) : Int)), .agg #[.int .i64 (x25), .int .i64 (x26), .int .u32 (x27), .int .i64 (x28)]] w17.drew fun r29 w30 => ∃ l31 : Sl, r29 = .slice (l31.a) (l31.len) (l31.cap) ∧
     w30.cell? ((a21).add 1) = some (.slice (l22.a) (l22.len) (l22.cap)) ∧ w30.cell? (a19) = some (.pointer (p20)) ∧ Does Tryd.prog N_extent_Part_Write #[.pointer (p20), .int .i64 (((l22.len : Nat) : Int)), .slice (l31.a) (l31.len) (l31.cap)] w30 fun r32 w33 => ∃ x34 : Int, r32 = .int .i64 (x34) ∧
     ∀ J37 : Int → World → Prop, (∀ e35 : Int, ∀ w36 : World, 
       (cond ((e35 : Int) != 0)
       (nnil (l) fun a38 =>
        stC w36 ((a38).add 2) (.bool (true)) fun w39 =>
        Q (.int .i64 (e35)) w39)
       (nnil (l) fun a40 =>
        ldT (.sl) w36.drew ((a40).add 1) fun l41 =>
        ldT (.int .i64) w36.drew (a1) fun x42 => ldT (.int .i64) w36.drew ((a1).add 1) fun x43 => ldT (.int .u32) w36.drew ((a1).add 2) fun x44 => ldT (.int .i64) w36.drew ((a1).add 3) fun x45 =>
        allocK w36.drew #[.int .i64 (x42), .int .i64 (x43), .int .u32 (x44), .int .i64 (x45)] T_api_Entry fun a46 w47 =>
        w47.cell? ((a40).add 1) = some (.slice (l41.a) (l41.len) (l41.cap)) ∧ runG (.sl) Tryd.prog w47 (Builtin.append_ #[T_l_api_Entry, T_l_api_Entry] T_l_api_Entry #[.slice (l41.a) (l41.len) (l41.cap), .slice (some (a46)) (1) (1)]) fun l48 w49 =>
        nnil (l) fun a50 =>
        stC w49 ((a50).add 1) (.slice (l48.a) (l48.len) (l48.cap)) fun w51 =>
        Q (.int .i64 (0)) w51)) → J37 e35 w36) →
     cond ((x34 : Int) == 0)
     (nnil (l) fun a52 =>
      ldT (.ptr) w33 (a52) fun p53 =>
      Does Tryd.prog N_extent_Part_Flush #[.pointer (p53)] w33 fun r54 w55 => ∃ x56 : Int, r54 = .int .i64 (x56) ∧
      J37 x56 w55)
     (J37 x34 w33))))
def A_audit_Log_Add : Ann := ⟨[], [(10, [(5, .one (.int .i64))])], [(5, [⟨0, 0, 0, true⟩, ⟨1, 1, 1, true⟩, ⟨2, 2, 3, true⟩, ⟨4, 4, 7, true⟩, ⟨8, 8, 15, true⟩, ⟨0, 0, 0, true⟩, ⟨32, 32, 32, true⟩, ⟨64, 64, 96, true⟩, ⟨128, 128, 224, true⟩, ⟨256, 0, 480, false⟩, ⟨528, 528, 1023, true⟩, ⟨1536, 1024, 2047, true⟩]), (7, [⟨0, 0, 0, true⟩, ⟨1, 1, 1, true⟩, ⟨2, 2, 3, true⟩, ⟨4, 4, 7, true⟩, ⟨0, 0, 0, true⟩, ⟨16, 16, 16, true⟩, ⟨32, 32, 48, true⟩, ⟨64, 64, 112, true⟩, ⟨128, 128, 240, true⟩, ⟨0, 0, 0, true⟩, ⟨512, 512, 512, true⟩, ⟨1024, 1024, 1536, true⟩, ⟨2048, 2048, 3584, true⟩, ⟨4096, 4096, 7680, true⟩, ⟨0, 0, 0, true⟩, ⟨24576, 0, 32256, false⟩, ⟨33032, 0, 65535, false⟩, ⟨131071, 65536, 131071, true⟩]), (13, [⟨0, 0, 0, true⟩, ⟨0, 0, 0, true⟩, ⟨2, 2, 2, true⟩, ⟨4, 4, 6, true⟩, ⟨8, 8, 14, true⟩, ⟨0, 0, 0, true⟩, ⟨32, 0, 32, false⟩, ⟨80, 0, 126, false⟩, ⟨255, 1, 255, true⟩, ⟨511, 256, 511, true⟩, ⟨767, 0, 1023, false⟩])]⟩
theorem F_audit_Log_Add_eq (l : Option Addr) (x0 : Int) (x1 : Int) (x2 : Int) (x3 : Int) (w : World) (Q : Value → World → Prop) : vcFn Tryd.prog A_audit_Log_Add Tryd.f14 #[.pointer (l), .agg #[.int .i64 (x0), .int .i64 (x1), .int .u32 (x2), .int .i64 (x3)]] w Q = F_audit_Log_Add l x0 x1 x2 x3 w Q := by kernel_rfl
theorem F_audit_Log_Add_does (l : Option Addr) (x0 : Int) (x1 : Int) (x2 : Int) (x3 : Int) (w : World) (Q : Value → World → Prop) (hQ : F_audit_Log_Add l x0 x1 x2 x3 w Q) : Does Tryd.prog N_audit_Log_Add #[.pointer (l), .agg #[.int .i64 (x0), .int .i64 (x1), .int .u32 (x2), .int .i64 (x3)]] w Q :=
  vcFn_sound noAsk mixed (A := A_audit_Log_Add) (by kernel_rfl) Tryd.func14 (Nat.le_of_ble_eq_true (by kernel_rfl)) (by kernel_rfl) ((F_audit_Log_Add_eq l x0 x1 x2 x3 w Q).mpr hQ)

/- nacelle/nacelleref20.May -/
def F_ref20_May (x0 : Int) (x1 : Int) (x2 : Int) (x3 : Int) (w : World) (Q : Value → World → Prop) : Prop :=
  allocK w (#[.int .i64 (x0), .int .i64 (x1), .int .u32 (x2), .int .i64 (x3)]) T_api_Entry fun a1 w2 =>
  ldT (.int .i64) w2 (a1) fun x3 =>
  cond ((x3 : Int) == 1)
  (ldT (.int .i64) w2 ((a1).add 1) fun x4 =>
   cond (decide ((0 : Int) ≤ x4))
   (ldT (.int .i64) w2 ((a1).add 1) fun x5 =>
    cond (decide ((x5 : Int) ≤ 7))
    (ldT (.int .i64) w2 ((a1).add 3) fun x6 =>
     cond (decide ((0 : Int) ≤ x6))
     (ldT (.int .i64) w2 ((a1).add 3) fun x7 =>
      Q (.bool (decide ((x7 : Int) ≤ 255))) w2)
     (Q (.bool (false)) w2))
    (Q (.bool (false)) w2))
   (Q (.bool (false)) w2))
  (ldT (.int .i64) w2 (a1) fun x8 =>
   cond ((x8 : Int) == 2)
   (ldT (.int .i64) w2 ((a1).add 1) fun x9 =>
    cond (decide ((0 : Int) ≤ x9))
    (ldT (.int .i64) w2 ((a1).add 1) fun x10 =>
     cond (decide ((x10 : Int) ≤ 7))
     (ldT (.int .i64) w2 ((a1).add 3) fun x11 =>
      cond (decide ((0 : Int) ≤ x11))
      (ldT (.int .i64) w2 ((a1).add 3) fun x12 =>
       Q (.bool (decide ((x12 : Int) ≤ 255))) w2)
      (Q (.bool (false)) w2))
     (Q (.bool (false)) w2))
    (Q (.bool (false)) w2))
   (ldT (.int .i64) w2 (a1) fun x13 =>
    cond ((x13 : Int) == 3)
    (ldT (.int .i64) w2 ((a1).add 1) fun x14 =>
     cond (decide ((0 : Int) ≤ x14))
     (ldT (.int .i64) w2 ((a1).add 1) fun x15 =>
      cond (decide ((x15 : Int) ≤ 7))
      (ldT (.int .i64) w2 ((a1).add 3) fun x16 =>
       cond (decide ((0 : Int) ≤ x16))
       (ldT (.int .i64) w2 ((a1).add 3) fun x17 =>
        Q (.bool (decide ((x17 : Int) ≤ 255))) w2)
       (Q (.bool (false)) w2))
      (Q (.bool (false)) w2))
     (Q (.bool (false)) w2))
    (ldT (.int .i64) w2 (a1) fun x18 =>
     cond ((x18 : Int) == 4)
     (ldT (.int .i64) w2 ((a1).add 1) fun x19 =>
      cond (decide ((0 : Int) ≤ x19))
      (ldT (.int .i64) w2 ((a1).add 1) fun x20 =>
       cond (decide ((x20 : Int) ≤ 7))
       (ldT (.int .i64) w2 ((a1).add 3) fun x21 =>
        cond (decide ((0 : Int) ≤ x21))
        (ldT (.int .i64) w2 ((a1).add 3) fun x22 =>
         Q (.bool (decide ((x22 : Int) ≤ 255))) w2)
        (Q (.bool (false)) w2))
       (Q (.bool (false)) w2))
      (Q (.bool (false)) w2))
     (Q (.bool (false)) w2))))
def A_ref20_May : Ann := ⟨[], [], []⟩
theorem F_ref20_May_eq (x0 : Int) (x1 : Int) (x2 : Int) (x3 : Int) (w : World) (Q : Value → World → Prop) : vcFn Tryd.prog A_ref20_May Tryd.f15 #[.agg #[.int .i64 (x0), .int .i64 (x1), .int .u32 (x2), .int .i64 (x3)]] w Q = F_ref20_May x0 x1 x2 x3 w Q := by kernel_rfl
theorem F_ref20_May_does (x0 : Int) (x1 : Int) (x2 : Int) (x3 : Int) (w : World) (Q : Value → World → Prop) (hQ : F_ref20_May x0 x1 x2 x3 w Q) : Does Tryd.prog N_ref20_May #[.agg #[.int .i64 (x0), .int .i64 (x1), .int .u32 (x2), .int .i64 (x3)]] w Q :=
  vcFn_sound noAsk mixed (A := A_ref20_May) (by kernel_rfl) Tryd.func15 (Nat.le_of_ble_eq_true (by kernel_rfl)) (by kernel_rfl) ((F_ref20_May_eq x0 x1 x2 x3 w Q).mpr hQ)

/- (*nacelle/audit.Log).Entries -/
def F_audit_Log_Entries (l : Option Addr) (w : World) (Q : Value → World → Prop) : Prop :=
  nnil (l) fun a1 =>
  ldT (.sl) w ((a1).add 1) fun l2 =>
  runG (.sl) Tryd.prog w (Builtin.append_ #[T_l_api_Entry, T_l_api_Entry] T_l_api_Entry #[.slice (none) (0) (0), .slice (l2.a) (l2.len) (l2.cap)]) fun l3 w4 =>
  Q (.slice (l3.a) (l3.len) (l3.cap)) w4
def A_audit_Log_Entries : Ann := ⟨[], [], []⟩
theorem F_audit_Log_Entries_eq (l : Option Addr) (w : World) (Q : Value → World → Prop) : vcFn Tryd.prog A_audit_Log_Entries Tryd.f16 #[.pointer (l)] w Q = F_audit_Log_Entries l w Q := by kernel_rfl
theorem F_audit_Log_Entries_does (l : Option Addr) (w : World) (Q : Value → World → Prop) (hQ : F_audit_Log_Entries l w Q) : Does Tryd.prog N_audit_Log_Entries #[.pointer (l)] w Q :=
  vcFn_sound noAsk mixed (A := A_audit_Log_Entries) (by kernel_rfl) Tryd.func16 (Nat.le_of_ble_eq_true (by kernel_rfl)) (by kernel_rfl) ((F_audit_Log_Entries_eq l w Q).mpr hQ)

/- (*nacelle/disk.Disk).Read -/
def F_disk_Disk_Read (d : Option Addr) (at_ : Int) (w : World) (Q : Value → World → Prop) : Prop :=
  Does Tryd.prog N_disk_Disk_in #[.pointer (d), .int .i64 (at_)] w fun r1 w2 => ∃ b3 : Bool, r1 = .bool (b3) ∧
  cond (!b3)
  (Q (.tuple #[.slice (none) (0) (0), .int .i64 (4)]) w2)
  (nnil (d) fun a4 =>
   ldT (.bool) w2 ((a4).add 2) fun b5 =>
   cond (b5)
   (Q (.tuple #[.slice (none) (0) (0), .int .i64 (9)]) w2)
   (Does Tryd.prog N_disk_Disk_sector #[.pointer (d), .int .i64 (at_)] w2 fun r6 w7 => ∃ l8 : Sl, r6 = .slice (l8.a) (l8.len) (l8.cap) ∧
    nnil (d) fun a9 =>
    ldT (.sl) w7 ((a9).add 1) fun l10 =>
    ∃ (I14 : Sl → Int → World → Prop) (M15 : Sl → Int → World → Nat), I14 ⟨l8.a, l8.len, l8.cap⟩ 0 w7 ∧
    ∀ b11 : Sl, ∀ x12 : Int, ∀ w13 : World, I14 b11 x12 w13 →
      cond (decide ((x12 : Int) < (((l10.len : Nat) : Int))))
      (∀ J18 : Sl → World → Prop, (∀ b16 : Sl, ∀ w17 : World, 
         (I14 ⟨b16.a, b16.len, b16.cap⟩ (IntKind.wrap .i64 (x12 + 1)) w17 ∧ M15 ⟨b16.a, b16.len, b16.cap⟩ (IntKind.wrap .i64 (x12 + 1)) w17 < M15 b11 x12 w13) → J18 b16 w17) →
       idx (l10.a) (l10.len) (x12) 2 fun a19 =>
       ldT (.int .i64) w13 (a19) fun x20 => ldT (.sl) w13 ((a19).add 1) fun l21 =>
       allocK w13 (zc Tryd.prog T_disk_write) T_disk_write fun a22 w23 =>
       stC w23 (a22) (.int .i64 (x20)) fun w25 => stC w25 ((a22).add 1) (.slice (l21.a) (l21.len) (l21.cap)) fun w26 =>
       ldT (.int .i64) w26 (a22) fun x27 =>
       cond ((x27 : Int) == at_)
       (ldT (.sl) w26 ((a22).add 1) fun l28 =>
        J18 ⟨l28.a, l28.len, l28.cap⟩ w26)
       (J18 ⟨b11.a, b11.len, b11.cap⟩ w26))
      (runG (.sl) Tryd.prog w13 (Builtin.append_ #[T_l_uint8, T_l_uint8] T_l_uint8 #[.slice (none) (0) (0), .slice (b11.a) (b11.len) (b11.cap)]) fun l29 w30 =>
       Q (.tuple #[.slice (l29.a) (l29.len) (l29.cap), .int .i64 (0)]) w30)))
def A_disk_Disk_Read : Ann := ⟨[(7, [(6, .one (.sl)), (25, .one (.int .i64))])], [(11, [(6, .one (.sl))])], []⟩
theorem F_disk_Disk_Read_eq (d : Option Addr) (at_ : Int) (w : World) (Q : Value → World → Prop) : vcFn Tryd.prog A_disk_Disk_Read Tryd.f17 #[.pointer (d), .int .i64 (at_)] w Q = F_disk_Disk_Read d at_ w Q := by kernel_rfl
theorem F_disk_Disk_Read_does (d : Option Addr) (at_ : Int) (w : World) (Q : Value → World → Prop) (hQ : F_disk_Disk_Read d at_ w Q) : Does Tryd.prog N_disk_Disk_Read #[.pointer (d), .int .i64 (at_)] w Q :=
  vcFn_sound noAsk mixed (A := A_disk_Disk_Read) (by kernel_rfl) Tryd.func17 (Nat.le_of_ble_eq_true (by kernel_rfl)) (by kernel_rfl) ((F_disk_Disk_Read_eq d at_ w Q).mpr hQ)

/- nacelle/nacelleref05.Noughts -/
def F_ref05_Noughts (w : World) (Q : Value → World → Prop) : Prop :=
  ∃ (I4 : ByteArray → Int → World → Prop) (M5 : ByteArray → Int → World → Nat), I4 ((⟨#[]⟩ : ByteArray)) 0 w ∧
  ∀ s1 : ByteArray, ∀ i2 : Int, ∀ w3 : World, I4 s1 i2 w3 →
    cond (decide ((i2 : Int) < 64))
    ((((s1).size + (((⟨#[0]⟩ : ByteArray))).size : Nat) : Int) ≤ 9223372036854775807 ∧
     I4 (s1 ++ ((⟨#[0]⟩ : ByteArray))) (IntKind.wrap .i64 (i2 + 1)) w3 ∧ M5 (s1 ++ ((⟨#[0]⟩ : ByteArray))) (IntKind.wrap .i64 (i2 + 1)) w3 < M5 s1 i2 w3)
    (Q (.string (s1)) w3)
def A_ref05_Noughts : Ann := ⟨[(3, [(1, .one (.str)), (2, .one (.int .i64))])], [], []⟩
theorem F_ref05_Noughts_eq (w : World) (Q : Value → World → Prop) : vcFn Tryd.prog A_ref05_Noughts Tryd.f18 #[] w Q = F_ref05_Noughts w Q := by kernel_rfl
theorem F_ref05_Noughts_does (w : World) (Q : Value → World → Prop) (hQ : F_ref05_Noughts w Q) : Does Tryd.prog N_ref05_Noughts #[] w Q :=
  vcFn_sound noAsk mixed (A := A_ref05_Noughts) (by kernel_rfl) Tryd.func18 (Nat.le_of_ble_eq_true (by kernel_rfl)) (by kernel_rfl) ((F_ref05_Noughts_eq w Q).mpr hQ)

/- nacelle/nacellelaw20.awake -/
def F_law20_awake (w : World) (Q : Value → World → Prop) : Prop :=
  Does Tryd.prog N_law20_part #[.int .i64 (3)] w fun r1 w2 => ∃ p3 : Option Addr, ∃ p4 : Option Addr, ∃ b5 : Bool, r1 = .tuple #[.pointer (p3), .pointer (p4), .bool (b5)] ∧
  cond (!b5)
  (Q (.bool (false)) w2)
  (Does Tryd.prog N_audit_Open #[.pointer (p4)] w2 fun r6 w7 => ∃ p8 : Option Addr, ∃ x9 : Int, r6 = .tuple #[.pointer (p8), .int .i64 (x9)] ∧
   ∀ J11 : World → Prop, (∀ w10 : World, 
     (allocK w10 (zc Tryd.prog T_api_Entry) T_api_Entry fun a12 w13 =>
     stC w13 (a12) (.int .i64 (1)) fun w15 => stC w15 ((a12).add 1) (.int .i64 (0)) fun w16 => stC w16 ((a12).add 2) (.int .u32 (7)) fun w17 => stC w17 ((a12).add 3) (.int .i64 (0)) fun w18 =>
     ldT (.int .i64) w18 (a12) fun x19 => ldT (.int .i64) w18 ((a12).add 1) fun x20 => ldT (.int .u32) w18 ((a12).add 2) fun x21 => ldT (.int .i64) w18 ((a12).add 3) fun x22 =>
     Does Tryd.prog N_audit_Log_Add #[.pointer (p8), .agg #[.int .i64 (x19), .int .i64 (x20), .int .u32 (x21), .int .i64 (x22)]] w18 fun r23 w24 => ∃ x25 : Int, r23 = .int .i64 (x25) ∧
     Does Tryd.prog N_audit_Open #[.pointer (p4)] w24 fun r26 w27 => ∃ p28 : Option Addr, ∃ x29 : Int, r26 = .tuple #[.pointer (p28), .int .i64 (x29)] ∧
     cond ((x25 : Int) == 0)
     (cond ((x29 : Int) == 0)
      (ldT (.int .i64) w27.drew (a12) fun x30 => ldT (.int .i64) w27.drew ((a12).add 1) fun x31 => ldT (.int .u32) w27.drew ((a12).add 2) fun x32 => ldT (.int .i64) w27.drew ((a12).add 3) fun x33 =>
       (Does Tryd.prog N_audit_Log_Entries #[.pointer (p28)] w27.drew fun r34 w35 => ∃ l36 : Sl, r34 = .slice (l36.a) (l36.len) (l36.cap) ∧
        ((#[.int .i64 (x30), .int .i64 (x31), .int .u32 (x32), .int .i64 (x33)] : Array Value).size = 4 ∧ RowIs w35 (a12) #[.int .i64 (x30), .int .i64 (x31), .int .u32 (x32), .int .i64 (x33)]) ∧ allocK w35 #[.int .i64 (x30), .int .i64 (x31), .int .u32 (x32), .int .i64 (x33)] T_api_Entry fun a37 w38 =>
        Does Tryd.prog N_law20_same #[.slice (l36.a) (l36.len) (l36.cap), .slice (some (a37)) (1) (1)] w38 fun r39 w40 => ∃ b41 : Bool, r39 = .bool (b41) ∧
        cond (b41)
        (Q (.bool (true)) w40)
        (Q (.bool (false)) w40)) ∧
       (allocK w27.drew #[.int .i64 (x30), .int .i64 (x31), .int .u32 (x32), .int .i64 (x33)] T_api_Entry fun a42 w43 =>
        Does Tryd.prog N_audit_Log_Entries #[.pointer (p28)] w43 fun r44 w45 => ∃ l46 : Sl, r44 = .slice (l46.a) (l46.len) (l46.cap) ∧
        Does Tryd.prog N_law20_same #[.slice (l46.a) (l46.len) (l46.cap), .slice (some (a42)) (1) (1)] w45 fun r47 w48 => ∃ b49 : Bool, r47 = .bool (b49) ∧
        cond (b49)
        (Q (.bool (true)) w48)
        (Q (.bool (false)) w48)))
      ((Q (.bool (false)) w27.drew) ∧
       (Q (.bool (false)) w27.drew)))
     ((Q (.bool (false)) w27.drew) ∧
      (Q (.bool (false)) w27.drew))) → J11 w10) →
   cond ((x9 : Int) != 0)
   (Q (.bool (false)) w7)
   (Does Tryd.prog N_audit_Log_Entries #[.pointer (p8)] w7 fun r50 w51 => ∃ l52 : Sl, r50 = .slice (l52.a) (l52.len) (l52.cap) ∧
    cond (((((l52.len : Nat) : Int)) : Int) != 0)
    (Q (.bool (false)) w51)
    (J11 w51)))
def A_law20_awake : Ann := ⟨[], [(7, [])], [(10, [⟨0, 0, 0, true⟩, ⟨1, 1, 1, true⟩, ⟨2, 2, 3, true⟩, ⟨4, 4, 7, true⟩, ⟨12, 12, 15, true⟩, ⟨20, 20, 31, true⟩, ⟨36, 32, 63, true⟩, ⟨64, 64, 127, true⟩, ⟨192, 0, 255, false⟩, ⟨64, 64, 127, true⟩, ⟨576, 0, 639, false⟩, ⟨1344, 0, 2047, false⟩, ⟨2112, 2112, 4095, true⟩, ⟨6144, 4096, 8191, true⟩, ⟨8192, 8192, 16383, true⟩, ⟨24576, 16384, 32767, true⟩, ⟨32768, 32768, 65535, true⟩, ⟨98304, 65536, 131071, true⟩, ⟨131072, 131072, 262143, true⟩, ⟨524287, 262144, 524287, true⟩])]⟩
theorem F_law20_awake_eq (w : World) (Q : Value → World → Prop) : vcFn Tryd.prog A_law20_awake Tryd.f19 #[] w Q = F_law20_awake w Q := by kernel_rfl
theorem F_law20_awake_does (w : World) (Q : Value → World → Prop) (hQ : F_law20_awake w Q) : Does Tryd.prog N_law20_awake #[] w Q :=
  vcFn_sound noAsk mixed (A := A_law20_awake) (by kernel_rfl) Tryd.func19 (Nat.le_of_ble_eq_true (by kernel_rfl)) (by kernel_rfl) ((F_law20_awake_eq w Q).mpr hQ)

/- (*nacelle/disk.Disk).Arm -/
def F_disk_Disk_Arm (d : Option Addr) (n : Int) (survivors : Sl) (w : World) (Q : Value → World → Prop) : Prop :=
  nnil (d) fun a1 =>
  ldT (.bool) w ((a1).add 2) fun b2 =>
  cond (b2)
  (Q (.tuple #[]) w)
  (runG (.sl) Tryd.prog w (Builtin.append_ #[T_l_bool, T_l_bool] T_l_bool #[.slice (none) (0) (0), .slice (survivors.a) (survivors.len) (survivors.cap)]) fun l3 w4 =>
   nnil (d) fun a5 =>
   stC w4 ((a5).add 3) (.bool (decide ((n : Int) ≥ 0))) fun w6 =>
   nnil (d) fun a7 =>
   stC w6 ((a7).add 4) (.int .i64 (n)) fun w8 =>
   nnil (d) fun a9 =>
   stC w8 ((a9).add 5) (.slice (l3.a) (l3.len) (l3.cap)) fun w10 =>
   Q (.tuple #[]) w10)
def A_disk_Disk_Arm : Ann := ⟨[], [], []⟩
theorem F_disk_Disk_Arm_eq (d : Option Addr) (n : Int) (survivors : Sl) (w : World) (Q : Value → World → Prop) : vcFn Tryd.prog A_disk_Disk_Arm Tryd.f20 #[.pointer (d), .int .i64 (n), .slice (survivors.a) (survivors.len) (survivors.cap)] w Q = F_disk_Disk_Arm d n survivors w Q := by kernel_rfl
theorem F_disk_Disk_Arm_does (d : Option Addr) (n : Int) (survivors : Sl) (w : World) (Q : Value → World → Prop) (hQ : F_disk_Disk_Arm d n survivors w Q) : Does Tryd.prog N_disk_Disk_Arm #[.pointer (d), .int .i64 (n), .slice (survivors.a) (survivors.len) (survivors.cap)] w Q :=
  vcFn_sound noAsk mixed (A := A_disk_Disk_Arm) (by kernel_rfl) Tryd.func20 (Nat.le_of_ble_eq_true (by kernel_rfl)) (by kernel_rfl) ((F_disk_Disk_Arm_eq d n survivors w Q).mpr hQ)

/- (*nacelle/disk.Disk).Power -/
def F_disk_Disk_Power (d : Option Addr) (w : World) (Q : Value → World → Prop) : Prop :=
  nnil (d) fun a1 =>
  stC w ((a1).add 1) (.slice (none) (0) (0)) fun w2 =>
  nnil (d) fun a3 =>
  stC w2 ((a3).add 2) (.bool (false)) fun w4 =>
  nnil (d) fun a5 =>
  stC w4 ((a5).add 3) (.bool (false)) fun w6 =>
  Q (.tuple #[]) w6
def A_disk_Disk_Power : Ann := ⟨[], [], []⟩
theorem F_disk_Disk_Power_eq (d : Option Addr) (w : World) (Q : Value → World → Prop) : vcFn Tryd.prog A_disk_Disk_Power Tryd.f21 #[.pointer (d)] w Q = F_disk_Disk_Power d w Q := by kernel_rfl
theorem F_disk_Disk_Power_does (d : Option Addr) (w : World) (Q : Value → World → Prop) (hQ : F_disk_Disk_Power d w Q) : Does Tryd.prog N_disk_Disk_Power #[.pointer (d)] w Q :=
  vcFn_sound noAsk mixed (A := A_disk_Disk_Power) (by kernel_rfl) Tryd.func21 (Nat.le_of_ble_eq_true (by kernel_rfl)) (by kernel_rfl) ((F_disk_Disk_Power_eq d w Q).mpr hQ)

/- nacelle/nacellelaw20.same -/
def F_law20_same (a : Sl) (b : Sl) (w : World) (Q : Value → World → Prop) : Prop :=
  cond (((((a.len : Nat) : Int)) : Int) != (((b.len : Nat) : Int)))
  (Q (.bool (false)) w)
  (∃ (I3 : Int → World → Prop) (M4 : Int → World → Nat), I3 0 w ∧
   ∀ i1 : Int, ∀ w2 : World, I3 i1 w2 →
     cond (decide ((i1 : Int) < (((a.len : Nat) : Int))))
     (idx (a.a) (a.len) (i1) 4 fun a5 =>
      ldT (.int .i64) w2.drew (a5) fun x6 => ldT (.int .i64) w2.drew ((a5).add 1) fun x7 => ldT (.int .u32) w2.drew ((a5).add 2) fun x8 => ldT (.int .i64) w2.drew ((a5).add 3) fun x9 =>
      idx (b.a) (b.len) (i1) 4 fun a10 =>
      ldT (.int .i64) w2.drew (a10) fun x11 => ldT (.int .i64) w2.drew ((a10).add 1) fun x12 => ldT (.int .u32) w2.drew ((a10).add 2) fun x13 => ldT (.int .i64) w2.drew ((a10).add 3) fun x14 =>
      runG (.bool) Tryd.prog w2.drew (do eqGuard .neq T_api_Entry (.tmp 20) (.tmp 24) (.agg #[.int .i64 (x6), .int .i64 (x7), .int .u32 (x8), .int .i64 (x9)]) (.agg #[.int .i64 (x11), .int .i64 (x12), .int .u32 (x13), .int .i64 (x14)]); binOp .neq T_api_Entry (.agg #[.int .i64 (x6), .int .i64 (x7), .int .u32 (x8), .int .i64 (x9)]) (.agg #[.int .i64 (x11), .int .i64 (x12), .int .u32 (x13), .int .i64 (x14)])) fun b15 w16 =>
      cond (b15)
      (Q (.bool (false)) w16)
      (I3 (IntKind.wrap .i64 (i1 + 1)) w16 ∧ M4 (IntKind.wrap .i64 (i1 + 1)) w16 < M4 i1 w2))
     (Q (.bool (true)) w2))
def A_law20_same : Ann := ⟨[(4, [(5, .one (.int .i64))])], [], [(6, [⟨0, 0, 0, true⟩, ⟨0, 0, 0, true⟩, ⟨3, 3, 3, true⟩, ⟨4, 4, 7, true⟩, ⟨0, 0, 0, true⟩, ⟨0, 0, 0, true⟩, ⟨48, 48, 48, true⟩, ⟨64, 64, 112, true⟩, ⟨136, 0, 255, false⟩])]⟩
theorem F_law20_same_eq (a : Sl) (b : Sl) (w : World) (Q : Value → World → Prop) : vcFn Tryd.prog A_law20_same Tryd.f22 #[.slice (a.a) (a.len) (a.cap), .slice (b.a) (b.len) (b.cap)] w Q = F_law20_same a b w Q := by kernel_rfl
theorem F_law20_same_does (a : Sl) (b : Sl) (w : World) (Q : Value → World → Prop) (hQ : F_law20_same a b w Q) : Does Tryd.prog N_law20_same #[.slice (a.a) (a.len) (a.cap), .slice (b.a) (b.len) (b.cap)] w Q :=
  vcFn_sound noAsk mixed (A := A_law20_same) (by kernel_rfl) Tryd.func22 (Nat.le_of_ble_eq_true (by kernel_rfl)) (by kernel_rfl) ((F_law20_same_eq a b w Q).mpr hQ)

/- nacelle/nacellelaw20.count -/
def F_law20_count (n : Int) (w : World) (Q : Value → World → Prop) : Prop :=
  cond (decide ((n : Int) < 1))
  (Q (.int .i64 (6)) w)
  (cond (decide ((n : Int) > 9))
   (Q (.int .i64 (6)) w)
   (Q (.int .i64 (n)) w))
def A_law20_count : Ann := ⟨[], [], []⟩
theorem F_law20_count_eq (n : Int) (w : World) (Q : Value → World → Prop) : vcFn Tryd.prog A_law20_count Tryd.f23 #[.int .i64 (n)] w Q = F_law20_count n w Q := by kernel_rfl
theorem F_law20_count_does (n : Int) (w : World) (Q : Value → World → Prop) (hQ : F_law20_count n w Q) : Does Tryd.prog N_law20_count #[.int .i64 (n)] w Q :=
  vcFn_sound noAsk mixed (A := A_law20_count) (by kernel_rfl) Tryd.func23 (Nat.le_of_ble_eq_true (by kernel_rfl)) (by kernel_rfl) ((F_law20_count_eq n w Q).mpr hQ)

/- nacelle/nacelleref05.New -/
def F_ref05_New (sectors : Int) (w : World) (Q : Value → World → Prop) : Prop :=
  allocK w (zc Tryd.prog T_ref05_Disk) T_ref05_Disk fun a1 w2 =>
  allocK w2 (zc Tryd.prog T_ref05_Disk) T_ref05_Disk fun a3 w4 =>
  stC w4 (a3) (.slice (none) (0) (0)) fun w6 => stC w6 ((a3).add 1) (.slice (none) (0) (0)) fun w7 => stC w7 ((a3).add 2) (.bool (false)) fun w8 => stC w8 ((a3).add 3) (.int .i64 (-1)) fun w9 => stC w9 ((a3).add 4) (.slice (none) (0) (0)) fun w10 =>
  ∀ J12 : World → Prop, (∀ w11 : World, 
    (∃ (I15 : Int → World → Prop) (M16 : Int → World → Nat), I15 0 w11 ∧
    ∀ i13 : Int, ∀ w14 : World, I15 i13 w14 →
      cond (decide ((i13 : Int) < sectors))
      (ldT (.sl) w14.drew (a3) fun l17 =>
       Does Tryd.prog N_ref05_Noughts #[] w14.drew fun r18 w19 => ∃ s20 : ByteArray, r18 = .string (s20) ∧
       w19.cell? (a3) = some (.slice (l17.a) (l17.len) (l17.cap)) ∧ allocK w19 #[.string (s20)] T_string fun a21 w22 =>
       w22.cell? (a3) = some (.slice (l17.a) (l17.len) (l17.cap)) ∧ runG (.sl) Tryd.prog w22 (Builtin.append_ #[T_l_string, T_l_string] T_l_string #[.slice (l17.a) (l17.len) (l17.cap), .slice (some (a21)) (1) (1)]) fun l23 w24 =>
       stC w24 (a3) (.slice (l23.a) (l23.len) (l23.cap)) fun w25 =>
       I15 (IntKind.wrap .i64 (i13 + 1)) w25 ∧ M16 (IntKind.wrap .i64 (i13 + 1)) w25 < M16 i13 w14)
      (ldT (.sl) w14 (a3) fun l26 => ldT (.sl) w14 ((a3).add 1) fun l27 => ldT (.bool) w14 ((a3).add 2) fun b28 => ldT (.int .i64) w14 ((a3).add 3) fun x29 => ldT (.sl) w14 ((a3).add 4) fun l30 =>
       stC w14 (a1) (.slice (l26.a) (l26.len) (l26.cap)) fun w32 => stC w32 ((a1).add 1) (.slice (l27.a) (l27.len) (l27.cap)) fun w33 => stC w33 ((a1).add 2) (.bool (b28)) fun w34 => stC w34 ((a1).add 3) (.int .i64 (x29)) fun w35 => stC w35 ((a1).add 4) (.slice (l30.a) (l30.len) (l30.cap)) fun w36 =>
       ldT (.sl) w36 (a1) fun l37 => ldT (.sl) w36 ((a1).add 1) fun l38 => ldT (.bool) w36 ((a1).add 2) fun b39 => ldT (.int .i64) w36 ((a1).add 3) fun x40 => ldT (.sl) w36 ((a1).add 4) fun l41 =>
       Q (.tuple #[.agg #[.slice (l37.a) (l37.len) (l37.cap), .slice (l38.a) (l38.len) (l38.cap), .bool (b39), .int .i64 (x40), .slice (l41.a) (l41.len) (l41.cap)], .bool (true)]) w36)) → J12 w11) →
  ∀ J44 : Bool → World → Prop, (∀ b42 : Bool, ∀ w43 : World, 
    (cond (b42)
    (ldT (.sl) w43 (a3) fun l45 => ldT (.sl) w43 ((a3).add 1) fun l46 => ldT (.bool) w43 ((a3).add 2) fun b47 => ldT (.int .i64) w43 ((a3).add 3) fun x48 => ldT (.sl) w43 ((a3).add 4) fun l49 =>
     stC w43 (a1) (.slice (l45.a) (l45.len) (l45.cap)) fun w51 => stC w51 ((a1).add 1) (.slice (l46.a) (l46.len) (l46.cap)) fun w52 => stC w52 ((a1).add 2) (.bool (b47)) fun w53 => stC w53 ((a1).add 3) (.int .i64 (x48)) fun w54 => stC w54 ((a1).add 4) (.slice (l49.a) (l49.len) (l49.cap)) fun w55 =>
     ldT (.sl) w55 (a1) fun l56 => ldT (.sl) w55 ((a1).add 1) fun l57 => ldT (.bool) w55 ((a1).add 2) fun b58 => ldT (.int .i64) w55 ((a1).add 3) fun x59 => ldT (.sl) w55 ((a1).add 4) fun l60 =>
     Q (.tuple #[.agg #[.slice (l56.a) (l56.len) (l56.cap), .slice (l57.a) (l57.len) (l57.cap), .bool (b58), .int .i64 (x59), .slice (l60.a) (l60.len) (l60.cap)], .bool (false)]) w55)
    (J12 w43)) → J44 b42 w43) →
  cond (decide ((sectors : Int) < 1))
  (J44 true w10)
  (J44 (decide ((sectors : Int) > 256)) w10)
def A_ref05_New : Ann := ⟨[(5, [(5, .one (.int .i64))])], [(3, [(12, .one (.bool))]), (4, [])], [(7, [⟨0, 0, 0, true⟩, ⟨1, 1, 1, true⟩, ⟨0, 0, 0, false⟩, ⟨4, 0, 4, false⟩, ⟨14, 0, 15, false⟩, ⟨31, 0, 31, true⟩, ⟨63, 0, 63, false⟩])]⟩
theorem F_ref05_New_eq (sectors : Int) (w : World) (Q : Value → World → Prop) : vcFn Tryd.prog A_ref05_New Tryd.f24 #[.int .i64 (sectors)] w Q = F_ref05_New sectors w Q := by kernel_rfl
theorem F_ref05_New_does (sectors : Int) (w : World) (Q : Value → World → Prop) (hQ : F_ref05_New sectors w Q) : Does Tryd.prog N_ref05_New #[.int .i64 (sectors)] w Q :=
  vcFn_sound noAsk mixed (A := A_ref05_New) (by kernel_rfl) Tryd.func24 (Nat.le_of_ble_eq_true (by kernel_rfl)) (by kernel_rfl) ((F_ref05_New_eq sectors w Q).mpr hQ)

/- nacelle/nacelleref20.Open -/
def F_ref20_Open (d0 : Sl) (d1 : Sl) (d2 : Bool) (d3 : Int) (d4 : Sl) (from_ : Int) (count : Int) (w : World) (Q : Value → World → Prop) : Prop :=
  allocK w (#[.slice (d0.a) (d0.len) (d0.cap), .slice (d1.a) (d1.len) (d1.cap), .bool (d2), .int .i64 (d3), .slice (d4.a) (d4.len) (d4.cap)]) T_ref05_Disk fun a1 w2 =>
  allocK w2 (zc Tryd.prog T_ref20_Log) T_ref20_Log fun a3 w4 =>
  ldT (.sl) w4 (a1) fun l5 => ldT (.sl) w4 ((a1).add 1) fun l6 => ldT (.bool) w4 ((a1).add 2) fun b7 => ldT (.int .i64) w4 ((a1).add 3) fun x8 => ldT (.sl) w4 ((a1).add 4) fun l9 =>
  allocK w4 (zc Tryd.prog T_ref20_Log) T_ref20_Log fun a10 w11 =>
  stC w11 (a10) (.slice (l5.a) (l5.len) (l5.cap)) fun w13 => stC w13 ((a10).add 1) (.slice (l6.a) (l6.len) (l6.cap)) fun w14 => stC w14 ((a10).add 2) (.bool (b7)) fun w15 => stC w15 ((a10).add 3) (.int .i64 (x8)) fun w16 => stC w16 ((a10).add 4) (.slice (l9.a) (l9.len) (l9.cap)) fun w17 => stC w17 ((a10).add 5) (.int .i64 (from_)) fun w18 => stC w18 ((a10).add 6) (.int .i64 (count)) fun w19 => stC w19 ((a10).add 7) (.slice (none) (0) (0)) fun w20 => stC w20 ((a10).add 8) (.bool (false)) fun w21 =>
  ∃ (I24 : Int → World → Prop) (M25 : Int → World → Nat), I24 0 w21 ∧
  ∀ n22 : Int, ∀ w23 : World, I24 n22 w23 →
    cond (decide ((n22 : Int) < count))
    (ldT (.sl) w23 (a1) fun l26 => ldT (.sl) w23 ((a1).add 1) fun l27 => ldT (.bool) w23 ((a1).add 2) fun b28 => ldT (.int .i64) w23 ((a1).add 3) fun x29 => ldT (.sl) w23 ((a1).add 4) fun l30 =>
     Does Tryd.prog N_ref05_Disk_Read #[.agg #[.slice (l26.a) (l26.len) (l26.cap), .slice (l27.a) (l27.len) (l27.cap), .bool (b28), .int .i64 (x29), .slice (l30.a) (l30.len) (l30.cap)], .int .i64 (IntKind.wrap .i64 (from_ + n22))] w23 fun r31 w32 => ∃ s33 : ByteArray, ∃ x34 : Int, r31 = .tuple #[.string (s33), .int .i64 (x34)] ∧
     cond ((x34 : Int) != 0)
     (stC w32 (a3) (.slice (none) (0) (0)) fun w36 => stC w36 ((a3).add 1) (.slice (none) (0) (0)) fun w37 => stC w37 ((a3).add 2) (.bool (false)) fun w38 => stC w38 ((a3).add 3) (.int .i64 (0)) fun w39 => stC w39 ((a3).add 4) (.slice (none) (0) (0)) fun w40 => stC w40 ((a3).add 5) (.int .i64 (0)) fun w41 => stC w41 ((a3).add 6) (.int .i64 (0)) fun w42 => stC w42 ((a3).add 7) (.slice (none) (0) (0)) fun w43 => stC w43 ((a3).add 8) (.bool (false)) fun w44 =>
      ldT (.sl) w44 (a3) fun l45 => ldT (.sl) w44 ((a3).add 1) fun l46 => ldT (.bool) w44 ((a3).add 2) fun b47 => ldT (.int .i64) w44 ((a3).add 3) fun x48 => ldT (.sl) w44 ((a3).add 4) fun l49 => ldT (.int .i64) w44 ((a3).add 5) fun x50 => ldT (.int .i64) w44 ((a3).add 6) fun x51 => ldT (.sl) w44 ((a3).add 7) fun l52 => ldT (.bool) w44 ((a3).add 8) fun b53 =>
      Q (.tuple #[.agg #[.slice (l45.a) (l45.len) (l45.cap), .slice (l46.a) (l46.len) (l46.cap), .bool (b47), .int .i64 (x48), .slice (l49.a) (l49.len) (l49.cap), .int .i64 (x50), .int .i64 (x51), .slice (l52.a) (l52.len) (l52.cap), .bool (b53)], .int .i64 (x34)]) w44)
     (Does Tryd.prog N_ref20_Said #[.int .i64 (n22), .string (s33)] w32 fun r54 w55 => ∃ x56 : Int, ∃ x57 : Int, ∃ x58 : Int, ∃ x59 : Int, ∃ b60 : Bool, r54 = .tuple #[.agg #[.int .i64 (x56), .int .i64 (x57), .int .u32 (x58), .int .i64 (x59)], .bool (b60)] ∧
      allocK w55 (zc Tryd.prog T_api_Entry) T_api_Entry fun a61 w62 =>
      stC w62 (a61) (.int .i64 (x56)) fun w64 => stC w64 ((a61).add 1) (.int .i64 (x57)) fun w65 => stC w65 ((a61).add 2) (.int .u32 (x58)) fun w66 => stC w66 ((a61).add 3) (.int .i64 (x59)) fun w67 =>
      cond (!b60)
      (ldT (.sl) w67 (a10) fun l68 => ldT (.sl) w67 ((a10).add 1) fun l69 => ldT (.bool) w67 ((a10).add 2) fun b70 => ldT (.int .i64) w67 ((a10).add 3) fun x71 => ldT (.sl) w67 ((a10).add 4) fun l72 => ldT (.int .i64) w67 ((a10).add 5) fun x73 => ldT (.int .i64) w67 ((a10).add 6) fun x74 => ldT (.sl) w67 ((a10).add 7) fun l75 => ldT (.bool) w67 ((a10).add 8) fun b76 =>
       stC w67 (a3) (.slice (l68.a) (l68.len) (l68.cap)) fun w78 => stC w78 ((a3).add 1) (.slice (l69.a) (l69.len) (l69.cap)) fun w79 => stC w79 ((a3).add 2) (.bool (b70)) fun w80 => stC w80 ((a3).add 3) (.int .i64 (x71)) fun w81 => stC w81 ((a3).add 4) (.slice (l72.a) (l72.len) (l72.cap)) fun w82 => stC w82 ((a3).add 5) (.int .i64 (x73)) fun w83 => stC w83 ((a3).add 6) (.int .i64 (x74)) fun w84 => stC w84 ((a3).add 7) (.slice (l75.a) (l75.len) (l75.cap)) fun w85 => stC w85 ((a3).add 8) (.bool (b76)) fun w86 =>
       ldT (.sl) w86 (a3) fun l87 => ldT (.sl) w86 ((a3).add 1) fun l88 => ldT (.bool) w86 ((a3).add 2) fun b89 => ldT (.int .i64) w86 ((a3).add 3) fun x90 => ldT (.sl) w86 ((a3).add 4) fun l91 => ldT (.int .i64) w86 ((a3).add 5) fun x92 => ldT (.int .i64) w86 ((a3).add 6) fun x93 => ldT (.sl) w86 ((a3).add 7) fun l94 => ldT (.bool) w86 ((a3).add 8) fun b95 =>
       Q (.tuple #[.agg #[.slice (l87.a) (l87.len) (l87.cap), .slice (l88.a) (l88.len) (l88.cap), .bool (b89), .int .i64 (x90), .slice (l91.a) (l91.len) (l91.cap), .int .i64 (x92), .int .i64 (x93), .slice (l94.a) (l94.len) (l94.cap), .bool (b95)], .int .i64 (0)]) w86)
      (ldT (.sl) w67 ((a10).add 7) fun l96 =>
       ldT (.int .i64) w67 (a61) fun x97 => ldT (.int .i64) w67 ((a61).add 1) fun x98 => ldT (.int .u32) w67 ((a61).add 2) fun x99 => ldT (.int .i64) w67 ((a61).add 3) fun x100 =>
       allocK w67 #[.int .i64 (x97), .int .i64 (x98), .int .u32 (x99), .int .i64 (x100)] T_api_Entry fun a101 w102 =>
       runG (.sl) Tryd.prog w102 (Builtin.append_ #[T_l_api_Entry, T_l_api_Entry] T_l_api_Entry #[.slice (l96.a) (l96.len) (l96.cap), .slice (some (a101)) (1) (1)]) fun l103 w104 =>
       stC w104 ((a10).add 7) (.slice (l103.a) (l103.len) (l103.cap)) fun w105 =>
       I24 (IntKind.wrap .i64 (n22 + 1)) w105 ∧ M25 (IntKind.wrap .i64 (n22 + 1)) w105 < M25 n22 w23)))
    (ldT (.sl) w23 (a10) fun l106 => ldT (.sl) w23 ((a10).add 1) fun l107 => ldT (.bool) w23 ((a10).add 2) fun b108 => ldT (.int .i64) w23 ((a10).add 3) fun x109 => ldT (.sl) w23 ((a10).add 4) fun l110 => ldT (.int .i64) w23 ((a10).add 5) fun x111 => ldT (.int .i64) w23 ((a10).add 6) fun x112 => ldT (.sl) w23 ((a10).add 7) fun l113 => ldT (.bool) w23 ((a10).add 8) fun b114 =>
     stC w23 (a3) (.slice (l106.a) (l106.len) (l106.cap)) fun w116 => stC w116 ((a3).add 1) (.slice (l107.a) (l107.len) (l107.cap)) fun w117 => stC w117 ((a3).add 2) (.bool (b108)) fun w118 => stC w118 ((a3).add 3) (.int .i64 (x109)) fun w119 => stC w119 ((a3).add 4) (.slice (l110.a) (l110.len) (l110.cap)) fun w120 => stC w120 ((a3).add 5) (.int .i64 (x111)) fun w121 => stC w121 ((a3).add 6) (.int .i64 (x112)) fun w122 => stC w122 ((a3).add 7) (.slice (l113.a) (l113.len) (l113.cap)) fun w123 => stC w123 ((a3).add 8) (.bool (b114)) fun w124 =>
     ldT (.sl) w124 (a3) fun l125 => ldT (.sl) w124 ((a3).add 1) fun l126 => ldT (.bool) w124 ((a3).add 2) fun b127 => ldT (.int .i64) w124 ((a3).add 3) fun x128 => ldT (.sl) w124 ((a3).add 4) fun l129 => ldT (.int .i64) w124 ((a3).add 5) fun x130 => ldT (.int .i64) w124 ((a3).add 6) fun x131 => ldT (.sl) w124 ((a3).add 7) fun l132 => ldT (.bool) w124 ((a3).add 8) fun b133 =>
     Q (.tuple #[.agg #[.slice (l125.a) (l125.len) (l125.cap), .slice (l126.a) (l126.len) (l126.cap), .bool (b127), .int .i64 (x128), .slice (l129.a) (l129.len) (l129.cap), .int .i64 (x130), .int .i64 (x131), .slice (l132.a) (l132.len) (l132.cap), .bool (b133)], .int .i64 (0)]) w124)
def A_ref20_Open : Ann := ⟨[(3, [(9, .one (.int .i64))])], [], []⟩
theorem F_ref20_Open_eq (d0 : Sl) (d1 : Sl) (d2 : Bool) (d3 : Int) (d4 : Sl) (from_ : Int) (count : Int) (w : World) (Q : Value → World → Prop) : vcFn Tryd.prog A_ref20_Open Tryd.f25 #[.agg #[.slice (d0.a) (d0.len) (d0.cap), .slice (d1.a) (d1.len) (d1.cap), .bool (d2), .int .i64 (d3), .slice (d4.a) (d4.len) (d4.cap)], .int .i64 (from_), .int .i64 (count)] w Q = F_ref20_Open d0 d1 d2 d3 d4 from_ count w Q := by kernel_rfl
theorem F_ref20_Open_does (d0 : Sl) (d1 : Sl) (d2 : Bool) (d3 : Int) (d4 : Sl) (from_ : Int) (count : Int) (w : World) (Q : Value → World → Prop) (hQ : F_ref20_Open d0 d1 d2 d3 d4 from_ count w Q) : Does Tryd.prog N_ref20_Open #[.agg #[.slice (d0.a) (d0.len) (d0.cap), .slice (d1.a) (d1.len) (d1.cap), .bool (d2), .int .i64 (d3), .slice (d4.a) (d4.len) (d4.cap)], .int .i64 (from_), .int .i64 (count)] w Q :=
  vcFn_sound noAsk mixed (A := A_ref20_Open) (by kernel_rfl) Tryd.func25 (Nat.le_of_ble_eq_true (by kernel_rfl)) (by kernel_rfl) ((F_ref20_Open_eq d0 d1 d2 d3 d4 from_ count w Q).mpr hQ)

/- (nacelle/nacelleref20.Log).Add -/
def F_ref20_Log_Add (l0 : Sl) (l1 : Sl) (l2 : Bool) (l3 : Int) (l4 : Sl) (l5 : Int) (l6 : Int) (l7 : Sl) (l8 : Bool) (x0 : Int) (x1 : Int) (x2 : Int) (x3 : Int) (w : World) (Q : Value → World → Prop) : Prop :=
  allocK w (#[.slice (l0.a) (l0.len) (l0.cap), .slice (l1.a) (l1.len) (l1.cap), .bool (l2), .int .i64 (l3), .slice (l4.a) (l4.len) (l4.cap), .int .i64 (l5), .int .i64 (l6), .slice (l7.a) (l7.len) (l7.cap), .bool (l8)]) T_ref20_Log fun a1 w2 =>
  allocK w2 (#[.int .i64 (x0), .int .i64 (x1), .int .u32 (x2), .int .i64 (x3)]) T_api_Entry fun a3 w4 =>
  allocK w4 (zc Tryd.prog T_ref20_Log) T_ref20_Log fun a5 w6 =>
  ldT (.bool) w6 ((a1).add 8) fun b7 =>
  cond (b7)
  (ldT (.sl) w6 (a1) fun l8 => ldT (.sl) w6 ((a1).add 1) fun l9 => ldT (.bool) w6 ((a1).add 2) fun b10 => ldT (.int .i64) w6 ((a1).add 3) fun x11 => ldT (.sl) w6 ((a1).add 4) fun l12 => ldT (.int .i64) w6 ((a1).add 5) fun x13 => ldT (.int .i64) w6 ((a1).add 6) fun x14 => ldT (.sl) w6 ((a1).add 7) fun l15 => ldT (.bool) w6 ((a1).add 8) fun b16 =>
   stC w6 (a5) (.slice (l8.a) (l8.len) (l8.cap)) fun w18 => stC w18 ((a5).add 1) (.slice (l9.a) (l9.len) (l9.cap)) fun w19 => stC w19 ((a5).add 2) (.bool (b10)) fun w20 => stC w20 ((a5).add 3) (.int .i64 (x11)) fun w21 => stC w21 ((a5).add 4) (.slice (l12.a) (l12.len) (l12.cap)) fun w22 => stC w22 ((a5).add 5) (.int .i64 (x13)) fun w23 => stC w23 ((a5).add 6) (.int .i64 (x14)) fun w24 => stC w24 ((a5).add 7) (.slice (l15.a) (l15.len) (l15.cap)) fun w25 => stC w25 ((a5).add 8) (.bool (b16)) fun w26 =>
   ldT (.sl) w26 (a5) fun l27 => ldT (.sl) w26 ((a5).add 1) fun l28 => ldT (.bool) w26 ((a5).add 2) fun b29 => ldT (.int .i64) w26 ((a5).add 3) fun x30 => ldT (.sl) w26 ((a5).add 4) fun l31 => ldT (.int .i64) w26 ((a5).add 5) fun x32 => ldT (.int .i64) w26 ((a5).add 6) fun x33 => ldT (.sl) w26 ((a5).add 7) fun l34 => ldT (.bool) w26 ((a5).add 8) fun b35 =>
   Q (.tuple #[.agg #[.slice (l27.a) (l27.len) (l27.cap), .slice (l28.a) (l28.len) (l28.cap), .bool (b29), .int .i64 (x30), .slice (l31.a) (l31.len) (l31.cap), .int .i64 (x32), .int .i64 (x33), .slice (l34.a) (l34.len) (l34.cap), .bool (b35)], .int .i64 (9)]) w26)
  (ldT (.int .i64) w6 (a3) fun x36 => ldT (.int .i64) w6 ((a3).add 1) fun x37 => ldT (.int .u32) w6 ((a3).add 2) fun x38 => ldT (.int .i64) w6 ((a3).add 3) fun x39 =>
   Does Tryd.prog N_ref20_May #[.agg #[.int .i64 (x36), .int .i64 (x37), .int .u32 (x38), .int .i64 (x39)]] w6 fun r40 w41 => ∃ b42 : Bool, r40 = .bool (b42) ∧
   cond (!b42)
   (ldT (.sl) w41 (a1) fun l43 => ldT (.sl) w41 ((a1).add 1) fun l44 => ldT (.bool) w41 ((a1).add 2) fun b45 => ldT (.int .i64) w41 ((a1).add 3) fun x46 => ldT (.sl) w41 ((a1).add 4) fun l47 => ldT (.int .i64) w41 ((a1).add 5) fun x48 => ldT (.int .i64) w41 ((a1).add 6) fun x49 => ldT (.sl) w41 ((a1).add 7) fun l50 => ldT (.bool) w41 ((a1).add 8) fun b51 =>
    stC w41 (a5) (.slice (l43.a) (l43.len) (l43.cap)) fun w53 => stC w53 ((a5).add 1) (.slice (l44.a) (l44.len) (l44.cap)) fun w54 => stC w54 ((a5).add 2) (.bool (b45)) fun w55 => stC w55 ((a5).add 3) (.int .i64 (x46)) fun w56 => stC w56 ((a5).add 4) (.slice (l47.a) (l47.len) (l47.cap)) fun w57 => stC w57 ((a5).add 5) (.int .i64 (x48)) fun w58 => stC w58 ((a5).add 6) (.int .i64 (x49)) fun w59 => stC w59 ((a5).add 7) (.slice (l50.a) (l50.len) (l50.cap)) fun w60 => stC w60 ((a5).add 8) (.bool (b51)) fun w61 =>
    ldT (.sl) w61 (a5) fun l62 => ldT (.sl) w61 ((a5).add 1) fun l63 => ldT (.bool) w61 ((a5).add 2) fun b64 => ldT (.int .i64) w61 ((a5).add 3) fun x65 => ldT (.sl) w61 ((a5).add 4) fun l66 => ldT (.int .i64) w61 ((a5).add 5) fun x67 => ldT (.int .i64) w61 ((a5).add 6) fun x68 => ldT (.sl) w61 ((a5).add 7) fun l69 => ldT (.bool) w61 ((a5).add 8) fun b70 =>
    Q (.tuple #[.agg #[.slice (l62.a) (l62.len) (l62.cap), .slice (l63.a) (l63.len) (l63.cap), .bool (b64), .int .i64 (x65), .slice (l66.a) (l66.len) (l66.cap), .int .i64 (x67), .int .i64 (x68), .slice (l69.a) (l69.len) (l69.cap), .bool (b70)], .int .i64 (1)]) w61)
   (ldT (.sl) w41 ((a1).add 7) fun l71 =>
    ldT (.int .i64) w41 ((a1).add 6) fun x72 =>
    cond (decide (((((l71.len : Nat) : Int)) : Int) ≥ x72))
    (ldT (.sl) w41 (a1) fun l73 => ldT (.sl) w41 ((a1).add 1) fun l74 => ldT (.bool) w41 ((a1).add 2) fun b75 => ldT (.int .i64) w41 ((a1).add 3) fun x76 => ldT (.sl) w41 ((a1).add 4) fun l77 => ldT (.int .i64) w41 ((a1).add 5) fun x78 => ldT (.int .i64) w41 ((a1).add 6) fun x79 => ldT (.sl) w41 ((a1).add 7) fun l80 => ldT (.bool) w41 ((a1).add 8) fun b81 =>
     stC w41 (a5) (.slice (l73.a) (l73.len) (l73.cap)) fun w83 => stC w83 ((a5).add 1) (.slice (l74.a) (l74.len) (l74.cap)) fun w84 => stC w84 ((a5).add 2) (.bool (b75)) fun w85 => stC w85 ((a5).add 3) (.int .i64 (x76)) fun w86 => stC w86 ((a5).add 4) (.slice (l77.a) (l77.len) (l77.cap)) fun w87 => stC w87 ((a5).add 5) (.int .i64 (x78)) fun w88 => stC w88 ((a5).add 6) (.int .i64 (x79)) fun w89 => stC w89 ((a5).add 7) (.slice (l80.a) (l80.len) (l80.cap)) fun w90 => stC w90 ((a5).add 8) (.bool (b81)) fun w91 =>
     ldT (.sl) w91 (a5) fun l92 => ldT (.sl) w91 ((a5).add 1) fun l93 => ldT (.bool) w91 ((a5).add 2) fun b94 => ldT (.int .i64) w91 ((a5).add 3) fun x95 => ldT (.sl) w91 ((a5).add 4) fun l96 => ldT (.int .i64) w91 ((a5).add 5) fun x97 => ldT (.int .i64) w91 ((a5).add 6) fun x98 => ldT (.sl) w91 ((a5).add 7) fun l99 => ldT (.bool) w91 ((a5).add 8) fun b100 =>
     Q (.tuple #[.agg #[.slice (l92.a) (l92.len) (l92.cap), .slice (l93.a) (l93.len) (l93.cap), .bool (b94), .int .i64 (x95), .slice (l96.a) (l96.len) (l96.cap), .int .i64 (x97), .int .i64 (x98), .slice (l99.a) (l99.len) (l99.cap), .bool (b100)], .int .i64 (5)]) w91)
    (∀ J104 : Addr → Int → World → Prop, (∀ d101 : Addr, ∀ e102 : Int, ∀ w103 : World, 
       (∀ J107 : Int → World → Prop, (∀ e105 : Int, ∀ w106 : World, 
         (ldT (.sl) w106 (d101) fun l108 => ldT (.sl) w106 ((d101).add 1) fun l109 => ldT (.bool) w106 ((d101).add 2) fun b110 => ldT (.int .i64) w106 ((d101).add 3) fun x111 => ldT (.sl) w106 ((d101).add 4) fun l112 =>
         stC w106 (a1) (.slice (l108.a) (l108.len) (l108.cap)) fun w114 => stC w114 ((a1).add 1) (.slice (l109.a) (l109.len) (l109.cap)) fun w115 => stC w115 ((a1).add 2) (.bool (b110)) fun w116 => stC w116 ((a1).add 3) (.int .i64 (x111)) fun w117 => stC w117 ((a1).add 4) (.slice (l112.a) (l112.len) (l112.cap)) fun w118 =>
         cond ((e105 : Int) != 0)
         (stC w118 ((a1).add 8) (.bool (true)) fun w119 =>
          ldT (.sl) w119 (a1) fun l120 => ldT (.sl) w119 ((a1).add 1) fun l121 => ldT (.bool) w119 ((a1).add 2) fun b122 => ldT (.int .i64) w119 ((a1).add 3) fun x123 => ldT (.sl) w119 ((a1).add 4) fun l124 => ldT (.int .i64) w119 ((a1).add 5) fun x125 => ldT (.int .i64) w119 ((a1).add 6) fun x126 => ldT (.sl) w119 ((a1).add 7) fun l127 => ldT (.bool) w119 ((a1).add 8) fun b128 =>
          stC w119 (a5) (.slice (l120.a) (l120.len) (l120.cap)) fun w130 => stC w130 ((a5).add 1) (.slice (l121.a) (l121.len) (l121.cap)) fun w131 => stC w131 ((a5).add 2) (.bool (b122)) fun w132 => stC w132 ((a5).add 3) (.int .i64 (x123)) fun w133 => stC w133 ((a5).add 4) (.slice (l124.a) (l124.len) (l124.cap)) fun w134 => stC w134 ((a5).add 5) (.int .i64 (x125)) fun w135 => stC w135 ((a5).add 6) (.int .i64 (x126)) fun w136 => stC w136 ((a5).add 7) (.slice (l127.a) (l127.len) (l127.cap)) fun w137 => stC w137 ((a5).add 8) (.bool (b128)) fun w138 =>
          ldT (.sl) w138 (a5) fun l139 => ldT (.sl) w138 ((a5).add 1) fun l140 => ldT (.bool) w138 ((a5).add 2) fun b141 => ldT (.int .i64) w138 ((a5).add 3) fun x142 => ldT (.sl) w138 ((a5).add 4) fun l143 => ldT (.int .i64) w138 ((a5).add 5) fun x144 => ldT (.int .i64) w138 ((a5).add 6) fun x145 => ldT (.sl) w138 ((a5).add 7) fun l146 => ldT (.bool) w138 ((a5).add 8) fun b147 =>
          Q (.tuple #[.agg #[.slice (l139.a) (l139.len) (l139.cap), .slice (l140.a) (l140.len) (l140.cap), .bool (b141), .int .i64 (x142), .slice (l143.a) (l143.len) (l143.cap), .int .i64 (x144), .int .i64 (x145), .slice (l146.a) (l146.len) (l146.cap), .bool (b147)], .int .i64 (e105)]) w138)
         (∀ J149 : World → Prop, (∀ w148 : World, 
            (ldT (.sl) w148 (a1) fun l150 => ldT (.sl) w148 ((a1).add 1) fun l151 => ldT (.bool) w148 ((a1).add 2) fun b152 => ldT (.int .i64) w148 ((a1).add 3) fun x153 => ldT (.sl) w148 ((a1).add 4) fun l154 => ldT (.int .i64) w148 ((a1).add 5) fun x155 => ldT (.int .i64) w148 ((a1).add 6) fun x156 => ldT (.sl) w148 ((a1).add 7) fun l157 => ldT (.bool) w148 ((a1).add 8) fun b158 =>
            stC w148 (a5) (.slice (l150.a) (l150.len) (l150.cap)) fun w160 => stC w160 ((a5).add 1) (.slice (l151.a) (l151.len) (l151.cap)) fun w161 => stC w161 ((a5).add 2) (.bool (b152)) fun w162 => stC w162 ((a5).add 3) (.int .i64 (x153)) fun w163 => stC w163 ((a5).add 4) (.slice (l154.a) (l154.len) (l154.cap)) fun w164 => stC w164 ((a5).add 5) (.int .i64 (x155)) fun w165 => stC w165 ((a5).add 6) (.int .i64 (x156)) fun w166 => stC w166 ((a5).add 7) (.slice (l157.a) (l157.len) (l157.cap)) fun w167 => stC w167 ((a5).add 8) (.bool (b158)) fun w168 =>
            ldT (.sl) w168 (a5) fun l169 => ldT (.sl) w168 ((a5).add 1) fun l170 => ldT (.bool) w168 ((a5).add 2) fun b171 => ldT (.int .i64) w168 ((a5).add 3) fun x172 => ldT (.sl) w168 ((a5).add 4) fun l173 => ldT (.int .i64) w168 ((a5).add 5) fun x174 => ldT (.int .i64) w168 ((a5).add 6) fun x175 => ldT (.sl) w168 ((a5).add 7) fun l176 => ldT (.bool) w168 ((a5).add 8) fun b177 =>
            Q (.tuple #[.agg #[.slice (l169.a) (l169.len) (l169.cap), .slice (l170.a) (l170.len) (l170.cap), .bool (b171), .int .i64 (x172), .slice (l173.a) (l173.len) (l173.cap), .int .i64 (x174), .int .i64 (x175), .slice (l176.a) (l176.len) (l176.cap), .bool (b177)], .int .i64 (0)]) w168) → J149 w148) →
          ldT (.sl) w118.drew ((a1).add 7) fun l178 =>
          ldT (.int .i64) w118.drew (a3) fun x179 => ldT (.int .i64) w118.drew ((a3).add 1) fun x180 => ldT (.int .u32) w118.drew ((a3).add 2) fun x181 => ldT (.int .i64) w118.drew ((a3).add 3) fun x182 =>
          (allocK w118.drew #[] T_api_Entry fun a183 w184 =>
           ((#[.int .i64 (x179), .int .i64 (x180), .int .u32 (x181), .int .i64 (x182)] : Array Value).size = 4 ∧ RowIs w184 (a3) #[.int .i64 (x179), .int .i64 (x180), .int .u32 (x181), .int .i64 (x182)]) ∧ w184.cell? ((a1).add 7) = some (.slice (l178.a) (l178.len) (l178.cap)) ∧ (runG (.sl) Tryd.prog w184 (Builtin.append_ #[T_l_api_Entry, T_l_api_Entry] T_l_api_Entry #[.slice (some (a183)) (0) (0), .slice (l178.a) (l178.len) (l178.cap)]) fun l185 w186 =>
            ((#[.int .i64 (x179), .int .i64 (x180), .int .u32 (x181), .int .i64 (x182)] : Array Value).size = 4 ∧ RowIs w186 (a3) #[.int .i64 (x179), .int .i64 (x180), .int .u32 (x181), .int .i64 (x182)]) ∧ allocK w186 #[.int .i64 (x179), .int .i64 (x180), .int .u32 (x181), .int .i64 (x182)] T_api_Entry fun a187 w188 =>
            runG (.sl) Tryd.prog w188 (Builtin.append_ #[T_l_api_Entry, T_l_api_Entry] T_l_api_Entry #[.slice (l185.a) (l185.len) (l185.cap), .slice (some (a187)) (1) (1)]) fun l189 w190 =>
            stC w190 ((a1).add 7) (.slice (l189.a) (l189.len) (l189.cap)) fun w191 =>
            J149 w191) ∧
           (allocK w184 #[.int .i64 (x179), .int .i64 (x180), .int .u32 (x181), .int .i64 (x182)] T_api_Entry fun a192 w193 =>
            w193.cell? ((a1).add 7) = some (.slice (l178.a) (l178.len) (l178.cap)) ∧ runG (.sl) Tryd.prog w193 (Builtin.append_ #[T_l_api_Entry, T_l_api_Entry] T_l_api_Entry #[.slice (some (a183)) (0) (0), .slice (l178.a) (l178.len) (l178.cap)]) fun l194 w195 =>
            runG (.sl) Tryd.prog w195 (Builtin.append_ #[T_l_api_Entry, T_l_api_Entry] T_l_api_Entry #[.slice (l194.a) (l194.len) (l194.cap), .slice (some (a192)) (1) (1)]) fun l196 w197 =>
            stC w197 ((a1).add 7) (.slice (l196.a) (l196.len) (l196.cap)) fun w198 =>
            J149 w198)) ∧
          (allocK w118.drew #[.int .i64 (x179), .int .i64 (x180), .int .u32 (x181), .int .i64 (x182)] T_api_Entry fun a199 w200 =>
           w200.cell? ((a1).add 7) = some (.slice (l178.a) (l178.len) (l178.cap)) ∧ allocK w200 #[] T_api_Entry fun a201 w202 =>
           w202.cell? ((a1).add 7) = some (.slice (l178.a) (l178.len) (l178.cap)) ∧ runG (.sl) Tryd.prog w202 (Builtin.append_ #[T_l_api_Entry, T_l_api_Entry] T_l_api_Entry #[.slice (some (a201)) (0) (0), .slice (l178.a) (l178.len) (l178.cap)]) fun l203 w204 =>
           runG (.sl) Tryd.prog w204 (Builtin.append_ #[T_l_api_Entry, T_l_api_Entry] T_l_api_Entry #[.slice (l203.a) (l203.len) (l203.cap), .slice (some (a199)) (1) (1)]) fun l205 w206 =>
           stC w206 ((a1).add 7) (.slice (l205.a) (l205.len) (l205.cap)) fun w207 =>
           J149 w207))) → J107 e105 w106) →
       cond ((e102 : Int) == 0)
       (ldT (.sl) w103 (d101) fun l208 => ldT (.sl) w103 ((d101).add 1) fun l209 => ldT (.bool) w103 ((d101).add 2) fun b210 => ldT (.int .i64) w103 ((d101).add 3) fun x211 => ldT (.sl) w103 ((d101).add 4) fun l212 =>
        Does Tryd.prog N_ref05_Disk_Flush #[.agg #[.slice (l208.a) (l208.len) (l208.cap), .slice (l209.a) (l209.len) (l209.cap), .bool (b210), .int .i64 (x211), .slice (l212.a) (l212.len) (l212.cap)]] w103 fun r213 w214 => ∃ l215 : Sl, ∃ l216 : Sl, ∃ b217 : Bool, ∃ x218 : Int, ∃ l219 : Sl, ∃ x220 : Int, r213 = .tuple #[.agg #[.slice (l215.a) (l215.len) (l215.cap), .slice (l216.a) (l216.len) (l216.cap), .bool (b217), .int .i64 (x218), .slice (l219.a) (l219.len) (l219.cap)], .int .i64 (x220)] ∧
        stC w214 (d101) (.slice (l215.a) (l215.len) (l215.cap)) fun w222 => stC w222 ((d101).add 1) (.slice (l216.a) (l216.len) (l216.cap)) fun w223 => stC w223 ((d101).add 2) (.bool (b217)) fun w224 => stC w224 ((d101).add 3) (.int .i64 (x218)) fun w225 => stC w225 ((d101).add 4) (.slice (l219.a) (l219.len) (l219.cap)) fun w226 =>
        J107 x220 w226)
       (J107 e102 w103)) → J104 d101 e102 w103) →
     ldT (.sl) w41.drew (a1) fun l227 => ldT (.sl) w41.drew ((a1).add 1) fun l228 => ldT (.bool) w41.drew ((a1).add 2) fun b229 => ldT (.int .i64) w41.drew ((a1).add 3) fun x230 => ldT (.sl) w41.drew ((a1).add 4) fun l231 =>
     ldT (.int .i64) w41.drew ((a1).add 5) fun x232 =>
     ldT (.sl) w41.drew ((a1).add 7) fun l233 =>
     ldT (.sl) w41.drew ((a1).add 7) fun l234 =>
     ldT (.int .i64) w41.drew (a3) fun x235 => ldT (.int .i64) w41.drew ((a3).add 1) fun x236 => ldT (.int .u32) w41.drew ((a3).add 2) fun x237 => ldT (.int .i64) w41.drew ((a3).add 3) fun x238 =>
     (Does Tryd.prog N_ref20_Sector #[.int .i64 (((l234.len : Nat) : Int)), .agg #[.int .i64 (x235), .int .i64 (x236), .int .u32 (x237), .int .i64 (x238)]] w41.drew fun r239 w240 => ∃ s241 : ByteArray, r239 = .string (s241) ∧
      w240.cell? ((a1).add 7) = some (.slice (l233.a) (l233.len) (l233.cap)) ∧ w240.cell? ((a1).add 5) = some (.int .i64 (x232)) ∧ ((#[.slice (l227.a) (l227.len) (l227.cap), .slice (l228.a) (l228.len) (l228.cap), .bool (b229), .int .i64 (x230), .slice (l231.a) (l231.len) (l231.cap)] : Array Value).size = 5 ∧ RowIs w240 (a1) #[.slice (l227.a) (l227.len) (l227.cap), .slice (l228.a) (l228.len) (l228.cap), .bool (b229), .int .i64 (x230), .slice (l231.a) (l231.len) (l231.cap)]) ∧ (Does Tryd.prog N_ref05_Disk_Write #[.agg #[.slice (l227.a) (l227.len) (l227.cap), .slice (l228.a) (l228.len) (l228.cap), .bool (b229), .int .i64 (x230), .slice (l231.a) (l231.len) (l231.cap)], .int .i64 (IntKind.wrap .i64 (x232 + (((l233.len : Nat) : Int)))), .string (s241)] w240 fun r242 w243 => ∃ l244 : Sl, ∃ l245 : Sl, ∃ b246 : Bool, ∃ x247 : Int, ∃ l248 : Sl, ∃ x249 : Int, r242 = .tuple #[.agg #[.slice (l244.a) (l244.len) (l244.cap), .slice (l245.a) (l245.len) (l245.cap), .bool (b246), .int .i64 (x247), .slice (l248.a) (l248.len) (l248.cap)], .int .i64 (x249)] ∧
       allocK w243 (zc Tryd.prog T_ref05_Disk) T_ref05_Disk fun a250 w251 =>
       stC w251 (a250) (.slice (l244.a) (l244.len) (l244.cap)) fun w253 => stC w253 ((a250).add 1) (.slice (l245.a) (l245.len) (l245.cap)) fun w254 => stC w254 ((a250).add 2) (.bool (b246)) fun w255 => stC w255 ((a250).add 3) (.int .i64 (x247)) fun w256 => stC w256 ((a250).add 4) (.slice (l248.a) (l248.len) (l248.cap)) fun w257 =>
       J104 (a250) x249 w257) ∧
      (allocK w240 (zc Tryd.prog T_ref05_Disk) T_ref05_Disk fun a258 w259 =>
       w259.cell? ((a1).add 7) = some (.slice (l233.a) (l233.len) (l233.cap)) ∧ w259.cell? ((a1).add 5) = some (.int .i64 (x232)) ∧ ((#[.slice (l227.a) (l227.len) (l227.cap), .slice (l228.a) (l228.len) (l228.cap), .bool (b229), .int .i64 (x230), .slice (l231.a) (l231.len) (l231.cap)] : Array Value).size = 5 ∧ RowIs w259 (a1) #[.slice (l227.a) (l227.len) (l227.cap), .slice (l228.a) (l228.len) (l228.cap), .bool (b229), .int .i64 (x230), .slice (l231.a) (l231.len) (l231.cap)]) ∧ Does Tryd.prog N_ref05_Disk_Write #[.agg #[.slice (l227.a) (l227.len) (l227.cap), .slice (l228.a) (l228.len) (l228.cap), .bool (b229), .int .i64 (x230), .slice (l231.a) (l231.len) (l231.cap)], .int .i64 (IntKind.wrap .i64 (x232 + (((l233.len : Nat) : Int)))), .string (s241)] w259 fun r260 w261 => ∃ l262 : Sl, ∃ l263 : Sl, ∃ b264 : Bool, ∃ x265 : Int, ∃ l266 : Sl, ∃ x267 : Int, r260 = .tuple #[.agg #[.slice (l262.a) (l262.len) (l262.cap), .slice (l263.a) (l263.len) (l263.cap), .bool (b264), .int .i64 (x265), .slice (l266.a) (l266.len) (l266.cap)], .int .i64 (x267)] ∧
       stC w261 (a258) (.slice (l262.a) (l262.len) (l262.cap)) fun w269 => stC w269 ((a258).add 1) (.slice (l263.a) (l263.len) (l263.cap)) fun w270 => stC w270 ((a258).add 2) (.bool (b264)) fun w271 => stC w271 ((a258).add 3) (.int .i64 (x265)) fun w272 => stC w272 ((a258).add 4) (.slice (l266.a) (l266.len) (l266.cap)) fun w273 =>
       J104 (a258) x267 w273)) ∧
     (allocK w41.drew (zc Tryd.prog T_ref05_Disk) T_ref05_Disk fun a274 w275 =>
      ((#[.int .i64 (x235), .int .i64 (x236), .int .u32 (x237), .int .i64 (x238)] : Array Value).size = 4 ∧ RowIs w275 (a3) #[.int .i64 (x235), .int .i64 (x236), .int .u32 (x237), .int .i64 (x238)]) ∧ w275.cell? ((a1).add 7) = some (.slice (l234.a) (l234.len) (l234.cap)) ∧ w275.cell? ((a1).add 7) = some (.slice (l233.a) (l233.len) (l233.cap)) ∧ w275.cell? ((a1).add 5) = some (.int .i64 (x232)) ∧ ((#[.slice (l227.a) (l227.len) (l227.cap), .slice (l228.a) (l228.len) (l228.cap), .bool (b229), .int .i64 (x230), .slice (l231.a) (l231.len) (l231.cap)] : Array Value).size = 5 ∧ RowIs w275 (a1) #[.slice (l227.a) (l227.len) (l227.cap), .slice (l228.a) (l228.len) (l228.cap), .bool (b229), .int .i64 (x230), .slice (l231.a) (l231.len) (l231.cap)]) ∧ Does Tryd.prog N_ref20_Sector #[.int .i64 (((l234.len : Nat) : Int)), .agg #[.int .i64 (x235), .int .i64 (x236), .int .u32 (x237), .int .i64 (x238)]] w275 fun r276 w277 => ∃ s278 : ByteArray, r276 = .string (s278) ∧
      w277.cell? ((a1).add 7) = some (.slice (l233.a) (l233.len) (l233.cap)) ∧ w277.cell? ((a1).add 5) = some (.int .i64 (x232)) ∧ ((#[.slice (l227.a) (l227.len) (l227.cap), .slice (l228.a) (l228.len) (l228.cap), .bool (b229), .int .i64 (x230), .slice (l231.a) (l231.len) (l231.cap)] : Array Value).size = 5 ∧ RowIs w277 (a1) #[.slice (l227.a) (l227.len) (l227.cap), .slice (l228.a) (l228.len) (l228.cap), .bool (b229), .int .i64 (x230), .slice (l231.a) (l231.len) (l231.cap)]) ∧ Does Tryd.prog N_ref05_Disk_Write #[.agg #[.slice (l227.a) (l227.len) (l227.cap), .slice (l228.a) (l228.len) (l228.cap), .bool (b229), .int .i64 (x230), .slice (l231.a) (l231.len) (l231.cap)], .int .i64 (IntKind.wrap .i64 (x232 + (((l233.len : Nat) : Int)))), .string (s278)] w277 fun r279 w280 => ∃ l281 : Sl, ∃ l282 : Sl, ∃ b283 : Bool, ∃ x284 : Int, ∃ l285 : Sl, ∃ x286 : Int, r279 = .tuple #[.agg #[.slice (l281.a) (l281.len) (l281.cap), .slice (l282.a) (l282.len) (l282.cap), .bool (b283), .int .i64 (x284), .slice (l285.a) (l285.len) (l285.cap)], .int .i64 (x286)] ∧
      stC w280 (a274) (.slice (l281.a) (l281.len) (l281.cap)) fun w288 => stC w288 ((a274).add 1) (.slice (l282.a) (l282.len) (l282.cap)) fun w289 => stC w289 ((a274).add 2) (.bool (b283)) fun w290 => stC w290 ((a274).add 3) (.int .i64 (x284)) fun w291 => stC w291 ((a274).add 4) (.slice (l285.a) (l285.len) (l285.cap)) fun w292 =>
      J104 (a274) x286 w292))))
def A_ref20_Log_Add : Ann := ⟨[], [(8, [(6, .one (.adr)), (7, .one (.int .i64))]), (10, [(7, .one (.int .i64))]), (15, [])], [(7, [⟨0, 0, 0, true⟩, ⟨1, 1, 1, true⟩, ⟨0, 0, 0, true⟩, ⟨4, 4, 4, true⟩, ⟨0, 0, 0, true⟩, ⟨16, 16, 16, true⟩, ⟨32, 32, 48, true⟩, ⟨72, 72, 124, true⟩, ⟨0, 0, 0, true⟩, ⟨256, 256, 256, true⟩, ⟨512, 512, 768, true⟩, ⟨0, 0, 0, true⟩, ⟨3072, 0, 3840, false⟩, ⟨4226, 0, 8191, false⟩, ⟨8192, 8192, 16383, true⟩, ⟨16384, 16384, 32767, true⟩, ⟨16384, 16384, 32767, true⟩, ⟨0, 0, 0, false⟩, ⟨196607, 0, 196607, false⟩, ⟨524287, 65536, 524287, true⟩]), (14, [⟨0, 0, 0, false⟩, ⟨0, 0, 0, true⟩, ⟨2, 2, 2, true⟩, ⟨5, 0, 7, false⟩, ⟨0, 0, 0, true⟩, ⟨16, 0, 16, false⟩, ⟨40, 0, 63, false⟩, ⟨127, 0, 127, true⟩, ⟨255, 0, 255, false⟩])]⟩
theorem F_ref20_Log_Add_eq (l0 : Sl) (l1 : Sl) (l2 : Bool) (l3 : Int) (l4 : Sl) (l5 : Int) (l6 : Int) (l7 : Sl) (l8 : Bool) (x0 : Int) (x1 : Int) (x2 : Int) (x3 : Int) (w : World) (Q : Value → World → Prop) : vcFn Tryd.prog A_ref20_Log_Add Tryd.f26 #[.agg #[.slice (l0.a) (l0.len) (l0.cap), .slice (l1.a) (l1.len) (l1.cap), .bool (l2), .int .i64 (l3), .slice (l4.a) (l4.len) (l4.cap), .int .i64 (l5), .int .i64 (l6), .slice (l7.a) (l7.len) (l7.cap), .bool (l8)], .agg #[.int .i64 (x0), .int .i64 (x1), .int .u32 (x2), .int .i64 (x3)]] w Q = F_ref20_Log_Add l0 l1 l2 l3 l4 l5 l6 l7 l8 x0 x1 x2 x3 w Q := by kernel_rfl
theorem F_ref20_Log_Add_does (l0 : Sl) (l1 : Sl) (l2 : Bool) (l3 : Int) (l4 : Sl) (l5 : Int) (l6 : Int) (l7 : Sl) (l8 : Bool) (x0 : Int) (x1 : Int) (x2 : Int) (x3 : Int) (w : World) (Q : Value → World → Prop) (hQ : F_ref20_Log_Add l0 l1 l2 l3 l4 l5 l6 l7 l8 x0 x1 x2 x3 w Q) : Does Tryd.prog N_ref20_Log_Add #[.agg #[.slice (l0.a) (l0.len) (l0.cap), .slice (l1.a) (l1.len) (l1.cap), .bool (l2), .int .i64 (l3), .slice (l4.a) (l4.len) (l4.cap), .int .i64 (l5), .int .i64 (l6), .slice (l7.a) (l7.len) (l7.cap), .bool (l8)], .agg #[.int .i64 (x0), .int .i64 (x1), .int .u32 (x2), .int .i64 (x3)]] w Q :=
  vcFn_sound noAsk mixed (A := A_ref20_Log_Add) (by kernel_rfl) Tryd.func26 (Nat.le_of_ble_eq_true (by kernel_rfl)) (by kernel_rfl) ((F_ref20_Log_Add_eq l0 l1 l2 l3 l4 l5 l6 l7 l8 x0 x1 x2 x3 w Q).mpr hQ)

/- (nacelle/nacelleref05.Disk).Arm -/
def F_ref05_Disk_Arm (d0 : Sl) (d1 : Sl) (d2 : Bool) (d3 : Int) (d4 : Sl) (n : Int) (survivors : Sl) (w : World) (Q : Value → World → Prop) : Prop :=
  allocK w (#[.slice (d0.a) (d0.len) (d0.cap), .slice (d1.a) (d1.len) (d1.cap), .bool (d2), .int .i64 (d3), .slice (d4.a) (d4.len) (d4.cap)]) T_ref05_Disk fun a1 w2 =>
  allocK w2 (zc Tryd.prog T_ref05_Disk) T_ref05_Disk fun a3 w4 =>
  ldT (.bool) w4 ((a1).add 2) fun b5 =>
  cond (b5)
  (ldT (.sl) w4 (a1) fun l6 => ldT (.sl) w4 ((a1).add 1) fun l7 => ldT (.bool) w4 ((a1).add 2) fun b8 => ldT (.int .i64) w4 ((a1).add 3) fun x9 => ldT (.sl) w4 ((a1).add 4) fun l10 =>
   stC w4 (a3) (.slice (l6.a) (l6.len) (l6.cap)) fun w12 => stC w12 ((a3).add 1) (.slice (l7.a) (l7.len) (l7.cap)) fun w13 => stC w13 ((a3).add 2) (.bool (b8)) fun w14 => stC w14 ((a3).add 3) (.int .i64 (x9)) fun w15 => stC w15 ((a3).add 4) (.slice (l10.a) (l10.len) (l10.cap)) fun w16 =>
   ldT (.sl) w16 (a3) fun l17 => ldT (.sl) w16 ((a3).add 1) fun l18 => ldT (.bool) w16 ((a3).add 2) fun b19 => ldT (.int .i64) w16 ((a3).add 3) fun x20 => ldT (.sl) w16 ((a3).add 4) fun l21 =>
   Q (.agg #[.slice (l17.a) (l17.len) (l17.cap), .slice (l18.a) (l18.len) (l18.cap), .bool (b19), .int .i64 (x20), .slice (l21.a) (l21.len) (l21.cap)]) w16)
  (stC w4 ((a1).add 3) (.int .i64 (n)) fun w22 =>
   stC w22 ((a1).add 4) (.slice (survivors.a) (survivors.len) (survivors.cap)) fun w23 =>
   ∀ J25 : World → Prop, (∀ w24 : World, 
     (ldT (.sl) w24 (a1) fun l26 => ldT (.sl) w24 ((a1).add 1) fun l27 => ldT (.bool) w24 ((a1).add 2) fun b28 => ldT (.int .i64) w24 ((a1).add 3) fun x29 => ldT (.sl) w24 ((a1).add 4) fun l30 =>
     stC w24 (a3) (.slice (l26.a) (l26.len) (l26.cap)) fun w32 => stC w32 ((a3).add 1) (.slice (l27.a) (l27.len) (l27.cap)) fun w33 => stC w33 ((a3).add 2) (.bool (b28)) fun w34 => stC w34 ((a3).add 3) (.int .i64 (x29)) fun w35 => stC w35 ((a3).add 4) (.slice (l30.a) (l30.len) (l30.cap)) fun w36 =>
     ldT (.sl) w36 (a3) fun l37 => ldT (.sl) w36 ((a3).add 1) fun l38 => ldT (.bool) w36 ((a3).add 2) fun b39 => ldT (.int .i64) w36 ((a3).add 3) fun x40 => ldT (.sl) w36 ((a3).add 4) fun l41 =>
     Q (.agg #[.slice (l37.a) (l37.len) (l37.cap), .slice (l38.a) (l38.len) (l38.cap), .bool (b39), .int .i64 (x40), .slice (l41.a) (l41.len) (l41.cap)]) w36) → J25 w24) →
   cond (decide ((n : Int) < 0))
   (stC w23 ((a1).add 3) (.int .i64 (-1)) fun w42 =>
    J25 w42)
   (J25 w23))
def A_ref05_Disk_Arm : Ann := ⟨[], [(6, [])], []⟩
theorem F_ref05_Disk_Arm_eq (d0 : Sl) (d1 : Sl) (d2 : Bool) (d3 : Int) (d4 : Sl) (n : Int) (survivors : Sl) (w : World) (Q : Value → World → Prop) : vcFn Tryd.prog A_ref05_Disk_Arm Tryd.f27 #[.agg #[.slice (d0.a) (d0.len) (d0.cap), .slice (d1.a) (d1.len) (d1.cap), .bool (d2), .int .i64 (d3), .slice (d4.a) (d4.len) (d4.cap)], .int .i64 (n), .slice (survivors.a) (survivors.len) (survivors.cap)] w Q = F_ref05_Disk_Arm d0 d1 d2 d3 d4 n survivors w Q := by kernel_rfl
theorem F_ref05_Disk_Arm_does (d0 : Sl) (d1 : Sl) (d2 : Bool) (d3 : Int) (d4 : Sl) (n : Int) (survivors : Sl) (w : World) (Q : Value → World → Prop) (hQ : F_ref05_Disk_Arm d0 d1 d2 d3 d4 n survivors w Q) : Does Tryd.prog N_ref05_Disk_Arm #[.agg #[.slice (d0.a) (d0.len) (d0.cap), .slice (d1.a) (d1.len) (d1.cap), .bool (d2), .int .i64 (d3), .slice (d4.a) (d4.len) (d4.cap)], .int .i64 (n), .slice (survivors.a) (survivors.len) (survivors.cap)] w Q :=
  vcFn_sound noAsk mixed (A := A_ref05_Disk_Arm) (by kernel_rfl) Tryd.func27 (Nat.le_of_ble_eq_true (by kernel_rfl)) (by kernel_rfl) ((F_ref05_Disk_Arm_eq d0 d1 d2 d3 d4 n survivors w Q).mpr hQ)

end Go.Proofs.YtkfcmpngcanffaaDoor.G
