import Derived.Test.YtkfcmpngcanffaaDoorGen
set_option linter.unusedVariables false
namespace Go.Proofs.YtkfcmpngcanffaaDoor.G
open Go Go.VC Go.Proofs Go.Proofs.YtkfcmpngcanffaaDoor
set_option maxRecDepth 100000
/- nacelle/nacelleref16.Format -/
def F_ref16_Format (d0 : Sl) (d1 : Sl) (d2 : Bool) (d3 : Int) (d4 : Sl) (from_ : Int) (w : World) (Q : Value → World → Prop) : Prop :=
  allocK w (#[.slice (d0.a) (d0.len) (d0.cap), .slice (d1.a) (d1.len) (d1.cap), .bool (d2), .int .i64 (d3), .slice (d4.a) (d4.len) (d4.cap)]) T_ref05_Disk fun a1 w2 =>
  allocK w2 (zc Tryd.prog T_ref05_Disk) T_ref05_Disk fun a3 w4 =>
  ldT (.sl) w4 (a1) fun l5 => ldT (.sl) w4 ((a1).add 1) fun l6 => ldT (.bool) w4 ((a1).add 2) fun b7 => ldT (.int .i64) w4 ((a1).add 3) fun x8 => ldT (.sl) w4 ((a1).add 4) fun l9 =>
  allocK w4 (zc Tryd.prog T_ref16_Log) T_ref16_Log fun a10 w11 =>
  stC w11 (a10) (.slice (l5.a) (l5.len) (l5.cap)) fun w13 => stC w13 ((a10).add 1) (.slice (l6.a) (l6.len) (l6.cap)) fun w14 => stC w14 ((a10).add 2) (.bool (b7)) fun w15 => stC w15 ((a10).add 3) (.int .i64 (x8)) fun w16 => stC w16 ((a10).add 4) (.slice (l9.a) (l9.len) (l9.cap)) fun w17 => stC w17 ((a10).add 5) (.int .i64 (from_)) fun w18 => stC w18 ((a10).add 6) (.slice (none) (0) (0)) fun w19 => stC w19 ((a10).add 7) (.int .u32 (0)) fun w20 => stC w20 ((a10).add 8) (.int .i64 (0)) fun w21 => stC w21 ((a10).add 9) (.int .i64 (0)) fun w22 => stC w22 ((a10).add 10) (.bool (false)) fun w23 =>
  ∃ (I26 : Int → World → Prop) (M27 : Int → World → Nat), I26 0 w23 ∧
  ∀ i24 : Int, ∀ w25 : World, I26 i24 w25 →
    cond (decide ((i24 : Int) < 16))
    (ldT (.sl) w25.drew ((a10).add 6) fun l28 =>
     Does Tryd.prog N_ref16_Noughts #[.int .i64 (40)] w25.drew fun r29 w30 => ∃ s31 : ByteArray, r29 = .string (s31) ∧
     w30.cell? ((a10).add 6) = some (.slice (l28.a) (l28.len) (l28.cap)) ∧ allocK w30 #[.string (s31)] T_string fun a32 w33 =>
     w33.cell? ((a10).add 6) = some (.slice (l28.a) (l28.len) (l28.cap)) ∧ runG (.sl) Tryd.prog w33 (Builtin.append_ #[T_l_string, T_l_string] T_l_string #[.slice (l28.a) (l28.len) (l28.cap), .slice (some (a32)) (1) (1)]) fun l34 w35 =>
     stC w35 ((a10).add 6) (.slice (l34.a) (l34.len) (l34.cap)) fun w36 =>
     I26 (IntKind.wrap .i64 (i24 + 1)) w36 ∧ M27 (IntKind.wrap .i64 (i24 + 1)) w36 < M27 i24 w25)
    (∃ (I41 : Sl → Sl → Int → World → Prop) (M42 : Sl → Sl → Int → World → Nat), I41 ⟨none, 0, 0⟩ ⟨none, 0, 0⟩ 34 w25 ∧
     ∀ at37 : Sl, ∀ l38 : Sl, ∀ i39 : Int, ∀ w40 : World, I41 at37 l38 i39 w40 →
       cond (decide ((i39 : Int) < 52))
       (allocK w40 #[.int .i64 (i39)] T_int fun a43 w44 =>
        runG (.sl) Tryd.prog w44 (Builtin.append_ #[T_l_int, T_l_int] T_l_int #[.slice (at37.a) (at37.len) (at37.cap), .slice (some (a43)) (1) (1)]) fun l45 w46 =>
        Does Tryd.prog N_ref16_Noughts #[.int .i64 (64)] w46 fun r47 w48 => ∃ s49 : ByteArray, r47 = .string (s49) ∧
        allocK w48 #[.string (s49)] T_string fun a50 w51 =>
        runG (.sl) Tryd.prog w51 (Builtin.append_ #[T_l_string, T_l_string] T_l_string #[.slice (l38.a) (l38.len) (l38.cap), .slice (some (a50)) (1) (1)]) fun l52 w53 =>
        I41 ⟨l45.a, l45.len, l45.cap⟩ ⟨l52.a, l52.len, l52.cap⟩ (IntKind.wrap .i64 (i39 + 1)) w53 ∧ M42 ⟨l45.a, l45.len, l45.cap⟩ ⟨l52.a, l52.len, l52.cap⟩ (IntKind.wrap .i64 (i39 + 1)) w53 < M42 at37 l38 i39 w40)
       (ldT (.sl) w40 (a10) fun l54 => ldT (.sl) w40 ((a10).add 1) fun l55 => ldT (.bool) w40 ((a10).add 2) fun b56 => ldT (.int .i64) w40 ((a10).add 3) fun x57 => ldT (.sl) w40 ((a10).add 4) fun l58 => ldT (.int .i64) w40 ((a10).add 5) fun x59 => ldT (.sl) w40 ((a10).add 6) fun l60 => ldT (.int .u32) w40 ((a10).add 7) fun x61 => ldT (.int .i64) w40 ((a10).add 8) fun x62 => ldT (.int .i64) w40 ((a10).add 9) fun x63 => ldT (.bool) w40 ((a10).add 10) fun b64 =>
        Does Tryd.prog N_ref16_Log_settle #[.agg #[.slice (l54.a) (l54.len) (l54.cap), .slice (l55.a) (l55.len) (l55.cap), .bool (b56), .int .i64 (x57), .slice (l58.a) (l58.len) (l58.cap), .int .i64 (x59), .slice (l60.a) (l60.len) (l60.cap), .int .u32 (x61), .int .i64 (x62), .int .i64 (x63), .bool (b64)], .int .u32 (1), .int .i64 (0), .slice (at37.a) (at37.len) (at37.cap), .slice (l38.a) (l38.len) (l38.cap)] w40 fun r65 w66 => ∃ l67 : Sl, ∃ l68 : Sl, ∃ b69 : Bool, ∃ x70 : Int, ∃ l71 : Sl, ∃ x72 : Int, ∃ l73 : Sl, ∃ x74 : Int, ∃ x75 : Int, ∃ x76 : Int, ∃ b77 : Bool, ∃ x78 : Int, r65 = .tuple #[.agg #[.slice (l67.a) (l67.len) (l67.cap), .slice (l68.a) (l68.len) (l68.cap), .bool (b69), .int .i64 (x70), .slice (l71.a) (l71.len) (l71.cap), .int .i64 (x72), .slice (l73.a) (l73.len) (l73.cap), .int .u32 (x74), .int .i64 (x75), .int .i64 (x76), .bool (b77)], .int .i64 (x78)] ∧
        allocK w66 (zc Tryd.prog T_ref16_Log) T_ref16_Log fun a79 w80 =>
        stC w80 (a79) (.slice (l67.a) (l67.len) (l67.cap)) fun w82 => stC w82 ((a79).add 1) (.slice (l68.a) (l68.len) (l68.cap)) fun w83 => stC w83 ((a79).add 2) (.bool (b69)) fun w84 => stC w84 ((a79).add 3) (.int .i64 (x70)) fun w85 => stC w85 ((a79).add 4) (.slice (l71.a) (l71.len) (l71.cap)) fun w86 => stC w86 ((a79).add 5) (.int .i64 (x72)) fun w87 => stC w87 ((a79).add 6) (.slice (l73.a) (l73.len) (l73.cap)) fun w88 => stC w88 ((a79).add 7) (.int .u32 (x74)) fun w89 => stC w89 ((a79).add 8) (.int .i64 (x75)) fun w90 => stC w90 ((a79).add 9) (.int .i64 (x76)) fun w91 => stC w91 ((a79).add 10) (.bool (b77)) fun w92 =>
        ldT (.sl) w92 (a79) fun l93 => ldT (.sl) w92 ((a79).add 1) fun l94 => ldT (.bool) w92 ((a79).add 2) fun b95 => ldT (.int .i64) w92 ((a79).add 3) fun x96 => ldT (.sl) w92 ((a79).add 4) fun l97 =>
        stC w92 (a3) (.slice (l93.a) (l93.len) (l93.cap)) fun w99 => stC w99 ((a3).add 1) (.slice (l94.a) (l94.len) (l94.cap)) fun w100 => stC w100 ((a3).add 2) (.bool (b95)) fun w101 => stC w101 ((a3).add 3) (.int .i64 (x96)) fun w102 => stC w102 ((a3).add 4) (.slice (l97.a) (l97.len) (l97.cap)) fun w103 =>
        ldT (.sl) w103 (a3) fun l104 => ldT (.sl) w103 ((a3).add 1) fun l105 => ldT (.bool) w103 ((a3).add 2) fun b106 => ldT (.int .i64) w103 ((a3).add 3) fun x107 => ldT (.sl) w103 ((a3).add 4) fun l108 =>
        Q (.tuple #[.agg #[.slice (l104.a) (l104.len) (l104.cap), .slice (l105.a) (l105.len) (l105.cap), .bool (b106), .int .i64 (x107), .slice (l108.a) (l108.len) (l108.cap)], .int .i64 (x78)]) w103))
def A_ref16_Format : Ann := ⟨[(5, [(9, .one (.int .i64))]), (9, [(7, .one (.sl)), (8, .one (.sl)), (10, .one (.int .i64))])], [], [(7, [⟨0, 0, 0, true⟩, ⟨1, 1, 1, true⟩, ⟨0, 0, 0, false⟩, ⟨4, 0, 4, false⟩, ⟨14, 0, 15, false⟩, ⟨31, 0, 31, true⟩, ⟨63, 0, 63, false⟩])]⟩
theorem F_ref16_Format_eq (d0 : Sl) (d1 : Sl) (d2 : Bool) (d3 : Int) (d4 : Sl) (from_ : Int) (w : World) (Q : Value → World → Prop) : vcFn Tryd.prog A_ref16_Format Tryd.f69 #[.agg #[.slice (d0.a) (d0.len) (d0.cap), .slice (d1.a) (d1.len) (d1.cap), .bool (d2), .int .i64 (d3), .slice (d4.a) (d4.len) (d4.cap)], .int .i64 (from_)] w Q = F_ref16_Format d0 d1 d2 d3 d4 from_ w Q := by kernel_rfl
theorem F_ref16_Format_does (d0 : Sl) (d1 : Sl) (d2 : Bool) (d3 : Int) (d4 : Sl) (from_ : Int) (w : World) (Q : Value → World → Prop) (hQ : F_ref16_Format d0 d1 d2 d3 d4 from_ w Q) : Does Tryd.prog N_ref16_Format #[.agg #[.slice (d0.a) (d0.len) (d0.cap), .slice (d1.a) (d1.len) (d1.cap), .bool (d2), .int .i64 (d3), .slice (d4.a) (d4.len) (d4.cap)], .int .i64 (from_)] w Q :=
  vcFn_sound noAsk mixed (A := A_ref16_Format) (by kernel_rfl) Tryd.func69 (Nat.le_of_ble_eq_true (by kernel_rfl)) (by kernel_rfl) ((F_ref16_Format_eq d0 d1 d2 d3 d4 from_ w Q).mpr hQ)

/- (*nacelle/wal.Log).head -/
def F_wal_Log_head (w_ : Option Addr) (w : World) (Q : Value → World → Prop) : Prop :=
  ∃ (I4 : Bool → Int → World → Prop) (M5 : Bool → Int → World → Nat), I4 false 0 w ∧
  ∀ found1 : Bool, ∀ x2 : Int, ∀ w3 : World, I4 found1 x2 w3 →
    cond (decide ((x2 : Int) < 2))
    (∀ J8 : Bool → World → Prop, (∀ found6 : Bool, ∀ w7 : World, 
       (I4 found6 (IntKind.wrap .i64 (x2 + 1)) w7 ∧ M5 found6 (IntKind.wrap .i64 (x2 + 1)) w7 < M5 found1 x2 w3) → J8 found6 w7) →
     nnil (w_) fun a9 =>
     ldT (.ptr) w3 (a9) fun p10 =>
     Does Tryd.prog N_extent_Part_Read #[.pointer (p10), .int .i64 (x2)] w3 fun r11 w12 => ∃ l13 : Sl, ∃ x14 : Int, r11 = .tuple #[.slice (l13.a) (l13.len) (l13.cap), .int .i64 (x14)] ∧
     cond ((x14 : Int) != 0)
     (Q (.int .i64 (x14)) w12)
     (Does Tryd.prog N_wal_hear #[.slice (l13.a) (l13.len) (l13.cap), .int .u8 (72), .int .i64 (1)] w12 fun r15 w16 => ∃ x17 : Int, ∃ l18 : Sl, ∃ b19 : Bool, r15 = .tuple #[.int .u32 (x17), .slice (l18.a) (l18.len) (l18.cap), .bool (b19)] ∧
      ∀ J22 : Bool → World → Prop, (∀ b20 : Bool, ∀ w21 : World, 
        (cond (b20)
        (idx (l18.a) (l18.len) (0) 1 fun a23 =>
         ldT (.int .u8) w21 (a23) fun x24 =>
         nnil (w_) fun a25 =>
         stC w21 ((a25).add 641) (.int .u32 (x17)) fun w26 =>
         nnil (w_) fun a27 =>
         stC w26 ((a27).add 642) (.int .i64 (IntKind.wrap .i64 x24)) fun w28 =>
         J8 true w28)
        (J8 found1 w21)) → J22 b20 w21) →
      cond (b19)
      ((2 : Int) ≠ 0 ∧
       cond (((IntKind.wrap .i64 (Int.tmod x17 2)) : Int) == x2)
       (idx (l18.a) (l18.len) (0) 1 fun a29 =>
        ldT (.int .u8) w16 (a29) fun x30 =>
        cond (decide ((x30 : Int) ≤ 1))
        (cond (!found1)
         (J22 true w16)
         (nnil (w_) fun a31 =>
          ldT (.int .u32) w16 ((a31).add 641) fun x32 =>
          J22 (decide ((x17 : Int) > x32)) w16))
        (J22 false w16))
       (J22 false w16))
      (J22 false w16)))
    (cond (!found1)
     (Q (.int .i64 (6)) w3)
     (Q (.int .i64 (0)) w3))
def A_wal_Log_head : Ann := ⟨[(3, [(3, .one (.bool)), (10, .one (.int .i64))])], [(10, [(56, .one (.bool))]), (11, [(3, .one (.bool))])], []⟩
theorem F_wal_Log_head_eq (w_ : Option Addr) (w : World) (Q : Value → World → Prop) : vcFn Tryd.prog A_wal_Log_head Tryd.f70 #[.pointer (w_)] w Q = F_wal_Log_head w_ w Q := by kernel_rfl
theorem F_wal_Log_head_does (w_ : Option Addr) (w : World) (Q : Value → World → Prop) (hQ : F_wal_Log_head w_ w Q) : Does Tryd.prog N_wal_Log_head #[.pointer (w_)] w Q :=
  vcFn_sound noAsk mixed (A := A_wal_Log_head) (by kernel_rfl) Tryd.func70 (Nat.le_of_ble_eq_true (by kernel_rfl)) (by kernel_rfl) ((F_wal_Log_head_eq w_ w Q).mpr hQ)

/- (*nacelle/extent.Part).Read -/
def F_extent_Part_Read (p : Option Addr) (at_ : Int) (w : World) (Q : Value → World → Prop) : Prop :=
  nnil (p) fun a1 =>
  ldT (.int .i64) w (a1) fun x2 => ldT (.int .i64) w ((a1).add 1) fun x3 =>
  Does Tryd.prog N_extent_Place #[.agg #[.int .i64 (x2), .int .i64 (x3)], .int .i64 (at_)] w fun r4 w5 => ∃ x6 : Int, ∃ x7 : Int, r4 = .tuple #[.int .i64 (x6), .int .i64 (x7)] ∧
  cond ((x7 : Int) != 0)
  (Q (.tuple #[.slice (none) (0) (0), .int .i64 (x7)]) w5)
  (nnil (p) fun a8 =>
   ldT (.ptr) w5 ((a8).add 2) fun p9 =>
   Does Tryd.prog N_disk_Disk_Read #[.pointer (p9), .int .i64 (x6)] w5 fun r10 w11 => ∃ l12 : Sl, ∃ x13 : Int, r10 = .tuple #[.slice (l12.a) (l12.len) (l12.cap), .int .i64 (x13)] ∧
   Q (.tuple #[.slice (l12.a) (l12.len) (l12.cap), .int .i64 (x13)]) w11)
def A_extent_Part_Read : Ann := ⟨[], [], []⟩
theorem F_extent_Part_Read_eq (p : Option Addr) (at_ : Int) (w : World) (Q : Value → World → Prop) : vcFn Tryd.prog A_extent_Part_Read Tryd.f71 #[.pointer (p), .int .i64 (at_)] w Q = F_extent_Part_Read p at_ w Q := by kernel_rfl
theorem F_extent_Part_Read_does (p : Option Addr) (at_ : Int) (w : World) (Q : Value → World → Prop) (hQ : F_extent_Part_Read p at_ w Q) : Does Tryd.prog N_extent_Part_Read #[.pointer (p), .int .i64 (at_)] w Q :=
  vcFn_sound noAsk mixed (A := A_extent_Part_Read) (by kernel_rfl) Tryd.func71 (Nat.le_of_ble_eq_true (by kernel_rfl)) (by kernel_rfl) ((F_extent_Part_Read_eq p at_ w Q).mpr hQ)

/- nacelle/wal.hear -/
def F_wal_hear (b : Sl) (kind : Int) (n : Int) (w : World) (Q : Value → World → Prop) : Prop :=
  Does Tryd.prog N_crc_Open #[.slice (b.a) (b.len) (b.cap)] w fun r1 w2 => ∃ l3 : Sl, ∃ x4 : Int, r1 = .tuple #[.slice (l3.a) (l3.len) (l3.cap), .int .i64 (x4)] ∧
  ∀ J6 : World → Prop, (∀ w5 : World, 
    (slcT ⟨l3.a, l3.len, l3.cap⟩ (1) (5) 1 fun l7 =>
    Does Tryd.prog N_octet_Get #[.slice (l7.a) (l7.len) (l7.cap)] w5 fun r8 w9 => ∃ x10 : Int, ∃ x11 : Int, r8 = .tuple #[.int .u64 (x10), .int .i64 (x11)] ∧
    slcT ⟨l3.a, l3.len, l3.cap⟩ (5) (IntKind.wrap .i64 (5 + n)) 1 fun l12 =>
    slcT ⟨l3.a, l3.len, l3.cap⟩ (IntKind.wrap .i64 (5 + n)) (((l3.len : Nat) : Int)) 1 fun l13 =>
    Does Tryd.prog N_wal_hear_1 #[.slice (l13.a) (l13.len) (l13.cap)] w9.drew fun r14 w15 => ∃ b16 : Bool, r14 = .bool (b16) ∧
    Q (.tuple #[.int .u32 (IntKind.wrap .u32 x10), .slice (l12.a) (l12.len) (l12.cap), .bool (b16)]) w15) → J6 w5) →
  cond ((x4 : Int) != 0)
  (Q (.tuple #[.int .u32 (0), .slice (none) (0) (0), .bool (false)]) w2)
  (idx (l3.a) (l3.len) (0) 1 fun a17 =>
   ldT (.int .u8) w2 (a17) fun x18 =>
   cond ((x18 : Int) != kind)
   (Q (.tuple #[.int .u32 (0), .slice (none) (0) (0), .bool (false)]) w2)
   (J6 w2))
def A_wal_hear : Ann := ⟨[], [(4, [])], [(6, [⟨0, 0, 0, true⟩, ⟨1, 1, 1, true⟩, ⟨0, 0, 0, true⟩, ⟨0, 0, 0, true⟩, ⟨8, 8, 8, true⟩, ⟨20, 20, 28, true⟩, ⟨0, 0, 0, true⟩, ⟨0, 0, 0, true⟩, ⟨0, 0, 0, true⟩, ⟨256, 256, 256, true⟩, ⟨640, 640, 896, true⟩, ⟨1088, 0, 1984, false⟩, ⟨2051, 2, 4035, true⟩, ⟨4159, 32, 8191, true⟩, ⟨16383, 2048, 16383, true⟩])]⟩
theorem F_wal_hear_eq (b : Sl) (kind : Int) (n : Int) (w : World) (Q : Value → World → Prop) : vcFn Tryd.prog A_wal_hear Tryd.f72 #[.slice (b.a) (b.len) (b.cap), .int .u8 (kind), .int .i64 (n)] w Q = F_wal_hear b kind n w Q := by kernel_rfl
theorem F_wal_hear_does (b : Sl) (kind : Int) (n : Int) (w : World) (Q : Value → World → Prop) (hQ : F_wal_hear b kind n w Q) : Does Tryd.prog N_wal_hear #[.slice (b.a) (b.len) (b.cap), .int .u8 (kind), .int .i64 (n)] w Q :=
  vcFn_sound noAsk mixed (A := A_wal_hear) (by kernel_rfl) Tryd.func72 (Nat.le_of_ble_eq_true (by kernel_rfl)) (by kernel_rfl) ((F_wal_hear_eq b kind n w Q).mpr hQ)

/- (*nacelle/wal.Log).replay -/
def F_wal_Log_replay (w_ : Option Addr) (w : World) (Q : Value → World → Prop) : Prop :=
  ∃ (I4 : Sl → Int → World → Prop) (M5 : Sl → Int → World → Nat), I4 ⟨none, 0, 0⟩ 0 w ∧
  ∀ waits1 : Sl, ∀ x2 : Int, ∀ w3 : World, I4 waits1 x2 w3 →
    cond (decide ((x2 : Int) < 18))
    (∀ J8 : Sl → World → Prop, (∀ waits6 : Sl, ∀ w7 : World, 
       (I4 ⟨waits6.a, waits6.len, waits6.cap⟩ (IntKind.wrap .i64 (x2 + 1)) w7 ∧ M5 ⟨waits6.a, waits6.len, waits6.cap⟩ (IntKind.wrap .i64 (x2 + 1)) w7 < M5 waits1 x2 w3) → J8 waits6 w7) →
     nnil (w_) fun a9 =>
     ldT (.ptr) w3 (a9) fun p10 =>
     Does Tryd.prog N_extent_Part_Read #[.pointer (p10), .int .i64 (IntKind.wrap .i64 (34 + x2))] w3 fun r11 w12 => ∃ l13 : Sl, ∃ x14 : Int, r11 = .tuple #[.slice (l13.a) (l13.len) (l13.cap), .int .i64 (x14)] ∧
     cond ((x14 : Int) != 0)
     (Q (.int .i64 (x14)) w12)
     (Does Tryd.prog N_wal_hear #[.slice (l13.a) (l13.len) (l13.cap), .int .u8 (82), .int .i64 (42)] w12 fun r15 w16 => ∃ x17 : Int, ∃ l18 : Sl, ∃ b19 : Bool, r15 = .tuple #[.int .u32 (x17), .slice (l18.a) (l18.len) (l18.cap), .bool (b19)] ∧
      ∀ J22 : Sl → World → Prop, (∀ waits20 : Sl, ∀ w21 : World, 
        (Does Tryd.prog N_wal_hear #[.slice (l13.a) (l13.len) (l13.cap), .int .u8 (67), .int .i64 (1)] w21 fun r23 w24 => ∃ x25 : Int, ∃ l26 : Sl, ∃ b27 : Bool, r23 = .tuple #[.int .u32 (x25), .slice (l26.a) (l26.len) (l26.cap), .bool (b27)] ∧
        ∀ J29 : World → Prop, (∀ w28 : World, 
          (Does Tryd.prog N_wal_Log_lay #[.pointer (w_), .slice (waits20.a) (waits20.len) (waits20.cap)] w28 fun r30 w31 => r30 = .tuple #[] ∧
          nnil (w_) fun a32 =>
          stC w31 ((a32).add 643) (.int .i64 (IntKind.wrap .i64 (x2 + 1))) fun w33 =>
          J8 ⟨none, 0, 0⟩ w33) → J29 w28) →
        cond (!b27)
        (Q (.int .i64 (0)) w24)
        (nnil (w_) fun a34 =>
         ldT (.int .u32) w24 ((a34).add 641) fun x35 =>
         cond ((x25 : Int) != x35)
         (Q (.int .i64 (0)) w24)
         (idx (l26.a) (l26.len) (0) 1 fun a36 =>
          ldT (.int .u8) w24 (a36) fun x37 =>
          cond (((IntKind.wrap .i64 x37) : Int) != x2)
          (Q (.int .i64 (0)) w24)
          (J29 w24)))) → J22 waits20 w21) →
      ∀ J40 : Bool → World → Prop, (∀ b38 : Bool, ∀ w39 : World, 
        (cond (b38)
        (idx (l18.a) (l18.len) (1) 1 fun a41 =>
         ldT (.int .u8) w39.drew (a41) fun x42 =>
         slcT ⟨l18.a, l18.len, l18.cap⟩ (2) (((l18.len : Nat) : Int)) 1 fun l43 =>
         allocK w39.drew #[.int .i64 (IntKind.wrap .i64 x42), .slice (l43.a) (l43.len) (l43.cap)] T_api_Change fun a44 w45 =>
         runG (.sl) Tryd.prog w45 (Builtin.append_ #[T_l_api_Change, T_l_api_Change] T_l_api_Change #[.slice (waits1.a) (waits1.len) (waits1.cap), .slice (some (a44)) (1) (1)]) fun l46 w47 =>
         J8 ⟨l46.a, l46.len, l46.cap⟩ w47)
        (J22 ⟨waits1.a, waits1.len, waits1.cap⟩ w39)) → J40 b38 w39) →
      cond (b19)
      (nnil (w_) fun a48 =>
       ldT (.int .u32) w16 ((a48).add 641) fun x49 =>
       cond ((x17 : Int) == x49)
       (idx (l18.a) (l18.len) (0) 1 fun a50 =>
        ldT (.int .u8) w16 (a50) fun x51 =>
        cond (((IntKind.wrap .i64 x51) : Int) == x2)
        (idx (l18.a) (l18.len) (1) 1 fun a52 =>
         ldT (.int .u8) w16 (a52) fun x53 =>
         J40 (decide ((x53 : Int) < 16)) w16)
        (J40 false w16))
       (J40 false w16))
      (J40 false w16)))
    (Q (.int .i64 (0)) w3)
def A_wal_Log_replay : Ann := ⟨[(3, [(3, .one (.sl)), (10, .one (.int .i64))])], [(10, [(54, .one (.bool))]), (11, [(3, .one (.sl))]), (13, []), (15, [(3, .one (.sl))])], [(10, [⟨0, 0, 0, true⟩, ⟨0, 0, 0, true⟩, ⟨2, 2, 2, true⟩, ⟨4, 4, 6, true⟩, ⟨8, 8, 14, true⟩, ⟨0, 0, 0, true⟩, ⟨32, 32, 32, true⟩, ⟨80, 80, 126, true⟩, ⟨128, 0, 254, false⟩, ⟨257, 0, 511, false⟩, ⟨1023, 513, 1023, true⟩])]⟩
theorem F_wal_Log_replay_eq (w_ : Option Addr) (w : World) (Q : Value → World → Prop) : vcFn Tryd.prog A_wal_Log_replay Tryd.f73 #[.pointer (w_)] w Q = F_wal_Log_replay w_ w Q := by kernel_rfl
theorem F_wal_Log_replay_does (w_ : Option Addr) (w : World) (Q : Value → World → Prop) (hQ : F_wal_Log_replay w_ w Q) : Does Tryd.prog N_wal_Log_replay #[.pointer (w_)] w Q :=
  vcFn_sound noAsk mixed (A := A_wal_Log_replay) (by kernel_rfl) Tryd.func73 (Nat.le_of_ble_eq_true (by kernel_rfl)) (by kernel_rfl) ((F_wal_Log_replay_eq w_ w Q).mpr hQ)

/- nacelle/wal.right -/
def F_wal_right (l : Sl) (w : World) (Q : Value → World → Prop) : Prop :=
  cond (decide (((((l.len : Nat) : Int)) : Int) > 16))
  (Q (.bool (false)) w)
  (∃ (I3 : Int → World → Prop) (M4 : Int → World → Nat), I3 0 w ∧
   ∀ x1 : Int, ∀ w2 : World, I3 x1 w2 →
     cond (decide ((x1 : Int) < (((l.len : Nat) : Int))))
     (∀ J6 : World → Prop, (∀ w5 : World, 
        (I3 (IntKind.wrap .i64 (x1 + 1)) w5 ∧ M4 (IntKind.wrap .i64 (x1 + 1)) w5 < M4 x1 w2) → J6 w5) →
      idx (l.a) (l.len) (x1) 2 fun a7 =>
      ldT (.int .i64) w2 (a7) fun x8 => ldT (.sl) w2 ((a7).add 1) fun l9 =>
      allocK w2 (zc Tryd.prog T_api_Change) T_api_Change fun a10 w11 =>
      stC w11 (a10) (.int .i64 (x8)) fun w13 => stC w13 ((a10).add 1) (.slice (l9.a) (l9.len) (l9.cap)) fun w14 =>
      ldT (.int .i64) w14 (a10) fun x15 =>
      cond (decide ((x15 : Int) < 0))
      (Q (.bool (false)) w14)
      (ldT (.int .i64) w14 (a10) fun x16 =>
       cond (decide ((x16 : Int) ≥ 16))
       (Q (.bool (false)) w14)
       (ldT (.sl) w14 ((a10).add 1) fun l17 =>
        cond (((((l17.len : Nat) : Int)) : Int) != 40)
        (Q (.bool (false)) w14)
        (J6 w14))))
     (Q (.bool (true)) w2))
def A_wal_right : Ann := ⟨[(4, [(10, .one (.int .i64))])], [(8, [])], []⟩
theorem F_wal_right_eq (l : Sl) (w : World) (Q : Value → World → Prop) : vcFn Tryd.prog A_wal_right Tryd.f74 #[.slice (l.a) (l.len) (l.cap)] w Q = F_wal_right l w Q := by kernel_rfl
theorem F_wal_right_does (l : Sl) (w : World) (Q : Value → World → Prop) (hQ : F_wal_right l w Q) : Does Tryd.prog N_wal_right #[.slice (l.a) (l.len) (l.cap)] w Q :=
  vcFn_sound noAsk mixed (A := A_wal_right) (by kernel_rfl) Tryd.func74 (Nat.le_of_ble_eq_true (by kernel_rfl)) (by kernel_rfl) ((F_wal_right_eq l w Q).mpr hQ)

/- nacelle/nacelleref16.State -/
def F_ref16_State (at_ : Sl) (w : World) (Q : Value → World → Prop) : Prop :=
  allocK w (zc Tryd.prog T_ref16_Log) T_ref16_Log fun a1 w2 =>
  allocK w2 (zc Tryd.prog T_ref16_Log) T_ref16_Log fun a3 w4 =>
  stC w4 (a3) (.slice (none) (0) (0)) fun w6 => stC w6 ((a3).add 1) (.slice (none) (0) (0)) fun w7 => stC w7 ((a3).add 2) (.bool (false)) fun w8 => stC w8 ((a3).add 3) (.int .i64 (0)) fun w9 => stC w9 ((a3).add 4) (.slice (none) (0) (0)) fun w10 => stC w10 ((a3).add 5) (.int .i64 (0)) fun w11 => stC w11 ((a3).add 6) (.slice (none) (0) (0)) fun w12 => stC w12 ((a3).add 7) (.int .u32 (0)) fun w13 => stC w13 ((a3).add 8) (.int .i64 (0)) fun w14 => stC w14 ((a3).add 9) (.int .i64 (0)) fun w15 => stC w15 ((a3).add 10) (.bool (false)) fun w16 =>
  ∃ (I20 : Bool → Int → World → Prop) (M21 : Bool → Int → World → Nat), I20 false 0 w16 ∧
  ∀ found17 : Bool, ∀ i18 : Int, ∀ w19 : World, I20 found17 i18 w19 →
    cond (decide ((i18 : Int) < 2))
    (∀ J24 : Bool → World → Prop, (∀ found22 : Bool, ∀ w23 : World, 
       (I20 found22 (IntKind.wrap .i64 (i18 + 1)) w23 ∧ M21 found22 (IntKind.wrap .i64 (i18 + 1)) w23 < M21 found17 i18 w19) → J24 found22 w23) →
     idx (at_.a) (at_.len) (i18) 1 fun a25 =>
     ldT (.str) w19 (a25) fun s26 =>
     slcS (s26) (1) (5) fun s27 =>
     runG (.sl) Tryd.prog w19 (convert T_string T_l_uint8 (.string (s27))) fun l28 w29 =>
     Does Tryd.prog N_ref02_Number #[.slice (l28.a) (l28.len) (l28.cap)] w29 fun r30 w31 => ∃ x32 : Int, r30 = .int .u64 (x32) ∧
     idx (at_.a) (at_.len) (i18) 1 fun a33 =>
     ldT (.str) w31 (a33) fun s34 =>
     idxS (s34) (5) fun x35 =>
     ∀ J38 : Bool → World → Prop, (∀ b36 : Bool, ∀ w37 : World, 
       (cond (b36)
       (stC w37 ((a3).add 7) (.int .u32 (IntKind.wrap .u32 x32)) fun w39 =>
        stC w39 ((a3).add 8) (.int .i64 (IntKind.wrap .i64 x35)) fun w40 =>
        J24 true w40)
       (J24 found17 w37)) → J38 b36 w37) →
     idx (at_.a) (at_.len) (i18) 1 fun a41 =>
     ldT (.str) w31.drew (a41) fun s42 =>
     Does Tryd.prog N_ref16_one #[.int .i64 (IntKind.wrap .i64 x35)] w31.drew fun r43 w44 => ∃ s45 : ByteArray, r43 = .string (s45) ∧
     w44.cell? (a41) = some (.string (s42)) ∧ Does Tryd.prog N_ref16_Sector #[.string ((⟨#[72]⟩ : ByteArray)), .int .u32 (IntKind.wrap .u32 x32), .string (s45)] w44 fun r46 w47 => ∃ s48 : ByteArray, r46 = .string (s48) ∧
     w47.cell? (a41) = some (.string (s42)) ∧ cond ((s42).toList == (s48).toList)
     ((2 : Int) ≠ 0 ∧
      cond (((IntKind.wrap .i64 (Int.tmod (IntKind.wrap .u32 x32) 2)) : Int) == i18)
      (cond (decide (((IntKind.wrap .i64 x35) : Int) < 2))
       (cond (!found17)
        (J38 true w47)
        (ldT (.int .u32) w47 ((a3).add 7) fun x49 =>
         J38 (decide (((IntKind.wrap .u32 x32) : Int) > x49)) w47))
       (J38 false w47))
      (J38 false w47))
     (J38 false w47))
    (cond (!found17)
     (stC w19 (a1) (.slice (none) (0) (0)) fun w51 => stC w51 ((a1).add 1) (.slice (none) (0) (0)) fun w52 => stC w52 ((a1).add 2) (.bool (false)) fun w53 => stC w53 ((a1).add 3) (.int .i64 (0)) fun w54 => stC w54 ((a1).add 4) (.slice (none) (0) (0)) fun w55 => stC w55 ((a1).add 5) (.int .i64 (0)) fun w56 => stC w56 ((a1).add 6) (.slice (none) (0) (0)) fun w57 => stC w57 ((a1).add 7) (.int .u32 (0)) fun w58 => stC w58 ((a1).add 8) (.int .i64 (0)) fun w59 => stC w59 ((a1).add 9) (.int .i64 (0)) fun w60 => stC w60 ((a1).add 10) (.bool (false)) fun w61 =>
      ldT (.sl) w61 (a1) fun l62 => ldT (.sl) w61 ((a1).add 1) fun l63 => ldT (.bool) w61 ((a1).add 2) fun b64 => ldT (.int .i64) w61 ((a1).add 3) fun x65 => ldT (.sl) w61 ((a1).add 4) fun l66 => ldT (.int .i64) w61 ((a1).add 5) fun x67 => ldT (.sl) w61 ((a1).add 6) fun l68 => ldT (.int .u32) w61 ((a1).add 7) fun x69 => ldT (.int .i64) w61 ((a1).add 8) fun x70 => ldT (.int .i64) w61 ((a1).add 9) fun x71 => ldT (.bool) w61 ((a1).add 10) fun b72 =>
      Q (.tuple #[.agg #[.slice (l62.a) (l62.len) (l62.cap), .slice (l63.a) (l63.len) (l63.cap), .bool (b64), .int .i64 (x65), .slice (l66.a) (l66.len) (l66.cap), .int .i64 (x67), .slice (l68.a) (l68.len) (l68.cap), .int .u32 (x69), .int .i64 (x70), .int .i64 (x71), .bool (b72)], .int .i64 (6)]) w61)
     (∃ (I75 : Int → World → Prop) (M76 : Int → World → Nat), I75 0 w19 ∧
      ∀ i73 : Int, ∀ w74 : World, I75 i73 w74 →
        cond (decide ((i73 : Int) < 16))
        (ldT (.int .i64) w74 ((a3).add 8) fun x77 =>
         idx (at_.a) (at_.len) (IntKind.wrap .i64 ((IntKind.wrap .i64 (2 + (IntKind.wrap .i64 (16 * x77)))) + i73)) 1 fun a78 =>
         ldT (.str) w74 (a78) fun s79 =>
         ldT (.int .u32) w74.drew ((a3).add 7) fun x80 =>
         slcS (s79) (6) (46) fun s81 =>
         Does Tryd.prog N_ref16_one #[.int .i64 (i73)] w74.drew fun r82 w83 => ∃ s84 : ByteArray, r82 = .string (s84) ∧
         w83.cell? ((a3).add 7) = some (.int .u32 (x80)) ∧ (((s84).size + (s81).size : Nat) : Int) ≤ 9223372036854775807 ∧
         Does Tryd.prog N_ref16_Sector #[.string ((⟨#[80]⟩ : ByteArray)), .int .u32 (x80), .string (s84 ++ s81)] w83 fun r85 w86 => ∃ s87 : ByteArray, r85 = .string (s87) ∧
         cond (!((s79).toList == (s87).toList))
         (stC w86 (a1) (.slice (none) (0) (0)) fun w89 => stC w89 ((a1).add 1) (.slice (none) (0) (0)) fun w90 => stC w90 ((a1).add 2) (.bool (false)) fun w91 => stC w91 ((a1).add 3) (.int .i64 (0)) fun w92 => stC w92 ((a1).add 4) (.slice (none) (0) (0)) fun w93 => stC w93 ((a1).add 5) (.int .i64 (0)) fun w94 => stC w94 ((a1).add 6) (.slice (none) (0) (0)) fun w95 => stC w95 ((a1).add 7) (.int .u32 (0)) fun w96 => stC w96 ((a1).add 8) (.int .i64 (0)) fun w97 => stC w97 ((a1).add 9) (.int .i64 (0)) fun w98 => stC w98 ((a1).add 10) (.bool (false)) fun w99 =>
          ldT (.sl) w99 (a1) fun l100 => ldT (.sl) w99 ((a1).add 1) fun l101 => ldT (.bool) w99 ((a1).add 2) fun b102 => ldT (.int .i64) w99 ((a1).add 3) fun x103 => ldT (.sl) w99 ((a1).add 4) fun l104 => ldT (.int .i64) w99 ((a1).add 5) fun x105 => ldT (.sl) w99 ((a1).add 6) fun l106 => ldT (.int .u32) w99 ((a1).add 7) fun x107 => ldT (.int .i64) w99 ((a1).add 8) fun x108 => ldT (.int .i64) w99 ((a1).add 9) fun x109 => ldT (.bool) w99 ((a1).add 10) fun b110 =>
          Q (.tuple #[.agg #[.slice (l100.a) (l100.len) (l100.cap), .slice (l101.a) (l101.len) (l101.cap), .bool (b102), .int .i64 (x103), .slice (l104.a) (l104.len) (l104.cap), .int .i64 (x105), .slice (l106.a) (l106.len) (l106.cap), .int .u32 (x107), .int .i64 (x108), .int .i64 (x109), .bool (b110)], .int .i64 (8)]) w99)
         (ldT (.sl) w86.drew ((a3).add 6) fun l111 =>
          slcS (s79) (6) (46) fun s112 =>
          allocK w86.drew #[.string (s112)] T_string fun a113 w114 =>
          w114.cell? ((a3).add 6) = some (.slice (l111.a) (l111.len) (l111.cap)) ∧ runG (.sl) Tryd.prog w114 (Builtin.append_ #[T_l_string, T_l_string] T_l_string #[.slice (l111.a) (l111.len) (l111.cap), .slice (some (a113)) (1) (1)]) fun l115 w116 =>
          stC w116 ((a3).add 6) (.slice (l115.a) (l115.len) (l115.cap)) fun w117 =>
          I75 (IntKind.wrap .i64 (i73 + 1)) w117 ∧ M76 (IntKind.wrap .i64 (i73 + 1)) w117 < M76 i73 w74))
        (allocK w74 #[] T_string fun a118 w119 =>
         ldT (.sl) w119 ((a3).add 6) fun l120 =>
         runG (.sl) Tryd.prog w119 (Builtin.append_ #[T_l_string, T_l_string] T_l_string #[.slice (some (a118)) (0) (0), .slice (l120.a) (l120.len) (l120.cap)]) fun l121 w122 =>
         ∀ J124 : World → Prop, (∀ w123 : World, 
           (ldT (.sl) w123 (a3) fun l125 => ldT (.sl) w123 ((a3).add 1) fun l126 => ldT (.bool) w123 ((a3).add 2) fun b127 => ldT (.int .i64) w123 ((a3).add 3) fun x128 => ldT (.sl) w123 ((a3).add 4) fun l129 => ldT (.int .i64) w123 ((a3).add 5) fun x130 => ldT (.sl) w123 ((a3).add 6) fun l131 => ldT (.int .u32) w123 ((a3).add 7) fun x132 => ldT (.int .i64) w123 ((a3).add 8) fun x133 => ldT (.int .i64) w123 ((a3).add 9) fun x134 => ldT (.bool) w123 ((a3).add 10) fun b135 =>
           stC w123 (a1) (.slice (l125.a) (l125.len) (l125.cap)) fun w137 => stC w137 ((a1).add 1) (.slice (l126.a) (l126.len) (l126.cap)) fun w138 => stC w138 ((a1).add 2) (.bool (b127)) fun w139 => stC w139 ((a1).add 3) (.int .i64 (x128)) fun w140 => stC w140 ((a1).add 4) (.slice (l129.a) (l129.len) (l129.cap)) fun w141 => stC w141 ((a1).add 5) (.int .i64 (x130)) fun w142 => stC w142 ((a1).add 6) (.slice (l131.a) (l131.len) (l131.cap)) fun w143 => stC w143 ((a1).add 7) (.int .u32 (x132)) fun w144 => stC w144 ((a1).add 8) (.int .i64 (x133)) fun w145 => stC w145 ((a1).add 9) (.int .i64 (x134)) fun w146 => stC w146 ((a1).add 10) (.bool (b135)) fun w147 =>
           ldT (.sl) w147 (a1) fun l148 => ldT (.sl) w147 ((a1).add 1) fun l149 => ldT (.bool) w147 ((a1).add 2) fun b150 => ldT (.int .i64) w147 ((a1).add 3) fun x151 => ldT (.sl) w147 ((a1).add 4) fun l152 => ldT (.int .i64) w147 ((a1).add 5) fun x153 => ldT (.sl) w147 ((a1).add 6) fun l154 => ldT (.int .u32) w147 ((a1).add 7) fun x155 => ldT (.int .i64) w147 ((a1).add 8) fun x156 => ldT (.int .i64) w147 ((a1).add 9) fun x157 => ldT (.bool) w147 ((a1).add 10) fun b158 =>
           Q (.tuple #[.agg #[.slice (l148.a) (l148.len) (l148.cap), .slice (l149.a) (l149.len) (l149.cap), .bool (b150), .int .i64 (x151), .slice (l152.a) (l152.len) (l152.cap), .int .i64 (x153), .slice (l154.a) (l154.len) (l154.cap), .int .u32 (x155), .int .i64 (x156), .int .i64 (x157), .bool (b158)], .int .i64 (0)]) w147) → J124 w123) →
         ∃ (I161 : Int → World → Prop) (M162 : Int → World → Nat), I161 0 w122 ∧
         ∀ k159 : Int, ∀ w160 : World, I161 k159 w160 →
           cond (decide ((k159 : Int) < 18))
           (∀ J164 : World → Prop, (∀ w163 : World, 
              (I161 (IntKind.wrap .i64 (k159 + 1)) w163 ∧ M162 (IntKind.wrap .i64 (k159 + 1)) w163 < M162 k159 w160) → J164 w163) →
            idx (at_.a) (at_.len) (IntKind.wrap .i64 (34 + k159)) 1 fun a165 =>
            ldT (.str) w160 (a165) fun s166 =>
            idxS (s166) (6) fun x167 =>
            ∀ J170 : Bool → World → Prop, (∀ b168 : Bool, ∀ w169 : World, 
              (cond (b168)
              (slcS (s166) (7) (47) fun s171 =>
               idx (l121.a) (l121.len) (IntKind.wrap .i64 x167) 1 fun a172 =>
               stC w169 (a172) (.string (s171)) fun w173 =>
               J164 w173)
              (ldT (.int .u32) w169.drew ((a3).add 7) fun x174 =>
               Does Tryd.prog N_ref16_one #[.int .i64 (k159)] w169.drew fun r175 w176 => ∃ s177 : ByteArray, r175 = .string (s177) ∧
               w176.cell? ((a3).add 7) = some (.int .u32 (x174)) ∧ Does Tryd.prog N_ref16_Sector #[.string ((⟨#[67]⟩ : ByteArray)), .int .u32 (x174), .string (s177)] w176 fun r178 w179 => ∃ s180 : ByteArray, r178 = .string (s180) ∧
               cond ((s166).toList == (s180).toList)
               (allocK w179 #[] T_string fun a181 w182 =>
                runG (.sl) Tryd.prog w182 (Builtin.append_ #[T_l_string, T_l_string] T_l_string #[.slice (some (a181)) (0) (0), .slice (l121.a) (l121.len) (l121.cap)]) fun l183 w184 =>
                stC w184 ((a3).add 6) (.slice (l183.a) (l183.len) (l183.cap)) fun w185 =>
                stC w185 ((a3).add 9) (.int .i64 (IntKind.wrap .i64 (k159 + 1))) fun w186 =>
                J164 w186)
               (J124 w179))) → J170 b168 w169) →
            cond (decide (((IntKind.wrap .i64 x167) : Int) < 16))
            (ldT (.int .u32) w160.drew ((a3).add 7) fun x187 =>
             slcS (s166) (6) (47) fun s188 =>
             Does Tryd.prog N_ref16_one #[.int .i64 (k159)] w160.drew fun r189 w190 => ∃ s191 : ByteArray, r189 = .string (s191) ∧
             w190.cell? ((a3).add 7) = some (.int .u32 (x187)) ∧ (((s191).size + (s188).size : Nat) : Int) ≤ 9223372036854775807 ∧
             Does Tryd.prog N_ref16_Sector #[.string ((⟨#[82]⟩ : ByteArray)), .int .u32 (x187), .string (s191 ++ s188)] w190 fun r192 w193 => ∃ s194 : ByteArray, r192 = .string (s194) ∧
             J170 ((s166).toList == (s194).toList) w193)
            (J170 false w160.drew))
           (J124 w160))))
def A_ref16_State : Ann := ⟨[(4, [(5, .one (.bool)), (6, .one (.int .i64))]), (13, [(9, .one (.int .i64))]), (21, [(12, .one (.int .i64))])], [(5, [(5, .one (.bool))]), (9, [(63, .one (.bool))]), (22, []), (26, [(131, .one (.bool))]), (30, [])], [(8, [⟨0, 0, 0, true⟩, ⟨0, 0, 0, true⟩, ⟨3, 3, 3, true⟩, ⟨4, 4, 7, true⟩, ⟨0, 0, 0, true⟩, ⟨0, 0, 0, true⟩, ⟨32, 0, 32, false⟩, ⟨80, 0, 112, false⟩, ⟨136, 136, 255, true⟩, ⟨384, 256, 511, true⟩, ⟨512, 512, 1023, true⟩, ⟨1536, 1536, 2047, true⟩, ⟨2560, 2560, 4095, true⟩, ⟨512, 512, 1023, true⟩, ⟨12800, 12800, 16383, true⟩, ⟨16896, 16896, 32767, true⟩, ⟨33280, 32768, 65535, true⟩, ⟨65536, 65536, 131071, true⟩, ⟨196608, 196608, 262143, true⟩, ⟨327680, 327680, 524287, true⟩, ⟨589824, 524288, 1048575, true⟩, ⟨1048576, 1048576, 2097151, true⟩, ⟨3145728, 3145728, 4194303, true⟩, ⟨5242880, 5242880, 8388607, true⟩, ⟨8388608, 8388608, 16777215, true⟩, ⟨8388608, 8388608, 16777215, true⟩, ⟨41943040, 41943040, 50331647, true⟩, ⟨92274688, 92274688, 134217727, true⟩, ⟨143654912, 143654912, 268435455, true⟩, ⟨269484032, 269484032, 536870911, true⟩]), (16, [⟨0, 0, 0, true⟩, ⟨0, 0, 0, true⟩, ⟨2, 2, 2, true⟩, ⟨0, 0, 0, true⟩, ⟨8, 0, 8, false⟩, ⟨0, 0, 0, true⟩, ⟨32, 32, 32, true⟩, ⟨80, 80, 120, true⟩, ⟨148, 0, 254, false⟩, ⟨257, 257, 511, true⟩]), (18, [⟨0, 0, 0, true⟩, ⟨1, 1, 1, true⟩, ⟨0, 0, 0, true⟩, ⟨4, 4, 4, true⟩, ⟨8, 0, 12, false⟩, ⟨18, 0, 31, false⟩, ⟨63, 0, 63, true⟩, ⟨127, 0, 127, false⟩]), (25, [⟨0, 0, 0, true⟩, ⟨1, 1, 1, true⟩, ⟨2, 2, 3, true⟩, ⟨4, 4, 7, true⟩, ⟨4, 4, 7, true⟩, ⟨20, 20, 23, true⟩, ⟨4, 4, 7, true⟩, ⟨68, 0, 71, false⟩, ⟨4, 4, 7, true⟩, ⟨260, 260, 263, true⟩, ⟨644, 644, 967, true⟩, ⟨1188, 0, 2039, false⟩, ⟨2060, 2060, 4095, true⟩, ⟨4100, 4100, 8191, true⟩]), (27, [⟨0, 0, 0, true⟩, ⟨0, 0, 0, true⟩, ⟨2, 2, 2, true⟩, ⟨0, 0, 0, true⟩, ⟨8, 0, 8, false⟩, ⟨20, 0, 30, false⟩, ⟨33, 33, 63, true⟩])]⟩
theorem F_ref16_State_eq (at_ : Sl) (w : World) (Q : Value → World → Prop) : vcFn Tryd.prog A_ref16_State Tryd.f77 #[.slice (at_.a) (at_.len) (at_.cap)] w Q = F_ref16_State at_ w Q := by kernel_rfl
theorem F_ref16_State_does (at_ : Sl) (w : World) (Q : Value → World → Prop) (hQ : F_ref16_State at_ w Q) : Does Tryd.prog N_ref16_State #[.slice (at_.a) (at_.len) (at_.cap)] w Q :=
  vcFn_sound noAsk mixed (A := A_ref16_State) (by kernel_rfl) Tryd.func77 (Nat.le_of_ble_eq_true (by kernel_rfl)) (by kernel_rfl) ((F_ref16_State_eq at_ w Q).mpr hQ)

/- (nacelle/nacelleref16.Log).settle -/
def F_ref16_Log_settle (w_0 : Sl) (w_1 : Sl) (w_2 : Bool) (w_3 : Int) (w_4 : Sl) (w_5 : Int) (w_6 : Sl) (w_7 : Int) (w_8 : Int) (w_9 : Int) (w_10 : Bool) (epoch : Int) (home : Int) (at_ : Sl) (l : Sl) (w : World) (Q : Value → World → Prop) : Prop :=
  allocK w (#[.slice (w_0.a) (w_0.len) (w_0.cap), .slice (w_1.a) (w_1.len) (w_1.cap), .bool (w_2), .int .i64 (w_3), .slice (w_4.a) (w_4.len) (w_4.cap), .int .i64 (w_5), .slice (w_6.a) (w_6.len) (w_6.cap), .int .u32 (w_7), .int .i64 (w_8), .int .i64 (w_9), .bool (w_10)]) T_ref16_Log fun a1 w2 =>
  allocK w2 (zc Tryd.prog T_ref16_Log) T_ref16_Log fun a3 w4 =>
  ∃ (I9 : Sl → Sl → Int → World → Prop) (M10 : Sl → Sl → Int → World → Nat), I9 ⟨at_.a, at_.len, at_.cap⟩ ⟨l.a, l.len, l.cap⟩ 0 w4 ∧
  ∀ at5 : Sl, ∀ l6 : Sl, ∀ i7 : Int, ∀ w8 : World, I9 at5 l6 i7 w8 →
    cond (decide ((i7 : Int) < 16))
    (allocK w8 #[.int .i64 (IntKind.wrap .i64 ((IntKind.wrap .i64 (2 + (IntKind.wrap .i64 (16 * home)))) + i7))] T_int fun a11 w12 =>
     runG (.sl) Tryd.prog w12 (Builtin.append_ #[T_l_int, T_l_int] T_l_int #[.slice (at5.a) (at5.len) (at5.cap), .slice (some (a11)) (1) (1)]) fun l13 w14 =>
     ldT (.sl) w14.drew ((a1).add 6) fun l15 =>
     idx (l15.a) (l15.len) (i7) 1 fun a16 =>
     ldT (.str) w14.drew (a16) fun s17 =>
     Does Tryd.prog N_ref16_one #[.int .i64 (i7)] w14.drew fun r18 w19 => ∃ s20 : ByteArray, r18 = .string (s20) ∧
     w19.cell? (a16) = some (.string (s17)) ∧ w19.cell? ((a1).add 6) = some (.slice (l15.a) (l15.len) (l15.cap)) ∧ (((s20).size + (s17).size : Nat) : Int) ≤ 9223372036854775807 ∧
     Does Tryd.prog N_ref16_Sector #[.string ((⟨#[80]⟩ : ByteArray)), .int .u32 (epoch), .string (s20 ++ s17)] w19 fun r21 w22 => ∃ s23 : ByteArray, r21 = .string (s23) ∧
     allocK w22 #[.string (s23)] T_string fun a24 w25 =>
     runG (.sl) Tryd.prog w25 (Builtin.append_ #[T_l_string, T_l_string] T_l_string #[.slice (l6.a) (l6.len) (l6.cap), .slice (some (a24)) (1) (1)]) fun l26 w27 =>
     I9 ⟨l13.a, l13.len, l13.cap⟩ ⟨l26.a, l26.len, l26.cap⟩ (IntKind.wrap .i64 (i7 + 1)) w27 ∧ M10 ⟨l13.a, l13.len, l13.cap⟩ ⟨l26.a, l26.len, l26.cap⟩ (IntKind.wrap .i64 (i7 + 1)) w27 < M10 at5 l6 i7 w8)
    (ldT (.sl) w8 (a1) fun l28 => ldT (.sl) w8 ((a1).add 1) fun l29 => ldT (.bool) w8 ((a1).add 2) fun b30 => ldT (.int .i64) w8 ((a1).add 3) fun x31 => ldT (.sl) w8 ((a1).add 4) fun l32 => ldT (.int .i64) w8 ((a1).add 5) fun x33 => ldT (.sl) w8 ((a1).add 6) fun l34 => ldT (.int .u32) w8 ((a1).add 7) fun x35 => ldT (.int .i64) w8 ((a1).add 8) fun x36 => ldT (.int .i64) w8 ((a1).add 9) fun x37 => ldT (.bool) w8 ((a1).add 10) fun b38 =>
     Does Tryd.prog N_ref16_Log_all #[.agg #[.slice (l28.a) (l28.len) (l28.cap), .slice (l29.a) (l29.len) (l29.cap), .bool (b30), .int .i64 (x31), .slice (l32.a) (l32.len) (l32.cap), .int .i64 (x33), .slice (l34.a) (l34.len) (l34.cap), .int .u32 (x35), .int .i64 (x36), .int .i64 (x37), .bool (b38)], .slice (at5.a) (at5.len) (at5.cap), .slice (l6.a) (l6.len) (l6.cap)] w8 fun r39 w40 => ∃ l41 : Sl, ∃ l42 : Sl, ∃ b43 : Bool, ∃ x44 : Int, ∃ l45 : Sl, ∃ x46 : Int, ∃ l47 : Sl, ∃ x48 : Int, ∃ x49 : Int, ∃ x50 : Int, ∃ b51 : Bool, ∃ x52 : Int, r39 = .tuple #[.agg #[.slice (l41.a) (l41.len) (l41.cap), .slice (l42.a) (l42.len) (l42.cap), .bool (b43), .int .i64 (x44), .slice (l45.a) (l45.len) (l45.cap), .int .i64 (x46), .slice (l47.a) (l47.len) (l47.cap), .int .u32 (x48), .int .i64 (x49), .int .i64 (x50), .bool (b51)], .int .i64 (x52)] ∧
     allocK w40 (zc Tryd.prog T_ref16_Log) T_ref16_Log fun a53 w54 =>
     stC w54 (a53) (.slice (l41.a) (l41.len) (l41.cap)) fun w56 => stC w56 ((a53).add 1) (.slice (l42.a) (l42.len) (l42.cap)) fun w57 => stC w57 ((a53).add 2) (.bool (b43)) fun w58 => stC w58 ((a53).add 3) (.int .i64 (x44)) fun w59 => stC w59 ((a53).add 4) (.slice (l45.a) (l45.len) (l45.cap)) fun w60 => stC w60 ((a53).add 5) (.int .i64 (x46)) fun w61 => stC w61 ((a53).add 6) (.slice (l47.a) (l47.len) (l47.cap)) fun w62 => stC w62 ((a53).add 7) (.int .u32 (x48)) fun w63 => stC w63 ((a53).add 8) (.int .i64 (x49)) fun w64 => stC w64 ((a53).add 9) (.int .i64 (x50)) fun w65 => stC w65 ((a53).add 10) (.bool (b51)) fun w66 =>
     cond ((x52 : Int) != 0)
     (ldT (.sl) w66 (a53) fun l67 => ldT (.sl) w66 ((a53).add 1) fun l68 => ldT (.bool) w66 ((a53).add 2) fun b69 => ldT (.int .i64) w66 ((a53).add 3) fun x70 => ldT (.sl) w66 ((a53).add 4) fun l71 => ldT (.int .i64) w66 ((a53).add 5) fun x72 => ldT (.sl) w66 ((a53).add 6) fun l73 => ldT (.int .u32) w66 ((a53).add 7) fun x74 => ldT (.int .i64) w66 ((a53).add 8) fun x75 => ldT (.int .i64) w66 ((a53).add 9) fun x76 => ldT (.bool) w66 ((a53).add 10) fun b77 =>
      stC w66 (a3) (.slice (l67.a) (l67.len) (l67.cap)) fun w79 => stC w79 ((a3).add 1) (.slice (l68.a) (l68.len) (l68.cap)) fun w80 => stC w80 ((a3).add 2) (.bool (b69)) fun w81 => stC w81 ((a3).add 3) (.int .i64 (x70)) fun w82 => stC w82 ((a3).add 4) (.slice (l71.a) (l71.len) (l71.cap)) fun w83 => stC w83 ((a3).add 5) (.int .i64 (x72)) fun w84 => stC w84 ((a3).add 6) (.slice (l73.a) (l73.len) (l73.cap)) fun w85 => stC w85 ((a3).add 7) (.int .u32 (x74)) fun w86 => stC w86 ((a3).add 8) (.int .i64 (x75)) fun w87 => stC w87 ((a3).add 9) (.int .i64 (x76)) fun w88 => stC w88 ((a3).add 10) (.bool (b77)) fun w89 =>
      ldT (.sl) w89 (a3) fun l90 => ldT (.sl) w89 ((a3).add 1) fun l91 => ldT (.bool) w89 ((a3).add 2) fun b92 => ldT (.int .i64) w89 ((a3).add 3) fun x93 => ldT (.sl) w89 ((a3).add 4) fun l94 => ldT (.int .i64) w89 ((a3).add 5) fun x95 => ldT (.sl) w89 ((a3).add 6) fun l96 => ldT (.int .u32) w89 ((a3).add 7) fun x97 => ldT (.int .i64) w89 ((a3).add 8) fun x98 => ldT (.int .i64) w89 ((a3).add 9) fun x99 => ldT (.bool) w89 ((a3).add 10) fun b100 =>
      Q (.tuple #[.agg #[.slice (l90.a) (l90.len) (l90.cap), .slice (l91.a) (l91.len) (l91.cap), .bool (b92), .int .i64 (x93), .slice (l94.a) (l94.len) (l94.cap), .int .i64 (x95), .slice (l96.a) (l96.len) (l96.cap), .int .u32 (x97), .int .i64 (x98), .int .i64 (x99), .bool (b100)], .int .i64 (x52)]) w89)
     (ldT (.sl) w66.drew (a53) fun l101 => ldT (.sl) w66.drew ((a53).add 1) fun l102 => ldT (.bool) w66.drew ((a53).add 2) fun b103 => ldT (.int .i64) w66.drew ((a53).add 3) fun x104 => ldT (.sl) w66.drew ((a53).add 4) fun l105 => ldT (.int .i64) w66.drew ((a53).add 5) fun x106 => ldT (.sl) w66.drew ((a53).add 6) fun l107 => ldT (.int .u32) w66.drew ((a53).add 7) fun x108 => ldT (.int .i64) w66.drew ((a53).add 8) fun x109 => ldT (.int .i64) w66.drew ((a53).add 9) fun x110 => ldT (.bool) w66.drew ((a53).add 10) fun b111 =>
      (2 : Int) ≠ 0 ∧
      (allocK w66.drew #[.int .i64 (IntKind.wrap .i64 (Int.tmod epoch 2))] T_int fun a112 w113 =>
       ((#[.slice (l101.a) (l101.len) (l101.cap), .slice (l102.a) (l102.len) (l102.cap), .bool (b103), .int .i64 (x104), .slice (l105.a) (l105.len) (l105.cap), .int .i64 (x106), .slice (l107.a) (l107.len) (l107.cap), .int .u32 (x108), .int .i64 (x109), .int .i64 (x110), .bool (b111)] : Array Value).size = 11 ∧ RowIs w113 (a53) #[.slice (l101.a) (l101.len) (l101.cap), .slice (l102.a) (l102.len) (l102.cap), .bool (b103), .int .i64 (x104), .slice (l105.a) (l105.len) (l105.cap), .int .i64 (x106), .slice (l107.a) (l107.len) (l107.cap), .int .u32 (x108), .int .i64 (x109), .int .i64 (x110), .bool (b111)]) ∧ Does Tryd.prog N_ref16_one #[.int .i64 (home)] w113 fun r114 w115 => ∃ s116 : ByteArray, r114 = .string (s116) ∧
       ((#[.slice (l101.a) (l101.len) (l101.cap), .slice (l102.a) (l102.len) (l102.cap), .bool (b103), .int .i64 (x104), .slice (l105.a) (l105.len) (l105.cap), .int .i64 (x106), .slice (l107.a) (l107.len) (l107.cap), .int .u32 (x108), .int .i64 (x109), .int .i64 (x110), .bool (b111)] : Array Value).size = 11 ∧ RowIs w115 (a53) #[.slice (l101.a) (l101.len) (l101.cap), .slice (l102.a) (l102.len) (l102.cap), .bool (b103), .int .i64 (x104), .slice (l105.a) (l105.len) (l105.cap), .int .i64 (x106), .slice (l107.a) (l107.len) (l107.cap), .int .u32 (x108), .int .i64 (x109), .int .i64 (x110), .bool (b111)]) ∧ Does Tryd.prog N_ref16_Sector #[.string ((⟨#[72]⟩ : ByteArray)), .int .u32 (epoch), .string (s116)] w115 fun r117 w118 => ∃ s119 : ByteArray, r117 = .string (s119) ∧
       ((#[.slice (l101.a) (l101.len) (l101.cap), .slice (l102.a) (l102.len) (l102.cap), .bool (b103), .int .i64 (x104), .slice (l105.a) (l105.len) (l105.cap), .int .i64 (x106), .slice (l107.a) (l107.len) (l107.cap), .int .u32 (x108), .int .i64 (x109), .int .i64 (x110), .bool (b111)] : Array Value).size = 11 ∧ RowIs w118 (a53) #[.slice (l101.a) (l101.len) (l101.cap), .slice (l102.a) (l102.len) (l102.cap), .bool (b103), .int .i64 (x104), .slice (l105.a) (l105.len) (l105.cap), .int .i64 (x106), .slice (l107.a) (l107.len) (l107.cap), .int .u32 (x108), .int .i64 (x109), .int .i64 (x110), .bool (b111)]) ∧ allocK w118 #[.string (s119)] T_string fun a120 w121 =>
       ((#[.slice (l101.a) (l101.len) (l101.cap), .slice (l102.a) (l102.len) (l102.cap), .bool (b103), .int .i64 (x104), .slice (l105.a) (l105.len) (l105.cap), .int .i64 (x106), .slice (l107.a) (l107.len) (l107.cap), .int .u32 (x108), .int .i64 (x109), .int .i64 (x110), .bool (b111)] : Array Value).size = 11 ∧ RowIs w121 (a53) #[.slice (l101.a) (l101.len) (l101.cap), .slice (l102.a) (l102.len) (l102.cap), .bool (b103), .int .i64 (x104), .slice (l105.a) (l105.len) (l105.cap), .int .i64 (x106), .slice (l107.a) (l107.len) (l107.cap), .int .u32 (x108), .int .i64 (x109), .int .i64 (x110), .bool (b111)]) ∧ Does Tryd.prog N_ref16_Log_all #[.agg #[.slice (l101.a) (l101.len) (l101.cap), .slice (l102.a) (l102.len) (l102.cap), .bool (b103), .int .i64 (x104), .slice (l105.a) (l105.len) (l105.cap), .int .i64 (x106), .slice (l107.a) (l107.len) (l107.cap), .int .u32 (x108), .int .i64 (x109), .int .i64 (x110), .bool (b111)], .slice (some (a112)) (1) (1), .slice (some (a120)) (1) (1)] w121 fun r122 w123 => ∃ l124 : Sl, ∃ l125 : Sl, ∃ b126 : Bool, ∃ x127 : Int, ∃ l128 : Sl, ∃ x129 : Int, ∃ l130 : Sl, ∃ x131 : Int, ∃ x132 : Int, ∃ x133 : Int, ∃ b134 : Bool, ∃ x135 : Int, r122 = .tuple #[.agg #[.slice (l124.a) (l124.len) (l124.cap), .slice (l125.a) (l125.len) (l125.cap), .bool (b126), .int .i64 (x127), .slice (l128.a) (l128.len) (l128.cap), .int .i64 (x129), .slice (l130.a) (l130.len) (l130.cap), .int .u32 (x131), .int .i64 (x132), .int .i64 (x133), .bool (b134)], .int .i64 (x135)] ∧
       stC w123 (a3) (.slice (l124.a) (l124.len) (l124.cap)) fun w137 => stC w137 ((a3).add 1) (.slice (l125.a) (l125.len) (l125.cap)) fun w138 => stC w138 ((a3).add 2) (.bool (b126)) fun w139 => stC w139 ((a3).add 3) (.int .i64 (x127)) fun w140 => stC w140 ((a3).add 4) (.slice (l128.a) (l128.len) (l128.cap)) fun w141 => stC w141 ((a3).add 5) (.int .i64 (x129)) fun w142 => stC w142 ((a3).add 6) (.slice (l130.a) (l130.len) (l130.cap)) fun w143 => stC w143 ((a3).add 7) (.int .u32 (x131)) fun w144 => stC w144 ((a3).add 8) (.int .i64 (x132)) fun w145 => stC w145 ((a3).add 9) (.int .i64 (x133)) fun w146 => stC w146 ((a3).add 10) (.bool (b134)) fun w147 =>
       ldT (.sl) w147 (a3) fun l148 => ldT (.sl) w147 ((a3).add 1) fun l149 => ldT (.bool) w147 ((a3).add 2) fun b150 => ldT (.int .i64) w147 ((a3).add 3) fun x151 => ldT (.sl) w147 ((a3).add 4) fun l152 => ldT (.int .i64) w147 ((a3).add 5) fun x153 => ldT (.sl) w147 ((a3).add 6) fun l154 => ldT (.int .u32) w147 ((a3).add 7) fun x155 => ldT (.int .i64) w147 ((a3).add 8) fun x156 => ldT (.int .i64) w147 ((a3).add 9) fun x157 => ldT (.bool) w147 ((a3).add 10) fun b158 =>
       Q (.tuple #[.agg #[.slice (l148.a) (l148.len) (l148.cap), .slice (l149.a) (l149.len) (l149.cap), .bool (b150), .int .i64 (x151), .slice (l152.a) (l152.len) (l152.cap), .int .i64 (x153), .slice (l154.a) (l154.len) (l154.cap), .int .u32 (x155), .int .i64 (x156), .int .i64 (x157), .bool (b158)], .int .i64 (x135)]) w147) ∧
      (Does Tryd.prog N_ref16_one #[.int .i64 (home)] w66.drew fun r159 w160 => ∃ s161 : ByteArray, r159 = .string (s161) ∧
       ((#[.slice (l101.a) (l101.len) (l101.cap), .slice (l102.a) (l102.len) (l102.cap), .bool (b103), .int .i64 (x104), .slice (l105.a) (l105.len) (l105.cap), .int .i64 (x106), .slice (l107.a) (l107.len) (l107.cap), .int .u32 (x108), .int .i64 (x109), .int .i64 (x110), .bool (b111)] : Array Value).size = 11 ∧ RowIs w160 (a53) #[.slice (l101.a) (l101.len) (l101.cap), .slice (l102.a) (l102.len) (l102.cap), .bool (b103), .int .i64 (x104), .slice (l105.a) (l105.len) (l105.cap), .int .i64 (x106), .slice (l107.a) (l107.len) (l107.cap), .int .u32 (x108), .int .i64 (x109), .int .i64 (x110), .bool (b111)]) ∧ (allocK w160 #[.int .i64 (IntKind.wrap .i64 (Int.tmod epoch 2))] T_int fun a162 w163 =>
        ((#[.slice (l101.a) (l101.len) (l101.cap), .slice (l102.a) (l102.len) (l102.cap), .bool (b103), .int .i64 (x104), .slice (l105.a) (l105.len) (l105.cap), .int .i64 (x106), .slice (l107.a) (l107.len) (l107.cap), .int .u32 (x108), .int .i64 (x109), .int .i64 (x110), .bool (b111)] : Array Value).size = 11 ∧ RowIs w163 (a53) #[.slice (l101.a) (l101.len) (l101.cap), .slice (l102.a) (l102.len) (l102.cap), .bool (b103), .int .i64 (x104), .slice (l105.a) (l105.len) (l105.cap), .int .i64 (x106), .slice (l107.a) (l107.len) (l107.cap), .int .u32 (x108), .int .i64 (x109), .int .i64 (x110), .bool (b111)]) ∧ Does Tryd.prog N_ref16_Sector #[.string ((⟨#[72]⟩ : ByteArray)), .int .u32 (epoch), .string (s161)] w163 fun r164 w165 => ∃ s166 : ByteArray, r164 = .string (s166) ∧
        ((#[.slice (l101.a) (l101.len) (l101.cap), .slice (l102.a) (l102.len) (l102.cap), .bool (b103), .int .i64 (x104), .slice (l105.a) (l105.len) (l105.cap), .int .i64 (x106), .slice (l107.a) (l107.len) (l107.cap), .int .u32 (x108), .int .i64 (x109), .int .i64 (x110), .bool (b111)] : Array Value).size = 11 ∧ RowIs w165 (a53) #[.slice (l101.a) (l101.len) (l101.cap), .slice (l102.a) (l102.len) (l102.cap), .bool (b103), .int .i64 (x104), .slice (l105.a) (l105.len) (l105.cap), .int .i64 (x106), .slice (l107.a) (l107.len) (l107.cap), .int .u32 (x108), .int .i64 (x109), .int .i64 (x110), .bool (b111)]) ∧ allocK w165 #[.string (s166)] T_string fun a167 w168 =>
        ((#[.slice (l101.a) (l101.len) (l101.cap), .slice (l102.a) (l102.len) (l102.cap), .bool (b103), .int .i64 (x104), .slice (l105.a) (l105.len) (l105.cap), .int .i64 (x106), .slice (l107.a) (l107.len) (l107.cap), .int .u32 (x108), .int .i64 (x109), .int .i64 (x110), .bool (b111)] : Array Value).size = 11 ∧ RowIs w168 (a53) #[.slice (l101.a) (l101.len) (l101.cap), .slice (l102.a) (l102.len) (l102.cap), .bool (b103), .int .i64 (x104), .slice (l105.a) (l105.len) (l105.cap), .int .i64 (x106), .slice (l107.a) (l107.len) (l107.cap), .int .u32 (x108), .int .i64 (x109), .int .i64 (x110), .bool (b111)]) ∧ Does Tryd.prog N_ref16_Log_all #[.agg #[.slice (l101.a) (l101.len) (l101.cap), .slice (l102.a) (l102.len) (l102.cap), .bool (b103), .int .i64 (x104), .slice (l105.a) (l105.len) (l105.cap), .int .i64 (x106), .slice (l107.a) (l107.len) (l107.cap), .int .u32 (x108), .int .i64 (x109), .int .i64 (x110), .bool (b111)], .slice (some (a162)) (1) (1), .slice (some (a167)) (1) (1)] w168 fun r169 w170 => ∃ l171 : Sl, ∃ l172 : Sl, ∃ b173 : Bool, ∃ x174 : Int, ∃ l175 : Sl, ∃ x176 : Int, ∃ l177 : Sl, ∃ x178 : Int, ∃ x179 : Int, ∃ x180 : Int, ∃ b181 : Bool, ∃ x182 : Int, r169 = .tuple #[.agg #[.slice (l171.a) (l171.len) (l171.cap), .slice (l172.a) (l172.len) (l172.cap), .bool (b173), .int .i64 (x174), .slice (l175.a) (l175.len) (l175.cap), .int .i64 (x176), .slice (l177.a) (l177.len) (l177.cap), .int .u32 (x178), .int .i64 (x179), .int .i64 (x180), .bool (b181)], .int .i64 (x182)] ∧
        stC w170 (a3) (.slice (l171.a) (l171.len) (l171.cap)) fun w184 => stC w184 ((a3).add 1) (.slice (l172.a) (l172.len) (l172.cap)) fun w185 => stC w185 ((a3).add 2) (.bool (b173)) fun w186 => stC w186 ((a3).add 3) (.int .i64 (x174)) fun w187 => stC w187 ((a3).add 4) (.slice (l175.a) (l175.len) (l175.cap)) fun w188 => stC w188 ((a3).add 5) (.int .i64 (x176)) fun w189 => stC w189 ((a3).add 6) (.slice (l177.a) (l177.len) (l177.cap)) fun w190 => stC w190 ((a3).add 7) (.int .u32 (x178)) fun w191 => stC w191 ((a3).add 8) (.int .i64 (x179)) fun w192 => stC w192 ((a3).add 9) (.int .i64 (x180)) fun w193 => stC w193 ((a3).add 10) (.bool (b181)) fun w194 =>
        ldT (.sl) w194 (a3) fun l195 => ldT (.sl) w194 ((a3).add 1) fun l196 => ldT (.bool) w194 ((a3).add 2) fun b197 => ldT (.int .i64) w194 ((a3).add 3) fun x198 => ldT (.sl) w194 ((a3).add 4) fun l199 => ldT (.int .i64) w194 ((a3).add 5) fun x200 => ldT (.sl) w194 ((a3).add 6) fun l201 => ldT (.int .u32) w194 ((a3).add 7) fun x202 => ldT (.int .i64) w194 ((a3).add 8) fun x203 => ldT (.int .i64) w194 ((a3).add 9) fun x204 => ldT (.bool) w194 ((a3).add 10) fun b205 =>
        Q (.tuple #[.agg #[.slice (l195.a) (l195.len) (l195.cap), .slice (l196.a) (l196.len) (l196.cap), .bool (b197), .int .i64 (x198), .slice (l199.a) (l199.len) (l199.cap), .int .i64 (x200), .slice (l201.a) (l201.len) (l201.cap), .int .u32 (x202), .int .i64 (x203), .int .i64 (x204), .bool (b205)], .int .i64 (x182)]) w194) ∧
       (Does Tryd.prog N_ref16_Sector #[.string ((⟨#[72]⟩ : ByteArray)), .int .u32 (epoch), .string (s161)] w160 fun r206 w207 => ∃ s208 : ByteArray, r206 = .string (s208) ∧
        ((#[.slice (l101.a) (l101.len) (l101.cap), .slice (l102.a) (l102.len) (l102.cap), .bool (b103), .int .i64 (x104), .slice (l105.a) (l105.len) (l105.cap), .int .i64 (x106), .slice (l107.a) (l107.len) (l107.cap), .int .u32 (x108), .int .i64 (x109), .int .i64 (x110), .bool (b111)] : Array Value).size = 11 ∧ RowIs w207 (a53) #[.slice (l101.a) (l101.len) (l101.cap), .slice (l102.a) (l102.len) (l102.cap), .bool (b103), .int .i64 (x104), .slice (l105.a) (l105.len) (l105.cap), .int .i64 (x106), .slice (l107.a) (l107.len) (l107.cap), .int .u32 (x108), .int .i64 (x109), .int .i64 (x110), .bool (b111)]) ∧ (allocK w207 #[.int .i64 (IntKind.wrap .i64 (Int.tmod epoch 2))] T_int fun a209 w210 =>
         ((#[.slice (l101.a) (l101.len) (l101.cap), .slice (l102.a) (l102.len) (l102.cap), .bool (b103), .int .i64 (x104), .slice (l105.a) (l105.len) (l105.cap), .int .i64 (x106), .slice (l107.a) (l107.len) (l107.cap), .int .u32 (x108), .int .i64 (x109), .int .i64 (x110), .bool (b111)] : Array Value).size = 11 ∧ RowIs w210 (a53) #[.slice (l101.a) (l101.len) (l101.cap), .slice (l102.a) (l102.len) (l102.cap), .bool (b103), .int .i64 (x104), .slice (l105.a) (l105.len) (l105.cap), .int .i64 (x106), .slice (l107.a) (l107.len) (l107.cap), .int .u32 (x108), .int .i64 (x109), .int .i64 (x110), .bool (b111)]) ∧ allocK w210 #[.string (s208)] T_string fun a211 w212 =>
         ((#[.slice (l101.a) (l101.len) (l101.cap), .slice (l102.a) (l102.len) (l102.cap), .bool (b103), .int .i64 (x104), .slice (l105.a) (l105.len) (l105.cap), .int .i64 (x106), .slice (l107.a) (l107.len) (l107.cap), .int .u32 (x108), .int .i64 (x109), .int .i64 (x110), .bool (b111)] : Array Value).size = 11 ∧ RowIs w212 (a53) #[.slice (l101.a) (l101.len) (l101.cap), .slice (l102.a) (l102.len) (l102.cap), .bool (b103), .int .i64 (x104), .slice (l105.a) (l105.len) (l105.cap), .int .i64 (x106), .slice (l107.a) (l107.len) (l107.cap), .int .u32 (x108), .int .i64 (x109), .int .i64 (x110), .bool (b111)]) ∧ Does Tryd.prog N_ref16_Log_all #[.agg #[.slice (l101.a) (l101.len) (l101.cap), .slice (l102.a) (l102.len) (l102.cap), .bool (b103), .int .i64 (x104), .slice (l105.a) (l105.len) (l105.cap), .int .i64 (x106), .slice (l107.a) (l107.len) (l107.cap), .int .u32 (x108), .int .i64 (x109), .int .i64 (x110), .bool (b111)], .slice (some (a209)) (1) (1), .slice (some (a211)) (1) (1)] w212 fun r213 w214 => ∃ l215 : Sl, ∃ l216 : Sl, ∃ b217 : Bool, ∃ x218 : Int, ∃ l219 : Sl, ∃ x220 : Int, ∃ l221 : Sl, ∃ x222 : Int, ∃ x223 : Int, ∃ x224 : Int, ∃ b225 : Bool, ∃ x226 : Int, r213 = .tuple #[.agg #[.slice (l215.a) (l215.len) (l215.cap), .slice (l216.a) (l216.len) (l216.cap), .bool (b217), .int .i64 (x218), .slice (l219.a) (l219.len) (l219.cap), .int .i64 (x220), .slice (l221.a) (l221.len) (l221.cap), .int .u32 (x222), .int .i64 (x223), .int .i64 (x224), .bool (b225)], .int .i64 (x226)] ∧
         stC w214 (a3) (.slice (l215.a) (l215.len) (l215.cap)) fun w228 => stC w228 ((a3).add 1) (.slice (l216.a) (l216.len) (l216.cap)) fun w229 => stC w229 ((a3).add 2) (.bool (b217)) fun w230 => stC w230 ((a3).add 3) (.int .i64 (x218)) fun w231 => stC w231 ((a3).add 4) (.slice (l219.a) (l219.len) (l219.cap)) fun w232 => stC w232 ((a3).add 5) (.int .i64 (x220)) fun w233 => stC w233 ((a3).add 6) (.slice (l221.a) (l221.len) (l221.cap)) fun w234 => stC w234 ((a3).add 7) (.int .u32 (x222)) fun w235 => stC w235 ((a3).add 8) (.int .i64 (x223)) fun w236 => stC w236 ((a3).add 9) (.int .i64 (x224)) fun w237 => stC w237 ((a3).add 10) (.bool (b225)) fun w238 =>
         ldT (.sl) w238 (a3) fun l239 => ldT (.sl) w238 ((a3).add 1) fun l240 => ldT (.bool) w238 ((a3).add 2) fun b241 => ldT (.int .i64) w238 ((a3).add 3) fun x242 => ldT (.sl) w238 ((a3).add 4) fun l243 => ldT (.int .i64) w238 ((a3).add 5) fun x244 => ldT (.sl) w238 ((a3).add 6) fun l245 => ldT (.int .u32) w238 ((a3).add 7) fun x246 => ldT (.int .i64) w238 ((a3).add 8) fun x247 => ldT (.int .i64) w238 ((a3).add 9) fun x248 => ldT (.bool) w238 ((a3).add 10) fun b249 =>
         Q (.tuple #[.agg #[.slice (l239.a) (l239.len) (l239.cap), .slice (l240.a) (l240.len) (l240.cap), .bool (b241), .int .i64 (x242), .slice (l243.a) (l243.len) (l243.cap), .int .i64 (x244), .slice (l245.a) (l245.len) (l245.cap), .int .u32 (x246), .int .i64 (x247), .int .i64 (x248), .bool (b249)], .int .i64 (x226)]) w238) ∧
        (allocK w207 #[.string (s208)] T_string fun a250 w251 =>
         ((#[.slice (l101.a) (l101.len) (l101.cap), .slice (l102.a) (l102.len) (l102.cap), .bool (b103), .int .i64 (x104), .slice (l105.a) (l105.len) (l105.cap), .int .i64 (x106), .slice (l107.a) (l107.len) (l107.cap), .int .u32 (x108), .int .i64 (x109), .int .i64 (x110), .bool (b111)] : Array Value).size = 11 ∧ RowIs w251 (a53) #[.slice (l101.a) (l101.len) (l101.cap), .slice (l102.a) (l102.len) (l102.cap), .bool (b103), .int .i64 (x104), .slice (l105.a) (l105.len) (l105.cap), .int .i64 (x106), .slice (l107.a) (l107.len) (l107.cap), .int .u32 (x108), .int .i64 (x109), .int .i64 (x110), .bool (b111)]) ∧ allocK w251 #[.int .i64 (IntKind.wrap .i64 (Int.tmod epoch 2))] T_int fun a252 w253 =>
         ((#[.slice (l101.a) (l101.len) (l101.cap), .slice (l102.a) (l102.len) (l102.cap), .bool (b103), .int .i64 (x104), .slice (l105.a) (l105.len) (l105.cap), .int .i64 (x106), .slice (l107.a) (l107.len) (l107.cap), .int .u32 (x108), .int .i64 (x109), .int .i64 (x110), .bool (b111)] : Array Value).size = 11 ∧ RowIs w253 (a53) #[.slice (l101.a) (l101.len) (l101.cap), .slice (l102.a) (l102.len) (l102.cap), .bool (b103), .int .i64 (x104), .slice (l105.a) (l105.len) (l105.cap), .int .i64 (x106), .slice (l107.a) (l107.len) (l107.cap), .int .u32 (x108), .int .i64 (x109), .int .i64 (x110), .bool (b111)]) ∧ Does Tryd.prog N_ref16_Log_all #[.agg #[.slice (l101.a) (l101.len) (l101.cap), .slice (l102.a) (l102.len) (l102.cap), .bool (b103), .int .i64 (x104), .slice (l105.a) (l105.len) (l105.cap), .int .i64 (x106), .slice (l107.a) (l107.len) (l107.cap), .int .u32 (x108), .int .i64 (x109), .int .i64 (x110), .bool (b111)], .slice (some (a252)) (1) (1), .slice (some (a250)) (1) (1)] w253 fun r254 w255 => ∃ l256 : Sl, ∃ l257 : Sl, ∃ b258 : Bool, ∃ x259 : Int, ∃ l260 : Sl, ∃ x261 : Int, ∃ l262 : Sl, ∃ x263 : Int, ∃ x264 : Int, ∃ x265 : Int, ∃ b266 : Bool, ∃ x267 : Int, r254 = .tuple #[.agg #[.slice (l256.a) (l256.len) (l256.cap), .slice (l257.a) (l257.len) (l257.cap), .bool (b258), .int .i64 (x259), .slice (l260.a) (l260.len) (l260.cap), .int .i64 (x261), .slice (l262.a) (l262.len) (l262.cap), .int .u32 (x263), .int .i64 (x264), .int .i64 (x265), .bool (b266)], .int .i64 (x267)] ∧
         stC w255 (a3) (.slice (l256.a) (l256.len) (l256.cap)) fun w269 => stC w269 ((a3).add 1) (.slice (l257.a) (l257.len) (l257.cap)) fun w270 => stC w270 ((a3).add 2) (.bool (b258)) fun w271 => stC w271 ((a3).add 3) (.int .i64 (x259)) fun w272 => stC w272 ((a3).add 4) (.slice (l260.a) (l260.len) (l260.cap)) fun w273 => stC w273 ((a3).add 5) (.int .i64 (x261)) fun w274 => stC w274 ((a3).add 6) (.slice (l262.a) (l262.len) (l262.cap)) fun w275 => stC w275 ((a3).add 7) (.int .u32 (x263)) fun w276 => stC w276 ((a3).add 8) (.int .i64 (x264)) fun w277 => stC w277 ((a3).add 9) (.int .i64 (x265)) fun w278 => stC w278 ((a3).add 10) (.bool (b266)) fun w279 =>
         ldT (.sl) w279 (a3) fun l280 => ldT (.sl) w279 ((a3).add 1) fun l281 => ldT (.bool) w279 ((a3).add 2) fun b282 => ldT (.int .i64) w279 ((a3).add 3) fun x283 => ldT (.sl) w279 ((a3).add 4) fun l284 => ldT (.int .i64) w279 ((a3).add 5) fun x285 => ldT (.sl) w279 ((a3).add 6) fun l286 => ldT (.int .u32) w279 ((a3).add 7) fun x287 => ldT (.int .i64) w279 ((a3).add 8) fun x288 => ldT (.int .i64) w279 ((a3).add 9) fun x289 => ldT (.bool) w279 ((a3).add 10) fun b290 =>
         Q (.tuple #[.agg #[.slice (l280.a) (l280.len) (l280.cap), .slice (l281.a) (l281.len) (l281.cap), .bool (b282), .int .i64 (x283), .slice (l284.a) (l284.len) (l284.cap), .int .i64 (x285), .slice (l286.a) (l286.len) (l286.cap), .int .u32 (x287), .int .i64 (x288), .int .i64 (x289), .bool (b290)], .int .i64 (x267)]) w279)))))
def A_ref16_Log_settle : Ann := ⟨[(2, [(3, .one (.sl)), (4, .one (.sl)), (12, .one (.int .i64))])], [], [(5, [⟨0, 0, 0, true⟩, ⟨0, 0, 0, true⟩, ⟨0, 0, 0, true⟩, ⟨4, 0, 4, false⟩, ⟨0, 0, 0, true⟩, ⟨16, 16, 16, true⟩, ⟨0, 0, 0, true⟩, ⟨96, 96, 112, true⟩, ⟨128, 128, 240, true⟩, ⟨264, 264, 508, true⟩, ⟨522, 0, 1022, false⟩, ⟨1024, 0, 2046, false⟩, ⟨3073, 0, 4095, false⟩, ⟨8191, 4097, 8191, true⟩]), (9, [⟨0, 0, 0, true⟩, ⟨0, 0, 0, true⟩, ⟨2, 2, 2, true⟩, ⟨4, 4, 6, true⟩, ⟨8, 0, 14, false⟩, ⟨0, 0, 0, true⟩, ⟨0, 0, 0, true⟩, ⟨64, 0, 64, false⟩, ⟨160, 0, 224, false⟩, ⟨256, 0, 480, false⟩, ⟨785, 0, 1023, false⟩, ⟨1024, 1024, 2047, true⟩, ⟨1024, 1024, 2047, true⟩, ⟨8191, 0, 8191, false⟩, ⟨16383, 4096, 16383, true⟩])]⟩
theorem F_ref16_Log_settle_eq (w_0 : Sl) (w_1 : Sl) (w_2 : Bool) (w_3 : Int) (w_4 : Sl) (w_5 : Int) (w_6 : Sl) (w_7 : Int) (w_8 : Int) (w_9 : Int) (w_10 : Bool) (epoch : Int) (home : Int) (at_ : Sl) (l : Sl) (w : World) (Q : Value → World → Prop) : vcFn Tryd.prog A_ref16_Log_settle Tryd.f78 #[.agg #[.slice (w_0.a) (w_0.len) (w_0.cap), .slice (w_1.a) (w_1.len) (w_1.cap), .bool (w_2), .int .i64 (w_3), .slice (w_4.a) (w_4.len) (w_4.cap), .int .i64 (w_5), .slice (w_6.a) (w_6.len) (w_6.cap), .int .u32 (w_7), .int .i64 (w_8), .int .i64 (w_9), .bool (w_10)], .int .u32 (epoch), .int .i64 (home), .slice (at_.a) (at_.len) (at_.cap), .slice (l.a) (l.len) (l.cap)] w Q = F_ref16_Log_settle w_0 w_1 w_2 w_3 w_4 w_5 w_6 w_7 w_8 w_9 w_10 epoch home at_ l w Q := by kernel_rfl
theorem F_ref16_Log_settle_does (w_0 : Sl) (w_1 : Sl) (w_2 : Bool) (w_3 : Int) (w_4 : Sl) (w_5 : Int) (w_6 : Sl) (w_7 : Int) (w_8 : Int) (w_9 : Int) (w_10 : Bool) (epoch : Int) (home : Int) (at_ : Sl) (l : Sl) (w : World) (Q : Value → World → Prop) (hQ : F_ref16_Log_settle w_0 w_1 w_2 w_3 w_4 w_5 w_6 w_7 w_8 w_9 w_10 epoch home at_ l w Q) : Does Tryd.prog N_ref16_Log_settle #[.agg #[.slice (w_0.a) (w_0.len) (w_0.cap), .slice (w_1.a) (w_1.len) (w_1.cap), .bool (w_2), .int .i64 (w_3), .slice (w_4.a) (w_4.len) (w_4.cap), .int .i64 (w_5), .slice (w_6.a) (w_6.len) (w_6.cap), .int .u32 (w_7), .int .i64 (w_8), .int .i64 (w_9), .bool (w_10)], .int .u32 (epoch), .int .i64 (home), .slice (at_.a) (at_.len) (at_.cap), .slice (l.a) (l.len) (l.cap)] w Q :=
  vcFn_sound noAsk mixed (A := A_ref16_Log_settle) (by kernel_rfl) Tryd.func78 (Nat.le_of_ble_eq_true (by kernel_rfl)) (by kernel_rfl) ((F_ref16_Log_settle_eq w_0 w_1 w_2 w_3 w_4 w_5 w_6 w_7 w_8 w_9 w_10 epoch home at_ l w Q).mpr hQ)

/- nacelle/nacelleref16.one -/
def F_ref16_one (n : Int) (w : World) (Q : Value → World → Prop) : Prop :=
  allocK w #[.int .u8 (IntKind.wrap .u8 n)] T_uint8 fun a1 w2 =>
  lookS Tryd.prog w2 (convert T_l_uint8 T_string (.slice (some (a1)) (1) (1))) fun s3 =>
  Q (.string (s3)) w2
def A_ref16_one : Ann := ⟨[], [], []⟩
theorem F_ref16_one_eq (n : Int) (w : World) (Q : Value → World → Prop) : vcFn Tryd.prog A_ref16_one Tryd.f79 #[.int .i64 (n)] w Q = F_ref16_one n w Q := by kernel_rfl
theorem F_ref16_one_does (n : Int) (w : World) (Q : Value → World → Prop) (hQ : F_ref16_one n w Q) : Does Tryd.prog N_ref16_one #[.int .i64 (n)] w Q :=
  vcFn_sound noAsk mixed (A := A_ref16_one) (by kernel_rfl) Tryd.func79 (Nat.le_of_ble_eq_true (by kernel_rfl)) (by kernel_rfl) ((F_ref16_one_eq n w Q).mpr hQ)

/- (nacelle/nacelleref16.Log).all -/
def F_ref16_Log_all (w_0 : Sl) (w_1 : Sl) (w_2 : Bool) (w_3 : Int) (w_4 : Sl) (w_5 : Int) (w_6 : Sl) (w_7 : Int) (w_8 : Int) (w_9 : Int) (w_10 : Bool) (at_ : Sl) (l : Sl) (w : World) (Q : Value → World → Prop) : Prop :=
  allocK w (#[.slice (w_0.a) (w_0.len) (w_0.cap), .slice (w_1.a) (w_1.len) (w_1.cap), .bool (w_2), .int .i64 (w_3), .slice (w_4.a) (w_4.len) (w_4.cap), .int .i64 (w_5), .slice (w_6.a) (w_6.len) (w_6.cap), .int .u32 (w_7), .int .i64 (w_8), .int .i64 (w_9), .bool (w_10)]) T_ref16_Log fun a1 w2 =>
  allocK w2 (zc Tryd.prog T_ref16_Log) T_ref16_Log fun a3 w4 =>
  ∃ (I7 : Int → World → Prop) (M8 : Int → World → Nat), I7 0 w4 ∧
  ∀ i5 : Int, ∀ w6 : World, I7 i5 w6 →
    cond (decide ((i5 : Int) < (((at_.len : Nat) : Int))))
    (∀ J10 : World → Prop, (∀ w9 : World, 
       (I7 (IntKind.wrap .i64 (i5 + 1)) w9 ∧ M8 (IntKind.wrap .i64 (i5 + 1)) w9 < M8 i5 w6) → J10 w9) →
     ∀ J14 : Addr → Int → World → Prop, (∀ x11 : Addr, ∀ e12 : Int, ∀ w13 : World, 
       (cond ((e12 : Int) != 0)
       (ldT (.sl) w13 (x11) fun l15 => ldT (.sl) w13 ((x11).add 1) fun l16 => ldT (.bool) w13 ((x11).add 2) fun b17 => ldT (.int .i64) w13 ((x11).add 3) fun x18 => ldT (.sl) w13 ((x11).add 4) fun l19 => ldT (.int .i64) w13 ((x11).add 5) fun x20 => ldT (.sl) w13 ((x11).add 6) fun l21 => ldT (.int .u32) w13 ((x11).add 7) fun x22 => ldT (.int .i64) w13 ((x11).add 8) fun x23 => ldT (.int .i64) w13 ((x11).add 9) fun x24 => ldT (.bool) w13 ((x11).add 10) fun b25 =>
        stC w13 (a3) (.slice (l15.a) (l15.len) (l15.cap)) fun w27 => stC w27 ((a3).add 1) (.slice (l16.a) (l16.len) (l16.cap)) fun w28 => stC w28 ((a3).add 2) (.bool (b17)) fun w29 => stC w29 ((a3).add 3) (.int .i64 (x18)) fun w30 => stC w30 ((a3).add 4) (.slice (l19.a) (l19.len) (l19.cap)) fun w31 => stC w31 ((a3).add 5) (.int .i64 (x20)) fun w32 => stC w32 ((a3).add 6) (.slice (l21.a) (l21.len) (l21.cap)) fun w33 => stC w33 ((a3).add 7) (.int .u32 (x22)) fun w34 => stC w34 ((a3).add 8) (.int .i64 (x23)) fun w35 => stC w35 ((a3).add 9) (.int .i64 (x24)) fun w36 => stC w36 ((a3).add 10) (.bool (b25)) fun w37 =>
        ldT (.sl) w37 (a3) fun l38 => ldT (.sl) w37 ((a3).add 1) fun l39 => ldT (.bool) w37 ((a3).add 2) fun b40 => ldT (.int .i64) w37 ((a3).add 3) fun x41 => ldT (.sl) w37 ((a3).add 4) fun l42 => ldT (.int .i64) w37 ((a3).add 5) fun x43 => ldT (.sl) w37 ((a3).add 6) fun l44 => ldT (.int .u32) w37 ((a3).add 7) fun x45 => ldT (.int .i64) w37 ((a3).add 8) fun x46 => ldT (.int .i64) w37 ((a3).add 9) fun x47 => ldT (.bool) w37 ((a3).add 10) fun b48 =>
        Q (.tuple #[.agg #[.slice (l38.a) (l38.len) (l38.cap), .slice (l39.a) (l39.len) (l39.cap), .bool (b40), .int .i64 (x41), .slice (l42.a) (l42.len) (l42.cap), .int .i64 (x43), .slice (l44.a) (l44.len) (l44.cap), .int .u32 (x45), .int .i64 (x46), .int .i64 (x47), .bool (b48)], .int .i64 (e12)]) w37)
       (ldT (.sl) w13 (x11) fun l49 => ldT (.sl) w13 ((x11).add 1) fun l50 => ldT (.bool) w13 ((x11).add 2) fun b51 => ldT (.int .i64) w13 ((x11).add 3) fun x52 => ldT (.sl) w13 ((x11).add 4) fun l53 => ldT (.int .i64) w13 ((x11).add 5) fun x54 => ldT (.sl) w13 ((x11).add 6) fun l55 => ldT (.int .u32) w13 ((x11).add 7) fun x56 => ldT (.int .i64) w13 ((x11).add 8) fun x57 => ldT (.int .i64) w13 ((x11).add 9) fun x58 => ldT (.bool) w13 ((x11).add 10) fun b59 =>
        stC w13 (a1) (.slice (l49.a) (l49.len) (l49.cap)) fun w61 => stC w61 ((a1).add 1) (.slice (l50.a) (l50.len) (l50.cap)) fun w62 => stC w62 ((a1).add 2) (.bool (b51)) fun w63 => stC w63 ((a1).add 3) (.int .i64 (x52)) fun w64 => stC w64 ((a1).add 4) (.slice (l53.a) (l53.len) (l53.cap)) fun w65 => stC w65 ((a1).add 5) (.int .i64 (x54)) fun w66 => stC w66 ((a1).add 6) (.slice (l55.a) (l55.len) (l55.cap)) fun w67 => stC w67 ((a1).add 7) (.int .u32 (x56)) fun w68 => stC w68 ((a1).add 8) (.int .i64 (x57)) fun w69 => stC w69 ((a1).add 9) (.int .i64 (x58)) fun w70 => stC w70 ((a1).add 10) (.bool (b59)) fun w71 =>
        J10 w71)) → J14 x11 e12 w13) →
     ldT (.sl) w6.drew (a1) fun l72 => ldT (.sl) w6.drew ((a1).add 1) fun l73 => ldT (.bool) w6.drew ((a1).add 2) fun b74 => ldT (.int .i64) w6.drew ((a1).add 3) fun x75 => ldT (.sl) w6.drew ((a1).add 4) fun l76 => ldT (.int .i64) w6.drew ((a1).add 5) fun x77 => ldT (.sl) w6.drew ((a1).add 6) fun l78 => ldT (.int .u32) w6.drew ((a1).add 7) fun x79 => ldT (.int .i64) w6.drew ((a1).add 8) fun x80 => ldT (.int .i64) w6.drew ((a1).add 9) fun x81 => ldT (.bool) w6.drew ((a1).add 10) fun b82 =>
     idx (at_.a) (at_.len) (i5) 1 fun a83 =>
     ldT (.int .i64) w6.drew (a83) fun x84 =>
     idx (l.a) (l.len) (i5) 1 fun a85 =>
     ldT (.str) w6.drew (a85) fun s86 =>
     (Does Tryd.prog N_ref16_Log_write #[.agg #[.slice (l72.a) (l72.len) (l72.cap), .slice (l73.a) (l73.len) (l73.cap), .bool (b74), .int .i64 (x75), .slice (l76.a) (l76.len) (l76.cap), .int .i64 (x77), .slice (l78.a) (l78.len) (l78.cap), .int .u32 (x79), .int .i64 (x80), .int .i64 (x81), .bool (b82)], .int .i64 (x84), .string (s86)] w6.drew fun r87 w88 => ∃ l89 : Sl, ∃ l90 : Sl, ∃ b91 : Bool, ∃ x92 : Int, ∃ l93 : Sl, ∃ x94 : Int, ∃ l95 : Sl, ∃ x96 : Int, ∃ x97 : Int, ∃ x98 : Int, ∃ b99 : Bool, ∃ x100 : Int, r87 = .tuple #[.agg #[.slice (l89.a) (l89.len) (l89.cap), .slice (l90.a) (l90.len) (l90.cap), .bool (b91), .int .i64 (x92), .slice (l93.a) (l93.len) (l93.cap), .int .i64 (x94), .slice (l95.a) (l95.len) (l95.cap), .int .u32 (x96), .int .i64 (x97), .int .i64 (x98), .bool (b99)], .int .i64 (x100)] ∧
      allocK w88 (zc Tryd.prog T_ref16_Log) T_ref16_Log fun a101 w102 =>
      stC w102 (a101) (.slice (l89.a) (l89.len) (l89.cap)) fun w104 => stC w104 ((a101).add 1) (.slice (l90.a) (l90.len) (l90.cap)) fun w105 => stC w105 ((a101).add 2) (.bool (b91)) fun w106 => stC w106 ((a101).add 3) (.int .i64 (x92)) fun w107 => stC w107 ((a101).add 4) (.slice (l93.a) (l93.len) (l93.cap)) fun w108 => stC w108 ((a101).add 5) (.int .i64 (x94)) fun w109 => stC w109 ((a101).add 6) (.slice (l95.a) (l95.len) (l95.cap)) fun w110 => stC w110 ((a101).add 7) (.int .u32 (x96)) fun w111 => stC w111 ((a101).add 8) (.int .i64 (x97)) fun w112 => stC w112 ((a101).add 9) (.int .i64 (x98)) fun w113 => stC w113 ((a101).add 10) (.bool (b99)) fun w114 =>
      J14 (a101) x100 w114) ∧
     (allocK w6.drew (zc Tryd.prog T_ref16_Log) T_ref16_Log fun a115 w116 =>
      w116.cell? (a85) = some (.string (s86)) ∧ w116.cell? (a83) = some (.int .i64 (x84)) ∧ ((#[.slice (l72.a) (l72.len) (l72.cap), .slice (l73.a) (l73.len) (l73.cap), .bool (b74), .int .i64 (x75), .slice (l76.a) (l76.len) (l76.cap), .int .i64 (x77), .slice (l78.a) (l78.len) (l78.cap), .int .u32 (x79), .int .i64 (x80), .int .i64 (x81), .bool (b82)] : Array Value).size = 11 ∧ RowIs w116 (a1) #[.slice (l72.a) (l72.len) (l72.cap), .slice (l73.a) (l73.len) (l73.cap), .bool (b74), .int .i64 (x75), .slice (l76.a) (l76.len) (l76.cap), .int .i64 (x77), .slice (l78.a) (l78.len) (l78.cap), .int .u32 (x79), .int .i64 (x80), .int .i64 (x81), .bool (b82)]) ∧ Does Tryd.prog N_ref16_Log_write #[.agg #[.slice (l72.a) (l72.len) (l72.cap), .slice (l73.a) (l73.len) (l73.cap), .bool (b74), .int .i64 (x75), .slice (l76.a) (l76.len) (l76.cap), .int .i64 (x77), .slice (l78.a) (l78.len) (l78.cap), .int .u32 (x79), .int .i64 (x80), .int .i64 (x81), .bool (b82)], .int .i64 (x84), .string (s86)] w116 fun r117 w118 => ∃ l119 : Sl, ∃ l120 : Sl, ∃ b121 : Bool, ∃ x122 : Int, ∃ l123 : Sl, ∃ x124 : Int, ∃ l125 : Sl, ∃ x126 : Int, ∃ x127 : Int, ∃ x128 : Int, ∃ b129 : Bool, ∃ x130 : Int, r117 = .tuple #[.agg #[.slice (l119.a) (l119.len) (l119.cap), .slice (l120.a) (l120.len) (l120.cap), .bool (b121), .int .i64 (x122), .slice (l123.a) (l123.len) (l123.cap), .int .i64 (x124), .slice (l125.a) (l125.len) (l125.cap), .int .u32 (x126), .int .i64 (x127), .int .i64 (x128), .bool (b129)], .int .i64 (x130)] ∧
      stC w118 (a115) (.slice (l119.a) (l119.len) (l119.cap)) fun w132 => stC w132 ((a115).add 1) (.slice (l120.a) (l120.len) (l120.cap)) fun w133 => stC w133 ((a115).add 2) (.bool (b121)) fun w134 => stC w134 ((a115).add 3) (.int .i64 (x122)) fun w135 => stC w135 ((a115).add 4) (.slice (l123.a) (l123.len) (l123.cap)) fun w136 => stC w136 ((a115).add 5) (.int .i64 (x124)) fun w137 => stC w137 ((a115).add 6) (.slice (l125.a) (l125.len) (l125.cap)) fun w138 => stC w138 ((a115).add 7) (.int .u32 (x126)) fun w139 => stC w139 ((a115).add 8) (.int .i64 (x127)) fun w140 => stC w140 ((a115).add 9) (.int .i64 (x128)) fun w141 => stC w141 ((a115).add 10) (.bool (b129)) fun w142 =>
      J14 (a115) x130 w142))
    (ldT (.sl) w6 (a1) fun l143 => ldT (.sl) w6 ((a1).add 1) fun l144 => ldT (.bool) w6 ((a1).add 2) fun b145 => ldT (.int .i64) w6 ((a1).add 3) fun x146 => ldT (.sl) w6 ((a1).add 4) fun l147 => ldT (.int .i64) w6 ((a1).add 5) fun x148 => ldT (.sl) w6 ((a1).add 6) fun l149 => ldT (.int .u32) w6 ((a1).add 7) fun x150 => ldT (.int .i64) w6 ((a1).add 8) fun x151 => ldT (.int .i64) w6 ((a1).add 9) fun x152 => ldT (.bool) w6 ((a1).add 10) fun b153 =>
     Does Tryd.prog N_ref16_Log_flush #[.agg #[.slice (l143.a) (l143.len) (l143.cap), .slice (l144.a) (l144.len) (l144.cap), .bool (b145), .int .i64 (x146), .slice (l147.a) (l147.len) (l147.cap), .int .i64 (x148), .slice (l149.a) (l149.len) (l149.cap), .int .u32 (x150), .int .i64 (x151), .int .i64 (x152), .bool (b153)]] w6 fun r154 w155 => ∃ l156 : Sl, ∃ l157 : Sl, ∃ b158 : Bool, ∃ x159 : Int, ∃ l160 : Sl, ∃ x161 : Int, ∃ l162 : Sl, ∃ x163 : Int, ∃ x164 : Int, ∃ x165 : Int, ∃ b166 : Bool, ∃ x167 : Int, r154 = .tuple #[.agg #[.slice (l156.a) (l156.len) (l156.cap), .slice (l157.a) (l157.len) (l157.cap), .bool (b158), .int .i64 (x159), .slice (l160.a) (l160.len) (l160.cap), .int .i64 (x161), .slice (l162.a) (l162.len) (l162.cap), .int .u32 (x163), .int .i64 (x164), .int .i64 (x165), .bool (b166)], .int .i64 (x167)] ∧
     stC w155 (a3) (.slice (l156.a) (l156.len) (l156.cap)) fun w169 => stC w169 ((a3).add 1) (.slice (l157.a) (l157.len) (l157.cap)) fun w170 => stC w170 ((a3).add 2) (.bool (b158)) fun w171 => stC w171 ((a3).add 3) (.int .i64 (x159)) fun w172 => stC w172 ((a3).add 4) (.slice (l160.a) (l160.len) (l160.cap)) fun w173 => stC w173 ((a3).add 5) (.int .i64 (x161)) fun w174 => stC w174 ((a3).add 6) (.slice (l162.a) (l162.len) (l162.cap)) fun w175 => stC w175 ((a3).add 7) (.int .u32 (x163)) fun w176 => stC w176 ((a3).add 8) (.int .i64 (x164)) fun w177 => stC w177 ((a3).add 9) (.int .i64 (x165)) fun w178 => stC w178 ((a3).add 10) (.bool (b166)) fun w179 =>
     ldT (.sl) w179 (a3) fun l180 => ldT (.sl) w179 ((a3).add 1) fun l181 => ldT (.bool) w179 ((a3).add 2) fun b182 => ldT (.int .i64) w179 ((a3).add 3) fun x183 => ldT (.sl) w179 ((a3).add 4) fun l184 => ldT (.int .i64) w179 ((a3).add 5) fun x185 => ldT (.sl) w179 ((a3).add 6) fun l186 => ldT (.int .u32) w179 ((a3).add 7) fun x187 => ldT (.int .i64) w179 ((a3).add 8) fun x188 => ldT (.int .i64) w179 ((a3).add 9) fun x189 => ldT (.bool) w179 ((a3).add 10) fun b190 =>
     Q (.tuple #[.agg #[.slice (l180.a) (l180.len) (l180.cap), .slice (l181.a) (l181.len) (l181.cap), .bool (b182), .int .i64 (x183), .slice (l184.a) (l184.len) (l184.cap), .int .i64 (x185), .slice (l186.a) (l186.len) (l186.cap), .int .u32 (x187), .int .i64 (x188), .int .i64 (x189), .bool (b190)], .int .i64 (x167)]) w179)
def A_ref16_Log_all : Ann := ⟨[(2, [(8, .one (.int .i64))])], [(3, []), (5, [(9, .one (.adr)), (10, .one (.int .i64))])], [(4, [⟨0, 0, 0, true⟩, ⟨0, 0, 0, true⟩, ⟨0, 0, 0, true⟩, ⟨6, 6, 6, true⟩, ⟨8, 8, 14, true⟩, ⟨0, 0, 0, true⟩, ⟨0, 0, 0, true⟩, ⟨96, 96, 96, true⟩, ⟨128, 128, 224, true⟩, ⟨273, 0, 511, false⟩, ⟨512, 512, 1023, true⟩, ⟨1024, 1024, 2047, true⟩, ⟨1024, 1024, 2047, true⟩, ⟨0, 0, 0, false⟩, ⟨12287, 0, 12287, false⟩, ⟨32767, 4096, 32767, true⟩])]⟩
theorem F_ref16_Log_all_eq (w_0 : Sl) (w_1 : Sl) (w_2 : Bool) (w_3 : Int) (w_4 : Sl) (w_5 : Int) (w_6 : Sl) (w_7 : Int) (w_8 : Int) (w_9 : Int) (w_10 : Bool) (at_ : Sl) (l : Sl) (w : World) (Q : Value → World → Prop) : vcFn Tryd.prog A_ref16_Log_all Tryd.f80 #[.agg #[.slice (w_0.a) (w_0.len) (w_0.cap), .slice (w_1.a) (w_1.len) (w_1.cap), .bool (w_2), .int .i64 (w_3), .slice (w_4.a) (w_4.len) (w_4.cap), .int .i64 (w_5), .slice (w_6.a) (w_6.len) (w_6.cap), .int .u32 (w_7), .int .i64 (w_8), .int .i64 (w_9), .bool (w_10)], .slice (at_.a) (at_.len) (at_.cap), .slice (l.a) (l.len) (l.cap)] w Q = F_ref16_Log_all w_0 w_1 w_2 w_3 w_4 w_5 w_6 w_7 w_8 w_9 w_10 at_ l w Q := by kernel_rfl
theorem F_ref16_Log_all_does (w_0 : Sl) (w_1 : Sl) (w_2 : Bool) (w_3 : Int) (w_4 : Sl) (w_5 : Int) (w_6 : Sl) (w_7 : Int) (w_8 : Int) (w_9 : Int) (w_10 : Bool) (at_ : Sl) (l : Sl) (w : World) (Q : Value → World → Prop) (hQ : F_ref16_Log_all w_0 w_1 w_2 w_3 w_4 w_5 w_6 w_7 w_8 w_9 w_10 at_ l w Q) : Does Tryd.prog N_ref16_Log_all #[.agg #[.slice (w_0.a) (w_0.len) (w_0.cap), .slice (w_1.a) (w_1.len) (w_1.cap), .bool (w_2), .int .i64 (w_3), .slice (w_4.a) (w_4.len) (w_4.cap), .int .i64 (w_5), .slice (w_6.a) (w_6.len) (w_6.cap), .int .u32 (w_7), .int .i64 (w_8), .int .i64 (w_9), .bool (w_10)], .slice (at_.a) (at_.len) (at_.cap), .slice (l.a) (l.len) (l.cap)] w Q :=
  vcFn_sound noAsk mixed (A := A_ref16_Log_all) (by kernel_rfl) Tryd.func80 (Nat.le_of_ble_eq_true (by kernel_rfl)) (by kernel_rfl) ((F_ref16_Log_all_eq w_0 w_1 w_2 w_3 w_4 w_5 w_6 w_7 w_8 w_9 w_10 at_ l w Q).mpr hQ)

/- nacelle/extent.Place -/
def F_extent_Place (x0 : Int) (x1 : Int) (at_ : Int) (w : World) (Q : Value → World → Prop) : Prop :=
  allocK w (#[.int .i64 (x0), .int .i64 (x1)]) T_extent_Extent fun a1 w2 =>
  ∀ J4 : World → Prop, (∀ w3 : World, 
    (ldT (.int .i64) w3 (a1) fun x5 =>
    Q (.tuple #[.int .i64 (IntKind.wrap .i64 (x5 + at_)), .int .i64 (0)]) w3) → J4 w3) →
  cond (decide ((at_ : Int) < 0))
  (Q (.tuple #[.int .i64 (0), .int .i64 (4)]) w2)
  (ldT (.int .i64) w2 ((a1).add 1) fun x6 =>
   cond (decide ((at_ : Int) ≥ x6))
   (Q (.tuple #[.int .i64 (0), .int .i64 (4)]) w2)
   (ldT (.int .i64) w2 (a1) fun x7 =>
    cond (decide ((x7 : Int) > 0))
    (ldT (.int .i64) w2 (a1) fun x8 =>
     cond (decide ((at_ : Int) > (IntKind.wrap .i64 (9223372036854775807 - x8))))
     (Q (.tuple #[.int .i64 (0), .int .i64 (4)]) w2)
     (J4 w2))
    (J4 w2)))
def A_extent_Place : Ann := ⟨[], [(3, [])], []⟩
theorem F_extent_Place_eq (x0 : Int) (x1 : Int) (at_ : Int) (w : World) (Q : Value → World → Prop) : vcFn Tryd.prog A_extent_Place Tryd.f81 #[.agg #[.int .i64 (x0), .int .i64 (x1)], .int .i64 (at_)] w Q = F_extent_Place x0 x1 at_ w Q := by kernel_rfl
theorem F_extent_Place_does (x0 : Int) (x1 : Int) (at_ : Int) (w : World) (Q : Value → World → Prop) (hQ : F_extent_Place x0 x1 at_ w Q) : Does Tryd.prog N_extent_Place #[.agg #[.int .i64 (x0), .int .i64 (x1)], .int .i64 (at_)] w Q :=
  vcFn_sound noAsk mixed (A := A_extent_Place) (by kernel_rfl) Tryd.func81 (Nat.le_of_ble_eq_true (by kernel_rfl)) (by kernel_rfl) ((F_extent_Place_eq x0 x1 at_ w Q).mpr hQ)

/- (*nacelle/disk.Disk).Write -/
def F_disk_Disk_Write (d : Option Addr) (at_ : Int) (b : Sl) (w : World) (Q : Value → World → Prop) : Prop :=
  Does Tryd.prog N_disk_Disk_in #[.pointer (d), .int .i64 (at_)] w fun r1 w2 => ∃ b3 : Bool, r1 = .bool (b3) ∧
  cond (!b3)
  (Q (.int .i64 (4)) w2)
  (cond (((((b.len : Nat) : Int)) : Int) != 64)
   (Q (.int .i64 (1)) w2)
   (Does Tryd.prog N_disk_Disk_goes #[.pointer (d)] w2 fun r4 w5 => ∃ b6 : Bool, r4 = .bool (b6) ∧
    cond (!b6)
    (Q (.int .i64 (9)) w5)
    (nnil (d) fun a7 =>
     ldT (.sl) w5.drew ((a7).add 1) fun l8 =>
     runG (.sl) Tryd.prog w5.drew (Builtin.append_ #[T_l_uint8, T_l_uint8] T_l_uint8 #[.slice (none) (0) (0), .slice (b.a) (b.len) (b.cap)]) fun l9 w10 =>
     w10.cell? ((a7).add 1) = some (.slice (l8.a) (l8.len) (l8.cap)) ∧ allocK w10 #[.int .i64 (at_), .slice (l9.a) (l9.len) (l9.cap)] T_disk_write fun a11 w12 =>
     w12.cell? ((a7).add 1) = some (.slice (l8.a) (l8.len) (l8.cap)) ∧ runG (.sl) Tryd.prog w12 (Builtin.append_ #[T_l_disk_write, T_l_disk_write] T_l_disk_write #[.slice (l8.a) (l8.len) (l8.cap), .slice (some (a11)) (1) (1)]) fun l13 w14 =>
     nnil (d) fun a15 =>
     stC w14 ((a15).add 1) (.slice (l13.a) (l13.len) (l13.cap)) fun w16 =>
     Q (.int .i64 (0)) w16)))
def A_disk_Disk_Write : Ann := ⟨[], [], [(7, [⟨0, 0, 0, true⟩, ⟨0, 0, 0, true⟩, ⟨2, 2, 2, true⟩, ⟨4, 4, 6, true⟩, ⟨8, 8, 14, true⟩, ⟨0, 0, 0, true⟩, ⟨0, 0, 0, true⟩, ⟨64, 0, 64, false⟩, ⟨160, 160, 224, true⟩, ⟨256, 0, 480, false⟩, ⟨656, 0, 1022, false⟩, ⟨2047, 1, 2047, true⟩, ⟨4095, 2048, 4095, true⟩, ⟨6143, 0, 8191, false⟩])]⟩
theorem F_disk_Disk_Write_eq (d : Option Addr) (at_ : Int) (b : Sl) (w : World) (Q : Value → World → Prop) : vcFn Tryd.prog A_disk_Disk_Write Tryd.f82 #[.pointer (d), .int .i64 (at_), .slice (b.a) (b.len) (b.cap)] w Q = F_disk_Disk_Write d at_ b w Q := by kernel_rfl
theorem F_disk_Disk_Write_does (d : Option Addr) (at_ : Int) (b : Sl) (w : World) (Q : Value → World → Prop) (hQ : F_disk_Disk_Write d at_ b w Q) : Does Tryd.prog N_disk_Disk_Write #[.pointer (d), .int .i64 (at_), .slice (b.a) (b.len) (b.cap)] w Q :=
  vcFn_sound noAsk mixed (A := A_disk_Disk_Write) (by kernel_rfl) Tryd.func82 (Nat.le_of_ble_eq_true (by kernel_rfl)) (by kernel_rfl) ((F_disk_Disk_Write_eq d at_ b w Q).mpr hQ)

/- (nacelle/nacelleref05.Disk).step -/
def F_ref05_Disk_step (d0 : Sl) (d1 : Sl) (d2 : Bool) (d3 : Int) (d4 : Sl) (w : World) (Q : Value → World → Prop) : Prop :=
  allocK w (#[.slice (d0.a) (d0.len) (d0.cap), .slice (d1.a) (d1.len) (d1.cap), .bool (d2), .int .i64 (d3), .slice (d4.a) (d4.len) (d4.cap)]) T_ref05_Disk fun a1 w2 =>
  allocK w2 (zc Tryd.prog T_ref05_Disk) T_ref05_Disk fun a3 w4 =>
  ldT (.bool) w4 ((a1).add 2) fun b5 =>
  cond (b5)
  (ldT (.sl) w4 (a1) fun l6 => ldT (.sl) w4 ((a1).add 1) fun l7 => ldT (.bool) w4 ((a1).add 2) fun b8 => ldT (.int .i64) w4 ((a1).add 3) fun x9 => ldT (.sl) w4 ((a1).add 4) fun l10 =>
   stC w4 (a3) (.slice (l6.a) (l6.len) (l6.cap)) fun w12 => stC w12 ((a3).add 1) (.slice (l7.a) (l7.len) (l7.cap)) fun w13 => stC w13 ((a3).add 2) (.bool (b8)) fun w14 => stC w14 ((a3).add 3) (.int .i64 (x9)) fun w15 => stC w15 ((a3).add 4) (.slice (l10.a) (l10.len) (l10.cap)) fun w16 =>
   ldT (.sl) w16 (a3) fun l17 => ldT (.sl) w16 ((a3).add 1) fun l18 => ldT (.bool) w16 ((a3).add 2) fun b19 => ldT (.int .i64) w16 ((a3).add 3) fun x20 => ldT (.sl) w16 ((a3).add 4) fun l21 =>
   Q (.tuple #[.agg #[.slice (l17.a) (l17.len) (l17.cap), .slice (l18.a) (l18.len) (l18.cap), .bool (b19), .int .i64 (x20), .slice (l21.a) (l21.len) (l21.cap)], .bool (false)]) w16)
  (ldT (.int .i64) w4 ((a1).add 3) fun x22 =>
   cond ((x22 : Int) == 0)
   (ldT (.sl) w4 (a1) fun l23 => ldT (.sl) w4 ((a1).add 1) fun l24 => ldT (.bool) w4 ((a1).add 2) fun b25 => ldT (.int .i64) w4 ((a1).add 3) fun x26 => ldT (.sl) w4 ((a1).add 4) fun l27 =>
    ldT (.sl) w4 ((a1).add 4) fun l28 =>
    Does Tryd.prog N_ref05_Disk_Crash #[.agg #[.slice (l23.a) (l23.len) (l23.cap), .slice (l24.a) (l24.len) (l24.cap), .bool (b25), .int .i64 (x26), .slice (l27.a) (l27.len) (l27.cap)], .slice (l28.a) (l28.len) (l28.cap)] w4 fun r29 w30 => ∃ l31 : Sl, ∃ l32 : Sl, ∃ b33 : Bool, ∃ x34 : Int, ∃ l35 : Sl, r29 = .agg #[.slice (l31.a) (l31.len) (l31.cap), .slice (l32.a) (l32.len) (l32.cap), .bool (b33), .int .i64 (x34), .slice (l35.a) (l35.len) (l35.cap)] ∧
    stC w30 (a3) (.slice (l31.a) (l31.len) (l31.cap)) fun w37 => stC w37 ((a3).add 1) (.slice (l32.a) (l32.len) (l32.cap)) fun w38 => stC w38 ((a3).add 2) (.bool (b33)) fun w39 => stC w39 ((a3).add 3) (.int .i64 (x34)) fun w40 => stC w40 ((a3).add 4) (.slice (l35.a) (l35.len) (l35.cap)) fun w41 =>
    ldT (.sl) w41 (a3) fun l42 => ldT (.sl) w41 ((a3).add 1) fun l43 => ldT (.bool) w41 ((a3).add 2) fun b44 => ldT (.int .i64) w41 ((a3).add 3) fun x45 => ldT (.sl) w41 ((a3).add 4) fun l46 =>
    Q (.tuple #[.agg #[.slice (l42.a) (l42.len) (l42.cap), .slice (l43.a) (l43.len) (l43.cap), .bool (b44), .int .i64 (x45), .slice (l46.a) (l46.len) (l46.cap)], .bool (false)]) w41)
   (∀ J48 : World → Prop, (∀ w47 : World, 
      (ldT (.sl) w47 (a1) fun l49 => ldT (.sl) w47 ((a1).add 1) fun l50 => ldT (.bool) w47 ((a1).add 2) fun b51 => ldT (.int .i64) w47 ((a1).add 3) fun x52 => ldT (.sl) w47 ((a1).add 4) fun l53 =>
      stC w47 (a3) (.slice (l49.a) (l49.len) (l49.cap)) fun w55 => stC w55 ((a3).add 1) (.slice (l50.a) (l50.len) (l50.cap)) fun w56 => stC w56 ((a3).add 2) (.bool (b51)) fun w57 => stC w57 ((a3).add 3) (.int .i64 (x52)) fun w58 => stC w58 ((a3).add 4) (.slice (l53.a) (l53.len) (l53.cap)) fun w59 =>
      ldT (.sl) w59 (a3) fun l60 => ldT (.sl) w59 ((a3).add 1) fun l61 => ldT (.bool) w59 ((a3).add 2) fun b62 => ldT (.int .i64) w59 ((a3).add 3) fun x63 => ldT (.sl) w59 ((a3).add 4) fun l64 =>
      Q (.tuple #[.agg #[.slice (l60.a) (l60.len) (l60.cap), .slice (l61.a) (l61.len) (l61.cap), .bool (b62), .int .i64 (x63), .slice (l64.a) (l64.len) (l64.cap)], .bool (true)]) w59) → J48 w47) →
    ldT (.int .i64) w4 ((a1).add 3) fun x65 =>
    cond (decide ((x65 : Int) > 0))
    (ldT (.int .i64) w4 ((a1).add 3) fun x66 =>
     stC w4 ((a1).add 3) (.int .i64 (IntKind.wrap .i64 (x66 - 1))) fun w67 =>
     J48 w67)
    (J48 w4)))
def A_ref05_Disk_step : Ann := ⟨[], [(7, [])], []⟩
theorem F_ref05_Disk_step_eq (d0 : Sl) (d1 : Sl) (d2 : Bool) (d3 : Int) (d4 : Sl) (w : World) (Q : Value → World → Prop) : vcFn Tryd.prog A_ref05_Disk_step Tryd.f83 #[.agg #[.slice (d0.a) (d0.len) (d0.cap), .slice (d1.a) (d1.len) (d1.cap), .bool (d2), .int .i64 (d3), .slice (d4.a) (d4.len) (d4.cap)]] w Q = F_ref05_Disk_step d0 d1 d2 d3 d4 w Q := by kernel_rfl
theorem F_ref05_Disk_step_does (d0 : Sl) (d1 : Sl) (d2 : Bool) (d3 : Int) (d4 : Sl) (w : World) (Q : Value → World → Prop) (hQ : F_ref05_Disk_step d0 d1 d2 d3 d4 w Q) : Does Tryd.prog N_ref05_Disk_step #[.agg #[.slice (d0.a) (d0.len) (d0.cap), .slice (d1.a) (d1.len) (d1.cap), .bool (d2), .int .i64 (d3), .slice (d4.a) (d4.len) (d4.cap)]] w Q :=
  vcFn_sound noAsk mixed (A := A_ref05_Disk_step) (by kernel_rfl) Tryd.func83 (Nat.le_of_ble_eq_true (by kernel_rfl)) (by kernel_rfl) ((F_ref05_Disk_step_eq d0 d1 d2 d3 d4 w Q).mpr hQ)

/- (*nacelle/wal.Log).Dead -/
def F_wal_Log_Dead (w_ : Option Addr) (w : World) (Q : Value → World → Prop) : Prop :=
  nnil (w_) fun a1 =>
  ldT (.bool) w ((a1).add 644) fun b2 =>
  Q (.bool (b2)) w
def A_wal_Log_Dead : Ann := ⟨[], [], []⟩
theorem F_wal_Log_Dead_eq (w_ : Option Addr) (w : World) (Q : Value → World → Prop) : vcFn Tryd.prog A_wal_Log_Dead Tryd.f84 #[.pointer (w_)] w Q = F_wal_Log_Dead w_ w Q := by kernel_rfl
theorem F_wal_Log_Dead_does (w_ : Option Addr) (w : World) (Q : Value → World → Prop) (hQ : F_wal_Log_Dead w_ w Q) : Does Tryd.prog N_wal_Log_Dead #[.pointer (w_)] w Q :=
  vcFn_sound noAsk mixed (A := A_wal_Log_Dead) (by kernel_rfl) Tryd.func84 (Nat.le_of_ble_eq_true (by kernel_rfl)) (by kernel_rfl) ((F_wal_Log_Dead_eq w_ w Q).mpr hQ)

/- nacelle/nacelleref02.Put -/
def F_ref02_Put (n : Int) (size : Int) (w : World) (Q : Value → World → Prop) : Prop :=
  cond (decide ((size : Int) > 8))
  (Q (.slice (none) (0) (0)) w)
  (∃ (I5 : Int → Sl → Int → World → Prop) (M6 : Int → Sl → Int → World → Nat), I5 n ⟨none, 0, 0⟩ 0 w ∧
   ∀ n1 : Int, ∀ out2 : Sl, ∀ i3 : Int, ∀ w4 : World, I5 n1 out2 i3 w4 →
     cond (decide ((i3 : Int) < size))
     ((256 : Int) ≠ 0 ∧
      allocK w4 #[.int .u8 (IntKind.wrap .u8 (Int.tmod n1 256))] T_uint8 fun a7 w8 =>
      runG (.sl) Tryd.prog w8 (Builtin.append_ #[T_l_uint8, T_l_uint8] T_l_uint8 #[.slice (out2.a) (out2.len) (out2.cap), .slice (some (a7)) (1) (1)]) fun l9 w10 =>
      (256 : Int) ≠ 0 ∧
      I5 (IntKind.wrap .u64 (Int.tdiv n1 256)) ⟨l9.a, l9.len, l9.cap⟩ (IntKind.wrap .i64 (i3 + 1)) w10 ∧ M6 (IntKind.wrap .u64 (Int.tdiv n1 256)) ⟨l9.a, l9.len, l9.cap⟩ (IntKind.wrap .i64 (i3 + 1)) w10 < M6 n1 out2 i3 w4)
     (Q (.slice (out2.a) (out2.len) (out2.cap)) w4))
def A_ref02_Put : Ann := ⟨[(5, [(0, .one (.int .u64)), (5, .one (.sl)), (6, .one (.int .i64))])], [], []⟩
theorem F_ref02_Put_eq (n : Int) (size : Int) (w : World) (Q : Value → World → Prop) : vcFn Tryd.prog A_ref02_Put Tryd.f85 #[.int .u64 (n), .int .i64 (size)] w Q = F_ref02_Put n size w Q := by kernel_rfl
theorem F_ref02_Put_does (n : Int) (size : Int) (w : World) (Q : Value → World → Prop) (hQ : F_ref02_Put n size w Q) : Does Tryd.prog N_ref02_Put #[.int .u64 (n), .int .i64 (size)] w Q :=
  vcFn_sound noAsk mixed (A := A_ref02_Put) (by kernel_rfl) Tryd.func85 (Nat.le_of_ble_eq_true (by kernel_rfl)) (by kernel_rfl) ((F_ref02_Put_eq n size w Q).mpr hQ)

/- nacelle/nacelleref03.Seal -/
def F_ref03_Seal (b : Sl) (w : World) (Q : Value → World → Prop) : Prop :=
  allocK w #[] T_uint8 fun a1 w2 =>
  runG (.sl) Tryd.prog w2 (Builtin.append_ #[T_l_uint8, T_l_uint8] T_l_uint8 #[.slice (some (a1)) (0) (0), .slice (b.a) (b.len) (b.cap)]) fun l3 w4 =>
  Does Tryd.prog N_ref03_Of #[.slice (b.a) (b.len) (b.cap)] w4 fun r5 w6 => ∃ x7 : Int, r5 = .int .u32 (x7) ∧
  Does Tryd.prog N_ref02_Put #[.int .u64 (IntKind.wrap .u64 x7), .int .i64 (4)] w6 fun r8 w9 => ∃ l10 : Sl, r8 = .slice (l10.a) (l10.len) (l10.cap) ∧
  runG (.sl) Tryd.prog w9 (Builtin.append_ #[T_l_uint8, T_l_uint8] T_l_uint8 #[.slice (l3.a) (l3.len) (l3.cap), .slice (l10.a) (l10.len) (l10.cap)]) fun l11 w12 =>
  Q (.slice (l11.a) (l11.len) (l11.cap)) w12
def A_ref03_Seal : Ann := ⟨[], [], []⟩
theorem F_ref03_Seal_eq (b : Sl) (w : World) (Q : Value → World → Prop) : vcFn Tryd.prog A_ref03_Seal Tryd.f86 #[.slice (b.a) (b.len) (b.cap)] w Q = F_ref03_Seal b w Q := by kernel_rfl
theorem F_ref03_Seal_does (b : Sl) (w : World) (Q : Value → World → Prop) (hQ : F_ref03_Seal b w Q) : Does Tryd.prog N_ref03_Seal #[.slice (b.a) (b.len) (b.cap)] w Q :=
  vcFn_sound noAsk mixed (A := A_ref03_Seal) (by kernel_rfl) Tryd.func86 (Nat.le_of_ble_eq_true (by kernel_rfl)) (by kernel_rfl) ((F_ref03_Seal_eq b w Q).mpr hQ)

/- nacelle/extent.Lies -/
def F_extent_Lies (x0 : Int) (x1 : Int) (sectors : Int) (w : World) (Q : Value → World → Prop) : Prop :=
  allocK w (#[.int .i64 (x0), .int .i64 (x1)]) T_extent_Extent fun a1 w2 =>
  ldT (.int .i64) w2 ((a1).add 1) fun x3 =>
  cond (decide ((x3 : Int) ≥ 1))
  (ldT (.int .i64) w2 (a1) fun x4 =>
   cond (decide ((x4 : Int) ≥ 0))
   (ldT (.int .i64) w2 ((a1).add 1) fun x5 =>
    cond (decide ((x5 : Int) ≤ sectors))
    (ldT (.int .i64) w2 (a1) fun x6 =>
     ldT (.int .i64) w2 ((a1).add 1) fun x7 =>
     Q (.bool (decide ((x6 : Int) ≤ (IntKind.wrap .i64 (sectors - x7))))) w2)
    (Q (.bool (false)) w2))
   (Q (.bool (false)) w2))
  (Q (.bool (false)) w2)
def A_extent_Lies : Ann := ⟨[], [], []⟩
theorem F_extent_Lies_eq (x0 : Int) (x1 : Int) (sectors : Int) (w : World) (Q : Value → World → Prop) : vcFn Tryd.prog A_extent_Lies Tryd.f87 #[.agg #[.int .i64 (x0), .int .i64 (x1)], .int .i64 (sectors)] w Q = F_extent_Lies x0 x1 sectors w Q := by kernel_rfl
theorem F_extent_Lies_does (x0 : Int) (x1 : Int) (sectors : Int) (w : World) (Q : Value → World → Prop) (hQ : F_extent_Lies x0 x1 sectors w Q) : Does Tryd.prog N_extent_Lies #[.agg #[.int .i64 (x0), .int .i64 (x1)], .int .i64 (sectors)] w Q :=
  vcFn_sound noAsk mixed (A := A_extent_Lies) (by kernel_rfl) Tryd.func87 (Nat.le_of_ble_eq_true (by kernel_rfl)) (by kernel_rfl) ((F_extent_Lies_eq x0 x1 sectors w Q).mpr hQ)

/- (*nacelle/disk.Disk).Size -/
def F_disk_Disk_Size (d : Option Addr) (w : World) (Q : Value → World → Prop) : Prop :=
  nnil (d) fun a1 =>
  ldT (.sl) w (a1) fun l2 =>
  (64 : Int) ≠ 0 ∧
  Q (.int .i64 (IntKind.wrap .i64 (Int.tdiv (((l2.len : Nat) : Int)) 64))) w
def A_disk_Disk_Size : Ann := ⟨[], [], []⟩
theorem F_disk_Disk_Size_eq (d : Option Addr) (w : World) (Q : Value → World → Prop) : vcFn Tryd.prog A_disk_Disk_Size Tryd.f88 #[.pointer (d)] w Q = F_disk_Disk_Size d w Q := by kernel_rfl
theorem F_disk_Disk_Size_does (d : Option Addr) (w : World) (Q : Value → World → Prop) (hQ : F_disk_Disk_Size d w Q) : Does Tryd.prog N_disk_Disk_Size #[.pointer (d)] w Q :=
  vcFn_sound noAsk mixed (A := A_disk_Disk_Size) (by kernel_rfl) Tryd.func88 (Nat.le_of_ble_eq_true (by kernel_rfl)) (by kernel_rfl) ((F_disk_Disk_Size_eq d w Q).mpr hQ)

/- nacelle/octet.Read -/
def F_octet_Read (b : Sl) (w : World) (Q : Value → World → Prop) : Prop :=
  runG (.sl) Tryd.prog w (Builtin.append_ #[T_l_uint8, T_l_uint8] T_l_uint8 #[.slice (none) (0) (0), .slice (b.a) (b.len) (b.cap)]) fun l1 w2 =>
  allocK w2 (#[.slice (l1.a) (l1.len) (l1.cap), .int .i64 (0), .nilIface]) T_octet_Reader fun a3 w4 =>
  Q (.pointer (some (a3))) w4
def A_octet_Read : Ann := ⟨[], [], []⟩
theorem F_octet_Read_eq (b : Sl) (w : World) (Q : Value → World → Prop) : vcFn Tryd.prog A_octet_Read Tryd.f89 #[.slice (b.a) (b.len) (b.cap)] w Q = F_octet_Read b w Q := by kernel_rfl
theorem F_octet_Read_does (b : Sl) (w : World) (Q : Value → World → Prop) (hQ : F_octet_Read b w Q) : Does Tryd.prog N_octet_Read #[.slice (b.a) (b.len) (b.cap)] w Q :=
  vcFn_sound noAsk mixed (A := A_octet_Read) (by kernel_rfl) Tryd.func89 (Nat.le_of_ble_eq_true (by kernel_rfl)) (by kernel_rfl) ((F_octet_Read_eq b w Q).mpr hQ)

/- (*nacelle/octet.Reader).Num -/
def F_octet_Reader_Num (r : Option Addr) (size : Int) (w : World) (Q : Value → World → Prop) : Prop :=
  ∀ J2 : World → Prop, (∀ w1 : World, 
    (Does Tryd.prog N_octet_Reader_Bytes #[.pointer (r), .int .i64 (size)] w1 fun r3 w4 => ∃ l5 : Sl, r3 = .slice (l5.a) (l5.len) (l5.cap) ∧
    Does Tryd.prog N_octet_Get #[.slice (l5.a) (l5.len) (l5.cap)] w4 fun r6 w7 => ∃ x8 : Int, ∃ x9 : Int, r6 = .tuple #[.int .u64 (x8), .int .i64 (x9)] ∧
    Q (.int .u64 (x8)) w7) → J2 w1) →
  ∀ J12 : Bool → World → Prop, (∀ b10 : Bool, ∀ w11 : World, 
    (cond (b10)
    (Does Tryd.prog N_octet_Reader_fail #[.pointer (r), .int .i64 (1)] w11 fun r13 w14 => r13 = .tuple #[] ∧
     Q (.int .u64 (0)) w14)
    (J2 w11)) → J12 b10 w11) →
  cond (decide ((size : Int) < 1))
  (J12 true w)
  (J12 (decide ((size : Int) > 8)) w)
def A_octet_Reader_Num : Ann := ⟨[], [(2, [(12, .one (.bool))]), (4, [])], []⟩
theorem F_octet_Reader_Num_eq (r : Option Addr) (size : Int) (w : World) (Q : Value → World → Prop) : vcFn Tryd.prog A_octet_Reader_Num Tryd.f90 #[.pointer (r), .int .i64 (size)] w Q = F_octet_Reader_Num r size w Q := by kernel_rfl
theorem F_octet_Reader_Num_does (r : Option Addr) (size : Int) (w : World) (Q : Value → World → Prop) (hQ : F_octet_Reader_Num r size w Q) : Does Tryd.prog N_octet_Reader_Num #[.pointer (r), .int .i64 (size)] w Q :=
  vcFn_sound noAsk mixed (A := A_octet_Reader_Num) (by kernel_rfl) Tryd.func90 (Nat.le_of_ble_eq_true (by kernel_rfl)) (by kernel_rfl) ((F_octet_Reader_Num_eq r size w Q).mpr hQ)

/- nacelle/octet.Put -/
def F_octet_Put (n : Int) (size : Int) (w : World) (Q : Value → World → Prop) : Prop :=
  ∀ J2 : World → Prop, (∀ w1 : World, 
    (runG (.sl) Tryd.prog w1 (Instr.makeSlice T_l_uint8 (.int .i64 (size)) (.int .i64 (size))) fun l3 w4 =>
    ∃ (I8 : Int → Int → World → Prop) (M9 : Int → Int → World → Nat), I8 n 0 w4 ∧
    ∀ n5 : Int, ∀ x6 : Int, ∀ w7 : World, I8 n5 x6 w7 →
      cond (decide ((x6 : Int) < (((l3.len : Nat) : Int))))
      (idx (l3.a) (l3.len) (x6) 1 fun a10 =>
       stC w7 (a10) (.int .u8 (IntKind.wrap .u8 n5)) fun w11 =>
       (0 : Int) ≤ 8 ∧
       I8 (Int.fdiv n5 (2 ^ (min (Int.toNat (8)) (IntKind.bits .u64)))) (IntKind.wrap .i64 (x6 + 1)) w11 ∧ M9 (Int.fdiv n5 (2 ^ (min (Int.toNat (8)) (IntKind.bits .u64)))) (IntKind.wrap .i64 (x6 + 1)) w11 < M9 n5 x6 w7)
      (Q (.slice (l3.a) (l3.len) (l3.cap)) w7)) → J2 w1) →
  cond (decide ((size : Int) < 1))
  (Q (.slice (none) (0) (0)) w)
  (cond (decide ((size : Int) > 8))
   (Q (.slice (none) (0) (0)) w)
   (J2 w))
def A_octet_Put : Ann := ⟨[(5, [(0, .one (.int .u64)), (17, .one (.int .i64))])], [(3, [])], []⟩
theorem F_octet_Put_eq (n : Int) (size : Int) (w : World) (Q : Value → World → Prop) : vcFn Tryd.prog A_octet_Put Tryd.f91 #[.int .u64 (n), .int .i64 (size)] w Q = F_octet_Put n size w Q := by kernel_rfl
theorem F_octet_Put_does (n : Int) (size : Int) (w : World) (Q : Value → World → Prop) (hQ : F_octet_Put n size w Q) : Does Tryd.prog N_octet_Put #[.int .u64 (n), .int .i64 (size)] w Q :=
  vcFn_sound noAsk mixed (A := A_octet_Put) (by kernel_rfl) Tryd.func91 (Nat.le_of_ble_eq_true (by kernel_rfl)) (by kernel_rfl) ((F_octet_Put_eq n size w Q).mpr hQ)

/- nacelle/crc.Seal -/
def F_crc_Seal (b : Sl) (w : World) (Q : Value → World → Prop) : Prop :=
  runG (.sl) Tryd.prog w (Builtin.append_ #[T_l_uint8, T_l_uint8] T_l_uint8 #[.slice (none) (0) (0), .slice (b.a) (b.len) (b.cap)]) fun l1 w2 =>
  Does Tryd.prog N_crc_Of #[.slice (b.a) (b.len) (b.cap)] w2 fun r3 w4 => ∃ x5 : Int, r3 = .int .u32 (x5) ∧
  Does Tryd.prog N_octet_Put #[.int .u64 (IntKind.wrap .u64 x5), .int .i64 (4)] w4 fun r6 w7 => ∃ l8 : Sl, r6 = .slice (l8.a) (l8.len) (l8.cap) ∧
  runG (.sl) Tryd.prog w7 (Builtin.append_ #[T_l_uint8, T_l_uint8] T_l_uint8 #[.slice (l1.a) (l1.len) (l1.cap), .slice (l8.a) (l8.len) (l8.cap)]) fun l9 w10 =>
  Q (.slice (l9.a) (l9.len) (l9.cap)) w10
def A_crc_Seal : Ann := ⟨[], [], []⟩
theorem F_crc_Seal_eq (b : Sl) (w : World) (Q : Value → World → Prop) : vcFn Tryd.prog A_crc_Seal Tryd.f92 #[.slice (b.a) (b.len) (b.cap)] w Q = F_crc_Seal b w Q := by kernel_rfl
theorem F_crc_Seal_does (b : Sl) (w : World) (Q : Value → World → Prop) (hQ : F_crc_Seal b w Q) : Does Tryd.prog N_crc_Seal #[.slice (b.a) (b.len) (b.cap)] w Q :=
  vcFn_sound noAsk mixed (A := A_crc_Seal) (by kernel_rfl) Tryd.func92 (Nat.le_of_ble_eq_true (by kernel_rfl)) (by kernel_rfl) ((F_crc_Seal_eq b w Q).mpr hQ)

/- (*nacelle/disk.Disk).Flush -/
def F_disk_Disk_Flush (d : Option Addr) (w : World) (Q : Value → World → Prop) : Prop :=
  Does Tryd.prog N_disk_Disk_goes #[.pointer (d)] w fun r1 w2 => ∃ b3 : Bool, r1 = .bool (b3) ∧
  cond (!b3)
  (Q (.int .i64 (9)) w2)
  (nnil (d) fun a4 =>
   ldT (.sl) w2 ((a4).add 1) fun l5 =>
   ∃ (I8 : Int → World → Prop) (M9 : Int → World → Nat), I8 0 w2 ∧
   ∀ x6 : Int, ∀ w7 : World, I8 x6 w7 →
     cond (decide ((x6 : Int) < (((l5.len : Nat) : Int))))
     (idx (l5.a) (l5.len) (x6) 2 fun a10 =>
      ldT (.int .i64) w7 (a10) fun x11 => ldT (.sl) w7 ((a10).add 1) fun l12 =>
      allocK w7 (zc Tryd.prog T_disk_write) T_disk_write fun a13 w14 =>
      stC w14 (a13) (.int .i64 (x11)) fun w16 => stC w16 ((a13).add 1) (.slice (l12.a) (l12.len) (l12.cap)) fun w17 =>
      ldT (.int .i64) w17.drew (a13) fun x18 =>
      ldT (.sl) w17.drew ((a13).add 1) fun l19 =>
      Does Tryd.prog N_disk_Disk_sector #[.pointer (d), .int .i64 (x18)] w17.drew fun r20 w21 => ∃ l22 : Sl, r20 = .slice (l22.a) (l22.len) (l22.cap) ∧
      w21.cell? ((a13).add 1) = some (.slice (l19.a) (l19.len) (l19.cap)) ∧ runG (.int .i64) Tryd.prog w21 (Builtin.copy_ #[T_l_uint8, T_l_uint8] T_int #[.slice (l22.a) (l22.len) (l22.cap), .slice (l19.a) (l19.len) (l19.cap)]) fun x23 w24 =>
      I8 (IntKind.wrap .i64 (x6 + 1)) w24 ∧ M9 (IntKind.wrap .i64 (x6 + 1)) w24 < M9 x6 w7)
     (nnil (d) fun a25 =>
      stC w7 ((a25).add 1) (.slice (none) (0) (0)) fun w26 =>
      Q (.int .i64 (0)) w26))
def A_disk_Disk_Flush : Ann := ⟨[(4, [(13, .one (.int .i64))])], [], [(6, [⟨0, 0, 0, true⟩, ⟨0, 0, 0, true⟩, ⟨2, 2, 2, true⟩, ⟨5, 0, 7, false⟩, ⟨0, 0, 0, true⟩, ⟨16, 16, 16, true⟩, ⟨40, 0, 63, false⟩])]⟩
theorem F_disk_Disk_Flush_eq (d : Option Addr) (w : World) (Q : Value → World → Prop) : vcFn Tryd.prog A_disk_Disk_Flush Tryd.f93 #[.pointer (d)] w Q = F_disk_Disk_Flush d w Q := by kernel_rfl
theorem F_disk_Disk_Flush_does (d : Option Addr) (w : World) (Q : Value → World → Prop) (hQ : F_disk_Disk_Flush d w Q) : Does Tryd.prog N_disk_Disk_Flush #[.pointer (d)] w Q :=
  vcFn_sound noAsk mixed (A := A_disk_Disk_Flush) (by kernel_rfl) Tryd.func93 (Nat.le_of_ble_eq_true (by kernel_rfl)) (by kernel_rfl) ((F_disk_Disk_Flush_eq d w Q).mpr hQ)

/- nacelle/nacelleref02.Number -/
def F_ref02_Number (b : Sl) (w : World) (Q : Value → World → Prop) : Prop :=
  ∃ (I5 : Int → Int → Int → World → Prop) (M6 : Int → Int → Int → World → Nat), I5 0 1 0 w ∧
  ∀ n1 : Int, ∀ unit2 : Int, ∀ i3 : Int, ∀ w4 : World, I5 n1 unit2 i3 w4 →
    cond (decide ((i3 : Int) < (((b.len : Nat) : Int))))
    (idx (b.a) (b.len) (i3) 1 fun a7 =>
     ldT (.int .u8) w4 (a7) fun x8 =>
     I5 (IntKind.wrap .u64 (n1 + (IntKind.wrap .u64 ((IntKind.wrap .u64 x8) * unit2)))) (IntKind.wrap .u64 (unit2 * 256)) (IntKind.wrap .i64 (i3 + 1)) w4 ∧ M6 (IntKind.wrap .u64 (n1 + (IntKind.wrap .u64 ((IntKind.wrap .u64 x8) * unit2)))) (IntKind.wrap .u64 (unit2 * 256)) (IntKind.wrap .i64 (i3 + 1)) w4 < M6 n1 unit2 i3 w4)
    (Q (.int .u64 (n1)) w4)
def A_ref02_Number : Ann := ⟨[(3, [(3, .one (.int .u64)), (4, .one (.int .u64)), (5, .one (.int .i64))])], [], []⟩
theorem F_ref02_Number_eq (b : Sl) (w : World) (Q : Value → World → Prop) : vcFn Tryd.prog A_ref02_Number Tryd.f94 #[.slice (b.a) (b.len) (b.cap)] w Q = F_ref02_Number b w Q := by kernel_rfl
theorem F_ref02_Number_does (b : Sl) (w : World) (Q : Value → World → Prop) (hQ : F_ref02_Number b w Q) : Does Tryd.prog N_ref02_Number #[.slice (b.a) (b.len) (b.cap)] w Q :=
  vcFn_sound noAsk mixed (A := A_ref02_Number) (by kernel_rfl) Tryd.func94 (Nat.le_of_ble_eq_true (by kernel_rfl)) (by kernel_rfl) ((F_ref02_Number_eq b w Q).mpr hQ)

/- nacelle/nacelleref05.with -/
def F_ref05_with (l : Sl) (at_ : Int) (s : ByteArray) (w : World) (Q : Value → World → Prop) : Prop :=
  allocK w #[] T_string fun a1 w2 =>
  runG (.sl) Tryd.prog w2 (Builtin.append_ #[T_l_string, T_l_string] T_l_string #[.slice (some (a1)) (0) (0), .slice (l.a) (l.len) (l.cap)]) fun l3 w4 =>
  idx (l3.a) (l3.len) (at_) 1 fun a5 =>
  stC w4 (a5) (.string (s)) fun w6 =>
  Q (.slice (l3.a) (l3.len) (l3.cap)) w6
def A_ref05_with : Ann := ⟨[], [], []⟩
theorem F_ref05_with_eq (l : Sl) (at_ : Int) (s : ByteArray) (w : World) (Q : Value → World → Prop) : vcFn Tryd.prog A_ref05_with Tryd.f95 #[.slice (l.a) (l.len) (l.cap), .int .i64 (at_), .string (s)] w Q = F_ref05_with l at_ s w Q := by kernel_rfl
theorem F_ref05_with_does (l : Sl) (at_ : Int) (s : ByteArray) (w : World) (Q : Value → World → Prop) (hQ : F_ref05_with l at_ s w Q) : Does Tryd.prog N_ref05_with #[.slice (l.a) (l.len) (l.cap), .int .i64 (at_), .string (s)] w Q :=
  vcFn_sound noAsk mixed (A := A_ref05_with) (by kernel_rfl) Tryd.func95 (Nat.le_of_ble_eq_true (by kernel_rfl)) (by kernel_rfl) ((F_ref05_with_eq l at_ s w Q).mpr hQ)

/- (*nacelle/wal.Log).settle -/
def F_wal_Log_settle (w_ : Option Addr) (epoch : Int) (home : Int) (w : World) (Q : Value → World → Prop) : Prop :=
  nnil (w_) fun a1 =>
  ldArr w ((a1).add 1) 640 fun c2 =>
  ∃ (I5 : Int → World → Prop) (M6 : Int → World → Nat), I5 0 w ∧
  ∀ x3 : Int, ∀ w4 : World, I5 x3 w4 →
    cond (decide ((x3 : Int) < 16))
    (idxG (c2) 16 (x3) 40 fun c7 =>
     allocK w4 (zc Tryd.prog T_a40_uint8) T_a40_uint8 fun a8 w9 =>
     stArr w9 (a8) (c7) 40 fun w10 =>
     nnil (w_) fun a11 =>
     ldT (.ptr) w10.drew (a11) fun p12 =>
     slcA (a8) 40 (0) (((40 : Nat) : Int)) 1 fun l13 =>
     allocK w10.drew #[.int .u8 (IntKind.wrap .u8 x3)] T_uint8 fun a14 w15 =>
     w15.cell? (a11) = some (.pointer (p12)) ∧ runG (.sl) Tryd.prog w15 (Builtin.append_ #[T_l_uint8, T_l_uint8] T_l_uint8 #[.slice (some (a14)) (1) (1), .slice (l13.a) (l13.len) (l13.cap)]) fun l16 w17 =>
     w17.cell? (a11) = some (.pointer (p12)) ∧ Does Tryd.prog N_wal_say #[.int .u8 (80), .int .u32 (epoch), .slice (l16.a) (l16.len) (l16.cap)] w17 fun r18 w19 => ∃ l20 : Sl, r18 = .slice (l20.a) (l20.len) (l20.cap) ∧
     w19.cell? (a11) = some (.pointer (p12)) ∧ Does Tryd.prog N_extent_Part_Write #[.pointer (p12), .int .i64 (IntKind.wrap .i64 ((IntKind.wrap .i64 (2 + (IntKind.wrap .i64 (home * 16)))) + x3)), .slice (l20.a) (l20.len) (l20.cap)] w19 fun r21 w22 => ∃ x23 : Int, r21 = .int .i64 (x23) ∧
     cond ((x23 : Int) != 0)
     (Q (.int .i64 (x23)) w22)
     (I5 (IntKind.wrap .i64 (x3 + 1)) w22 ∧ M6 (IntKind.wrap .i64 (x3 + 1)) w22 < M6 x3 w4))
    (nnil (w_) fun a24 =>
     ldT (.ptr) w4 (a24) fun p25 =>
     Does Tryd.prog N_extent_Part_Flush #[.pointer (p25)] w4 fun r26 w27 => ∃ x28 : Int, r26 = .int .i64 (x28) ∧
     cond ((x28 : Int) != 0)
     (Q (.int .i64 (x28)) w27)
     (nnil (w_) fun a29 =>
      ldT (.ptr) w27.drew (a29) fun p30 =>
      (2 : Int) ≠ 0 ∧
      allocK w27.drew #[.int .u8 (IntKind.wrap .u8 home)] T_uint8 fun a31 w32 =>
      w32.cell? (a29) = some (.pointer (p30)) ∧ Does Tryd.prog N_wal_say #[.int .u8 (72), .int .u32 (epoch), .slice (some (a31)) (1) (1)] w32 fun r33 w34 => ∃ l35 : Sl, r33 = .slice (l35.a) (l35.len) (l35.cap) ∧
      w34.cell? (a29) = some (.pointer (p30)) ∧ Does Tryd.prog N_extent_Part_Write #[.pointer (p30), .int .i64 (IntKind.wrap .i64 (Int.tmod epoch 2)), .slice (l35.a) (l35.len) (l35.cap)] w34 fun r36 w37 => ∃ x38 : Int, r36 = .int .i64 (x38) ∧
      cond ((x38 : Int) != 0)
      (Q (.int .i64 (x38)) w37)
      (nnil (w_) fun a39 =>
       ldT (.ptr) w37 (a39) fun p40 =>
       Does Tryd.prog N_extent_Part_Flush #[.pointer (p40)] w37 fun r41 w42 => ∃ x43 : Int, r41 = .int .i64 (x43) ∧
       Q (.int .i64 (x43)) w42)))
def A_wal_Log_settle : Ann := ⟨[(2, [(17, .one (.int .i64))])], [], [(5, [⟨0, 0, 0, true⟩, ⟨1, 1, 1, true⟩, ⟨2, 2, 3, true⟩, ⟨4, 4, 7, true⟩, ⟨0, 0, 0, true⟩, ⟨0, 0, 0, true⟩, ⟨0, 0, 0, true⟩, ⟨64, 64, 64, true⟩, ⟨128, 0, 192, false⟩, ⟨0, 0, 0, true⟩, ⟨768, 0, 960, false⟩, ⟨1056, 0, 2016, false⟩, ⟨2072, 0, 4095, false⟩, ⟨8191, 4096, 8191, true⟩]), (12, [⟨0, 0, 0, true⟩, ⟨1, 1, 1, true⟩, ⟨2, 2, 3, true⟩, ⟨4, 4, 7, true⟩, ⟨0, 0, 0, true⟩, ⟨16, 16, 16, true⟩, ⟨32, 32, 48, true⟩, ⟨0, 0, 0, true⟩, ⟨0, 0, 0, true⟩, ⟨256, 256, 256, true⟩, ⟨512, 0, 768, false⟩, ⟨1152, 0, 1920, false⟩, ⟨2120, 0, 4095, false⟩, ⟨8191, 4096, 8191, true⟩])]⟩
theorem F_wal_Log_settle_eq (w_ : Option Addr) (epoch : Int) (home : Int) (w : World) (Q : Value → World → Prop) : vcFn Tryd.prog A_wal_Log_settle Tryd.f96 #[.pointer (w_), .int .u32 (epoch), .int .i64 (home)] w Q = F_wal_Log_settle w_ epoch home w Q := by kernel_rfl
theorem F_wal_Log_settle_does (w_ : Option Addr) (epoch : Int) (home : Int) (w : World) (Q : Value → World → Prop) (hQ : F_wal_Log_settle w_ epoch home w Q) : Does Tryd.prog N_wal_Log_settle #[.pointer (w_), .int .u32 (epoch), .int .i64 (home)] w Q :=
  vcFn_sound noAsk mixed (A := A_wal_Log_settle) (by kernel_rfl) Tryd.func96 (Nat.le_of_ble_eq_true (by kernel_rfl)) (by kernel_rfl) ((F_wal_Log_settle_eq w_ epoch home w Q).mpr hQ)

/- nacelle/crc.Open -/
def F_crc_Open (b : Sl) (w : World) (Q : Value → World → Prop) : Prop :=
  cond (decide (((IntKind.wrap .i64 ((((b.len : Nat) : Int)) - 4)) : Int) < 0))
  (Q (.tuple #[.slice (none) (0) (0), .int .i64 (2)]) w)
  (slcT ⟨b.a, b.len, b.cap⟩ (IntKind.wrap .i64 ((((b.len : Nat) : Int)) - 4)) (((b.len : Nat) : Int)) 1 fun l1 =>
   Does Tryd.prog N_octet_Get #[.slice (l1.a) (l1.len) (l1.cap)] w fun r2 w3 => ∃ x4 : Int, ∃ x5 : Int, r2 = .tuple #[.int .u64 (x4), .int .i64 (x5)] ∧
   slcT ⟨b.a, b.len, b.cap⟩ (0) (IntKind.wrap .i64 ((((b.len : Nat) : Int)) - 4)) 1 fun l6 =>
   Does Tryd.prog N_crc_Of #[.slice (l6.a) (l6.len) (l6.cap)] w3 fun r7 w8 => ∃ x9 : Int, r7 = .int .u32 (x9) ∧
   cond (((IntKind.wrap .u32 x4) : Int) != x9)
   (Q (.tuple #[.slice (none) (0) (0), .int .i64 (8)]) w8)
   (slcT ⟨b.a, b.len, b.cap⟩ (0) (IntKind.wrap .i64 ((((b.len : Nat) : Int)) - 4)) 1 fun l10 =>
    runG (.sl) Tryd.prog w8 (Builtin.append_ #[T_l_uint8, T_l_uint8] T_l_uint8 #[.slice (none) (0) (0), .slice (l10.a) (l10.len) (l10.cap)]) fun l11 w12 =>
    Q (.tuple #[.slice (l11.a) (l11.len) (l11.cap), .int .i64 (0)]) w12))
def A_crc_Open : Ann := ⟨[], [], []⟩
theorem F_crc_Open_eq (b : Sl) (w : World) (Q : Value → World → Prop) : vcFn Tryd.prog A_crc_Open Tryd.f97 #[.slice (b.a) (b.len) (b.cap)] w Q = F_crc_Open b w Q := by kernel_rfl
theorem F_crc_Open_does (b : Sl) (w : World) (Q : Value → World → Prop) (hQ : F_crc_Open b w Q) : Does Tryd.prog N_crc_Open #[.slice (b.a) (b.len) (b.cap)] w Q :=
  vcFn_sound noAsk mixed (A := A_crc_Open) (by kernel_rfl) Tryd.func97 (Nat.le_of_ble_eq_true (by kernel_rfl)) (by kernel_rfl) ((F_crc_Open_eq b w Q).mpr hQ)

/- nacelle/octet.Get -/
def F_octet_Get (b : Sl) (w : World) (Q : Value → World → Prop) : Prop :=
  ∀ J2 : World → Prop, (∀ w1 : World, 
    (∃ (I6 : Int → Int → World → Prop) (M7 : Int → Int → World → Nat), I6 0 (IntKind.wrap .i64 ((((b.len : Nat) : Int)) - 1)) w1 ∧
    ∀ n3 : Int, ∀ i4 : Int, ∀ w5 : World, I6 n3 i4 w5 →
      cond (decide ((i4 : Int) ≥ 0))
      ((0 : Int) ≤ 8 ∧
       idx (b.a) (b.len) (i4) 1 fun a8 =>
       ldT (.int .u8) w5 (a8) fun x9 =>
       I6 (bits .or .u64 (IntKind.wrap .u64 (n3 * 2 ^ (min (Int.toNat (8)) (IntKind.bits .u64)))) (IntKind.wrap .u64 x9)) (IntKind.wrap .i64 (i4 - 1)) w5 ∧ M7 (bits .or .u64 (IntKind.wrap .u64 (n3 * 2 ^ (min (Int.toNat (8)) (IntKind.bits .u64)))) (IntKind.wrap .u64 x9)) (IntKind.wrap .i64 (i4 - 1)) w5 < M7 n3 i4 w5)
      (Q (.tuple #[.int .u64 (n3), .int .i64 (0)]) w5)) → J2 w1) →
  cond (decide (((((b.len : Nat) : Int)) : Int) < 1))
  (Q (.tuple #[.int .u64 (0), .int .i64 (1)]) w)
  (cond (decide (((((b.len : Nat) : Int)) : Int) > 8))
   (Q (.tuple #[.int .u64 (0), .int .i64 (1)]) w)
   (J2 w))
def A_octet_Get : Ann := ⟨[(5, [(4, .one (.int .u64)), (5, .one (.int .i64))])], [(3, [])], []⟩
theorem F_octet_Get_eq (b : Sl) (w : World) (Q : Value → World → Prop) : vcFn Tryd.prog A_octet_Get Tryd.f98 #[.slice (b.a) (b.len) (b.cap)] w Q = F_octet_Get b w Q := by kernel_rfl
theorem F_octet_Get_does (b : Sl) (w : World) (Q : Value → World → Prop) (hQ : F_octet_Get b w Q) : Does Tryd.prog N_octet_Get #[.slice (b.a) (b.len) (b.cap)] w Q :=
  vcFn_sound noAsk mixed (A := A_octet_Get) (by kernel_rfl) Tryd.func98 (Nat.le_of_ble_eq_true (by kernel_rfl)) (by kernel_rfl) ((F_octet_Get_eq b w Q).mpr hQ)

/- nacelle/wal.hear$1 -/
def F_wal_hear_1 (l : Sl) (w : World) (Q : Value → World → Prop) : Prop :=
  ∃ (I3 : Int → World → Prop) (M4 : Int → World → Nat), I3 0 w ∧
  ∀ x1 : Int, ∀ w2 : World, I3 x1 w2 →
    cond (decide ((x1 : Int) < (((l.len : Nat) : Int))))
    (idx (l.a) (l.len) (x1) 1 fun a5 =>
     ldT (.int .u8) w2 (a5) fun x6 =>
     cond ((x6 : Int) != 0)
     (Q (.bool (false)) w2)
     (I3 (IntKind.wrap .i64 (x1 + 1)) w2 ∧ M4 (IntKind.wrap .i64 (x1 + 1)) w2 < M4 x1 w2))
    (Q (.bool (true)) w2)
def A_wal_hear_1 : Ann := ⟨[(2, [(7, .one (.int .i64))])], [], []⟩
theorem F_wal_hear_1_eq (l : Sl) (w : World) (Q : Value → World → Prop) : vcFn Tryd.prog A_wal_hear_1 Tryd.f99 #[.slice (l.a) (l.len) (l.cap)] w Q = F_wal_hear_1 l w Q := by kernel_rfl
theorem F_wal_hear_1_does (l : Sl) (w : World) (Q : Value → World → Prop) (hQ : F_wal_hear_1 l w Q) : Does Tryd.prog N_wal_hear_1 #[.slice (l.a) (l.len) (l.cap)] w Q :=
  vcFn_sound noAsk mixed (A := A_wal_hear_1) (by kernel_rfl) Tryd.func99 (Nat.le_of_ble_eq_true (by kernel_rfl)) (by kernel_rfl) ((F_wal_hear_1_eq l w Q).mpr hQ)

/- (*nacelle/wal.Log).lay -/
def F_wal_Log_lay (w_ : Option Addr) (l : Sl) (w : World) (Q : Value → World → Prop) : Prop :=
  ∃ (I3 : Int → World → Prop) (M4 : Int → World → Nat), I3 0 w ∧
  ∀ x1 : Int, ∀ w2 : World, I3 x1 w2 →
    cond (decide ((x1 : Int) < (((l.len : Nat) : Int))))
    (idx (l.a) (l.len) (x1) 2 fun a5 =>
     ldT (.int .i64) w2 (a5) fun x6 => ldT (.sl) w2 ((a5).add 1) fun l7 =>
     allocK w2 (zc Tryd.prog T_api_Change) T_api_Change fun a8 w9 =>
     stC w9 (a8) (.int .i64 (x6)) fun w11 => stC w11 ((a8).add 1) (.slice (l7.a) (l7.len) (l7.cap)) fun w12 =>
     ldT (.int .i64) w12.drew (a8) fun x13 =>
     nnil (w_) fun a14 =>
     idxR 16 (x13) (
     slcA (((a14).add 1).add (Int.toNat (x13) * 40)) 40 (0) (((40 : Nat) : Int)) 1 fun l15 =>
     ldT (.sl) w12.drew ((a8).add 1) fun l16 =>
     runG (.int .i64) Tryd.prog w12.drew (Builtin.copy_ #[T_l_uint8, T_l_uint8] T_int #[.slice (l15.a) (l15.len) (l15.cap), .slice (l16.a) (l16.len) (l16.cap)]) fun x17 w18 =>
     I3 (IntKind.wrap .i64 (x1 + 1)) w18 ∧ M4 (IntKind.wrap .i64 (x1 + 1)) w18 < M4 x1 w2))
    (Q (.tuple #[]) w2)
def A_wal_Log_lay : Ann := ⟨[(1, [(8, .one (.int .i64))])], [], [(3, [⟨0, 0, 0, true⟩, ⟨0, 0, 0, true⟩, ⟨2, 2, 2, true⟩, ⟨1, 1, 1, true⟩, ⟨8, 8, 9, true⟩, ⟨20, 20, 31, true⟩, ⟨32, 32, 63, true⟩, ⟨0, 0, 0, true⟩, ⟨128, 128, 128, true⟩, ⟨320, 0, 511, false⟩])]⟩
theorem F_wal_Log_lay_eq (w_ : Option Addr) (l : Sl) (w : World) (Q : Value → World → Prop) : vcFn Tryd.prog A_wal_Log_lay Tryd.f100 #[.pointer (w_), .slice (l.a) (l.len) (l.cap)] w Q = F_wal_Log_lay w_ l w Q := by kernel_rfl
theorem F_wal_Log_lay_does (w_ : Option Addr) (l : Sl) (w : World) (Q : Value → World → Prop) (hQ : F_wal_Log_lay w_ l w Q) : Does Tryd.prog N_wal_Log_lay #[.pointer (w_), .slice (l.a) (l.len) (l.cap)] w Q :=
  vcFn_sound noAsk mixed (A := A_wal_Log_lay) (by kernel_rfl) Tryd.func100 (Nat.le_of_ble_eq_true (by kernel_rfl)) (by kernel_rfl) ((F_wal_Log_lay_eq w_ l w Q).mpr hQ)

/- nacelle/wal.say -/
def F_wal_say (kind : Int) (epoch : Int) (rest : Sl) (w : World) (Q : Value → World → Prop) : Prop :=
  allocK w #[.int .u8 (kind)] T_uint8 fun a1 w2 =>
  Does Tryd.prog N_octet_Put #[.int .u64 (IntKind.wrap .u64 epoch), .int .i64 (4)] w2 fun r3 w4 => ∃ l5 : Sl, r3 = .slice (l5.a) (l5.len) (l5.cap) ∧
  runG (.sl) Tryd.prog w4 (Builtin.append_ #[T_l_uint8, T_l_uint8] T_l_uint8 #[.slice (some (a1)) (1) (1), .slice (l5.a) (l5.len) (l5.cap)]) fun l6 w7 =>
  runG (.sl) Tryd.prog w7 (Builtin.append_ #[T_l_uint8, T_l_uint8] T_l_uint8 #[.slice (l6.a) (l6.len) (l6.cap), .slice (rest.a) (rest.len) (rest.cap)]) fun l8 w9 =>
  runG (.sl) Tryd.prog w9 (Builtin.append_ #[T_l_uint8, T_int] T_l_uint8 #[.slice (l8.a) (l8.len) (l8.cap), .int .i64 (IntKind.wrap .i64 (60 - (((l8.len : Nat) : Int))))]) fun l10 w11 =>
  Does Tryd.prog N_crc_Seal #[.slice (l10.a) (l10.len) (l10.cap)] w11 fun r12 w13 => ∃ l14 : Sl, r12 = .slice (l14.a) (l14.len) (l14.cap) ∧
  Q (.slice (l14.a) (l14.len) (l14.cap)) w13
def A_wal_say : Ann := ⟨[], [], []⟩
theorem F_wal_say_eq (kind : Int) (epoch : Int) (rest : Sl) (w : World) (Q : Value → World → Prop) : vcFn Tryd.prog A_wal_say Tryd.f103 #[.int .u8 (kind), .int .u32 (epoch), .slice (rest.a) (rest.len) (rest.cap)] w Q = F_wal_say kind epoch rest w Q := by kernel_rfl
theorem F_wal_say_does (kind : Int) (epoch : Int) (rest : Sl) (w : World) (Q : Value → World → Prop) (hQ : F_wal_say kind epoch rest w Q) : Does Tryd.prog N_wal_say #[.int .u8 (kind), .int .u32 (epoch), .slice (rest.a) (rest.len) (rest.cap)] w Q :=
  vcFn_sound noAsk mixed (A := A_wal_say) (by kernel_rfl) Tryd.func103 (Nat.le_of_ble_eq_true (by kernel_rfl)) (by kernel_rfl) ((F_wal_say_eq kind epoch rest w Q).mpr hQ)

/- (nacelle/nacelleref16.Log).write -/
def F_ref16_Log_write (w_0 : Sl) (w_1 : Sl) (w_2 : Bool) (w_3 : Int) (w_4 : Sl) (w_5 : Int) (w_6 : Sl) (w_7 : Int) (w_8 : Int) (w_9 : Int) (w_10 : Bool) (at_ : Int) (s : ByteArray) (w : World) (Q : Value → World → Prop) : Prop :=
  allocK w (#[.slice (w_0.a) (w_0.len) (w_0.cap), .slice (w_1.a) (w_1.len) (w_1.cap), .bool (w_2), .int .i64 (w_3), .slice (w_4.a) (w_4.len) (w_4.cap), .int .i64 (w_5), .slice (w_6.a) (w_6.len) (w_6.cap), .int .u32 (w_7), .int .i64 (w_8), .int .i64 (w_9), .bool (w_10)]) T_ref16_Log fun a1 w2 =>
  allocK w2 (zc Tryd.prog T_ref16_Log) T_ref16_Log fun a3 w4 =>
  ldT (.sl) w4 (a1) fun l5 => ldT (.sl) w4 ((a1).add 1) fun l6 => ldT (.bool) w4 ((a1).add 2) fun b7 => ldT (.int .i64) w4 ((a1).add 3) fun x8 => ldT (.sl) w4 ((a1).add 4) fun l9 =>
  ldT (.int .i64) w4 ((a1).add 5) fun x10 =>
  Does Tryd.prog N_ref05_Disk_Write #[.agg #[.slice (l5.a) (l5.len) (l5.cap), .slice (l6.a) (l6.len) (l6.cap), .bool (b7), .int .i64 (x8), .slice (l9.a) (l9.len) (l9.cap)], .int .i64 (IntKind.wrap .i64 (x10 + at_)), .string (s)] w4 fun r11 w12 => ∃ l13 : Sl, ∃ l14 : Sl, ∃ b15 : Bool, ∃ x16 : Int, ∃ l17 : Sl, ∃ x18 : Int, r11 = .tuple #[.agg #[.slice (l13.a) (l13.len) (l13.cap), .slice (l14.a) (l14.len) (l14.cap), .bool (b15), .int .i64 (x16), .slice (l17.a) (l17.len) (l17.cap)], .int .i64 (x18)] ∧
  allocK w12 (zc Tryd.prog T_ref05_Disk) T_ref05_Disk fun a19 w20 =>
  stC w20 (a19) (.slice (l13.a) (l13.len) (l13.cap)) fun w22 => stC w22 ((a19).add 1) (.slice (l14.a) (l14.len) (l14.cap)) fun w23 => stC w23 ((a19).add 2) (.bool (b15)) fun w24 => stC w24 ((a19).add 3) (.int .i64 (x16)) fun w25 => stC w25 ((a19).add 4) (.slice (l17.a) (l17.len) (l17.cap)) fun w26 =>
  ldT (.sl) w26 (a19) fun l27 => ldT (.sl) w26 ((a19).add 1) fun l28 => ldT (.bool) w26 ((a19).add 2) fun b29 => ldT (.int .i64) w26 ((a19).add 3) fun x30 => ldT (.sl) w26 ((a19).add 4) fun l31 =>
  stC w26 (a1) (.slice (l27.a) (l27.len) (l27.cap)) fun w33 => stC w33 ((a1).add 1) (.slice (l28.a) (l28.len) (l28.cap)) fun w34 => stC w34 ((a1).add 2) (.bool (b29)) fun w35 => stC w35 ((a1).add 3) (.int .i64 (x30)) fun w36 => stC w36 ((a1).add 4) (.slice (l31.a) (l31.len) (l31.cap)) fun w37 =>
  ldT (.sl) w37 (a1) fun l38 => ldT (.sl) w37 ((a1).add 1) fun l39 => ldT (.bool) w37 ((a1).add 2) fun b40 => ldT (.int .i64) w37 ((a1).add 3) fun x41 => ldT (.sl) w37 ((a1).add 4) fun l42 => ldT (.int .i64) w37 ((a1).add 5) fun x43 => ldT (.sl) w37 ((a1).add 6) fun l44 => ldT (.int .u32) w37 ((a1).add 7) fun x45 => ldT (.int .i64) w37 ((a1).add 8) fun x46 => ldT (.int .i64) w37 ((a1).add 9) fun x47 => ldT (.bool) w37 ((a1).add 10) fun b48 =>
  stC w37 (a3) (.slice (l38.a) (l38.len) (l38.cap)) fun w50 => stC w50 ((a3).add 1) (.slice (l39.a) (l39.len) (l39.cap)) fun w51 => stC w51 ((a3).add 2) (.bool (b40)) fun w52 => stC w52 ((a3).add 3) (.int .i64 (x41)) fun w53 => stC w53 ((a3).add 4) (.slice (l42.a) (l42.len) (l42.cap)) fun w54 => stC w54 ((a3).add 5) (.int .i64 (x43)) fun w55 => stC w55 ((a3).add 6) (.slice (l44.a) (l44.len) (l44.cap)) fun w56 => stC w56 ((a3).add 7) (.int .u32 (x45)) fun w57 => stC w57 ((a3).add 8) (.int .i64 (x46)) fun w58 => stC w58 ((a3).add 9) (.int .i64 (x47)) fun w59 => stC w59 ((a3).add 10) (.bool (b48)) fun w60 =>
  ldT (.sl) w60 (a3) fun l61 => ldT (.sl) w60 ((a3).add 1) fun l62 => ldT (.bool) w60 ((a3).add 2) fun b63 => ldT (.int .i64) w60 ((a3).add 3) fun x64 => ldT (.sl) w60 ((a3).add 4) fun l65 => ldT (.int .i64) w60 ((a3).add 5) fun x66 => ldT (.sl) w60 ((a3).add 6) fun l67 => ldT (.int .u32) w60 ((a3).add 7) fun x68 => ldT (.int .i64) w60 ((a3).add 8) fun x69 => ldT (.int .i64) w60 ((a3).add 9) fun x70 => ldT (.bool) w60 ((a3).add 10) fun b71 =>
  Q (.tuple #[.agg #[.slice (l61.a) (l61.len) (l61.cap), .slice (l62.a) (l62.len) (l62.cap), .bool (b63), .int .i64 (x64), .slice (l65.a) (l65.len) (l65.cap), .int .i64 (x66), .slice (l67.a) (l67.len) (l67.cap), .int .u32 (x68), .int .i64 (x69), .int .i64 (x70), .bool (b71)], .int .i64 (x18)]) w60
def A_ref16_Log_write : Ann := ⟨[], [], []⟩
theorem F_ref16_Log_write_eq (w_0 : Sl) (w_1 : Sl) (w_2 : Bool) (w_3 : Int) (w_4 : Sl) (w_5 : Int) (w_6 : Sl) (w_7 : Int) (w_8 : Int) (w_9 : Int) (w_10 : Bool) (at_ : Int) (s : ByteArray) (w : World) (Q : Value → World → Prop) : vcFn Tryd.prog A_ref16_Log_write Tryd.f104 #[.agg #[.slice (w_0.a) (w_0.len) (w_0.cap), .slice (w_1.a) (w_1.len) (w_1.cap), .bool (w_2), .int .i64 (w_3), .slice (w_4.a) (w_4.len) (w_4.cap), .int .i64 (w_5), .slice (w_6.a) (w_6.len) (w_6.cap), .int .u32 (w_7), .int .i64 (w_8), .int .i64 (w_9), .bool (w_10)], .int .i64 (at_), .string (s)] w Q = F_ref16_Log_write w_0 w_1 w_2 w_3 w_4 w_5 w_6 w_7 w_8 w_9 w_10 at_ s w Q := by kernel_rfl
theorem F_ref16_Log_write_does (w_0 : Sl) (w_1 : Sl) (w_2 : Bool) (w_3 : Int) (w_4 : Sl) (w_5 : Int) (w_6 : Sl) (w_7 : Int) (w_8 : Int) (w_9 : Int) (w_10 : Bool) (at_ : Int) (s : ByteArray) (w : World) (Q : Value → World → Prop) (hQ : F_ref16_Log_write w_0 w_1 w_2 w_3 w_4 w_5 w_6 w_7 w_8 w_9 w_10 at_ s w Q) : Does Tryd.prog N_ref16_Log_write #[.agg #[.slice (w_0.a) (w_0.len) (w_0.cap), .slice (w_1.a) (w_1.len) (w_1.cap), .bool (w_2), .int .i64 (w_3), .slice (w_4.a) (w_4.len) (w_4.cap), .int .i64 (w_5), .slice (w_6.a) (w_6.len) (w_6.cap), .int .u32 (w_7), .int .i64 (w_8), .int .i64 (w_9), .bool (w_10)], .int .i64 (at_), .string (s)] w Q :=
  vcFn_sound noAsk mixed (A := A_ref16_Log_write) (by kernel_rfl) Tryd.func104 (Nat.le_of_ble_eq_true (by kernel_rfl)) (by kernel_rfl) ((F_ref16_Log_write_eq w_0 w_1 w_2 w_3 w_4 w_5 w_6 w_7 w_8 w_9 w_10 at_ s w Q).mpr hQ)

/- (nacelle/nacelleref16.Log).flush -/
def F_ref16_Log_flush (w_0 : Sl) (w_1 : Sl) (w_2 : Bool) (w_3 : Int) (w_4 : Sl) (w_5 : Int) (w_6 : Sl) (w_7 : Int) (w_8 : Int) (w_9 : Int) (w_10 : Bool) (w : World) (Q : Value → World → Prop) : Prop :=
  allocK w (#[.slice (w_0.a) (w_0.len) (w_0.cap), .slice (w_1.a) (w_1.len) (w_1.cap), .bool (w_2), .int .i64 (w_3), .slice (w_4.a) (w_4.len) (w_4.cap), .int .i64 (w_5), .slice (w_6.a) (w_6.len) (w_6.cap), .int .u32 (w_7), .int .i64 (w_8), .int .i64 (w_9), .bool (w_10)]) T_ref16_Log fun a1 w2 =>
  allocK w2 (zc Tryd.prog T_ref16_Log) T_ref16_Log fun a3 w4 =>
  ldT (.sl) w4 (a1) fun l5 => ldT (.sl) w4 ((a1).add 1) fun l6 => ldT (.bool) w4 ((a1).add 2) fun b7 => ldT (.int .i64) w4 ((a1).add 3) fun x8 => ldT (.sl) w4 ((a1).add 4) fun l9 =>
  Does Tryd.prog N_ref05_Disk_Flush #[.agg #[.slice (l5.a) (l5.len) (l5.cap), .slice (l6.a) (l6.len) (l6.cap), .bool (b7), .int .i64 (x8), .slice (l9.a) (l9.len) (l9.cap)]] w4 fun r10 w11 => ∃ l12 : Sl, ∃ l13 : Sl, ∃ b14 : Bool, ∃ x15 : Int, ∃ l16 : Sl, ∃ x17 : Int, r10 = .tuple #[.agg #[.slice (l12.a) (l12.len) (l12.cap), .slice (l13.a) (l13.len) (l13.cap), .bool (b14), .int .i64 (x15), .slice (l16.a) (l16.len) (l16.cap)], .int .i64 (x17)] ∧
  allocK w11 (zc Tryd.prog T_ref05_Disk) T_ref05_Disk fun a18 w19 =>
  stC w19 (a18) (.slice (l12.a) (l12.len) (l12.cap)) fun w21 => stC w21 ((a18).add 1) (.slice (l13.a) (l13.len) (l13.cap)) fun w22 => stC w22 ((a18).add 2) (.bool (b14)) fun w23 => stC w23 ((a18).add 3) (.int .i64 (x15)) fun w24 => stC w24 ((a18).add 4) (.slice (l16.a) (l16.len) (l16.cap)) fun w25 =>
  ldT (.sl) w25 (a18) fun l26 => ldT (.sl) w25 ((a18).add 1) fun l27 => ldT (.bool) w25 ((a18).add 2) fun b28 => ldT (.int .i64) w25 ((a18).add 3) fun x29 => ldT (.sl) w25 ((a18).add 4) fun l30 =>
  stC w25 (a1) (.slice (l26.a) (l26.len) (l26.cap)) fun w32 => stC w32 ((a1).add 1) (.slice (l27.a) (l27.len) (l27.cap)) fun w33 => stC w33 ((a1).add 2) (.bool (b28)) fun w34 => stC w34 ((a1).add 3) (.int .i64 (x29)) fun w35 => stC w35 ((a1).add 4) (.slice (l30.a) (l30.len) (l30.cap)) fun w36 =>
  ldT (.sl) w36 (a1) fun l37 => ldT (.sl) w36 ((a1).add 1) fun l38 => ldT (.bool) w36 ((a1).add 2) fun b39 => ldT (.int .i64) w36 ((a1).add 3) fun x40 => ldT (.sl) w36 ((a1).add 4) fun l41 => ldT (.int .i64) w36 ((a1).add 5) fun x42 => ldT (.sl) w36 ((a1).add 6) fun l43 => ldT (.int .u32) w36 ((a1).add 7) fun x44 => ldT (.int .i64) w36 ((a1).add 8) fun x45 => ldT (.int .i64) w36 ((a1).add 9) fun x46 => ldT (.bool) w36 ((a1).add 10) fun b47 =>
  stC w36 (a3) (.slice (l37.a) (l37.len) (l37.cap)) fun w49 => stC w49 ((a3).add 1) (.slice (l38.a) (l38.len) (l38.cap)) fun w50 => stC w50 ((a3).add 2) (.bool (b39)) fun w51 => stC w51 ((a3).add 3) (.int .i64 (x40)) fun w52 => stC w52 ((a3).add 4) (.slice (l41.a) (l41.len) (l41.cap)) fun w53 => stC w53 ((a3).add 5) (.int .i64 (x42)) fun w54 => stC w54 ((a3).add 6) (.slice (l43.a) (l43.len) (l43.cap)) fun w55 => stC w55 ((a3).add 7) (.int .u32 (x44)) fun w56 => stC w56 ((a3).add 8) (.int .i64 (x45)) fun w57 => stC w57 ((a3).add 9) (.int .i64 (x46)) fun w58 => stC w58 ((a3).add 10) (.bool (b47)) fun w59 =>
  ldT (.sl) w59 (a3) fun l60 => ldT (.sl) w59 ((a3).add 1) fun l61 => ldT (.bool) w59 ((a3).add 2) fun b62 => ldT (.int .i64) w59 ((a3).add 3) fun x63 => ldT (.sl) w59 ((a3).add 4) fun l64 => ldT (.int .i64) w59 ((a3).add 5) fun x65 => ldT (.sl) w59 ((a3).add 6) fun l66 => ldT (.int .u32) w59 ((a3).add 7) fun x67 => ldT (.int .i64) w59 ((a3).add 8) fun x68 => ldT (.int .i64) w59 ((a3).add 9) fun x69 => ldT (.bool) w59 ((a3).add 10) fun b70 =>
  Q (.tuple #[.agg #[.slice (l60.a) (l60.len) (l60.cap), .slice (l61.a) (l61.len) (l61.cap), .bool (b62), .int .i64 (x63), .slice (l64.a) (l64.len) (l64.cap), .int .i64 (x65), .slice (l66.a) (l66.len) (l66.cap), .int .u32 (x67), .int .i64 (x68), .int .i64 (x69), .bool (b70)], .int .i64 (x17)]) w59
def A_ref16_Log_flush : Ann := ⟨[], [], []⟩
theorem F_ref16_Log_flush_eq (w_0 : Sl) (w_1 : Sl) (w_2 : Bool) (w_3 : Int) (w_4 : Sl) (w_5 : Int) (w_6 : Sl) (w_7 : Int) (w_8 : Int) (w_9 : Int) (w_10 : Bool) (w : World) (Q : Value → World → Prop) : vcFn Tryd.prog A_ref16_Log_flush Tryd.f105 #[.agg #[.slice (w_0.a) (w_0.len) (w_0.cap), .slice (w_1.a) (w_1.len) (w_1.cap), .bool (w_2), .int .i64 (w_3), .slice (w_4.a) (w_4.len) (w_4.cap), .int .i64 (w_5), .slice (w_6.a) (w_6.len) (w_6.cap), .int .u32 (w_7), .int .i64 (w_8), .int .i64 (w_9), .bool (w_10)]] w Q = F_ref16_Log_flush w_0 w_1 w_2 w_3 w_4 w_5 w_6 w_7 w_8 w_9 w_10 w Q := by kernel_rfl
theorem F_ref16_Log_flush_does (w_0 : Sl) (w_1 : Sl) (w_2 : Bool) (w_3 : Int) (w_4 : Sl) (w_5 : Int) (w_6 : Sl) (w_7 : Int) (w_8 : Int) (w_9 : Int) (w_10 : Bool) (w : World) (Q : Value → World → Prop) (hQ : F_ref16_Log_flush w_0 w_1 w_2 w_3 w_4 w_5 w_6 w_7 w_8 w_9 w_10 w Q) : Does Tryd.prog N_ref16_Log_flush #[.agg #[.slice (w_0.a) (w_0.len) (w_0.cap), .slice (w_1.a) (w_1.len) (w_1.cap), .bool (w_2), .int .i64 (w_3), .slice (w_4.a) (w_4.len) (w_4.cap), .int .i64 (w_5), .slice (w_6.a) (w_6.len) (w_6.cap), .int .u32 (w_7), .int .i64 (w_8), .int .i64 (w_9), .bool (w_10)]] w Q :=
  vcFn_sound noAsk mixed (A := A_ref16_Log_flush) (by kernel_rfl) Tryd.func105 (Nat.le_of_ble_eq_true (by kernel_rfl)) (by kernel_rfl) ((F_ref16_Log_flush_eq w_0 w_1 w_2 w_3 w_4 w_5 w_6 w_7 w_8 w_9 w_10 w Q).mpr hQ)

/- (*nacelle/disk.Disk).goes -/
def F_disk_Disk_goes (d : Option Addr) (w : World) (Q : Value → World → Prop) : Prop :=
  nnil (d) fun a1 =>
  ldT (.bool) w ((a1).add 2) fun b2 =>
  cond (b2)
  (Q (.bool (false)) w)
  (nnil (d) fun a3 =>
   ldT (.bool) w ((a3).add 3) fun b4 =>
   cond (!b4)
   (Q (.bool (true)) w)
   (nnil (d) fun a5 =>
    ldT (.int .i64) w ((a5).add 4) fun x6 =>
    cond (decide ((x6 : Int) > 0))
    (nnil (d) fun a7 =>
     ldT (.int .i64) w ((a7).add 4) fun x8 =>
     nnil (d) fun a9 =>
     stC w ((a9).add 4) (.int .i64 (IntKind.wrap .i64 (x8 - 1))) fun w10 =>
     Q (.bool (true)) w10)
    (nnil (d) fun a11 =>
     ldT (.sl) w ((a11).add 5) fun l12 =>
     Does Tryd.prog N_disk_Disk_Crash #[.pointer (d), .slice (l12.a) (l12.len) (l12.cap)] w fun r13 w14 => r13 = .tuple #[] ∧
     Q (.bool (false)) w14)))
def A_disk_Disk_goes : Ann := ⟨[], [], []⟩
theorem F_disk_Disk_goes_eq (d : Option Addr) (w : World) (Q : Value → World → Prop) : vcFn Tryd.prog A_disk_Disk_goes Tryd.f106 #[.pointer (d)] w Q = F_disk_Disk_goes d w Q := by kernel_rfl
theorem F_disk_Disk_goes_does (d : Option Addr) (w : World) (Q : Value → World → Prop) (hQ : F_disk_Disk_goes d w Q) : Does Tryd.prog N_disk_Disk_goes #[.pointer (d)] w Q :=
  vcFn_sound noAsk mixed (A := A_disk_Disk_goes) (by kernel_rfl) Tryd.func106 (Nat.le_of_ble_eq_true (by kernel_rfl)) (by kernel_rfl) ((F_disk_Disk_goes_eq d w Q).mpr hQ)

/- nacelle/nacelleref03.Of -/
def F_ref03_Of (b : Sl) (w : World) (Q : Value → World → Prop) : Prop :=
  Does Tryd.prog N_ref03_On #[.int .u32 (0), .slice (b.a) (b.len) (b.cap)] w fun r1 w2 => ∃ x3 : Int, r1 = .int .u32 (x3) ∧
  Q (.int .u32 (x3)) w2
def A_ref03_Of : Ann := ⟨[], [], []⟩
theorem F_ref03_Of_eq (b : Sl) (w : World) (Q : Value → World → Prop) : vcFn Tryd.prog A_ref03_Of Tryd.f107 #[.slice (b.a) (b.len) (b.cap)] w Q = F_ref03_Of b w Q := by kernel_rfl
theorem F_ref03_Of_does (b : Sl) (w : World) (Q : Value → World → Prop) (hQ : F_ref03_Of b w Q) : Does Tryd.prog N_ref03_Of #[.slice (b.a) (b.len) (b.cap)] w Q :=
  vcFn_sound noAsk mixed (A := A_ref03_Of) (by kernel_rfl) Tryd.func107 (Nat.le_of_ble_eq_true (by kernel_rfl)) (by kernel_rfl) ((F_ref03_Of_eq b w Q).mpr hQ)

/- (*nacelle/octet.Reader).fail -/
def F_octet_Reader_fail (r : Option Addr) (code : Int) (w : World) (Q : Value → World → Prop) : Prop :=
  nnil (r) fun a1 =>
  ldT (.raw) w ((a1).add 2) fun v2 =>
  runG (.bool) Tryd.prog w (do eqGuard .eql T_error (.tmp 7) (.const (.nilIface)) (v2) (.nilIface); binOp .eql T_error (v2) (.nilIface)) fun b3 w4 =>
  cond (b3)
  (nnil (r) fun a5 =>
   ldT (.int .i64) w4 ((a5).add 1) fun x6 =>
   Does Tryd.prog N_fault_New #[.int .i64 (code), .int .i64 (x6)] w4 fun r7 w8 => ∃ v9 : Value, r7 = v9 ∧
   nnil (r) fun a10 =>
   stC w8 ((a10).add 2) (v9) fun w11 =>
   Q (.tuple #[]) w11)
  (Q (.tuple #[]) w4)
def A_octet_Reader_fail : Ann := ⟨[], [], []⟩
theorem F_octet_Reader_fail_eq (r : Option Addr) (code : Int) (w : World) (Q : Value → World → Prop) : vcFn Tryd.prog A_octet_Reader_fail Tryd.f108 #[.pointer (r), .int .i64 (code)] w Q = F_octet_Reader_fail r code w Q := by kernel_rfl
theorem F_octet_Reader_fail_does (r : Option Addr) (code : Int) (w : World) (Q : Value → World → Prop) (hQ : F_octet_Reader_fail r code w Q) : Does Tryd.prog N_octet_Reader_fail #[.pointer (r), .int .i64 (code)] w Q :=
  vcFn_sound noAsk mixed (A := A_octet_Reader_fail) (by kernel_rfl) Tryd.func108 (Nat.le_of_ble_eq_true (by kernel_rfl)) (by kernel_rfl) ((F_octet_Reader_fail_eq r code w Q).mpr hQ)

/- (*nacelle/octet.Reader).Bytes -/
def F_octet_Reader_Bytes (r : Option Addr) (n : Int) (w : World) (Q : Value → World → Prop) : Prop :=
  nnil (r) fun a1 =>
  ldT (.raw) w ((a1).add 2) fun v2 =>
  runG (.bool) Tryd.prog w (do eqGuard .neq T_error (.tmp 10) (.const (.nilIface)) (v2) (.nilIface); binOp .neq T_error (v2) (.nilIface)) fun b3 w4 =>
  cond (b3)
  (Q (.slice (none) (0) (0)) w4)
  (cond (decide ((n : Int) < 0))
   (Does Tryd.prog N_octet_Reader_fail #[.pointer (r), .int .i64 (1)] w4 fun r5 w6 => r5 = .tuple #[] ∧
    Q (.slice (none) (0) (0)) w6)
   (Does Tryd.prog N_octet_Reader_Left #[.pointer (r)] w4 fun r7 w8 => ∃ x9 : Int, r7 = .int .i64 (x9) ∧
    cond (decide ((n : Int) > x9))
    (Does Tryd.prog N_octet_Reader_fail #[.pointer (r), .int .i64 (2)] w8 fun r10 w11 => r10 = .tuple #[] ∧
     Q (.slice (none) (0) (0)) w11)
    (nnil (r) fun a12 =>
     ldT (.sl) w8.drew (a12) fun l13 =>
     nnil (r) fun a14 =>
     ldT (.int .i64) w8.drew ((a14).add 1) fun x15 =>
     nnil (r) fun a16 =>
     ldT (.int .i64) w8.drew ((a16).add 1) fun x17 =>
     slcT ⟨l13.a, l13.len, l13.cap⟩ (x15) (IntKind.wrap .i64 (x17 + n)) 1 fun l18 =>
     runG (.sl) Tryd.prog w8.drew (Builtin.append_ #[T_l_uint8, T_l_uint8] T_l_uint8 #[.slice (none) (0) (0), .slice (l18.a) (l18.len) (l18.cap)]) fun l19 w20 =>
     nnil (r) fun a21 =>
     ldT (.int .i64) w20 ((a21).add 1) fun x22 =>
     nnil (r) fun a23 =>
     stC w20 ((a23).add 1) (.int .i64 (IntKind.wrap .i64 (x22 + n))) fun w24 =>
     Q (.slice (l19.a) (l19.len) (l19.cap)) w24)))
def A_octet_Reader_Bytes : Ann := ⟨[], [], [(9, [⟨0, 0, 0, true⟩, ⟨1, 1, 1, true⟩, ⟨2, 2, 3, true⟩, ⟨4, 4, 7, true⟩, ⟨0, 0, 0, true⟩, ⟨16, 16, 16, true⟩, ⟨32, 32, 48, true⟩, ⟨64, 64, 112, true⟩, ⟨0, 0, 0, true⟩, ⟨256, 256, 256, true⟩, ⟨512, 512, 768, true⟩, ⟨1024, 1024, 1792, true⟩, ⟨0, 0, 0, true⟩, ⟨6144, 6144, 7936, true⟩, ⟨8328, 8328, 16383, true⟩, ⟨16384, 0, 32767, false⟩, ⟨65535, 32768, 65535, true⟩])]⟩
theorem F_octet_Reader_Bytes_eq (r : Option Addr) (n : Int) (w : World) (Q : Value → World → Prop) : vcFn Tryd.prog A_octet_Reader_Bytes Tryd.f109 #[.pointer (r), .int .i64 (n)] w Q = F_octet_Reader_Bytes r n w Q := by kernel_rfl
theorem F_octet_Reader_Bytes_does (r : Option Addr) (n : Int) (w : World) (Q : Value → World → Prop) (hQ : F_octet_Reader_Bytes r n w Q) : Does Tryd.prog N_octet_Reader_Bytes #[.pointer (r), .int .i64 (n)] w Q :=
  vcFn_sound noAsk mixed (A := A_octet_Reader_Bytes) (by kernel_rfl) Tryd.func109 (Nat.le_of_ble_eq_true (by kernel_rfl)) (by kernel_rfl) ((F_octet_Reader_Bytes_eq r n w Q).mpr hQ)

/- nacelle/crc.Of -/
def F_crc_Of (b : Sl) (w : World) (Q : Value → World → Prop) : Prop :=
  Does Tryd.prog N_crc_On #[.int .u32 (0), .slice (b.a) (b.len) (b.cap)] w fun r1 w2 => ∃ x3 : Int, r1 = .int .u32 (x3) ∧
  Q (.int .u32 (x3)) w2
def A_crc_Of : Ann := ⟨[], [], []⟩
theorem F_crc_Of_eq (b : Sl) (w : World) (Q : Value → World → Prop) : vcFn Tryd.prog A_crc_Of Tryd.f110 #[.slice (b.a) (b.len) (b.cap)] w Q = F_crc_Of b w Q := by kernel_rfl
theorem F_crc_Of_does (b : Sl) (w : World) (Q : Value → World → Prop) (hQ : F_crc_Of b w Q) : Does Tryd.prog N_crc_Of #[.slice (b.a) (b.len) (b.cap)] w Q :=
  vcFn_sound noAsk mixed (A := A_crc_Of) (by kernel_rfl) Tryd.func110 (Nat.le_of_ble_eq_true (by kernel_rfl)) (by kernel_rfl) ((F_crc_Of_eq b w Q).mpr hQ)

/- nacelle/nacelleref03.On -/
def F_ref03_On (sum : Int) (b : Sl) (w : World) (Q : Value → World → Prop) : Prop :=
  ∃ (I4 : Int → Int → World → Prop) (M5 : Int → Int → World → Nat), I4 (IntKind.wrap .u32 (4294967295 - sum)) 0 w ∧
  ∀ r1 : Int, ∀ i2 : Int, ∀ w3 : World, I4 r1 i2 w3 →
    cond (decide ((i2 : Int) < (((b.len : Nat) : Int))))
    (∃ (I9 : Int → Int → World → Prop) (M10 : Int → Int → World → Nat), I9 r1 0 w3 ∧
     ∀ r6 : Int, ∀ k7 : Int, ∀ w8 : World, I9 r6 k7 w8 →
       cond (decide ((k7 : Int) < 8))
       (∀ J13 : Int → World → Prop, (∀ r11 : Int, ∀ w12 : World, 
          (I9 r11 (IntKind.wrap .i64 (k7 + 1)) w12 ∧ M10 r11 (IntKind.wrap .i64 (k7 + 1)) w12 < M10 r6 k7 w8) → J13 r11 w12) →
        idx (b.a) (b.len) (i2) 1 fun a14 =>
        ldT (.int .u8) w8 (a14) fun x15 =>
        (0 : Int) ≤ (IntKind.wrap .u64 k7) ∧
        (2 : Int) ≠ 0 ∧
        (2 : Int) ≠ 0 ∧
        (2 : Int) ≠ 0 ∧
        (2 : Int) ≠ 0 ∧
        cond (((Int.tmod (IntKind.wrap .u32 ((Int.tmod r6 2) + (Int.tmod (IntKind.wrap .u32 (Int.fdiv x15 (2 ^ (min (Int.toNat ((IntKind.wrap .u64 k7))) (IntKind.bits .u8))))) 2))) 2) : Int) == 1)
        (J13 (bits .xor .u32 (IntKind.wrap .u32 (Int.tdiv r6 2)) 2197175160) w8)
        (J13 (IntKind.wrap .u32 (Int.tdiv r6 2)) w8))
       (I4 r6 (IntKind.wrap .i64 (i2 + 1)) w8 ∧ M5 r6 (IntKind.wrap .i64 (i2 + 1)) w8 < M5 r1 i2 w3))
    (Q (.int .u32 (IntKind.wrap .u32 (4294967295 - r1))) w3)
def A_ref03_On : Ann := ⟨[(3, [(5, .one (.int .u32)), (6, .one (.int .i64))]), (6, [(5, .one (.int .u32)), (7, .one (.int .i64))])], [(7, [(5, .one (.int .u32))])], []⟩
theorem F_ref03_On_eq (sum : Int) (b : Sl) (w : World) (Q : Value → World → Prop) : vcFn Tryd.prog A_ref03_On Tryd.f111 #[.int .u32 (sum), .slice (b.a) (b.len) (b.cap)] w Q = F_ref03_On sum b w Q := by kernel_rfl
theorem F_ref03_On_does (sum : Int) (b : Sl) (w : World) (Q : Value → World → Prop) (hQ : F_ref03_On sum b w Q) : Does Tryd.prog N_ref03_On #[.int .u32 (sum), .slice (b.a) (b.len) (b.cap)] w Q :=
  vcFn_sound noAsk mixed (A := A_ref03_On) (by kernel_rfl) Tryd.func111 (Nat.le_of_ble_eq_true (by kernel_rfl)) (by kernel_rfl) ((F_ref03_On_eq sum b w Q).mpr hQ)

/- nacelle/fault.New -/
def F_fault_New (code : Int) (at_ : Int) (w : World) (Q : Value → World → Prop) : Prop :=
  cond ((code : Int) == 0)
  (Q (.nilIface) w)
  (allocK w (#[.int .i64 (code), .int .i64 (at_), .nilIface]) T_fault_Fault fun a1 w2 =>
   Q (.iface T_p_fault_Fault (.pointer (some (a1)))) w2)
def A_fault_New : Ann := ⟨[], [], []⟩
theorem F_fault_New_eq (code : Int) (at_ : Int) (w : World) (Q : Value → World → Prop) : vcFn Tryd.prog A_fault_New Tryd.f112 #[.int .i64 (code), .int .i64 (at_)] w Q = F_fault_New code at_ w Q := by kernel_rfl
theorem F_fault_New_does (code : Int) (at_ : Int) (w : World) (Q : Value → World → Prop) (hQ : F_fault_New code at_ w Q) : Does Tryd.prog N_fault_New #[.int .i64 (code), .int .i64 (at_)] w Q :=
  vcFn_sound noAsk mixed (A := A_fault_New) (by kernel_rfl) Tryd.func112 (Nat.le_of_ble_eq_true (by kernel_rfl)) (by kernel_rfl) ((F_fault_New_eq code at_ w Q).mpr hQ)

/- (*nacelle/octet.Reader).Left -/
def F_octet_Reader_Left (r : Option Addr) (w : World) (Q : Value → World → Prop) : Prop :=
  nnil (r) fun a1 =>
  ldT (.sl) w.drew (a1) fun l2 =>
  nnil (r) fun a3 =>
  ldT (.int .i64) w.drew ((a3).add 1) fun x4 =>
  Q (.int .i64 (IntKind.wrap .i64 ((((l2.len : Nat) : Int)) - x4))) w.drew
def A_octet_Reader_Left : Ann := ⟨[], [], [(1, [⟨0, 0, 0, true⟩, ⟨1, 1, 1, true⟩, ⟨2, 2, 3, true⟩, ⟨4, 4, 7, true⟩, ⟨8, 8, 15, true⟩, ⟨0, 0, 0, true⟩, ⟨32, 32, 32, true⟩, ⟨64, 64, 96, true⟩, ⟨128, 128, 224, true⟩, ⟨272, 272, 511, true⟩, ⟨1023, 512, 1023, true⟩])]⟩
theorem F_octet_Reader_Left_eq (r : Option Addr) (w : World) (Q : Value → World → Prop) : vcFn Tryd.prog A_octet_Reader_Left Tryd.f113 #[.pointer (r)] w Q = F_octet_Reader_Left r w Q := by kernel_rfl
theorem F_octet_Reader_Left_does (r : Option Addr) (w : World) (Q : Value → World → Prop) (hQ : F_octet_Reader_Left r w Q) : Does Tryd.prog N_octet_Reader_Left #[.pointer (r)] w Q :=
  vcFn_sound noAsk mixed (A := A_octet_Reader_Left) (by kernel_rfl) Tryd.func113 (Nat.le_of_ble_eq_true (by kernel_rfl)) (by kernel_rfl) ((F_octet_Reader_Left_eq r w Q).mpr hQ)

/- nacelle/crc.On -/
def F_crc_On (sum : Int) (b : Sl) (w : World) (Q : Value → World → Prop) : Prop :=
  ∃ (I4 : Int → Int → World → Prop) (M5 : Int → Int → World → Nat), I4 (notK .u32 sum) 0 w ∧
  ∀ r1 : Int, ∀ x2 : Int, ∀ w3 : World, I4 r1 x2 w3 →
    cond (decide ((x2 : Int) < (((b.len : Nat) : Int))))
    (idx (b.a) (b.len) (x2) 1 fun a6 =>
     ldT (.int .u8) w3 (a6) fun x7 =>
     (0 : Int) ≤ 4 ∧
     idxR 16 (bits .and .u32 (bits .xor .u32 r1 (IntKind.wrap .u32 x7)) 15) (
     ldT (.int .u32) w3 (((⟨0, 0, none⟩ : Addr)).add (Int.toNat (bits .and .u32 (bits .xor .u32 r1 (IntKind.wrap .u32 x7)) 15) * 1)) fun x8 =>
     (0 : Int) ≤ 4 ∧
     idxR 16 (bits .and .u32 (bits .xor .u32 (Int.fdiv (bits .xor .u32 r1 (IntKind.wrap .u32 x7)) (2 ^ (min (Int.toNat (4)) (IntKind.bits .u32)))) x8) 15) (
     ldT (.int .u32) w3 (((⟨0, 0, none⟩ : Addr)).add (Int.toNat (bits .and .u32 (bits .xor .u32 (Int.fdiv (bits .xor .u32 r1 (IntKind.wrap .u32 x7)) (2 ^ (min (Int.toNat (4)) (IntKind.bits .u32)))) x8) 15) * 1)) fun x9 =>
     I4 (bits .xor .u32 (Int.fdiv (bits .xor .u32 (Int.fdiv (bits .xor .u32 r1 (IntKind.wrap .u32 x7)) (2 ^ (min (Int.toNat (4)) (IntKind.bits .u32)))) x8) (2 ^ (min (Int.toNat (4)) (IntKind.bits .u32)))) x9) (IntKind.wrap .i64 (x2 + 1)) w3 ∧ M5 (bits .xor .u32 (Int.fdiv (bits .xor .u32 (Int.fdiv (bits .xor .u32 r1 (IntKind.wrap .u32 x7)) (2 ^ (min (Int.toNat (4)) (IntKind.bits .u32)))) x8) (2 ^ (min (Int.toNat (4)) (IntKind.bits .u32)))) x9) (IntKind.wrap .i64 (x2 + 1)) w3 < M5 r1 x2 w3)))
    (Q (.int .u32 (notK .u32 r1)) w3)
def A_crc_On : Ann := ⟨[(3, [(5, .one (.int .u32)), (12, .one (.int .i64))])], [], []⟩
theorem F_crc_On_eq (sum : Int) (b : Sl) (w : World) (Q : Value → World → Prop) : vcFn Tryd.prog A_crc_On Tryd.f114 #[.int .u32 (sum), .slice (b.a) (b.len) (b.cap)] w Q = F_crc_On sum b w Q := by kernel_rfl
theorem F_crc_On_does (sum : Int) (b : Sl) (w : World) (Q : Value → World → Prop) (hQ : F_crc_On sum b w Q) : Does Tryd.prog N_crc_On #[.int .u32 (sum), .slice (b.a) (b.len) (b.cap)] w Q :=
  vcFn_sound noAsk mixed (A := A_crc_On) (by kernel_rfl) Tryd.func114 (Nat.le_of_ble_eq_true (by kernel_rfl)) (by kernel_rfl) ((F_crc_On_eq sum b w Q).mpr hQ)

end Go.Proofs.YtkfcmpngcanffaaDoor.G
