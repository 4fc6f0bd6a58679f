import Derived.Test.YtomoejbamegpoaaDoorGen
set_option linter.unusedVariables false
namespace Go.Proofs.YtomoejbamegpoaaDoor.G
open Go Go.VC Go.Proofs Go.Proofs.YtomoejbamegpoaaDoor
set_option maxRecDepth 100000
/- nacelle/nacellelaw10.FilterWider -/
def F_law10_FilterWider (x0 : Int) (x1 : Int) (x2 : Sl) (x3 : Sl) (x4 : Int) (x5 : Int) (w : World) (Q : Value → World → Prop) : Prop :=
  allocK w (#[.int .i64 (x0), .int .i64 (x1), .slice (x2.a) (x2.len) (x2.cap), .slice (x3.a) (x3.len) (x3.cap), .int .u64 (x4), .int .i64 (x5)]) T_law10_Wider fun a1 w2 =>
  ∀ J8 : Addr → Sl → Int → Int → World → Prop, (∀ r3 : Addr, ∀ b4 : Sl, ∀ more5 : Int, ∀ fields6 : Int, ∀ w7 : World, 
    (ldT (.int .i64) w7 (r3) fun x9 => ldT (.int .i64) w7 ((r3).add 1) fun x10 => ldT (.sl) w7 ((r3).add 2) fun l11 =>
    Does Tryd.prog N_filter_Pass #[.agg #[.int .i64 (x9), .int .i64 (x10), .slice (l11.a) (l11.len) (l11.cap)], .slice (b4.a) (b4.len) (b4.cap)] w7 fun r12 w13 => ∃ v14 : Value, r12 = v14 ∧
    runG (.bool) Tryd.prog w13 (do eqGuard .neq T_error (.tmp 21) (.const (.nilIface)) (v14) (.nilIface); binOp .neq T_error (v14) (.nilIface)) fun b15 w16 =>
    cond (b15)
    (Does Tryd.prog N_law10_awake #[] w16 fun r17 w18 => ∃ b19 : Bool, r17 = .bool (b19) ∧
     Q (.bool (b19)) w18)
    (allocK w16 (zc Tryd.prog T_api_Rule) T_api_Rule fun a20 w21 =>
     stC w21 (a20) (.int .i64 (0)) fun w23 => stC w23 ((a20).add 1) (.int .i64 (64)) fun w24 => stC w24 ((a20).add 2) (.slice (none) (0) (0)) fun w25 =>
     ∀ J27 : World → Prop, (∀ w26 : World, 
       (ldT (.int .i64) w26 (a20) fun x28 => ldT (.int .i64) w26 ((a20).add 1) fun x29 => ldT (.sl) w26 ((a20).add 2) fun l30 =>
       Does Tryd.prog N_filter_Pass #[.agg #[.int .i64 (x28), .int .i64 (x29), .slice (l30.a) (l30.len) (l30.cap)], .slice (b4.a) (b4.len) (b4.cap)] w26 fun r31 w32 => ∃ v33 : Value, r31 = v33 ∧
       runG (.bool) Tryd.prog w32 (do eqGuard .eql T_error (.tmp 73) (.const (.nilIface)) (v33) (.nilIface); binOp .eql T_error (v33) (.nilIface)) fun b34 w35 =>
       cond (b34)
       (Does Tryd.prog N_law10_awake #[] w35 fun r36 w37 => ∃ b38 : Bool, r36 = .bool (b38) ∧
        Q (.bool (b38)) w37)
       (Q (.bool (false)) w35)) → J27 w26) →
     ∃ (I41 : Int → World → Prop) (M42 : Int → World → Nat), I41 0 w25 ∧
     ∀ i39 : Int, ∀ w40 : World, I41 i39 w40 →
       ∀ J44 : World → Prop, (∀ w43 : World, 
         (∀ J46 : World → Prop, (∀ w45 : World, 
           (I41 (IntKind.wrap .i64 (i39 + 1)) w45 ∧ M42 (IntKind.wrap .i64 (i39 + 1)) w45 < M42 i39 w40) → J46 w45) →
         ldT (.sl) w43 ((r3).add 2) fun l47 =>
         idx (l47.a) (l47.len) (i39) 4 fun a48 =>
         ldT (.int .i64) w43 (a48) fun x49 => ldT (.int .i64) w43 ((a48).add 1) fun x50 => ldT (.int .u64) w43 ((a48).add 2) fun x51 => ldT (.int .u64) w43 ((a48).add 3) fun x52 =>
         allocK w43 (zc Tryd.prog T_api_Field) T_api_Field fun a53 w54 =>
         stC w54 (a53) (.int .i64 (x49)) fun w56 => stC w56 ((a53).add 1) (.int .i64 (x50)) fun w57 => stC w57 ((a53).add 2) (.int .u64 (x51)) fun w58 => stC w58 ((a53).add 3) (.int .u64 (x52)) fun w59 =>
         ∀ J61 : World → Prop, (∀ w60 : World, 
           (∀ J63 : World → Prop, (∀ w62 : World, 
             (ldT (.sl) w62 ((a20).add 2) fun l64 =>
             ldT (.int .i64) w62 (a53) fun x65 => ldT (.int .i64) w62 ((a53).add 1) fun x66 => ldT (.int .u64) w62 ((a53).add 2) fun x67 => ldT (.int .u64) w62 ((a53).add 3) fun x68 =>
             allocK w62 #[.int .i64 (x65), .int .i64 (x66), .int .u64 (x67), .int .u64 (x68)] T_api_Field fun a69 w70 =>
             runG (.sl) Tryd.prog w70 (Builtin.append_ #[T_l_api_Field, T_l_api_Field] T_l_api_Field #[.slice (l64.a) (l64.len) (l64.cap), .slice (some (a69)) (1) (1)]) fun l71 w72 =>
             stC w72 ((a20).add 2) (.slice (l71.a) (l71.len) (l71.cap)) fun w73 =>
             J46 w73) → J63 w62) →
           ldT (.int .u64) w60 ((a53).add 2) fun x74 =>
           (1000 : Int) ≠ 0 ∧
           cond (decide ((x74 : Int) > (Int.tmod more5 1000)))
           (ldT (.int .u64) w60 ((a53).add 2) fun x75 =>
            (1000 : Int) ≠ 0 ∧
            stC w60 ((a53).add 2) (.int .u64 (IntKind.wrap .u64 (x75 - (Int.tmod more5 1000)))) fun w76 =>
            J63 w76)
           (J63 w60)) → J61 w60) →
         ldT (.int .u64) w59 ((a53).add 3) fun x77 =>
         (1000 : Int) ≠ 0 ∧
         cond (decide ((x77 : Int) < (IntKind.wrap .u64 (18446744073709551615 - (Int.tmod more5 1000)))))
         (ldT (.int .u64) w59 ((a53).add 3) fun x78 =>
          (1000 : Int) ≠ 0 ∧
          stC w59 ((a53).add 3) (.int .u64 (IntKind.wrap .u64 (x78 + (Int.tmod more5 1000)))) fun w79 =>
          J61 w79)
         (J61 w59)) → J44 w43) →
       ldT (.sl) w40 ((r3).add 2) fun l80 =>
       cond (decide ((i39 : Int) < (((l80.len : Nat) : Int))))
       (cond (decide ((i39 : Int) < fields6))
        (J44 w40)
        (J27 w40))
       (J27 w40))) → J8 r3 b4 more5 fields6 w7) →
  ldT (.int .i64) w2.drew (a1) fun x81 => ldT (.int .i64) w2.drew ((a1).add 1) fun x82 => ldT (.sl) w2.drew ((a1).add 2) fun l83 =>
  ldT (.sl) w2.drew ((a1).add 3) fun l84 =>
  ldT (.int .u64) w2.drew ((a1).add 4) fun x85 =>
  ldT (.int .i64) w2.drew ((a1).add 5) fun x86 =>
  (Does Tryd.prog N_law10_few #[.agg #[.int .i64 (x81), .int .i64 (x82), .slice (l83.a) (l83.len) (l83.cap)]] w2.drew fun r87 w88 => ∃ x89 : Int, ∃ x90 : Int, ∃ l91 : Sl, r87 = .agg #[.int .i64 (x89), .int .i64 (x90), .slice (l91.a) (l91.len) (l91.cap)] ∧
   w88.cell? ((a1).add 5) = some (.int .i64 (x86)) ∧ w88.cell? ((a1).add 4) = some (.int .u64 (x85)) ∧ w88.cell? ((a1).add 3) = some (.slice (l84.a) (l84.len) (l84.cap)) ∧ allocK w88 (zc Tryd.prog T_api_Rule) T_api_Rule fun a92 w93 =>
   w93.cell? ((a1).add 5) = some (.int .i64 (x86)) ∧ w93.cell? ((a1).add 4) = some (.int .u64 (x85)) ∧ w93.cell? ((a1).add 3) = some (.slice (l84.a) (l84.len) (l84.cap)) ∧ stC w93 (a92) (.int .i64 (x89)) fun w95 => stC w95 ((a92).add 1) (.int .i64 (x90)) fun w96 => stC w96 ((a92).add 2) (.slice (l91.a) (l91.len) (l91.cap)) fun w97 =>
   w97.cell? ((a1).add 5) = some (.int .i64 (x86)) ∧ w97.cell? ((a1).add 4) = some (.int .u64 (x85)) ∧ w97.cell? ((a1).add 3) = some (.slice (l84.a) (l84.len) (l84.cap)) ∧ J8 (a92) ⟨l84.a, l84.len, l84.cap⟩ x85 x86 w97) ∧
  (allocK w2.drew (zc Tryd.prog T_api_Rule) T_api_Rule fun a98 w99 =>
   w99.cell? ((a1).add 5) = some (.int .i64 (x86)) ∧ w99.cell? ((a1).add 4) = some (.int .u64 (x85)) ∧ w99.cell? ((a1).add 3) = some (.slice (l84.a) (l84.len) (l84.cap)) ∧ ((#[.int .i64 (x81), .int .i64 (x82), .slice (l83.a) (l83.len) (l83.cap)] : Array Value).size = 3 ∧ RowIs w99 (a1) #[.int .i64 (x81), .int .i64 (x82), .slice (l83.a) (l83.len) (l83.cap)]) ∧ Does Tryd.prog N_law10_few #[.agg #[.int .i64 (x81), .int .i64 (x82), .slice (l83.a) (l83.len) (l83.cap)]] w99 fun r100 w101 => ∃ x102 : Int, ∃ x103 : Int, ∃ l104 : Sl, r100 = .agg #[.int .i64 (x102), .int .i64 (x103), .slice (l104.a) (l104.len) (l104.cap)] ∧
   w101.cell? ((a1).add 5) = some (.int .i64 (x86)) ∧ w101.cell? ((a1).add 4) = some (.int .u64 (x85)) ∧ w101.cell? ((a1).add 3) = some (.slice (l84.a) (l84.len) (l84.cap)) ∧ stC w101 (a98) (.int .i64 (x102)) fun w106 => stC w106 ((a98).add 1) (.int .i64 (x103)) fun w107 => stC w107 ((a98).add 2) (.slice (l104.a) (l104.len) (l104.cap)) fun w108 =>
   w108.cell? ((a1).add 5) = some (.int .i64 (x86)) ∧ w108.cell? ((a1).add 4) = some (.int .u64 (x85)) ∧ w108.cell? ((a1).add 3) = some (.slice (l84.a) (l84.len) (l84.cap)) ∧ J8 (a98) ⟨l84.a, l84.len, l84.cap⟩ x85 x86 w108)
def A_law10_FilterWider : Ann := ⟨[(6, [(8, .one (.int .i64))])], [(2, [(3, .one (.adr)), (4, .one (.sl)), (5, .one (.int .u64)), (6, .one (.int .i64))]), (7, []), (8, []), (11, []), (13, []), (14, [])], [(1, [⟨0, 0, 0, true⟩, ⟨1, 1, 1, true⟩, ⟨2, 0, 3, false⟩, ⟨0, 0, 0, true⟩, ⟨8, 8, 8, true⟩, ⟨0, 0, 0, true⟩, ⟨32, 32, 32, true⟩, ⟨0, 0, 0, true⟩, ⟨128, 128, 128, true⟩, ⟨0, 0, 0, false⟩, ⟨519, 0, 519, false⟩, ⟨1567, 16, 1567, true⟩, ⟨3711, 64, 3711, true⟩, ⟨8191, 256, 8191, true⟩])]⟩
theorem F_law10_FilterWider_eq (x0 : Int) (x1 : Int) (x2 : Sl) (x3 : Sl) (x4 : Int) (x5 : Int) (w : World) (Q : Value → World → Prop) : vcFn Tryd.prog A_law10_FilterWider Tryd.f3 #[.agg #[.int .i64 (x0), .int .i64 (x1), .slice (x2.a) (x2.len) (x2.cap), .slice (x3.a) (x3.len) (x3.cap), .int .u64 (x4), .int .i64 (x5)]] w Q = F_law10_FilterWider x0 x1 x2 x3 x4 x5 w Q := by kernel_rfl
theorem F_law10_FilterWider_does (x0 : Int) (x1 : Int) (x2 : Sl) (x3 : Sl) (x4 : Int) (x5 : Int) (w : World) (Q : Value → World → Prop) (hQ : F_law10_FilterWider x0 x1 x2 x3 x4 x5 w Q) : Does Tryd.prog N_law10_FilterWider #[.agg #[.int .i64 (x0), .int .i64 (x1), .slice (x2.a) (x2.len) (x2.cap), .slice (x3.a) (x3.len) (x3.cap), .int .u64 (x4), .int .i64 (x5)]] w Q :=
  vcFn_sound noAsk mixed (A := A_law10_FilterWider) (by kernel_rfl) Tryd.func3 (Nat.le_of_ble_eq_true (by kernel_rfl)) (by kernel_rfl) ((F_law10_FilterWider_eq x0 x1 x2 x3 x4 x5 w Q).mpr hQ)

/- nacelle/nacellelaw10.FilterCaps -/
def F_law10_FilterCaps (l0 : Int) (l1 : Int) (l2 : Int) (l3 : Sl) (l4 : Int) (l5 : Int) (w : World) (Q : Value → World → Prop) : Prop :=
  allocK w (#[.int .i64 (l0), .int .i64 (l1), .int .i64 (l2), .slice (l3.a) (l3.len) (l3.cap), .int .i64 (l4), .int .i64 (l5)]) T_law10_Caps fun a1 w2 =>
  ldT (.int .i64) w2.drew (a1) fun x3 => ldT (.int .i64) w2.drew ((a1).add 1) fun x4 => ldT (.int .i64) w2.drew ((a1).add 2) fun x5 =>
  ldT (.sl) w2.drew ((a1).add 3) fun l6 =>
  ldT (.int .i64) w2.drew ((a1).add 4) fun x7 =>
  ldT (.int .i64) w2.drew ((a1).add 5) fun x8 =>
  allocK w2.drew (zc Tryd.prog T_api_Cap) T_api_Cap fun a9 w10 =>
  w10.cell? ((a1).add 5) = some (.int .i64 (x8)) ∧ w10.cell? ((a1).add 4) = some (.int .i64 (x7)) ∧ w10.cell? ((a1).add 3) = some (.slice (l6.a) (l6.len) (l6.cap)) ∧ ((#[.int .i64 (x3), .int .i64 (x4), .int .i64 (x5)] : Array Value).size = 3 ∧ RowIs w10 (a1) #[.int .i64 (x3), .int .i64 (x4), .int .i64 (x5)]) ∧ stC w10 (a9) (.int .i64 (x3)) fun w12 => stC w12 ((a9).add 1) (.int .i64 (x4)) fun w13 => stC w13 ((a9).add 2) (.int .i64 (x5)) fun w14 =>
  w14.cell? ((a1).add 5) = some (.int .i64 (x8)) ∧ w14.cell? ((a1).add 4) = some (.int .i64 (x7)) ∧ w14.cell? ((a1).add 3) = some (.slice (l6.a) (l6.len) (l6.cap)) ∧ Does Tryd.prog N_filter_Begin #[.int .i64 (x7), .int .i64 (x8)] w14 fun r15 w16 => ∃ x17 : Int, ∃ x18 : Int, ∃ x19 : Int, ∃ x20 : Int, r15 = .tuple #[.agg #[.int .i64 (x17), .int .i64 (x18), .int .i64 (x19)], .int .i64 (x20)] ∧
  allocK w16 (zc Tryd.prog T_api_Cap) T_api_Cap fun a21 w22 =>
  stC w22 (a21) (.int .i64 (x17)) fun w24 => stC w24 ((a21).add 1) (.int .i64 (x18)) fun w25 => stC w25 ((a21).add 2) (.int .i64 (x19)) fun w26 =>
  allocK w26 (zc Tryd.prog T_api_Cap) T_api_Cap fun a27 w28 =>
  stC w28 (a27) (.int .i64 (x7)) fun w30 => stC w30 ((a27).add 1) (.int .i64 (x8)) fun w31 => stC w31 ((a27).add 2) (.int .i64 (x8)) fun w32 =>
  ∀ J34 : World → Prop, (∀ w33 : World, 
    (ldT (.int .i64) w33 (a9) fun x35 => ldT (.int .i64) w33 ((a9).add 1) fun x36 => ldT (.int .i64) w33 ((a9).add 2) fun x37 =>
    allocK w33 (zc Tryd.prog T_api_Cap) T_api_Cap fun a38 w39 =>
    stC w39 (a38) (.int .i64 (x35)) fun w41 => stC w41 ((a38).add 1) (.int .i64 (x36)) fun w42 => stC w42 ((a38).add 2) (.int .i64 (x37)) fun w43 =>
    ∀ J45 : World → Prop, (∀ w44 : World, 
      (Does Tryd.prog N_law10_awake #[] w44 fun r46 w47 => ∃ b48 : Bool, r46 = .bool (b48) ∧
      Q (.bool (b48)) w47) → J45 w44) →
    ∃ (I51 : Int → World → Prop) (M52 : Int → World → Nat), I51 0 w43 ∧
    ∀ i49 : Int, ∀ w50 : World, I51 i49 w50 →
      ∀ J54 : World → Prop, (∀ w53 : World, 
        (∀ J56 : World → Prop, (∀ w55 : World, 
          (I51 (IntKind.wrap .i64 (i49 + 1)) w55 ∧ M52 (IntKind.wrap .i64 (i49 + 1)) w55 < M52 i49 w50) → J56 w55) →
        idx (l6.a) (l6.len) (i49) 1 fun a57 =>
        ldT (.bool) w53 (a57) fun b58 =>
        cond (b58)
        (ldT (.int .i64) w53.drew (a9) fun x59 => ldT (.int .i64) w53.drew ((a9).add 1) fun x60 => ldT (.int .i64) w53.drew ((a9).add 2) fun x61 =>
         ldT (.int .i64) w53.drew (a38) fun x62 => ldT (.int .i64) w53.drew ((a38).add 1) fun x63 => ldT (.int .i64) w53.drew ((a38).add 2) fun x64 =>
         Does Tryd.prog N_filter_Frame #[.agg #[.int .i64 (x59), .int .i64 (x60), .int .i64 (x61)]] w53.drew fun r65 w66 => ∃ x67 : Int, ∃ x68 : Int, ∃ x69 : Int, r65 = .agg #[.int .i64 (x67), .int .i64 (x68), .int .i64 (x69)] ∧
         ((#[.int .i64 (x62), .int .i64 (x63), .int .i64 (x64)] : Array Value).size = 3 ∧ RowIs w66 (a38) #[.int .i64 (x62), .int .i64 (x63), .int .i64 (x64)]) ∧ Does Tryd.prog N_ref10_Frame #[.agg #[.int .i64 (x62), .int .i64 (x63), .int .i64 (x64)]] w66 fun r70 w71 => ∃ x72 : Int, ∃ x73 : Int, ∃ x74 : Int, r70 = .agg #[.int .i64 (x72), .int .i64 (x73), .int .i64 (x74)] ∧
         stC w71 (a9) (.int .i64 (x67)) fun w76 => stC w76 ((a9).add 1) (.int .i64 (x68)) fun w77 => stC w77 ((a9).add 2) (.int .i64 (x69)) fun w78 =>
         stC w78 (a38) (.int .i64 (x72)) fun w80 => stC w80 ((a38).add 1) (.int .i64 (x73)) fun w81 => stC w81 ((a38).add 2) (.int .i64 (x74)) fun w82 =>
         ldT (.int .i64) w82 (a9) fun x83 => ldT (.int .i64) w82 ((a9).add 1) fun x84 => ldT (.int .i64) w82 ((a9).add 2) fun x85 =>
         ldT (.int .i64) w82 (a38) fun x86 => ldT (.int .i64) w82 ((a38).add 1) fun x87 => ldT (.int .i64) w82 ((a38).add 2) fun x88 =>
         runG (.bool) Tryd.prog w82 (do eqGuard .neq T_api_Cap (.tmp 87) (.tmp 88) (.agg #[.int .i64 (x83), .int .i64 (x84), .int .i64 (x85)]) (.agg #[.int .i64 (x86), .int .i64 (x87), .int .i64 (x88)]); binOp .neq T_api_Cap (.agg #[.int .i64 (x83), .int .i64 (x84), .int .i64 (x85)]) (.agg #[.int .i64 (x86), .int .i64 (x87), .int .i64 (x88)])) fun b89 w90 =>
         cond (b89)
         (Q (.bool (false)) w90)
         (J56 w90))
        (ldT (.int .i64) w53 (a9) fun x91 => ldT (.int .i64) w53 ((a9).add 1) fun x92 => ldT (.int .i64) w53 ((a9).add 2) fun x93 =>
         Does Tryd.prog N_filter_Take #[.agg #[.int .i64 (x91), .int .i64 (x92), .int .i64 (x93)]] w53 fun r94 w95 => ∃ x96 : Int, ∃ x97 : Int, ∃ x98 : Int, ∃ b99 : Bool, r94 = .tuple #[.agg #[.int .i64 (x96), .int .i64 (x97), .int .i64 (x98)], .bool (b99)] ∧
         allocK w95 (zc Tryd.prog T_api_Cap) T_api_Cap fun a100 w101 =>
         stC w101 (a100) (.int .i64 (x96)) fun w103 => stC w103 ((a100).add 1) (.int .i64 (x97)) fun w104 => stC w104 ((a100).add 2) (.int .i64 (x98)) fun w105 =>
         ldT (.int .i64) w105 (a38) fun x106 => ldT (.int .i64) w105 ((a38).add 1) fun x107 => ldT (.int .i64) w105 ((a38).add 2) fun x108 =>
         Does Tryd.prog N_ref10_Take #[.agg #[.int .i64 (x106), .int .i64 (x107), .int .i64 (x108)]] w105 fun r109 w110 => ∃ x111 : Int, ∃ x112 : Int, ∃ x113 : Int, ∃ b114 : Bool, r109 = .tuple #[.agg #[.int .i64 (x111), .int .i64 (x112), .int .i64 (x113)], .bool (b114)] ∧
         allocK w110 (zc Tryd.prog T_api_Cap) T_api_Cap fun a115 w116 =>
         stC w116 (a115) (.int .i64 (x111)) fun w118 => stC w118 ((a115).add 1) (.int .i64 (x112)) fun w119 => stC w119 ((a115).add 2) (.int .i64 (x113)) fun w120 =>
         ∀ J122 : World → Prop, (∀ w121 : World, 
           (ldT (.int .i64) w121.drew (a100) fun x123 => ldT (.int .i64) w121.drew ((a100).add 1) fun x124 => ldT (.int .i64) w121.drew ((a100).add 2) fun x125 =>
           ldT (.int .i64) w121.drew (a115) fun x126 => ldT (.int .i64) w121.drew ((a115).add 1) fun x127 => ldT (.int .i64) w121.drew ((a115).add 2) fun x128 =>
           stC w121.drew (a9) (.int .i64 (x123)) fun w130 => stC w130 ((a9).add 1) (.int .i64 (x124)) fun w131 => stC w131 ((a9).add 2) (.int .i64 (x125)) fun w132 =>
           ((#[.int .i64 (x126), .int .i64 (x127), .int .i64 (x128)] : Array Value).size = 3 ∧ RowIs w132 (a115) #[.int .i64 (x126), .int .i64 (x127), .int .i64 (x128)]) ∧ stC w132 (a38) (.int .i64 (x126)) fun w134 => stC w134 ((a38).add 1) (.int .i64 (x127)) fun w135 => stC w135 ((a38).add 2) (.int .i64 (x128)) fun w136 =>
           J56 w136) → J122 w121) →
         ldT (.int .i64) w120 (a100) fun x137 => ldT (.int .i64) w120 ((a100).add 1) fun x138 => ldT (.int .i64) w120 ((a100).add 2) fun x139 =>
         ldT (.int .i64) w120 (a115) fun x140 => ldT (.int .i64) w120 ((a115).add 1) fun x141 => ldT (.int .i64) w120 ((a115).add 2) fun x142 =>
         runG (.bool) Tryd.prog w120 (do eqGuard .neq T_api_Cap (.tmp 100) (.tmp 101) (.agg #[.int .i64 (x137), .int .i64 (x138), .int .i64 (x139)]) (.agg #[.int .i64 (x140), .int .i64 (x141), .int .i64 (x142)]); binOp .neq T_api_Cap (.agg #[.int .i64 (x137), .int .i64 (x138), .int .i64 (x139)]) (.agg #[.int .i64 (x140), .int .i64 (x141), .int .i64 (x142)])) fun b143 w144 =>
         cond (b143)
         (Q (.bool (false)) w144)
         (cond (!(b99 == b114))
          (Q (.bool (false)) w144)
          (J122 w144)))) → J54 w53) →
      cond (decide ((i49 : Int) < (((l6.len : Nat) : Int))))
      (cond (decide ((i49 : Int) < 200))
       (J54 w50)
       (J45 w50))
      (J45 w50)) → J34 w33) →
  ldT (.int .i64) w32.drew (a27) fun x145 => ldT (.int .i64) w32.drew ((a27).add 1) fun x146 => ldT (.int .i64) w32.drew ((a27).add 2) fun x147 =>
  Does Tryd.prog N_ref10_May #[.agg #[.int .i64 (x145), .int .i64 (x146), .int .i64 (x147)]] w32.drew fun r148 w149 => ∃ b150 : Bool, r148 = .bool (b150) ∧
  cond (!(b150 == ((x20 : Int) == 0)))
  (Q (.bool (false)) w149)
  (cond ((x20 : Int) == 0)
   (ldT (.int .i64) w149 (a21) fun x151 => ldT (.int .i64) w149 ((a21).add 1) fun x152 => ldT (.int .i64) w149 ((a21).add 2) fun x153 =>
    ldT (.int .i64) w149 (a27) fun x154 => ldT (.int .i64) w149 ((a27).add 1) fun x155 => ldT (.int .i64) w149 ((a27).add 2) fun x156 =>
    runG (.bool) Tryd.prog w149 (do eqGuard .neq T_api_Cap (.tmp 43) (.tmp 44) (.agg #[.int .i64 (x151), .int .i64 (x152), .int .i64 (x153)]) (.agg #[.int .i64 (x154), .int .i64 (x155), .int .i64 (x156)]); binOp .neq T_api_Cap (.agg #[.int .i64 (x151), .int .i64 (x152), .int .i64 (x153)]) (.agg #[.int .i64 (x154), .int .i64 (x155), .int .i64 (x156)])) fun b157 w158 =>
    cond (b157)
    (Q (.bool (false)) w158)
    (cond ((x20 : Int) != 0)
     (cond ((x20 : Int) != 1)
      (Q (.bool (false)) w158)
      (ldT (.int .i64) w158 (a21) fun x159 => ldT (.int .i64) w158 ((a21).add 1) fun x160 => ldT (.int .i64) w158 ((a21).add 2) fun x161 =>
       runG (.bool) Tryd.prog w158 (do eqGuard .neq T_api_Cap (.tmp 55) (.tmp 56) (.agg #[.int .i64 (x159), .int .i64 (x160), .int .i64 (x161)]) (.agg #[.int .i64 (0), .int .i64 (0), .int .i64 (0)]); binOp .neq T_api_Cap (.agg #[.int .i64 (x159), .int .i64 (x160), .int .i64 (x161)]) (.agg #[.int .i64 (0), .int .i64 (0), .int .i64 (0)])) fun b162 w163 =>
       cond (b162)
       (Q (.bool (false)) w163)
       (ldT (.int .i64) w163 (a9) fun x164 => ldT (.int .i64) w163 ((a9).add 1) fun x165 => ldT (.int .i64) w163 ((a9).add 2) fun x166 =>
        ldT (.int .i64) w163 (a9) fun x167 => ldT (.int .i64) w163 ((a9).add 1) fun x168 => ldT (.int .i64) w163 ((a9).add 2) fun x169 =>
        Does Tryd.prog N_filter_May #[.agg #[.int .i64 (x164), .int .i64 (x165), .int .i64 (x166)]] w163 fun r170 w171 => ∃ b172 : Bool, r170 = .bool (b172) ∧
        ((#[.int .i64 (x167), .int .i64 (x168), .int .i64 (x169)] : Array Value).size = 3 ∧ RowIs w171 (a9) #[.int .i64 (x167), .int .i64 (x168), .int .i64 (x169)]) ∧ Does Tryd.prog N_ref10_May #[.agg #[.int .i64 (x167), .int .i64 (x168), .int .i64 (x169)]] w171 fun r173 w174 => ∃ b175 : Bool, r173 = .bool (b175) ∧
        cond (!(b172 == b175))
        (Q (.bool (false)) w174)
        (J34 w174))))
     (ldT (.int .i64) w158 (a9) fun x176 => ldT (.int .i64) w158 ((a9).add 1) fun x177 => ldT (.int .i64) w158 ((a9).add 2) fun x178 =>
      ldT (.int .i64) w158 (a9) fun x179 => ldT (.int .i64) w158 ((a9).add 1) fun x180 => ldT (.int .i64) w158 ((a9).add 2) fun x181 =>
      Does Tryd.prog N_filter_May #[.agg #[.int .i64 (x176), .int .i64 (x177), .int .i64 (x178)]] w158 fun r182 w183 => ∃ b184 : Bool, r182 = .bool (b184) ∧
      ((#[.int .i64 (x179), .int .i64 (x180), .int .i64 (x181)] : Array Value).size = 3 ∧ RowIs w183 (a9) #[.int .i64 (x179), .int .i64 (x180), .int .i64 (x181)]) ∧ Does Tryd.prog N_ref10_May #[.agg #[.int .i64 (x179), .int .i64 (x180), .int .i64 (x181)]] w183 fun r185 w186 => ∃ b187 : Bool, r185 = .bool (b187) ∧
      cond (!(b184 == b187))
      (Q (.bool (false)) w186)
      (J34 w186))))
   (cond ((x20 : Int) != 0)
    (cond ((x20 : Int) != 1)
     (Q (.bool (false)) w149)
     (ldT (.int .i64) w149 (a21) fun x188 => ldT (.int .i64) w149 ((a21).add 1) fun x189 => ldT (.int .i64) w149 ((a21).add 2) fun x190 =>
      runG (.bool) Tryd.prog w149 (do eqGuard .neq T_api_Cap (.tmp 55) (.tmp 56) (.agg #[.int .i64 (x188), .int .i64 (x189), .int .i64 (x190)]) (.agg #[.int .i64 (0), .int .i64 (0), .int .i64 (0)]); binOp .neq T_api_Cap (.agg #[.int .i64 (x188), .int .i64 (x189), .int .i64 (x190)]) (.agg #[.int .i64 (0), .int .i64 (0), .int .i64 (0)])) fun b191 w192 =>
      cond (b191)
      (Q (.bool (false)) w192)
      (ldT (.int .i64) w192 (a9) fun x193 => ldT (.int .i64) w192 ((a9).add 1) fun x194 => ldT (.int .i64) w192 ((a9).add 2) fun x195 =>
       ldT (.int .i64) w192 (a9) fun x196 => ldT (.int .i64) w192 ((a9).add 1) fun x197 => ldT (.int .i64) w192 ((a9).add 2) fun x198 =>
       Does Tryd.prog N_filter_May #[.agg #[.int .i64 (x193), .int .i64 (x194), .int .i64 (x195)]] w192 fun r199 w200 => ∃ b201 : Bool, r199 = .bool (b201) ∧
       ((#[.int .i64 (x196), .int .i64 (x197), .int .i64 (x198)] : Array Value).size = 3 ∧ RowIs w200 (a9) #[.int .i64 (x196), .int .i64 (x197), .int .i64 (x198)]) ∧ Does Tryd.prog N_ref10_May #[.agg #[.int .i64 (x196), .int .i64 (x197), .int .i64 (x198)]] w200 fun r202 w203 => ∃ b204 : Bool, r202 = .bool (b204) ∧
       cond (!(b201 == b204))
       (Q (.bool (false)) w203)
       (J34 w203))))
    (ldT (.int .i64) w149 (a9) fun x205 => ldT (.int .i64) w149 ((a9).add 1) fun x206 => ldT (.int .i64) w149 ((a9).add 2) fun x207 =>
     ldT (.int .i64) w149 (a9) fun x208 => ldT (.int .i64) w149 ((a9).add 1) fun x209 => ldT (.int .i64) w149 ((a9).add 2) fun x210 =>
     Does Tryd.prog N_filter_May #[.agg #[.int .i64 (x205), .int .i64 (x206), .int .i64 (x207)]] w149 fun r211 w212 => ∃ b213 : Bool, r211 = .bool (b213) ∧
     ((#[.int .i64 (x208), .int .i64 (x209), .int .i64 (x210)] : Array Value).size = 3 ∧ RowIs w212 (a9) #[.int .i64 (x208), .int .i64 (x209), .int .i64 (x210)]) ∧ Does Tryd.prog N_ref10_May #[.agg #[.int .i64 (x208), .int .i64 (x209), .int .i64 (x210)]] w212 fun r214 w215 => ∃ b216 : Bool, r214 = .bool (b216) ∧
     cond (!(b213 == b216))
     (Q (.bool (false)) w215)
     (J34 w215))))
def A_law10_FilterCaps : Ann := ⟨[(8, [(11, .one (.int .i64))])], [(6, []), (9, []), (10, []), (18, []), (19, [])], [(1, [⟨0, 0, 0, true⟩, ⟨1, 1, 1, true⟩, ⟨0, 0, 0, true⟩, ⟨4, 4, 4, true⟩, ⟨0, 0, 0, true⟩, ⟨16, 16, 16, true⟩, ⟨0, 0, 0, true⟩, ⟨64, 64, 64, true⟩, ⟨0, 0, 0, false⟩, ⟨259, 0, 259, false⟩, ⟨783, 8, 783, true⟩, ⟨1855, 32, 1855, true⟩, ⟨4095, 128, 4095, true⟩]), (4, [⟨0, 0, 0, true⟩, ⟨1, 0, 1, false⟩, ⟨0, 0, 0, true⟩, ⟨4, 4, 4, true⟩, ⟨10, 10, 15, true⟩, ⟨18, 16, 31, true⟩, ⟨32, 32, 63, true⟩, ⟨96, 96, 127, true⟩, ⟨160, 160, 255, true⟩, ⟨256, 256, 511, true⟩, ⟨256, 256, 511, true⟩, ⟨1792, 0, 2047, false⟩, ⟨2336, 2336, 4095, true⟩, ⟨4128, 4128, 8191, true⟩, ⟨8448, 8192, 16383, true⟩, ⟨16384, 16384, 32767, true⟩, ⟨49152, 49152, 65535, true⟩, ⟨81920, 81920, 131071, true⟩, ⟨131072, 131072, 262143, true⟩, ⟨393216, 393216, 524287, true⟩, ⟨655360, 655360, 1048575, true⟩, ⟨1048576, 1048576, 2097151, true⟩, ⟨1048576, 1048576, 2097151, true⟩, ⟨7340032, 0, 8388607, false⟩, ⟨9568256, 9568256, 16777215, true⟩, ⟨16924672, 16924672, 33554431, true⟩, ⟨33570816, 33570816, 67108863, true⟩, ⟨68157440, 67108864, 134217727, true⟩, ⟨134217728, 134217728, 268435455, true⟩, ⟨402653184, 0, 536870911, false⟩, ⟨134217728, 134217728, 268435455, true⟩, ⟨1744830464, 0, 2147483647, false⟩, ⟨2818572288, 2818572288, 4294967295, true⟩, ⟨4429185024, 4429185024, 8589934591, true⟩]), (11, [⟨0, 0, 0, true⟩, ⟨1, 0, 1, false⟩, ⟨0, 0, 0, true⟩, ⟨6, 0, 7, false⟩, ⟨11, 0, 15, false⟩, ⟨31, 0, 31, false⟩]), (18, [⟨0, 0, 0, true⟩, ⟨0, 0, 0, true⟩, ⟨1, 0, 1, false⟩, ⟨7, 0, 7, false⟩])]⟩
theorem F_law10_FilterCaps_eq (l0 : Int) (l1 : Int) (l2 : Int) (l3 : Sl) (l4 : Int) (l5 : Int) (w : World) (Q : Value → World → Prop) : vcFn Tryd.prog A_law10_FilterCaps Tryd.f4 #[.agg #[.int .i64 (l0), .int .i64 (l1), .int .i64 (l2), .slice (l3.a) (l3.len) (l3.cap), .int .i64 (l4), .int .i64 (l5)]] w Q = F_law10_FilterCaps l0 l1 l2 l3 l4 l5 w Q := by kernel_rfl
theorem F_law10_FilterCaps_does (l0 : Int) (l1 : Int) (l2 : Int) (l3 : Sl) (l4 : Int) (l5 : Int) (w : World) (Q : Value → World → Prop) (hQ : F_law10_FilterCaps l0 l1 l2 l3 l4 l5 w Q) : Does Tryd.prog N_law10_FilterCaps #[.agg #[.int .i64 (l0), .int .i64 (l1), .int .i64 (l2), .slice (l3.a) (l3.len) (l3.cap), .int .i64 (l4), .int .i64 (l5)]] w Q :=
  vcFn_sound noAsk mixed (A := A_law10_FilterCaps) (by kernel_rfl) Tryd.func4 (Nat.le_of_ble_eq_true (by kernel_rfl)) (by kernel_rfl) ((F_law10_FilterCaps_eq l0 l1 l2 l3 l4 l5 w Q).mpr hQ)

/- nacelle/nacellelaw10.FilterCapped -/
def F_law10_FilterCapped (l0 : Int) (l1 : Int) (l2 : Int) (l3 : Sl) (l4 : Int) (l5 : Int) (w : World) (Q : Value → World → Prop) : Prop :=
  allocK w (#[.int .i64 (l0), .int .i64 (l1), .int .i64 (l2), .slice (l3.a) (l3.len) (l3.cap), .int .i64 (l4), .int .i64 (l5)]) T_law10_Caps fun a1 w2 =>
  ldT (.int .i64) w2.drew ((a1).add 4) fun x3 =>
  ldT (.int .i64) w2.drew ((a1).add 5) fun x4 =>
  ldT (.sl) w2.drew ((a1).add 3) fun l5 =>
  ldT (.int .i64) w2.drew ((a1).add 2) fun x6 =>
  Does Tryd.prog N_filter_Begin #[.int .i64 (x3), .int .i64 (x4)] w2.drew fun r7 w8 => ∃ x9 : Int, ∃ x10 : Int, ∃ x11 : Int, ∃ x12 : Int, r7 = .tuple #[.agg #[.int .i64 (x9), .int .i64 (x10), .int .i64 (x11)], .int .i64 (x12)] ∧
  allocK w8 (zc Tryd.prog T_api_Cap) T_api_Cap fun a13 w14 =>
  stC w14 (a13) (.int .i64 (x9)) fun w16 => stC w16 ((a13).add 1) (.int .i64 (x10)) fun w17 => stC w17 ((a13).add 2) (.int .i64 (x11)) fun w18 =>
  cond ((x12 : Int) != 0)
  (Does Tryd.prog N_law10_awake #[] w18 fun r19 w20 => ∃ b21 : Bool, r19 = .bool (b21) ∧
   Q (.bool (b21)) w20)
  (∀ J23 : World → Prop, (∀ w22 : World, 
     (Does Tryd.prog N_law10_awake #[] w22 fun r24 w25 => ∃ b26 : Bool, r24 = .bool (b26) ∧
     Q (.bool (b26)) w25) → J23 w22) →
   ∃ (I31 : Int → Int → Int → World → Prop) (M32 : Int → Int → Int → World → Nat), I31 0 0 0 w18 ∧
   ∀ passed27 : Int, ∀ begun28 : Int, ∀ i29 : Int, ∀ w30 : World, I31 passed27 begun28 i29 w30 →
     ∀ J34 : World → Prop, (∀ w33 : World, 
       (∀ J38 : Int → Int → World → Prop, (∀ passed35 : Int, ∀ begun36 : Int, ∀ w37 : World, 
         (I31 passed35 begun36 (IntKind.wrap .i64 (i29 + 1)) w37 ∧ M32 passed35 begun36 (IntKind.wrap .i64 (i29 + 1)) w37 < M32 passed27 begun28 i29 w30) → J38 passed35 begun36 w37) →
       ∀ J42 : Int → Int → World → Prop, (∀ passed39 : Int, ∀ begun40 : Int, ∀ w41 : World, 
         (idx (l5.a) (l5.len) (i29) 1 fun a43 =>
         ldT (.bool) w41 (a43) fun b44 =>
         cond (b44)
         (ldT (.int .i64) w41 (a13) fun x45 => ldT (.int .i64) w41 ((a13).add 1) fun x46 => ldT (.int .i64) w41 ((a13).add 2) fun x47 =>
          Does Tryd.prog N_filter_Frame #[.agg #[.int .i64 (x45), .int .i64 (x46), .int .i64 (x47)]] w41 fun r48 w49 => ∃ x50 : Int, ∃ x51 : Int, ∃ x52 : Int, r48 = .agg #[.int .i64 (x50), .int .i64 (x51), .int .i64 (x52)] ∧
          stC w49 (a13) (.int .i64 (x50)) fun w54 => stC w54 ((a13).add 1) (.int .i64 (x51)) fun w55 => stC w55 ((a13).add 2) (.int .i64 (x52)) fun w56 =>
          J38 passed39 (IntKind.wrap .i64 (begun40 + 1)) w56)
         (ldT (.int .i64) w41 (a13) fun x57 => ldT (.int .i64) w41 ((a13).add 1) fun x58 => ldT (.int .i64) w41 ((a13).add 2) fun x59 =>
          Does Tryd.prog N_filter_Take #[.agg #[.int .i64 (x57), .int .i64 (x58), .int .i64 (x59)]] w41 fun r60 w61 => ∃ x62 : Int, ∃ x63 : Int, ∃ x64 : Int, ∃ b65 : Bool, r60 = .tuple #[.agg #[.int .i64 (x62), .int .i64 (x63), .int .i64 (x64)], .bool (b65)] ∧
          allocK w61 (zc Tryd.prog T_api_Cap) T_api_Cap fun a66 w67 =>
          stC w67 (a66) (.int .i64 (x62)) fun w69 => stC w69 ((a66).add 1) (.int .i64 (x63)) fun w70 => stC w70 ((a66).add 2) (.int .i64 (x64)) fun w71 =>
          ldT (.int .i64) w71 (a66) fun x72 => ldT (.int .i64) w71 ((a66).add 1) fun x73 => ldT (.int .i64) w71 ((a66).add 2) fun x74 =>
          stC w71 (a13) (.int .i64 (x72)) fun w76 => stC w76 ((a13).add 1) (.int .i64 (x73)) fun w77 => stC w77 ((a13).add 2) (.int .i64 (x74)) fun w78 =>
          ∀ J81 : Int → World → Prop, (∀ passed79 : Int, ∀ w80 : World, 
            (cond (decide ((passed79 : Int) > (IntKind.wrap .i64 (x4 + (IntKind.wrap .i64 (x3 * begun40))))))
            (Q (.bool (false)) w80)
            (ldT (.int .i64) w80 ((a13).add 2) fun x82 =>
             cond (decide ((x82 : Int) < 0))
             (Q (.bool (false)) w80)
             (ldT (.int .i64) w80 ((a13).add 2) fun x83 =>
              cond (decide ((x83 : Int) > x4))
              (Q (.bool (false)) w80)
              (J38 passed79 begun40 w80)))) → J81 passed79 w80) →
          cond (b65)
          (J81 (IntKind.wrap .i64 (passed39 + 1)) w78)
          (J81 passed39 w78))) → J42 passed39 begun40 w41) →
       cond ((i29 : Int) == x6)
       (J42 0 0 w33)
       (J42 passed27 begun28 w33)) → J34 w33) →
     cond (decide ((i29 : Int) < (((l5.len : Nat) : Int))))
     (cond (decide ((i29 : Int) < 300))
      (J34 w30)
      (J23 w30))
     (J23 w30))
def A_law10_FilterCapped : Ann := ⟨[(7, [(9, .one (.int .i64)), (10, .one (.int .i64)), (11, .one (.int .i64))])], [(8, [(9, .one (.int .i64)), (10, .one (.int .i64))]), (9, []), (11, [(9, .one (.int .i64)), (10, .one (.int .i64))]), (18, [(9, .one (.int .i64))]), (20, [])], [(1, [⟨0, 0, 0, true⟩, ⟨1, 1, 1, true⟩, ⟨0, 0, 0, true⟩, ⟨4, 4, 4, true⟩, ⟨0, 0, 0, true⟩, ⟨16, 16, 16, true⟩, ⟨0, 0, 0, true⟩, ⟨64, 64, 64, true⟩, ⟨128, 128, 192, true⟩, ⟨3, 2, 3, true⟩, ⟨527, 8, 527, true⟩, ⟨1599, 32, 1599, true⟩, ⟨4095, 256, 4095, true⟩])]⟩
theorem F_law10_FilterCapped_eq (l0 : Int) (l1 : Int) (l2 : Int) (l3 : Sl) (l4 : Int) (l5 : Int) (w : World) (Q : Value → World → Prop) : vcFn Tryd.prog A_law10_FilterCapped Tryd.f5 #[.agg #[.int .i64 (l0), .int .i64 (l1), .int .i64 (l2), .slice (l3.a) (l3.len) (l3.cap), .int .i64 (l4), .int .i64 (l5)]] w Q = F_law10_FilterCapped l0 l1 l2 l3 l4 l5 w Q := by kernel_rfl
theorem F_law10_FilterCapped_does (l0 : Int) (l1 : Int) (l2 : Int) (l3 : Sl) (l4 : Int) (l5 : Int) (w : World) (Q : Value → World → Prop) (hQ : F_law10_FilterCapped l0 l1 l2 l3 l4 l5 w Q) : Does Tryd.prog N_law10_FilterCapped #[.agg #[.int .i64 (l0), .int .i64 (l1), .int .i64 (l2), .slice (l3.a) (l3.len) (l3.cap), .int .i64 (l4), .int .i64 (l5)]] w Q :=
  vcFn_sound noAsk mixed (A := A_law10_FilterCapped) (by kernel_rfl) Tryd.func5 (Nat.le_of_ble_eq_true (by kernel_rfl)) (by kernel_rfl) ((F_law10_FilterCapped_eq l0 l1 l2 l3 l4 l5 w Q).mpr hQ)

/- nacelle/nacellelaw10.FilterAll -/
def F_law10_FilterAll (c0 : Int) (c1 : Int) (c2 : Int) (w : World) (Q : Value → World → Prop) : Prop :=
  allocK w (#[.int .i64 (c0), .int .i64 (c1), .int .i64 (c2)]) T_api_Cap fun a1 w2 =>
  ldT (.int .i64) w2 (a1) fun x3 => ldT (.int .i64) w2 ((a1).add 1) fun x4 => ldT (.int .i64) w2 ((a1).add 2) fun x5 =>
  Does Tryd.prog N_filter_May #[.agg #[.int .i64 (x3), .int .i64 (x4), .int .i64 (x5)]] w2 fun r6 w7 => ∃ b8 : Bool, r6 = .bool (b8) ∧
  cond (!b8)
  (ldT (.int .i64) w7 (a1) fun x9 => ldT (.int .i64) w7 ((a1).add 1) fun x10 => ldT (.int .i64) w7 ((a1).add 2) fun x11 =>
   Does Tryd.prog N_filter_Take #[.agg #[.int .i64 (x9), .int .i64 (x10), .int .i64 (x11)]] w7 fun r12 w13 => ∃ x14 : Int, ∃ x15 : Int, ∃ x16 : Int, ∃ b17 : Bool, r12 = .tuple #[.agg #[.int .i64 (x14), .int .i64 (x15), .int .i64 (x16)], .bool (b17)] ∧
   allocK w13 (zc Tryd.prog T_api_Cap) T_api_Cap fun a18 w19 =>
   stC w19 (a18) (.int .i64 (x14)) fun w21 => stC w21 ((a18).add 1) (.int .i64 (x15)) fun w22 => stC w22 ((a18).add 2) (.int .i64 (x16)) fun w23 =>
   cond (!b17)
   (ldT (.int .i64) w23.drew (a18) fun x24 => ldT (.int .i64) w23.drew ((a18).add 1) fun x25 => ldT (.int .i64) w23.drew ((a18).add 2) fun x26 =>
    ldT (.int .i64) w23.drew (a1) fun x27 => ldT (.int .i64) w23.drew ((a1).add 1) fun x28 => ldT (.int .i64) w23.drew ((a1).add 2) fun x29 =>
    runG (.bool) Tryd.prog w23.drew (do eqGuard .eql T_api_Cap (.tmp 22) (.tmp 23) (.agg #[.int .i64 (x24), .int .i64 (x25), .int .i64 (x26)]) (.agg #[.int .i64 (x27), .int .i64 (x28), .int .i64 (x29)]); binOp .eql T_api_Cap (.agg #[.int .i64 (x24), .int .i64 (x25), .int .i64 (x26)]) (.agg #[.int .i64 (x27), .int .i64 (x28), .int .i64 (x29)])) fun b30 w31 =>
    cond (b30)
    (ldT (.int .i64) w31 (a1) fun x32 => ldT (.int .i64) w31 ((a1).add 1) fun x33 => ldT (.int .i64) w31 ((a1).add 2) fun x34 =>
     ldT (.int .i64) w31 (a1) fun x35 => ldT (.int .i64) w31 ((a1).add 1) fun x36 => ldT (.int .i64) w31 ((a1).add 2) fun x37 =>
     Does Tryd.prog N_filter_Frame #[.agg #[.int .i64 (x32), .int .i64 (x33), .int .i64 (x34)]] w31 fun r38 w39 => ∃ x40 : Int, ∃ x41 : Int, ∃ x42 : Int, r38 = .agg #[.int .i64 (x40), .int .i64 (x41), .int .i64 (x42)] ∧
     ((#[.int .i64 (x35), .int .i64 (x36), .int .i64 (x37)] : Array Value).size = 3 ∧ RowIs w39 (a1) #[.int .i64 (x35), .int .i64 (x36), .int .i64 (x37)]) ∧ runG (.bool) Tryd.prog w39 (do eqGuard .eql T_api_Cap (.tmp 28) (.tmp 29) (.agg #[.int .i64 (x40), .int .i64 (x41), .int .i64 (x42)]) (.agg #[.int .i64 (x35), .int .i64 (x36), .int .i64 (x37)]); binOp .eql T_api_Cap (.agg #[.int .i64 (x40), .int .i64 (x41), .int .i64 (x42)]) (.agg #[.int .i64 (x35), .int .i64 (x36), .int .i64 (x37)])) fun b43 w44 =>
     cond (b43)
     (Does Tryd.prog N_law10_awake #[] w44 fun r45 w46 => ∃ b47 : Bool, r45 = .bool (b47) ∧
      Q (.bool (b47)) w46)
     (Q (.bool (false)) w44))
    (Q (.bool (false)) w31))
   (Q (.bool (false)) w23.drew))
  (ldT (.int .i64) w7 (a1) fun x48 => ldT (.int .i64) w7 ((a1).add 1) fun x49 => ldT (.int .i64) w7 ((a1).add 2) fun x50 =>
   allocK w7 (zc Tryd.prog T_api_Cap) T_api_Cap fun a51 w52 =>
   stC w52 (a51) (.int .i64 (x48)) fun w54 => stC w54 ((a51).add 1) (.int .i64 (x49)) fun w55 => stC w55 ((a51).add 2) (.int .i64 (x50)) fun w56 =>
   ∃ (I60 : Int → Int → World → Prop) (M61 : Int → Int → World → Nat), I60 0 0 w56 ∧
   ∀ n57 : Int, ∀ i58 : Int, ∀ w59 : World, I60 n57 i58 w59 →
     cond (decide ((i58 : Int) < 70))
     (∀ J64 : Int → World → Prop, (∀ n62 : Int, ∀ w63 : World, 
        (I60 n62 (IntKind.wrap .i64 (i58 + 1)) w63 ∧ M61 n62 (IntKind.wrap .i64 (i58 + 1)) w63 < M61 n57 i58 w59) → J64 n62 w63) →
      ldT (.int .i64) w59 (a51) fun x65 => ldT (.int .i64) w59 ((a51).add 1) fun x66 => ldT (.int .i64) w59 ((a51).add 2) fun x67 =>
      Does Tryd.prog N_filter_Take #[.agg #[.int .i64 (x65), .int .i64 (x66), .int .i64 (x67)]] w59 fun r68 w69 => ∃ x70 : Int, ∃ x71 : Int, ∃ x72 : Int, ∃ b73 : Bool, r68 = .tuple #[.agg #[.int .i64 (x70), .int .i64 (x71), .int .i64 (x72)], .bool (b73)] ∧
      allocK w69 (zc Tryd.prog T_api_Cap) T_api_Cap fun a74 w75 =>
      stC w75 (a74) (.int .i64 (x70)) fun w77 => stC w77 ((a74).add 1) (.int .i64 (x71)) fun w78 => stC w78 ((a74).add 2) (.int .i64 (x72)) fun w79 =>
      ldT (.int .i64) w79 (a74) fun x80 => ldT (.int .i64) w79 ((a74).add 1) fun x81 => ldT (.int .i64) w79 ((a74).add 2) fun x82 =>
      stC w79 (a51) (.int .i64 (x80)) fun w84 => stC w84 ((a51).add 1) (.int .i64 (x81)) fun w85 => stC w85 ((a51).add 2) (.int .i64 (x82)) fun w86 =>
      cond (b73)
      (J64 (IntKind.wrap .i64 (n57 + 1)) w86)
      (J64 n57 w86))
     (ldT (.int .i64) w59 (a51) fun x87 => ldT (.int .i64) w59 ((a51).add 1) fun x88 => ldT (.int .i64) w59 ((a51).add 2) fun x89 =>
      Does Tryd.prog N_filter_Frame #[.agg #[.int .i64 (x87), .int .i64 (x88), .int .i64 (x89)]] w59 fun r90 w91 => ∃ x92 : Int, ∃ x93 : Int, ∃ x94 : Int, r90 = .agg #[.int .i64 (x92), .int .i64 (x93), .int .i64 (x94)] ∧
      allocK w91 (zc Tryd.prog T_api_Cap) T_api_Cap fun a95 w96 =>
      stC w96 (a95) (.int .i64 (x92)) fun w98 => stC w98 ((a95).add 1) (.int .i64 (x93)) fun w99 => stC w99 ((a95).add 2) (.int .i64 (x94)) fun w100 =>
      ldT (.int .i64) w100 ((a1).add 2) fun x101 =>
      cond ((n57 : Int) == x101)
      (ldT (.int .i64) w100 ((a51).add 2) fun x102 =>
       cond ((x102 : Int) == 0)
       (ldT (.int .i64) w100 (a51) fun x103 =>
        ldT (.int .i64) w100 (a1) fun x104 =>
        cond ((x103 : Int) == x104)
        (ldT (.int .i64) w100 ((a95).add 2) fun x105 =>
         ldT (.int .i64) w100 (a1) fun x106 =>
         cond ((x105 : Int) == x106)
         (Does Tryd.prog N_law10_awake #[] w100 fun r107 w108 => ∃ b109 : Bool, r107 = .bool (b109) ∧
          Q (.bool (b109)) w108)
         (Q (.bool (false)) w100))
        (Q (.bool (false)) w100))
       (Q (.bool (false)) w100))
      (Q (.bool (false)) w100)))
def A_law10_FilterAll : Ann := ⟨[(7, [(5, .one (.int .i64)), (7, .one (.int .i64))])], [(8, [(5, .one (.int .i64))])], [(3, [⟨0, 0, 0, true⟩, ⟨1, 1, 1, true⟩, ⟨2, 2, 3, true⟩, ⟨4, 4, 7, true⟩, ⟨4, 4, 7, true⟩, ⟨28, 0, 31, false⟩, ⟨36, 36, 63, true⟩, ⟨68, 64, 127, true⟩, ⟨128, 128, 255, true⟩, ⟨384, 0, 511, false⟩, ⟨128, 128, 255, true⟩, ⟨1664, 0, 2047, false⟩, ⟨2176, 2176, 4095, true⟩, ⟨4608, 4096, 8191, true⟩, ⟨8192, 0, 16383, false⟩, ⟨24576, 24576, 32767, true⟩, ⟨65535, 32768, 65535, true⟩])]⟩
theorem F_law10_FilterAll_eq (c0 : Int) (c1 : Int) (c2 : Int) (w : World) (Q : Value → World → Prop) : vcFn Tryd.prog A_law10_FilterAll Tryd.f6 #[.agg #[.int .i64 (c0), .int .i64 (c1), .int .i64 (c2)]] w Q = F_law10_FilterAll c0 c1 c2 w Q := by kernel_rfl
theorem F_law10_FilterAll_does (c0 : Int) (c1 : Int) (c2 : Int) (w : World) (Q : Value → World → Prop) (hQ : F_law10_FilterAll c0 c1 c2 w Q) : Does Tryd.prog N_law10_FilterAll #[.agg #[.int .i64 (c0), .int .i64 (c1), .int .i64 (c2)]] w Q :=
  vcFn_sound noAsk mixed (A := A_law10_FilterAll) (by kernel_rfl) Tryd.func6 (Nat.le_of_ble_eq_true (by kernel_rfl)) (by kernel_rfl) ((F_law10_FilterAll_eq c0 c1 c2 w Q).mpr hQ)

/- nacelle/nacellelaw10.FilterChecks -/
def F_law10_FilterChecks (r0 : Int) (r1 : Int) (r2 : Sl) (w : World) (Q : Value → World → Prop) : Prop :=
  allocK w (#[.int .i64 (r0), .int .i64 (r1), .slice (r2.a) (r2.len) (r2.cap)]) T_api_Rule fun a1 w2 =>
  ldT (.int .i64) w2 (a1) fun x3 => ldT (.int .i64) w2 ((a1).add 1) fun x4 => ldT (.sl) w2 ((a1).add 2) fun l5 =>
  Does Tryd.prog N_law10_few #[.agg #[.int .i64 (x3), .int .i64 (x4), .slice (l5.a) (l5.len) (l5.cap)]] w2 fun r6 w7 => ∃ x8 : Int, ∃ x9 : Int, ∃ l10 : Sl, r6 = .agg #[.int .i64 (x8), .int .i64 (x9), .slice (l10.a) (l10.len) (l10.cap)] ∧
  stC w7 (a1) (.int .i64 (x8)) fun w12 => stC w12 ((a1).add 1) (.int .i64 (x9)) fun w13 => stC w13 ((a1).add 2) (.slice (l10.a) (l10.len) (l10.cap)) fun w14 =>
  ldT (.int .i64) w14 (a1) fun x15 => ldT (.int .i64) w14 ((a1).add 1) fun x16 => ldT (.sl) w14 ((a1).add 2) fun l17 =>
  Does Tryd.prog N_ref10_Check #[.agg #[.int .i64 (x15), .int .i64 (x16), .slice (l17.a) (l17.len) (l17.cap)]] w14 fun r18 w19 => ∃ x20 : Int, ∃ x21 : Int, r18 = .tuple #[.int .i64 (x20), .int .i64 (x21)] ∧
  ldT (.int .i64) w19 (a1) fun x22 => ldT (.int .i64) w19 ((a1).add 1) fun x23 => ldT (.sl) w19 ((a1).add 2) fun l24 =>
  Does Tryd.prog N_filter_Check #[.agg #[.int .i64 (x22), .int .i64 (x23), .slice (l24.a) (l24.len) (l24.cap)]] w19 fun r25 w26 => ∃ v27 : Value, r25 = v27 ∧
  Does Tryd.prog N_law10_told #[v27, .int .i64 (x20), .int .i64 (x21)] w26 fun r28 w29 => ∃ b30 : Bool, r28 = .bool (b30) ∧
  cond (b30)
  (Does Tryd.prog N_law10_awake #[] w29 fun r31 w32 => ∃ b33 : Bool, r31 = .bool (b33) ∧
   Q (.bool (b33)) w32)
  (Q (.bool (false)) w29)
def A_law10_FilterChecks : Ann := ⟨[], [], []⟩
theorem F_law10_FilterChecks_eq (r0 : Int) (r1 : Int) (r2 : Sl) (w : World) (Q : Value → World → Prop) : vcFn Tryd.prog A_law10_FilterChecks Tryd.f7 #[.agg #[.int .i64 (r0), .int .i64 (r1), .slice (r2.a) (r2.len) (r2.cap)]] w Q = F_law10_FilterChecks r0 r1 r2 w Q := by kernel_rfl
theorem F_law10_FilterChecks_does (r0 : Int) (r1 : Int) (r2 : Sl) (w : World) (Q : Value → World → Prop) (hQ : F_law10_FilterChecks r0 r1 r2 w Q) : Does Tryd.prog N_law10_FilterChecks #[.agg #[.int .i64 (r0), .int .i64 (r1), .slice (r2.a) (r2.len) (r2.cap)]] w Q :=
  vcFn_sound noAsk mixed (A := A_law10_FilterChecks) (by kernel_rfl) Tryd.func7 (Nat.le_of_ble_eq_true (by kernel_rfl)) (by kernel_rfl) ((F_law10_FilterChecks_eq r0 r1 r2 w Q).mpr hQ)

/- nacelle/nacellelaw10.FilterPasses -/
def F_law10_FilterPasses (r0 : Int) (r1 : Int) (r2 : Sl) (b : Sl) (w : World) (Q : Value → World → Prop) : Prop :=
  allocK w (#[.int .i64 (r0), .int .i64 (r1), .slice (r2.a) (r2.len) (r2.cap)]) T_api_Rule fun a1 w2 =>
  ldT (.int .i64) w2 (a1) fun x3 => ldT (.int .i64) w2 ((a1).add 1) fun x4 => ldT (.sl) w2 ((a1).add 2) fun l5 =>
  Does Tryd.prog N_law10_few #[.agg #[.int .i64 (x3), .int .i64 (x4), .slice (l5.a) (l5.len) (l5.cap)]] w2 fun r6 w7 => ∃ x8 : Int, ∃ x9 : Int, ∃ l10 : Sl, r6 = .agg #[.int .i64 (x8), .int .i64 (x9), .slice (l10.a) (l10.len) (l10.cap)] ∧
  stC w7 (a1) (.int .i64 (x8)) fun w12 => stC w12 ((a1).add 1) (.int .i64 (x9)) fun w13 => stC w13 ((a1).add 2) (.slice (l10.a) (l10.len) (l10.cap)) fun w14 =>
  ∀ J17 : Sl → World → Prop, (∀ b15 : Sl, ∀ w16 : World, 
    (allocK w16 #[] T_uint8 fun a18 w19 =>
    runG (.sl) Tryd.prog w19 (Builtin.append_ #[T_l_uint8, T_l_uint8] T_l_uint8 #[.slice (some (a18)) (0) (0), .slice (b15.a) (b15.len) (b15.cap)]) fun l20 w21 =>
    ldT (.int .i64) w21 (a1) fun x22 => ldT (.int .i64) w21 ((a1).add 1) fun x23 => ldT (.sl) w21 ((a1).add 2) fun l24 =>
    Does Tryd.prog N_filter_Pass #[.agg #[.int .i64 (x22), .int .i64 (x23), .slice (l24.a) (l24.len) (l24.cap)], .slice (b15.a) (b15.len) (b15.cap)] w21 fun r25 w26 => ∃ v27 : Value, r25 = v27 ∧
    ldT (.int .i64) w26 (a1) fun x28 => ldT (.int .i64) w26 ((a1).add 1) fun x29 => ldT (.sl) w26 ((a1).add 2) fun l30 =>
    Does Tryd.prog N_ref10_Check #[.agg #[.int .i64 (x28), .int .i64 (x29), .slice (l30.a) (l30.len) (l30.cap)]] w26 fun r31 w32 => ∃ x33 : Int, ∃ x34 : Int, r31 = .tuple #[.int .i64 (x33), .int .i64 (x34)] ∧
    cond ((x33 : Int) != 0)
    (Does Tryd.prog N_fault_Path #[v27] w32 fun r35 w36 => ∃ l37 : Sl, r35 = .slice (l37.a) (l37.len) (l37.cap) ∧
     Does Tryd.prog N_fault_Code #[v27] w36 fun r38 w39 => ∃ x40 : Int, r38 = .int .i64 (x40) ∧
     cond ((x40 : Int) == x33)
     (cond (((((l37.len : Nat) : Int)) : Int) == 2)
      (idx (l37.a) (l37.len) (0) 1 fun a41 =>
       ldT (.int .i64) w39 (a41) fun x42 =>
       cond ((x42 : Int) == (-1))
       (idx (l37.a) (l37.len) (1) 1 fun a43 =>
        ldT (.int .i64) w39 (a43) fun x44 =>
        cond ((x44 : Int) == x34)
        (Does Tryd.prog N_law10_awake #[] w39 fun r45 w46 => ∃ b47 : Bool, r45 = .bool (b47) ∧
         Q (.bool (b47)) w46)
        (Q (.bool (false)) w39))
       (Q (.bool (false)) w39))
      (Q (.bool (false)) w39))
     (Q (.bool (false)) w39))
    (ldT (.int .i64) w32 (a1) fun x48 => ldT (.int .i64) w32 ((a1).add 1) fun x49 => ldT (.sl) w32 ((a1).add 2) fun l50 =>
     Does Tryd.prog N_ref10_Pass #[.agg #[.int .i64 (x48), .int .i64 (x49), .slice (l50.a) (l50.len) (l50.cap)], .slice (l20.a) (l20.len) (l20.cap)] w32 fun r51 w52 => ∃ x53 : Int, ∃ x54 : Int, r51 = .tuple #[.int .i64 (x53), .int .i64 (x54)] ∧
     Does Tryd.prog N_law10_told #[v27, .int .i64 (x53), .int .i64 (x54)] w52 fun r55 w56 => ∃ b57 : Bool, r55 = .bool (b57) ∧
     cond (b57)
     (lookS Tryd.prog w56 (convert T_l_uint8 T_string (.slice (l20.a) (l20.len) (l20.cap))) fun s58 =>
      lookS Tryd.prog w56 (convert T_l_uint8 T_string (.slice (b15.a) (b15.len) (b15.cap))) fun s59 =>
      cond ((s58).toList == (s59).toList)
      (Does Tryd.prog N_law10_awake #[] w56 fun r60 w61 => ∃ b62 : Bool, r60 = .bool (b62) ∧
       Q (.bool (b62)) w61)
      (Q (.bool (false)) w56))
     (Q (.bool (false)) w56))) → J17 b15 w16) →
  cond (decide (((((b.len : Nat) : Int)) : Int) > 80))
  (slcT ⟨b.a, b.len, b.cap⟩ (0) (80) 1 fun l63 =>
   J17 ⟨l63.a, l63.len, l63.cap⟩ w14)
  (J17 ⟨b.a, b.len, b.cap⟩ w14)
def A_law10_FilterPasses : Ann := ⟨[], [(4, [(1, .one (.sl))])], []⟩
theorem F_law10_FilterPasses_eq (r0 : Int) (r1 : Int) (r2 : Sl) (b : Sl) (w : World) (Q : Value → World → Prop) : vcFn Tryd.prog A_law10_FilterPasses Tryd.f8 #[.agg #[.int .i64 (r0), .int .i64 (r1), .slice (r2.a) (r2.len) (r2.cap)], .slice (b.a) (b.len) (b.cap)] w Q = F_law10_FilterPasses r0 r1 r2 b w Q := by kernel_rfl
theorem F_law10_FilterPasses_does (r0 : Int) (r1 : Int) (r2 : Sl) (b : Sl) (w : World) (Q : Value → World → Prop) (hQ : F_law10_FilterPasses r0 r1 r2 b w Q) : Does Tryd.prog N_law10_FilterPasses #[.agg #[.int .i64 (r0), .int .i64 (r1), .slice (r2.a) (r2.len) (r2.cap)], .slice (b.a) (b.len) (b.cap)] w Q :=
  vcFn_sound noAsk mixed (A := A_law10_FilterPasses) (by kernel_rfl) Tryd.func8 (Nat.le_of_ble_eq_true (by kernel_rfl)) (by kernel_rfl) ((F_law10_FilterPasses_eq r0 r1 r2 b w Q).mpr hQ)

/- nacelle/nacellelaw07.CodeNames -/
def F_law07_CodeNames (w : World) (Q : Value → World → Prop) : Prop :=
  Does Tryd.prog N_law07_awake #[] w fun r1 w2 => ∃ b3 : Bool, r1 = .bool (b3) ∧
  Q (.bool (b3)) w2
def A_law07_CodeNames : Ann := ⟨[], [], []⟩
theorem F_law07_CodeNames_eq (w : World) (Q : Value → World → Prop) : vcFn Tryd.prog A_law07_CodeNames Tryd.f9 #[] w Q = F_law07_CodeNames w Q := by kernel_rfl
theorem F_law07_CodeNames_does (w : World) (Q : Value → World → Prop) (hQ : F_law07_CodeNames w Q) : Does Tryd.prog N_law07_CodeNames #[] w Q :=
  vcFn_sound noAsk mixed (A := A_law07_CodeNames) (by kernel_rfl) Tryd.func9 (Nat.le_of_ble_eq_true (by kernel_rfl)) (by kernel_rfl) ((F_law07_CodeNames_eq w Q).mpr hQ)

/- nacelle/nacellelaw07.CodeChecks -/
def F_law07_CodeChecks (l : Sl) (w : World) (Q : Value → World → Prop) : Prop :=
  Does Tryd.prog N_law07_few #[.slice (l.a) (l.len) (l.cap)] w fun r1 w2 => ∃ l3 : Sl, r1 = .slice (l3.a) (l3.len) (l3.cap) ∧
  allocK w2 #[] T_api_Instr fun a4 w5 =>
  runG (.sl) Tryd.prog w5 (Builtin.append_ #[T_l_api_Instr, T_l_api_Instr] T_l_api_Instr #[.slice (some (a4)) (0) (0), .slice (l3.a) (l3.len) (l3.cap)]) fun l6 w7 =>
  Does Tryd.prog N_code_Check #[.slice (l3.a) (l3.len) (l3.cap)] w7 fun r8 w9 => ∃ v10 : Value, r8 = v10 ∧
  Does Tryd.prog N_ref07_Check #[.slice (l6.a) (l6.len) (l6.cap)] w9 fun r11 w12 => ∃ x13 : Int, ∃ x14 : Int, r11 = .tuple #[.int .i64 (x13), .int .i64 (x14)] ∧
  cond ((x13 : Int) == 0)
  (runG (.bool) Tryd.prog w12 (do eqGuard .eql T_error (.tmp 21) (.const (.nilIface)) (v10) (.nilIface); binOp .eql T_error (v10) (.nilIface)) fun b15 w16 =>
   cond (b15)
   (Does Tryd.prog N_law07_same #[.slice (l3.a) (l3.len) (l3.cap), .slice (l6.a) (l6.len) (l6.cap)] w16 fun r17 w18 => ∃ b19 : Bool, r17 = .bool (b19) ∧
    cond (b19)
    (Does Tryd.prog N_law07_awake #[] w18 fun r20 w21 => ∃ b22 : Bool, r20 = .bool (b22) ∧
     Q (.bool (b22)) w21)
    (Q (.bool (false)) w18))
   (Q (.bool (false)) w16))
  (Does Tryd.prog N_fault_Code #[v10] w12 fun r23 w24 => ∃ x25 : Int, r23 = .int .i64 (x25) ∧
   cond ((x25 : Int) == x13)
   (Does Tryd.prog N_fault_Path #[v10] w24 fun r26 w27 => ∃ l28 : Sl, r26 = .slice (l28.a) (l28.len) (l28.cap) ∧
    cond (((((l28.len : Nat) : Int)) : Int) == 1)
    (Does Tryd.prog N_fault_Path #[v10] w27 fun r29 w30 => ∃ l31 : Sl, r29 = .slice (l31.a) (l31.len) (l31.cap) ∧
     idx (l31.a) (l31.len) (0) 1 fun a32 =>
     ldT (.int .i64) w30 (a32) fun x33 =>
     cond ((x33 : Int) == x14)
     (Does Tryd.prog N_law07_awake #[] w30 fun r34 w35 => ∃ b36 : Bool, r34 = .bool (b36) ∧
      Q (.bool (b36)) w35)
     (Q (.bool (false)) w30))
    (Q (.bool (false)) w27))
   (Q (.bool (false)) w24))
def A_law07_CodeChecks : Ann := ⟨[], [], []⟩
theorem F_law07_CodeChecks_eq (l : Sl) (w : World) (Q : Value → World → Prop) : vcFn Tryd.prog A_law07_CodeChecks Tryd.f10 #[.slice (l.a) (l.len) (l.cap)] w Q = F_law07_CodeChecks l w Q := by kernel_rfl
theorem F_law07_CodeChecks_does (l : Sl) (w : World) (Q : Value → World → Prop) (hQ : F_law07_CodeChecks l w Q) : Does Tryd.prog N_law07_CodeChecks #[.slice (l.a) (l.len) (l.cap)] w Q :=
  vcFn_sound noAsk mixed (A := A_law07_CodeChecks) (by kernel_rfl) Tryd.func10 (Nat.le_of_ble_eq_true (by kernel_rfl)) (by kernel_rfl) ((F_law07_CodeChecks_eq l w Q).mpr hQ)

/- nacelle/nacellelaw07.CodeDecodes -/
def F_law07_CodeDecodes (b : Sl) (w : World) (Q : Value → World → Prop) : Prop :=
  ∀ J3 : Sl → World → Prop, (∀ b1 : Sl, ∀ w2 : World, 
    (Does Tryd.prog N_code_Decode #[.slice (b1.a) (b1.len) (b1.cap)] w2 fun r4 w5 => ∃ l6 : Sl, ∃ v7 : Value, r4 = .tuple #[.slice (l6.a) (l6.len) (l6.cap), v7] ∧
    (4 : Int) ≠ 0 ∧
    cond (((Int.tmod (((b1.len : Nat) : Int)) 4) : Int) != 0)
    (cond (((((l6.len : Nat) : Int)) : Int) == 0)
     (Does Tryd.prog N_fault_Code #[v7] w5 fun r8 w9 => ∃ x10 : Int, r8 = .int .i64 (x10) ∧
      cond ((x10 : Int) == 2)
      (Does Tryd.prog N_fault_Path #[v7] w9 fun r11 w12 => ∃ l13 : Sl, r11 = .slice (l13.a) (l13.len) (l13.cap) ∧
       cond (((((l13.len : Nat) : Int)) : Int) == 1)
       (Does Tryd.prog N_fault_Path #[v7] w12 fun r14 w15 => ∃ l16 : Sl, r14 = .slice (l16.a) (l16.len) (l16.cap) ∧
        idx (l16.a) (l16.len) (0) 1 fun a17 =>
        ldT (.int .i64) w15 (a17) fun x18 =>
        (4 : Int) ≠ 0 ∧
        cond ((x18 : Int) == (IntKind.wrap .i64 (Int.tdiv (((b1.len : Nat) : Int)) 4)))
        (Does Tryd.prog N_law07_awake #[] w15 fun r19 w20 => ∃ b21 : Bool, r19 = .bool (b21) ∧
         Q (.bool (b21)) w20)
        (Q (.bool (false)) w15))
       (Q (.bool (false)) w12))
      (Q (.bool (false)) w9))
     (Q (.bool (false)) w5))
    (Does Tryd.prog N_ref07_List #[.slice (b1.a) (b1.len) (b1.cap)] w5 fun r22 w23 => ∃ l24 : Sl, r22 = .slice (l24.a) (l24.len) (l24.cap) ∧
     Does Tryd.prog N_ref07_Check #[.slice (l24.a) (l24.len) (l24.cap)] w23 fun r25 w26 => ∃ x27 : Int, ∃ x28 : Int, r25 = .tuple #[.int .i64 (x27), .int .i64 (x28)] ∧
     cond ((x27 : Int) == 0)
     (runG (.bool) Tryd.prog w26 (do eqGuard .eql T_error (.tmp 59) (.const (.nilIface)) (v7) (.nilIface); binOp .eql T_error (v7) (.nilIface)) fun b29 w30 =>
      cond (b29)
      (Does Tryd.prog N_law07_same #[.slice (l6.a) (l6.len) (l6.cap), .slice (l24.a) (l24.len) (l24.cap)] w30 fun r31 w32 => ∃ b33 : Bool, r31 = .bool (b33) ∧
       cond (b33)
       (Does Tryd.prog N_law07_awake #[] w32 fun r34 w35 => ∃ b36 : Bool, r34 = .bool (b36) ∧
        Q (.bool (b36)) w35)
       (Q (.bool (false)) w32))
      (Q (.bool (false)) w30))
     (Does Tryd.prog N_fault_Path #[v7] w26 fun r37 w38 => ∃ l39 : Sl, r37 = .slice (l39.a) (l39.len) (l39.cap) ∧
      cond (((((l6.len : Nat) : Int)) : Int) == 0)
      (Does Tryd.prog N_fault_Code #[v7] w38 fun r40 w41 => ∃ x42 : Int, r40 = .int .i64 (x42) ∧
       cond ((x42 : Int) == x27)
       (cond (((((l39.len : Nat) : Int)) : Int) == 2)
        (idx (l39.a) (l39.len) (0) 1 fun a43 =>
         ldT (.int .i64) w41 (a43) fun x44 =>
         cond ((x44 : Int) == (IntKind.wrap .i64 (4 * x28)))
         (idx (l39.a) (l39.len) (1) 1 fun a45 =>
          ldT (.int .i64) w41 (a45) fun x46 =>
          cond ((x46 : Int) == x28)
          (Does Tryd.prog N_law07_awake #[] w41 fun r47 w48 => ∃ b49 : Bool, r47 = .bool (b49) ∧
           Q (.bool (b49)) w48)
          (Q (.bool (false)) w41))
         (Q (.bool (false)) w41))
        (Q (.bool (false)) w41))
       (Q (.bool (false)) w41))
      (Q (.bool (false)) w38)))) → J3 b1 w2) →
  cond (decide (((((b.len : Nat) : Int)) : Int) > 560))
  (slcT ⟨b.a, b.len, b.cap⟩ (0) (560) 1 fun l50 =>
   J3 ⟨l50.a, l50.len, l50.cap⟩ w)
  (J3 ⟨b.a, b.len, b.cap⟩ w)
def A_law07_CodeDecodes : Ann := ⟨[], [(3, [(0, .one (.sl))])], []⟩
theorem F_law07_CodeDecodes_eq (b : Sl) (w : World) (Q : Value → World → Prop) : vcFn Tryd.prog A_law07_CodeDecodes Tryd.f11 #[.slice (b.a) (b.len) (b.cap)] w Q = F_law07_CodeDecodes b w Q := by kernel_rfl
theorem F_law07_CodeDecodes_does (b : Sl) (w : World) (Q : Value → World → Prop) (hQ : F_law07_CodeDecodes b w Q) : Does Tryd.prog N_law07_CodeDecodes #[.slice (b.a) (b.len) (b.cap)] w Q :=
  vcFn_sound noAsk mixed (A := A_law07_CodeDecodes) (by kernel_rfl) Tryd.func11 (Nat.le_of_ble_eq_true (by kernel_rfl)) (by kernel_rfl) ((F_law07_CodeDecodes_eq b w Q).mpr hQ)

/- nacelle/nacellelaw07.CodeBack -/
def F_law07_CodeBack (l : Sl) (m : Sl) (w : World) (Q : Value → World → Prop) : Prop :=
  Does Tryd.prog N_law07_few #[.slice (l.a) (l.len) (l.cap)] w fun r1 w2 => ∃ l3 : Sl, r1 = .slice (l3.a) (l3.len) (l3.cap) ∧
  Does Tryd.prog N_law07_few #[.slice (m.a) (m.len) (m.cap)] w2 fun r4 w5 => ∃ l6 : Sl, r4 = .slice (l6.a) (l6.len) (l6.cap) ∧
  Does Tryd.prog N_code_Encode #[.slice (l3.a) (l3.len) (l3.cap)] w5 fun r7 w8 => ∃ l9 : Sl, r7 = .slice (l9.a) (l9.len) (l9.cap) ∧
  Does Tryd.prog N_code_Decode #[.slice (l9.a) (l9.len) (l9.cap)] w8 fun r10 w11 => ∃ l12 : Sl, ∃ v13 : Value, r10 = .tuple #[.slice (l12.a) (l12.len) (l12.cap), v13] ∧
  ∀ J15 : World → Prop, (∀ w14 : World, 
    (∃ s16 : ByteArray, (convert T_l_uint8 T_string (.slice (l9.a) (l9.len) (l9.cap))).run Tryd.prog w14.drew = .ok (.string (s16)) w14.drew ∧
    Does Tryd.prog N_code_Encode #[.slice (l6.a) (l6.len) (l6.cap)] w14.drew fun r17 w18 => ∃ l19 : Sl, r17 = .slice (l19.a) (l19.len) (l19.cap) ∧
    (convert T_l_uint8 T_string (.slice (l9.a) (l9.len) (l9.cap))).run Tryd.prog w18 = .ok (.string (s16)) w18 ∧ ∃ s20 : ByteArray, (convert T_l_uint8 T_string (.slice (l19.a) (l19.len) (l19.cap))).run Tryd.prog w18 = .ok (.string (s20)) w18 ∧
    Does Tryd.prog N_law07_same #[.slice (l3.a) (l3.len) (l3.cap), .slice (l6.a) (l6.len) (l6.cap)] w18 fun r21 w22 => ∃ b23 : Bool, r21 = .bool (b23) ∧
    (convert T_l_uint8 T_string (.slice (l19.a) (l19.len) (l19.cap))).run Tryd.prog w22 = .ok (.string (s20)) w22 ∧ (convert T_l_uint8 T_string (.slice (l9.a) (l9.len) (l9.cap))).run Tryd.prog w22 = .ok (.string (s16)) w22 ∧ cond (((s16).toList == (s20).toList) == b23)
    (Does Tryd.prog N_law07_awake #[] w22 fun r24 w25 => ∃ b26 : Bool, r24 = .bool (b26) ∧
     Q (.bool (b26)) w25)
    (Q (.bool (false)) w22)) → J15 w14) →
  (runG (.bool) Tryd.prog w11.drew (do eqGuard .eql T_error (.tmp 19) (.const (.nilIface)) (v13) (.nilIface); binOp .eql T_error (v13) (.nilIface)) fun b27 w28 =>
   Does Tryd.prog N_code_Check #[.slice (l3.a) (l3.len) (l3.cap)] w28 fun r29 w30 => ∃ v31 : Value, r29 = v31 ∧
   runG (.bool) Tryd.prog w30 (do eqGuard .eql T_error (.tmp 22) (.const (.nilIface)) (v31) (.nilIface); binOp .eql T_error (v31) (.nilIface)) fun b32 w33 =>
   cond (!(b27 == b32))
   (Q (.bool (false)) w33)
   (runG (.bool) Tryd.prog w33 (do eqGuard .eql T_error (.tmp 26) (.const (.nilIface)) (v13) (.nilIface); binOp .eql T_error (v13) (.nilIface)) fun b34 w35 =>
    cond (b34)
    (Does Tryd.prog N_law07_same #[.slice (l12.a) (l12.len) (l12.cap), .slice (l3.a) (l3.len) (l3.cap)] w35 fun r36 w37 => ∃ b38 : Bool, r36 = .bool (b38) ∧
     cond (!b38)
     (Q (.bool (false)) w37)
     (cond (((((l9.len : Nat) : Int)) : Int) != (IntKind.wrap .i64 (4 * (((l3.len : Nat) : Int)))))
      (Q (.bool (false)) w37)
      (J15 w37)))
    (cond (((((l9.len : Nat) : Int)) : Int) != (IntKind.wrap .i64 (4 * (((l3.len : Nat) : Int)))))
     (Q (.bool (false)) w35)
     (J15 w35)))) ∧
  (Does Tryd.prog N_code_Check #[.slice (l3.a) (l3.len) (l3.cap)] w11.drew fun r39 w40 => ∃ v41 : Value, r39 = v41 ∧
   (runG (.bool) Tryd.prog w40 (do eqGuard .eql T_error (.tmp 19) (.const (.nilIface)) (v13) (.nilIface); binOp .eql T_error (v13) (.nilIface)) fun b42 w43 =>
    runG (.bool) Tryd.prog w43 (do eqGuard .eql T_error (.tmp 22) (.const (.nilIface)) (v41) (.nilIface); binOp .eql T_error (v41) (.nilIface)) fun b44 w45 =>
    cond (!(b42 == b44))
    (Q (.bool (false)) w45)
    (runG (.bool) Tryd.prog w45 (do eqGuard .eql T_error (.tmp 26) (.const (.nilIface)) (v13) (.nilIface); binOp .eql T_error (v13) (.nilIface)) fun b46 w47 =>
     cond (b46)
     (Does Tryd.prog N_law07_same #[.slice (l12.a) (l12.len) (l12.cap), .slice (l3.a) (l3.len) (l3.cap)] w47 fun r48 w49 => ∃ b50 : Bool, r48 = .bool (b50) ∧
      cond (!b50)
      (Q (.bool (false)) w49)
      (cond (((((l9.len : Nat) : Int)) : Int) != (IntKind.wrap .i64 (4 * (((l3.len : Nat) : Int)))))
       (Q (.bool (false)) w49)
       (J15 w49)))
     (cond (((((l9.len : Nat) : Int)) : Int) != (IntKind.wrap .i64 (4 * (((l3.len : Nat) : Int)))))
      (Q (.bool (false)) w47)
      (J15 w47)))) ∧
   (runG (.bool) Tryd.prog w40 (do eqGuard .eql T_error (.tmp 22) (.const (.nilIface)) (v41) (.nilIface); binOp .eql T_error (v41) (.nilIface)) fun b51 w52 =>
    runG (.bool) Tryd.prog w52 (do eqGuard .eql T_error (.tmp 19) (.const (.nilIface)) (v13) (.nilIface); binOp .eql T_error (v13) (.nilIface)) fun b53 w54 =>
    cond (!(b53 == b51))
    (Q (.bool (false)) w54)
    (runG (.bool) Tryd.prog w54 (do eqGuard .eql T_error (.tmp 26) (.const (.nilIface)) (v13) (.nilIface); binOp .eql T_error (v13) (.nilIface)) fun b55 w56 =>
     cond (b55)
     (Does Tryd.prog N_law07_same #[.slice (l12.a) (l12.len) (l12.cap), .slice (l3.a) (l3.len) (l3.cap)] w56 fun r57 w58 => ∃ b59 : Bool, r57 = .bool (b59) ∧
      cond (!b59)
      (Q (.bool (false)) w58)
      (cond (((((l9.len : Nat) : Int)) : Int) != (IntKind.wrap .i64 (4 * (((l3.len : Nat) : Int)))))
       (Q (.bool (false)) w58)
       (J15 w58)))
     (cond (((((l9.len : Nat) : Int)) : Int) != (IntKind.wrap .i64 (4 * (((l3.len : Nat) : Int)))))
      (Q (.bool (false)) w56)
      (J15 w56)))))
def A_law07_CodeBack : Ann := ⟨[], [(6, [])], [(4, [⟨0, 0, 0, true⟩, ⟨1, 0, 1, false⟩, ⟨0, 0, 0, true⟩, ⟨4, 0, 4, false⟩, ⟨8, 0, 12, false⟩, ⟨18, 18, 31, true⟩, ⟨40, 32, 63, true⟩, ⟨64, 64, 127, true⟩, ⟨192, 0, 255, false⟩, ⟨320, 320, 511, true⟩, ⟨512, 512, 1023, true⟩, ⟨512, 512, 1023, true⟩, ⟨3584, 0, 4095, false⟩, ⟨4608, 4608, 8191, true⟩, ⟨8768, 8768, 16383, true⟩, ⟨16448, 16448, 32767, true⟩, ⟨36864, 32768, 65535, true⟩, ⟨65536, 65536, 131071, true⟩, ⟨196608, 196608, 262143, true⟩, ⟨65536, 65536, 131071, true⟩, ⟨589824, 589824, 655359, true⟩, ⟨1114112, 1114112, 1703935, true⟩, ⟨2424832, 2424832, 4194303, true⟩, ⟨4259840, 4259840, 8388607, true⟩]), (6, [⟨0, 0, 0, true⟩, ⟨1, 1, 1, true⟩, ⟨0, 0, 0, true⟩, ⟨4, 0, 4, false⟩, ⟨8, 8, 12, true⟩, ⟨18, 18, 31, true⟩, ⟨0, 0, 0, true⟩, ⟨0, 0, 0, true⟩, ⟨200, 0, 204, false⟩, ⟨288, 288, 511, true⟩, ⟨768, 512, 1023, true⟩, ⟨1024, 0, 2047, false⟩, ⟨3072, 3072, 4095, true⟩, ⟨8191, 4096, 8191, true⟩])]⟩
theorem F_law07_CodeBack_eq (l : Sl) (m : Sl) (w : World) (Q : Value → World → Prop) : vcFn Tryd.prog A_law07_CodeBack Tryd.f12 #[.slice (l.a) (l.len) (l.cap), .slice (m.a) (m.len) (m.cap)] w Q = F_law07_CodeBack l m w Q := by kernel_rfl
theorem F_law07_CodeBack_does (l : Sl) (m : Sl) (w : World) (Q : Value → World → Prop) (hQ : F_law07_CodeBack l m w Q) : Does Tryd.prog N_law07_CodeBack #[.slice (l.a) (l.len) (l.cap), .slice (m.a) (m.len) (m.cap)] w Q :=
  vcFn_sound noAsk mixed (A := A_law07_CodeBack) (by kernel_rfl) Tryd.func12 (Nat.le_of_ble_eq_true (by kernel_rfl)) (by kernel_rfl) ((F_law07_CodeBack_eq l m w Q).mpr hQ)

/- nacelle/nacellelaw07.CodeGoesOn -/
def F_law07_CodeGoesOn (l : Sl) (at_ : Int) (w : World) (Q : Value → World → Prop) : Prop :=
  Does Tryd.prog N_law07_few #[.slice (l.a) (l.len) (l.cap)] w fun r1 w2 => ∃ l3 : Sl, r1 = .slice (l3.a) (l3.len) (l3.cap) ∧
  Does Tryd.prog N_code_Check #[.slice (l3.a) (l3.len) (l3.cap)] w2 fun r4 w5 => ∃ v6 : Value, r4 = v6 ∧
  runG (.bool) Tryd.prog w5 (do eqGuard .neq T_error (.tmp 11) (.const (.nilIface)) (v6) (.nilIface); binOp .neq T_error (v6) (.nilIface)) fun b7 w8 =>
  cond (b7)
  (Does Tryd.prog N_law07_awake #[] w8 fun r9 w10 => ∃ b11 : Bool, r9 = .bool (b11) ∧
   Q (.bool (b11)) w10)
  (∀ J14 : Int → World → Prop, (∀ at12 : Int, ∀ w13 : World, 
     (((((l3.len : Nat) : Int)) : Int) ≠ 0 ∧
     Does Tryd.prog N_code_Next #[.slice (l3.a) (l3.len) (l3.cap), .int .i64 (Int.tmod at12 (((l3.len : Nat) : Int)))] w13 fun r15 w16 => ∃ l17 : Sl, r15 = .slice (l17.a) (l17.len) (l17.cap) ∧
     Does Tryd.prog N_code_Reached #[.slice (l3.a) (l3.len) (l3.cap)] w16 fun r18 w19 => ∃ l20 : Sl, r18 = .slice (l20.a) (l20.len) (l20.cap) ∧
     ∀ J22 : World → Prop, (∀ w21 : World, 
       (∃ (I25 : Int → World → Prop) (M26 : Int → World → Nat), I25 0 w21 ∧
       ∀ i23 : Int, ∀ w24 : World, I25 i23 w24 →
         cond (decide ((i23 : Int) < (((l17.len : Nat) : Int))))
         (∀ J28 : World → Prop, (∀ w27 : World, 
            (I25 (IntKind.wrap .i64 (i23 + 1)) w27 ∧ M26 (IntKind.wrap .i64 (i23 + 1)) w27 < M26 i23 w24) → J28 w27) →
          idx (l17.a) (l17.len) (i23) 1 fun a29 =>
          ldT (.int .i64) w24 (a29) fun x30 =>
          cond (decide ((x30 : Int) < 0))
          (Q (.bool (false)) w24)
          (idx (l17.a) (l17.len) (i23) 1 fun a31 =>
           ldT (.int .i64) w24 (a31) fun x32 =>
           cond (decide ((x32 : Int) ≥ (((l3.len : Nat) : Int))))
           (Q (.bool (false)) w24)
           (idx (l20.a) (l20.len) (Int.tmod at12 (((l3.len : Nat) : Int))) 1 fun a33 =>
            ldT (.bool) w24 (a33) fun b34 =>
            cond (b34)
            (idx (l17.a) (l17.len) (i23) 1 fun a35 =>
             ldT (.int .i64) w24 (a35) fun x36 =>
             idx (l20.a) (l20.len) (x36) 1 fun a37 =>
             ldT (.bool) w24 (a37) fun b38 =>
             cond (!b38)
             (Q (.bool (false)) w24)
             (idx (l17.a) (l17.len) (i23) 1 fun a39 =>
              ldT (.int .i64) w24 (a39) fun x40 =>
              cond ((x40 : Int) == (Int.tmod at12 (((l3.len : Nat) : Int))))
              (idx (l3.a) (l3.len) (Int.tmod at12 (((l3.len : Nat) : Int))) 4 fun a41 =>
               ldT (.int .u8) w24 (a41) fun x42 =>
               cond ((x42 : Int) != 15)
               (idx (l3.a) (l3.len) (Int.tmod at12 (((l3.len : Nat) : Int))) 4 fun a43 =>
                ldT (.int .u8) w24 (a43) fun x44 =>
                cond ((x44 : Int) != 16)
                (Q (.bool (false)) w24)
                (J28 w24))
               (J28 w24))
              (J28 w24)))
            (idx (l17.a) (l17.len) (i23) 1 fun a45 =>
             ldT (.int .i64) w24 (a45) fun x46 =>
             cond ((x46 : Int) == (Int.tmod at12 (((l3.len : Nat) : Int))))
             (idx (l3.a) (l3.len) (Int.tmod at12 (((l3.len : Nat) : Int))) 4 fun a47 =>
              ldT (.int .u8) w24 (a47) fun x48 =>
              cond ((x48 : Int) != 15)
              (idx (l3.a) (l3.len) (Int.tmod at12 (((l3.len : Nat) : Int))) 4 fun a49 =>
               ldT (.int .u8) w24 (a49) fun x50 =>
               cond ((x50 : Int) != 16)
               (Q (.bool (false)) w24)
               (J28 w24))
              (J28 w24))
             (J28 w24)))))
         (Does Tryd.prog N_law07_awake #[] w24 fun r51 w52 => ∃ b53 : Bool, r51 = .bool (b53) ∧
          Q (.bool (b53)) w52)) → J22 w21) →
     idx (l3.a) (l3.len) (Int.tmod at12 (((l3.len : Nat) : Int))) 4 fun a54 =>
     ldT (.int .u8) w19 (a54) fun x55 =>
     cond (!((((((l17.len : Nat) : Int)) : Int) == 0) == ((x55 : Int) == 0)))
     (Q (.bool (false)) w19)
     (cond (decide (((((l17.len : Nat) : Int)) : Int) > 2))
      (Q (.bool (false)) w19)
      (cond (((((l20.len : Nat) : Int)) : Int) != (((l3.len : Nat) : Int)))
       (Q (.bool (false)) w19)
       (idx (l20.a) (l20.len) (0) 1 fun a56 =>
        ldT (.bool) w19 (a56) fun b57 =>
        cond (!b57)
        (Q (.bool (false)) w19)
        (J22 w19))))) → J14 at12 w13) →
   cond (decide ((at_ : Int) < 0))
   (J14 (IntKind.wrap .i64 (0 - (IntKind.wrap .i64 (at_ + 1)))) w8)
   (J14 at_ w8))
def A_law07_CodeGoesOn : Ann := ⟨[(11, [(7, .one (.int .i64))])], [(6, [(1, .one (.int .i64))]), (10, []), (12, [])], []⟩
theorem F_law07_CodeGoesOn_eq (l : Sl) (at_ : Int) (w : World) (Q : Value → World → Prop) : vcFn Tryd.prog A_law07_CodeGoesOn Tryd.f13 #[.slice (l.a) (l.len) (l.cap), .int .i64 (at_)] w Q = F_law07_CodeGoesOn l at_ w Q := by kernel_rfl
theorem F_law07_CodeGoesOn_does (l : Sl) (at_ : Int) (w : World) (Q : Value → World → Prop) (hQ : F_law07_CodeGoesOn l at_ w Q) : Does Tryd.prog N_law07_CodeGoesOn #[.slice (l.a) (l.len) (l.cap), .int .i64 (at_)] w Q :=
  vcFn_sound noAsk mixed (A := A_law07_CodeGoesOn) (by kernel_rfl) Tryd.func13 (Nat.le_of_ble_eq_true (by kernel_rfl)) (by kernel_rfl) ((F_law07_CodeGoesOn_eq l at_ w Q).mpr hQ)

/- nacelle/nacellelaw10.few -/
def F_law10_few (r0 : Int) (r1 : Int) (r2 : Sl) (w : World) (Q : Value → World → Prop) : Prop :=
  allocK w (#[.int .i64 (r0), .int .i64 (r1), .slice (r2.a) (r2.len) (r2.cap)]) T_api_Rule fun a1 w2 =>
  allocK w2 (zc Tryd.prog T_api_Rule) T_api_Rule fun a3 w4 =>
  ∀ J6 : World → Prop, (∀ w5 : World, 
    (ldT (.int .i64) w5 (a1) fun x7 => ldT (.int .i64) w5 ((a1).add 1) fun x8 => ldT (.sl) w5 ((a1).add 2) fun l9 =>
    stC w5 (a3) (.int .i64 (x7)) fun w11 => stC w11 ((a3).add 1) (.int .i64 (x8)) fun w12 => stC w12 ((a3).add 2) (.slice (l9.a) (l9.len) (l9.cap)) fun w13 =>
    ldT (.int .i64) w13 (a3) fun x14 => ldT (.int .i64) w13 ((a3).add 1) fun x15 => ldT (.sl) w13 ((a3).add 2) fun l16 =>
    Q (.agg #[.int .i64 (x14), .int .i64 (x15), .slice (l16.a) (l16.len) (l16.cap)]) w13) → J6 w5) →
  ldT (.sl) w4 ((a1).add 2) fun l17 =>
  cond (decide (((((l17.len : Nat) : Int)) : Int) > 10))
  (ldT (.sl) w4 ((a1).add 2) fun l18 =>
   slcT ⟨l18.a, l18.len, l18.cap⟩ (0) (10) 4 fun l19 =>
   stC w4 ((a1).add 2) (.slice (l19.a) (l19.len) (l19.cap)) fun w20 =>
   J6 w20)
  (J6 w4)
def A_law10_few : Ann := ⟨[], [(3, [])], []⟩
theorem F_law10_few_eq (r0 : Int) (r1 : Int) (r2 : Sl) (w : World) (Q : Value → World → Prop) : vcFn Tryd.prog A_law10_few Tryd.f14 #[.agg #[.int .i64 (r0), .int .i64 (r1), .slice (r2.a) (r2.len) (r2.cap)]] w Q = F_law10_few r0 r1 r2 w Q := by kernel_rfl
theorem F_law10_few_does (r0 : Int) (r1 : Int) (r2 : Sl) (w : World) (Q : Value → World → Prop) (hQ : F_law10_few r0 r1 r2 w Q) : Does Tryd.prog N_law10_few #[.agg #[.int .i64 (r0), .int .i64 (r1), .slice (r2.a) (r2.len) (r2.cap)]] w Q :=
  vcFn_sound noAsk mixed (A := A_law10_few) (by kernel_rfl) Tryd.func14 (Nat.le_of_ble_eq_true (by kernel_rfl)) (by kernel_rfl) ((F_law10_few_eq r0 r1 r2 w Q).mpr hQ)

/- nacelle/filter.Pass -/
def F_filter_Pass (r0 : Int) (r1 : Int) (r2 : Sl) (b : Sl) (w : World) (Q : Value → World → Prop) : Prop :=
  allocK w (#[.int .i64 (r0), .int .i64 (r1), .slice (r2.a) (r2.len) (r2.cap)]) T_api_Rule fun a1 w2 =>
  ldT (.int .i64) w2 (a1) fun x3 => ldT (.int .i64) w2 ((a1).add 1) fun x4 => ldT (.sl) w2 ((a1).add 2) fun l5 =>
  Does Tryd.prog N_filter_Check #[.agg #[.int .i64 (x3), .int .i64 (x4), .slice (l5.a) (l5.len) (l5.cap)]] w2 fun r6 w7 => ∃ v8 : Value, r6 = v8 ∧
  runG (.bool) Tryd.prog w7 (do eqGuard .neq T_error (.tmp 10) (.const (.nilIface)) (v8) (.nilIface); binOp .neq T_error (v8) (.nilIface)) fun b9 w10 =>
  cond (b9)
  (Does Tryd.prog N_fault_In #[v8, .int .i64 (-1)] w10 fun r11 w12 => ∃ v13 : Value, r11 = v13 ∧
   Q (v13) w12)
  (ldT (.int .i64) w10 (a1) fun x14 =>
   cond (decide (((((b.len : Nat) : Int)) : Int) < x14))
   (Does Tryd.prog N_fault_New #[.int .i64 (2), .int .i64 (((b.len : Nat) : Int))] w10 fun r15 w16 => ∃ v17 : Value, r15 = v17 ∧
    Q (v17) w16)
   (ldT (.int .i64) w10 ((a1).add 1) fun x18 =>
    cond (decide (((((b.len : Nat) : Int)) : Int) > x18))
    (ldT (.int .i64) w10 ((a1).add 1) fun x19 =>
     Does Tryd.prog N_fault_New #[.int .i64 (7), .int .i64 (x19)] w10 fun r20 w21 => ∃ v22 : Value, r20 = v22 ∧
     Q (v22) w21)
    (ldT (.sl) w10 ((a1).add 2) fun l23 =>
     ∃ (I26 : Int → World → Prop) (M27 : Int → World → Nat), I26 0 w10 ∧
     ∀ x24 : Int, ∀ w25 : World, I26 x24 w25 →
       cond (decide ((x24 : Int) < (((l23.len : Nat) : Int))))
       (idx (l23.a) (l23.len) (x24) 4 fun a28 =>
        ldT (.int .i64) w25 (a28) fun x29 => ldT (.int .i64) w25 ((a28).add 1) fun x30 => ldT (.int .u64) w25 ((a28).add 2) fun x31 => ldT (.int .u64) w25 ((a28).add 3) fun x32 =>
        allocK w25 (zc Tryd.prog T_api_Field) T_api_Field fun a33 w34 =>
        stC w34 (a33) (.int .i64 (x29)) fun w36 => stC w36 ((a33).add 1) (.int .i64 (x30)) fun w37 => stC w37 ((a33).add 2) (.int .u64 (x31)) fun w38 => stC w38 ((a33).add 3) (.int .u64 (x32)) fun w39 =>
        ldT (.int .i64) w39 (a33) fun x40 => ldT (.int .i64) w39 ((a33).add 1) fun x41 => ldT (.int .u64) w39 ((a33).add 2) fun x42 => ldT (.int .u64) w39 ((a33).add 3) fun x43 =>
        Does Tryd.prog N_filter_holds #[.agg #[.int .i64 (x40), .int .i64 (x41), .int .u64 (x42), .int .u64 (x43)], .slice (b.a) (b.len) (b.cap)] w39 fun r44 w45 => ∃ b46 : Bool, r44 = .bool (b46) ∧
        cond (!b46)
        (Does Tryd.prog N_fault_New #[.int .i64 (3), .int .i64 (x24)] w45 fun r47 w48 => ∃ v49 : Value, r47 = v49 ∧
         Q (v49) w48)
        (I26 (IntKind.wrap .i64 (x24 + 1)) w45 ∧ M27 (IntKind.wrap .i64 (x24 + 1)) w45 < M27 x24 w25))
       (Q (.nilIface) w25))))
def A_filter_Pass : Ann := ⟨[(9, [(35, .one (.int .i64))])], [], []⟩
theorem F_filter_Pass_eq (r0 : Int) (r1 : Int) (r2 : Sl) (b : Sl) (w : World) (Q : Value → World → Prop) : vcFn Tryd.prog A_filter_Pass Tryd.f15 #[.agg #[.int .i64 (r0), .int .i64 (r1), .slice (r2.a) (r2.len) (r2.cap)], .slice (b.a) (b.len) (b.cap)] w Q = F_filter_Pass r0 r1 r2 b w Q := by kernel_rfl
theorem F_filter_Pass_does (r0 : Int) (r1 : Int) (r2 : Sl) (b : Sl) (w : World) (Q : Value → World → Prop) (hQ : F_filter_Pass r0 r1 r2 b w Q) : Does Tryd.prog N_filter_Pass #[.agg #[.int .i64 (r0), .int .i64 (r1), .slice (r2.a) (r2.len) (r2.cap)], .slice (b.a) (b.len) (b.cap)] w Q :=
  vcFn_sound noAsk mixed (A := A_filter_Pass) (by kernel_rfl) Tryd.func15 (Nat.le_of_ble_eq_true (by kernel_rfl)) (by kernel_rfl) ((F_filter_Pass_eq r0 r1 r2 b w Q).mpr hQ)

/- nacelle/nacellelaw10.awake -/
def F_law10_awake (w : World) (Q : Value → World → Prop) : Prop :=
  allocK w #[.int .i64 (0), .int .i64 (2), .int .u64 (10), .int .u64 (20)] T_api_Field fun a1 w2 =>
  allocK w2 (zc Tryd.prog T_api_Rule) T_api_Rule fun a3 w4 =>
  stC w4 (a3) (.int .i64 (1)) fun w6 => stC w6 ((a3).add 1) (.int .i64 (4)) fun w7 => stC w7 ((a3).add 2) (.slice (some (a1)) (1) (1)) fun w8 =>
  Does Tryd.prog N_filter_Begin #[.int .i64 (1), .int .i64 (2)] w8 fun r9 w10 => ∃ x11 : Int, ∃ x12 : Int, ∃ x13 : Int, ∃ x14 : Int, r9 = .tuple #[.agg #[.int .i64 (x11), .int .i64 (x12), .int .i64 (x13)], .int .i64 (x14)] ∧
  allocK w10 (zc Tryd.prog T_api_Cap) T_api_Cap fun a15 w16 =>
  stC w16 (a15) (.int .i64 (x11)) fun w18 => stC w18 ((a15).add 1) (.int .i64 (x12)) fun w19 => stC w19 ((a15).add 2) (.int .i64 (x13)) fun w20 =>
  ldT (.int .i64) w20 (a15) fun x21 => ldT (.int .i64) w20 ((a15).add 1) fun x22 => ldT (.int .i64) w20 ((a15).add 2) fun x23 =>
  Does Tryd.prog N_filter_Take #[.agg #[.int .i64 (x21), .int .i64 (x22), .int .i64 (x23)]] w20 fun r24 w25 => ∃ x26 : Int, ∃ x27 : Int, ∃ x28 : Int, ∃ b29 : Bool, r24 = .tuple #[.agg #[.int .i64 (x26), .int .i64 (x27), .int .i64 (x28)], .bool (b29)] ∧
  stC w25 (a15) (.int .i64 (x26)) fun w31 => stC w31 ((a15).add 1) (.int .i64 (x27)) fun w32 => stC w32 ((a15).add 2) (.int .i64 (x28)) fun w33 =>
  ldT (.int .i64) w33 (a15) fun x34 => ldT (.int .i64) w33 ((a15).add 1) fun x35 => ldT (.int .i64) w33 ((a15).add 2) fun x36 =>
  Does Tryd.prog N_filter_Take #[.agg #[.int .i64 (x34), .int .i64 (x35), .int .i64 (x36)]] w33 fun r37 w38 => ∃ x39 : Int, ∃ x40 : Int, ∃ x41 : Int, ∃ b42 : Bool, r37 = .tuple #[.agg #[.int .i64 (x39), .int .i64 (x40), .int .i64 (x41)], .bool (b42)] ∧
  stC w38 (a15) (.int .i64 (x39)) fun w44 => stC w44 ((a15).add 1) (.int .i64 (x40)) fun w45 => stC w45 ((a15).add 2) (.int .i64 (x41)) fun w46 =>
  ldT (.int .i64) w46 (a15) fun x47 => ldT (.int .i64) w46 ((a15).add 1) fun x48 => ldT (.int .i64) w46 ((a15).add 2) fun x49 =>
  Does Tryd.prog N_filter_Take #[.agg #[.int .i64 (x47), .int .i64 (x48), .int .i64 (x49)]] w46 fun r50 w51 => ∃ x52 : Int, ∃ x53 : Int, ∃ x54 : Int, ∃ b55 : Bool, r50 = .tuple #[.agg #[.int .i64 (x52), .int .i64 (x53), .int .i64 (x54)], .bool (b55)] ∧
  stC w51 (a15) (.int .i64 (x52)) fun w57 => stC w57 ((a15).add 1) (.int .i64 (x53)) fun w58 => stC w58 ((a15).add 2) (.int .i64 (x54)) fun w59 =>
  ldT (.int .i64) w59 (a15) fun x60 => ldT (.int .i64) w59 ((a15).add 1) fun x61 => ldT (.int .i64) w59 ((a15).add 2) fun x62 =>
  Does Tryd.prog N_filter_Frame #[.agg #[.int .i64 (x60), .int .i64 (x61), .int .i64 (x62)]] w59 fun r63 w64 => ∃ x65 : Int, ∃ x66 : Int, ∃ x67 : Int, r63 = .agg #[.int .i64 (x65), .int .i64 (x66), .int .i64 (x67)] ∧
  Does Tryd.prog N_filter_Take #[.agg #[.int .i64 (x65), .int .i64 (x66), .int .i64 (x67)]] w64 fun r68 w69 => ∃ x70 : Int, ∃ x71 : Int, ∃ x72 : Int, ∃ b73 : Bool, r68 = .tuple #[.agg #[.int .i64 (x70), .int .i64 (x71), .int .i64 (x72)], .bool (b73)] ∧
  allocK w69 (zc Tryd.prog T_api_Cap) T_api_Cap fun a74 w75 =>
  stC w75 (a74) (.int .i64 (x70)) fun w77 => stC w77 ((a74).add 1) (.int .i64 (x71)) fun w78 => stC w78 ((a74).add 2) (.int .i64 (x72)) fun w79 =>
  ldT (.int .i64) w79 (a3) fun x80 => ldT (.int .i64) w79 ((a3).add 1) fun x81 => ldT (.sl) w79 ((a3).add 2) fun l82 =>
  allocK w79 #[.int .u8 (15), .int .u8 (0)] T_uint8 fun a83 w84 =>
  Does Tryd.prog N_filter_Pass #[.agg #[.int .i64 (x80), .int .i64 (x81), .slice (l82.a) (l82.len) (l82.cap)], .slice (some (a83)) (2) (2)] w84 fun r85 w86 => ∃ v87 : Value, r85 = v87 ∧
  runG (.bool) Tryd.prog w86 (do eqGuard .eql T_error (.tmp 39) (.const (.nilIface)) (v87) (.nilIface); binOp .eql T_error (v87) (.nilIface)) fun b88 w89 =>
  cond (b88)
  (ldT (.int .i64) w89 (a3) fun x90 => ldT (.int .i64) w89 ((a3).add 1) fun x91 => ldT (.sl) w89 ((a3).add 2) fun l92 =>
   allocK w89 #[.int .u8 (21), .int .u8 (0)] T_uint8 fun a93 w94 =>
   Does Tryd.prog N_filter_Pass #[.agg #[.int .i64 (x90), .int .i64 (x91), .slice (l92.a) (l92.len) (l92.cap)], .slice (some (a93)) (2) (2)] w94 fun r95 w96 => ∃ v97 : Value, r95 = v97 ∧
   Does Tryd.prog N_fault_Text #[v97] w96 fun r98 w99 => ∃ s100 : ByteArray, r98 = .string (s100) ∧
   cond ((s100).toList == (((⟨#[51, 64, 48]⟩ : ByteArray))).toList)
   (ldT (.int .i64) w99 (a3) fun x101 => ldT (.int .i64) w99 ((a3).add 1) fun x102 => ldT (.sl) w99 ((a3).add 2) fun l103 =>
    Does Tryd.prog N_filter_Pass #[.agg #[.int .i64 (x101), .int .i64 (x102), .slice (l103.a) (l103.len) (l103.cap)], .slice (none) (0) (0)] w99 fun r104 w105 => ∃ v106 : Value, r104 = v106 ∧
    Does Tryd.prog N_fault_Text #[v106] w105 fun r107 w108 => ∃ s109 : ByteArray, r107 = .string (s109) ∧
    cond ((s109).toList == (((⟨#[50, 64, 48]⟩ : ByteArray))).toList)
    (cond ((x14 : Int) == 0)
     (cond (b29)
      (cond (b42)
       (cond (!b55)
        (Q (.bool (b73)) w108)
        (Q (.bool (false)) w108))
       (Q (.bool (false)) w108))
      (Q (.bool (false)) w108))
     (Q (.bool (false)) w108))
    (Q (.bool (false)) w108))
   (Q (.bool (false)) w99))
  (Q (.bool (false)) w89)
def A_law10_awake : Ann := ⟨[], [], []⟩
theorem F_law10_awake_eq (w : World) (Q : Value → World → Prop) : vcFn Tryd.prog A_law10_awake Tryd.f16 #[] w Q = F_law10_awake w Q := by kernel_rfl
theorem F_law10_awake_does (w : World) (Q : Value → World → Prop) (hQ : F_law10_awake w Q) : Does Tryd.prog N_law10_awake #[] w Q :=
  vcFn_sound noAsk mixed (A := A_law10_awake) (by kernel_rfl) Tryd.func16 (Nat.le_of_ble_eq_true (by kernel_rfl)) (by kernel_rfl) ((F_law10_awake_eq w Q).mpr hQ)

/- nacelle/filter.Begin -/
def F_filter_Begin (rate : Int) (burst : Int) (w : World) (Q : Value → World → Prop) : Prop :=
  allocK w (zc Tryd.prog T_api_Cap) T_api_Cap fun a1 w2 =>
  allocK w2 (zc Tryd.prog T_api_Cap) T_api_Cap fun a3 w4 =>
  stC w4 (a3) (.int .i64 (rate)) fun w6 => stC w6 ((a3).add 1) (.int .i64 (burst)) fun w7 => stC w7 ((a3).add 2) (.int .i64 (burst)) fun w8 =>
  ldT (.int .i64) w8 (a3) fun x9 => ldT (.int .i64) w8 ((a3).add 1) fun x10 => ldT (.int .i64) w8 ((a3).add 2) fun x11 =>
  Does Tryd.prog N_filter_May #[.agg #[.int .i64 (x9), .int .i64 (x10), .int .i64 (x11)]] w8 fun r12 w13 => ∃ b14 : Bool, r12 = .bool (b14) ∧
  cond (!b14)
  (stC w13 (a1) (.int .i64 (0)) fun w16 => stC w16 ((a1).add 1) (.int .i64 (0)) fun w17 => stC w17 ((a1).add 2) (.int .i64 (0)) fun w18 =>
   ldT (.int .i64) w18 (a1) fun x19 => ldT (.int .i64) w18 ((a1).add 1) fun x20 => ldT (.int .i64) w18 ((a1).add 2) fun x21 =>
   Q (.tuple #[.agg #[.int .i64 (x19), .int .i64 (x20), .int .i64 (x21)], .int .i64 (1)]) w18)
  (ldT (.int .i64) w13 (a3) fun x22 => ldT (.int .i64) w13 ((a3).add 1) fun x23 => ldT (.int .i64) w13 ((a3).add 2) fun x24 =>
   stC w13 (a1) (.int .i64 (x22)) fun w26 => stC w26 ((a1).add 1) (.int .i64 (x23)) fun w27 => stC w27 ((a1).add 2) (.int .i64 (x24)) fun w28 =>
   ldT (.int .i64) w28 (a1) fun x29 => ldT (.int .i64) w28 ((a1).add 1) fun x30 => ldT (.int .i64) w28 ((a1).add 2) fun x31 =>
   Q (.tuple #[.agg #[.int .i64 (x29), .int .i64 (x30), .int .i64 (x31)], .int .i64 (0)]) w28)
def A_filter_Begin : Ann := ⟨[], [], []⟩
theorem F_filter_Begin_eq (rate : Int) (burst : Int) (w : World) (Q : Value → World → Prop) : vcFn Tryd.prog A_filter_Begin Tryd.f17 #[.int .i64 (rate), .int .i64 (burst)] w Q = F_filter_Begin rate burst w Q := by kernel_rfl
theorem F_filter_Begin_does (rate : Int) (burst : Int) (w : World) (Q : Value → World → Prop) (hQ : F_filter_Begin rate burst w Q) : Does Tryd.prog N_filter_Begin #[.int .i64 (rate), .int .i64 (burst)] w Q :=
  vcFn_sound noAsk mixed (A := A_filter_Begin) (by kernel_rfl) Tryd.func17 (Nat.le_of_ble_eq_true (by kernel_rfl)) (by kernel_rfl) ((F_filter_Begin_eq rate burst w Q).mpr hQ)

/- nacelle/nacelleref10.May -/
def F_ref10_May (c0 : Int) (c1 : Int) (c2 : Int) (w : World) (Q : Value → World → Prop) : Prop :=
  allocK w (#[.int .i64 (c0), .int .i64 (c1), .int .i64 (c2)]) T_api_Cap fun a1 w2 =>
  ldT (.int .i64) w2 ((a1).add 2) fun x3 =>
  cond (decide ((0 : Int) ≤ x3))
  (ldT (.int .i64) w2 ((a1).add 2) fun x4 =>
   ldT (.int .i64) w2 ((a1).add 1) fun x5 =>
   cond (decide ((x4 : Int) ≤ x5))
   (ldT (.int .i64) w2 (a1) fun x6 =>
    cond (decide ((0 : Int) ≤ x6))
    (ldT (.int .i64) w2 (a1) fun x7 =>
     ldT (.int .i64) w2 ((a1).add 1) fun x8 =>
     cond (decide ((x7 : Int) ≤ x8))
     (ldT (.int .i64) w2 ((a1).add 1) fun x9 =>
      Q (.bool (decide ((x9 : Int) ≤ 64))) w2)
     (Q (.bool (false)) w2))
    (Q (.bool (false)) w2))
   (Q (.bool (false)) w2))
  (Q (.bool (false)) w2)
def A_ref10_May : Ann := ⟨[], [], []⟩
theorem F_ref10_May_eq (c0 : Int) (c1 : Int) (c2 : Int) (w : World) (Q : Value → World → Prop) : vcFn Tryd.prog A_ref10_May Tryd.f18 #[.agg #[.int .i64 (c0), .int .i64 (c1), .int .i64 (c2)]] w Q = F_ref10_May c0 c1 c2 w Q := by kernel_rfl
theorem F_ref10_May_does (c0 : Int) (c1 : Int) (c2 : Int) (w : World) (Q : Value → World → Prop) (hQ : F_ref10_May c0 c1 c2 w Q) : Does Tryd.prog N_ref10_May #[.agg #[.int .i64 (c0), .int .i64 (c1), .int .i64 (c2)]] w Q :=
  vcFn_sound noAsk mixed (A := A_ref10_May) (by kernel_rfl) Tryd.func18 (Nat.le_of_ble_eq_true (by kernel_rfl)) (by kernel_rfl) ((F_ref10_May_eq c0 c1 c2 w Q).mpr hQ)

/- nacelle/filter.May -/
def F_filter_May (c0 : Int) (c1 : Int) (c2 : Int) (w : World) (Q : Value → World → Prop) : Prop :=
  allocK w (#[.int .i64 (c0), .int .i64 (c1), .int .i64 (c2)]) T_api_Cap fun a1 w2 =>
  ldT (.int .i64) w2 (a1) fun x3 =>
  cond (decide ((x3 : Int) ≥ 0))
  (ldT (.int .i64) w2 (a1) fun x4 =>
   ldT (.int .i64) w2 ((a1).add 1) fun x5 =>
   cond (decide ((x4 : Int) ≤ x5))
   (ldT (.int .i64) w2 ((a1).add 1) fun x6 =>
    cond (decide ((x6 : Int) ≤ 64))
    (ldT (.int .i64) w2 ((a1).add 2) fun x7 =>
     cond (decide ((x7 : Int) ≥ 0))
     (ldT (.int .i64) w2 ((a1).add 2) fun x8 =>
      ldT (.int .i64) w2 ((a1).add 1) fun x9 =>
      Q (.bool (decide ((x8 : Int) ≤ x9))) w2)
     (Q (.bool (false)) w2))
    (Q (.bool (false)) w2))
   (Q (.bool (false)) w2))
  (Q (.bool (false)) w2)
def A_filter_May : Ann := ⟨[], [], []⟩
theorem F_filter_May_eq (c0 : Int) (c1 : Int) (c2 : Int) (w : World) (Q : Value → World → Prop) : vcFn Tryd.prog A_filter_May Tryd.f19 #[.agg #[.int .i64 (c0), .int .i64 (c1), .int .i64 (c2)]] w Q = F_filter_May c0 c1 c2 w Q := by kernel_rfl
theorem F_filter_May_does (c0 : Int) (c1 : Int) (c2 : Int) (w : World) (Q : Value → World → Prop) (hQ : F_filter_May c0 c1 c2 w Q) : Does Tryd.prog N_filter_May #[.agg #[.int .i64 (c0), .int .i64 (c1), .int .i64 (c2)]] w Q :=
  vcFn_sound noAsk mixed (A := A_filter_May) (by kernel_rfl) Tryd.func19 (Nat.le_of_ble_eq_true (by kernel_rfl)) (by kernel_rfl) ((F_filter_May_eq c0 c1 c2 w Q).mpr hQ)

/- nacelle/filter.Frame -/
def F_filter_Frame (c0 : Int) (c1 : Int) (c2 : Int) (w : World) (Q : Value → World → Prop) : Prop :=
  allocK w (#[.int .i64 (c0), .int .i64 (c1), .int .i64 (c2)]) T_api_Cap fun a1 w2 =>
  allocK w2 (zc Tryd.prog T_api_Cap) T_api_Cap fun a3 w4 =>
  ∀ J6 : World → Prop, (∀ w5 : World, 
    (ldT (.int .i64) w5 (a1) fun x7 => ldT (.int .i64) w5 ((a1).add 1) fun x8 => ldT (.int .i64) w5 ((a1).add 2) fun x9 =>
    stC w5 (a3) (.int .i64 (x7)) fun w11 => stC w11 ((a3).add 1) (.int .i64 (x8)) fun w12 => stC w12 ((a3).add 2) (.int .i64 (x9)) fun w13 =>
    ldT (.int .i64) w13 (a3) fun x14 => ldT (.int .i64) w13 ((a3).add 1) fun x15 => ldT (.int .i64) w13 ((a3).add 2) fun x16 =>
    Q (.agg #[.int .i64 (x14), .int .i64 (x15), .int .i64 (x16)]) w13) → J6 w5) →
  ldT (.int .i64) w4 (a1) fun x17 => ldT (.int .i64) w4 ((a1).add 1) fun x18 => ldT (.int .i64) w4 ((a1).add 2) fun x19 =>
  Does Tryd.prog N_filter_May #[.agg #[.int .i64 (x17), .int .i64 (x18), .int .i64 (x19)]] w4 fun r20 w21 => ∃ b22 : Bool, r20 = .bool (b22) ∧
  cond (b22)
  (ldT (.int .i64) w21 ((a1).add 2) fun x23 =>
   ldT (.int .i64) w21 (a1) fun x24 =>
   ldT (.int .i64) w21 ((a1).add 1) fun x25 =>
   runG (.int .i64) Tryd.prog w21 (Builtin.min_ #[T_int, T_int] T_int #[.int .i64 (IntKind.wrap .i64 (x23 + x24)), .int .i64 (x25)]) fun x26 w27 =>
   stC w27 ((a1).add 2) (.int .i64 (x26)) fun w28 =>
   J6 w28)
  (J6 w21)
def A_filter_Frame : Ann := ⟨[], [(3, [])], []⟩
theorem F_filter_Frame_eq (c0 : Int) (c1 : Int) (c2 : Int) (w : World) (Q : Value → World → Prop) : vcFn Tryd.prog A_filter_Frame Tryd.f20 #[.agg #[.int .i64 (c0), .int .i64 (c1), .int .i64 (c2)]] w Q = F_filter_Frame c0 c1 c2 w Q := by kernel_rfl
theorem F_filter_Frame_does (c0 : Int) (c1 : Int) (c2 : Int) (w : World) (Q : Value → World → Prop) (hQ : F_filter_Frame c0 c1 c2 w Q) : Does Tryd.prog N_filter_Frame #[.agg #[.int .i64 (c0), .int .i64 (c1), .int .i64 (c2)]] w Q :=
  vcFn_sound noAsk mixed (A := A_filter_Frame) (by kernel_rfl) Tryd.func20 (Nat.le_of_ble_eq_true (by kernel_rfl)) (by kernel_rfl) ((F_filter_Frame_eq c0 c1 c2 w Q).mpr hQ)

/- nacelle/nacelleref10.Frame -/
def F_ref10_Frame (c0 : Int) (c1 : Int) (c2 : Int) (w : World) (Q : Value → World → Prop) : Prop :=
  allocK w (#[.int .i64 (c0), .int .i64 (c1), .int .i64 (c2)]) T_api_Cap fun a1 w2 =>
  allocK w2 (zc Tryd.prog T_api_Cap) T_api_Cap fun a3 w4 =>
  ∀ J6 : World → Prop, (∀ w5 : World, 
    (ldT (.int .i64) w5 (a1) fun x7 => ldT (.int .i64) w5 ((a1).add 1) fun x8 => ldT (.int .i64) w5 ((a1).add 2) fun x9 =>
    stC w5 (a3) (.int .i64 (x7)) fun w11 => stC w11 ((a3).add 1) (.int .i64 (x8)) fun w12 => stC w12 ((a3).add 2) (.int .i64 (x9)) fun w13 =>
    ldT (.int .i64) w13 (a3) fun x14 => ldT (.int .i64) w13 ((a3).add 1) fun x15 => ldT (.int .i64) w13 ((a3).add 2) fun x16 =>
    Q (.agg #[.int .i64 (x14), .int .i64 (x15), .int .i64 (x16)]) w13) → J6 w5) →
  ∃ (I19 : Int → World → Prop) (M20 : Int → World → Nat), I19 0 w4 ∧
  ∀ i17 : Int, ∀ w18 : World, I19 i17 w18 →
    ∀ J22 : World → Prop, (∀ w21 : World, 
      (∀ J24 : World → Prop, (∀ w23 : World, 
        (I19 (IntKind.wrap .i64 (i17 + 1)) w23 ∧ M20 (IntKind.wrap .i64 (i17 + 1)) w23 < M20 i17 w18) → J24 w23) →
      ldT (.int .i64) w21 ((a1).add 2) fun x25 =>
      ldT (.int .i64) w21 ((a1).add 1) fun x26 =>
      cond (decide ((x25 : Int) < x26))
      (ldT (.int .i64) w21 ((a1).add 2) fun x27 =>
       stC w21 ((a1).add 2) (.int .i64 (IntKind.wrap .i64 (x27 + 1))) fun w28 =>
       J24 w28)
      (J24 w21)) → J22 w21) →
    ldT (.int .i64) w18 (a1) fun x29 => ldT (.int .i64) w18 ((a1).add 1) fun x30 => ldT (.int .i64) w18 ((a1).add 2) fun x31 =>
    Does Tryd.prog N_ref10_May #[.agg #[.int .i64 (x29), .int .i64 (x30), .int .i64 (x31)]] w18 fun r32 w33 => ∃ b34 : Bool, r32 = .bool (b34) ∧
    cond (b34)
    (ldT (.int .i64) w33 (a1) fun x35 =>
     cond (decide ((i17 : Int) < x35))
     (J22 w33)
     (J6 w33))
    (J6 w33)
def A_ref10_Frame : Ann := ⟨[(2, [(3, .one (.int .i64))])], [(3, []), (4, []), (6, [])], []⟩
theorem F_ref10_Frame_eq (c0 : Int) (c1 : Int) (c2 : Int) (w : World) (Q : Value → World → Prop) : vcFn Tryd.prog A_ref10_Frame Tryd.f21 #[.agg #[.int .i64 (c0), .int .i64 (c1), .int .i64 (c2)]] w Q = F_ref10_Frame c0 c1 c2 w Q := by kernel_rfl
theorem F_ref10_Frame_does (c0 : Int) (c1 : Int) (c2 : Int) (w : World) (Q : Value → World → Prop) (hQ : F_ref10_Frame c0 c1 c2 w Q) : Does Tryd.prog N_ref10_Frame #[.agg #[.int .i64 (c0), .int .i64 (c1), .int .i64 (c2)]] w Q :=
  vcFn_sound noAsk mixed (A := A_ref10_Frame) (by kernel_rfl) Tryd.func21 (Nat.le_of_ble_eq_true (by kernel_rfl)) (by kernel_rfl) ((F_ref10_Frame_eq c0 c1 c2 w Q).mpr hQ)

/- nacelle/filter.Take -/
def F_filter_Take (c0 : Int) (c1 : Int) (c2 : Int) (w : World) (Q : Value → World → Prop) : Prop :=
  allocK w (#[.int .i64 (c0), .int .i64 (c1), .int .i64 (c2)]) T_api_Cap fun a1 w2 =>
  allocK w2 (zc Tryd.prog T_api_Cap) T_api_Cap fun a3 w4 =>
  ∀ J6 : World → Prop, (∀ w5 : World, 
    (ldT (.int .i64) w5 ((a1).add 2) fun x7 =>
    stC w5 ((a1).add 2) (.int .i64 (IntKind.wrap .i64 (x7 - 1))) fun w8 =>
    ldT (.int .i64) w8 (a1) fun x9 => ldT (.int .i64) w8 ((a1).add 1) fun x10 => ldT (.int .i64) w8 ((a1).add 2) fun x11 =>
    stC w8 (a3) (.int .i64 (x9)) fun w13 => stC w13 ((a3).add 1) (.int .i64 (x10)) fun w14 => stC w14 ((a3).add 2) (.int .i64 (x11)) fun w15 =>
    ldT (.int .i64) w15 (a3) fun x16 => ldT (.int .i64) w15 ((a3).add 1) fun x17 => ldT (.int .i64) w15 ((a3).add 2) fun x18 =>
    Q (.tuple #[.agg #[.int .i64 (x16), .int .i64 (x17), .int .i64 (x18)], .bool (true)]) w15) → J6 w5) →
  ∀ J21 : Bool → World → Prop, (∀ b19 : Bool, ∀ w20 : World, 
    (cond (b19)
    (ldT (.int .i64) w20 (a1) fun x22 => ldT (.int .i64) w20 ((a1).add 1) fun x23 => ldT (.int .i64) w20 ((a1).add 2) fun x24 =>
     stC w20 (a3) (.int .i64 (x22)) fun w26 => stC w26 ((a3).add 1) (.int .i64 (x23)) fun w27 => stC w27 ((a3).add 2) (.int .i64 (x24)) fun w28 =>
     ldT (.int .i64) w28 (a3) fun x29 => ldT (.int .i64) w28 ((a3).add 1) fun x30 => ldT (.int .i64) w28 ((a3).add 2) fun x31 =>
     Q (.tuple #[.agg #[.int .i64 (x29), .int .i64 (x30), .int .i64 (x31)], .bool (false)]) w28)
    (J6 w20)) → J21 b19 w20) →
  ldT (.int .i64) w4 (a1) fun x32 => ldT (.int .i64) w4 ((a1).add 1) fun x33 => ldT (.int .i64) w4 ((a1).add 2) fun x34 =>
  Does Tryd.prog N_filter_May #[.agg #[.int .i64 (x32), .int .i64 (x33), .int .i64 (x34)]] w4 fun r35 w36 => ∃ b37 : Bool, r35 = .bool (b37) ∧
  cond (!b37)
  (J21 true w36)
  (ldT (.int .i64) w36 ((a1).add 2) fun x38 =>
   J21 ((x38 : Int) == 0) w36)
def A_filter_Take : Ann := ⟨[], [(2, [(11, .one (.bool))]), (3, [])], []⟩
theorem F_filter_Take_eq (c0 : Int) (c1 : Int) (c2 : Int) (w : World) (Q : Value → World → Prop) : vcFn Tryd.prog A_filter_Take Tryd.f22 #[.agg #[.int .i64 (c0), .int .i64 (c1), .int .i64 (c2)]] w Q = F_filter_Take c0 c1 c2 w Q := by kernel_rfl
theorem F_filter_Take_does (c0 : Int) (c1 : Int) (c2 : Int) (w : World) (Q : Value → World → Prop) (hQ : F_filter_Take c0 c1 c2 w Q) : Does Tryd.prog N_filter_Take #[.agg #[.int .i64 (c0), .int .i64 (c1), .int .i64 (c2)]] w Q :=
  vcFn_sound noAsk mixed (A := A_filter_Take) (by kernel_rfl) Tryd.func22 (Nat.le_of_ble_eq_true (by kernel_rfl)) (by kernel_rfl) ((F_filter_Take_eq c0 c1 c2 w Q).mpr hQ)

/- nacelle/nacelleref10.Take -/
def F_ref10_Take (c0 : Int) (c1 : Int) (c2 : Int) (w : World) (Q : Value → World → Prop) : Prop :=
  allocK w (#[.int .i64 (c0), .int .i64 (c1), .int .i64 (c2)]) T_api_Cap fun a1 w2 =>
  allocK w2 (zc Tryd.prog T_api_Cap) T_api_Cap fun a3 w4 =>
  ∀ J6 : World → Prop, (∀ w5 : World, 
    (ldT (.int .i64) w5 (a1) fun x7 => ldT (.int .i64) w5 ((a1).add 1) fun x8 => ldT (.int .i64) w5 ((a1).add 2) fun x9 =>
    stC w5 (a3) (.int .i64 (x7)) fun w11 => stC w11 ((a3).add 1) (.int .i64 (x8)) fun w12 => stC w12 ((a3).add 2) (.int .i64 (x9)) fun w13 =>
    ldT (.int .i64) w13 (a3) fun x14 => ldT (.int .i64) w13 ((a3).add 1) fun x15 => ldT (.int .i64) w13 ((a3).add 2) fun x16 =>
    Q (.tuple #[.agg #[.int .i64 (x14), .int .i64 (x15), .int .i64 (x16)], .bool (false)]) w13) → J6 w5) →
  ∀ J19 : Bool → World → Prop, (∀ b17 : Bool, ∀ w18 : World, 
    (cond (b17)
    (ldT (.int .i64) w18 (a1) fun x20 =>
     ldT (.int .i64) w18 ((a1).add 1) fun x21 =>
     ldT (.int .i64) w18 ((a1).add 2) fun x22 =>
     stC w18 (a3) (.int .i64 (x20)) fun w24 => stC w24 ((a3).add 1) (.int .i64 (x21)) fun w25 => stC w25 ((a3).add 2) (.int .i64 (IntKind.wrap .i64 (x22 - 1))) fun w26 =>
     ldT (.int .i64) w26 (a3) fun x27 => ldT (.int .i64) w26 ((a3).add 1) fun x28 => ldT (.int .i64) w26 ((a3).add 2) fun x29 =>
     Q (.tuple #[.agg #[.int .i64 (x27), .int .i64 (x28), .int .i64 (x29)], .bool (true)]) w26)
    (J6 w18)) → J19 b17 w18) →
  ldT (.int .i64) w4 (a1) fun x30 => ldT (.int .i64) w4 ((a1).add 1) fun x31 => ldT (.int .i64) w4 ((a1).add 2) fun x32 =>
  Does Tryd.prog N_ref10_May #[.agg #[.int .i64 (x30), .int .i64 (x31), .int .i64 (x32)]] w4 fun r33 w34 => ∃ b35 : Bool, r33 = .bool (b35) ∧
  cond (b35)
  (ldT (.int .i64) w34 ((a1).add 2) fun x36 =>
   J19 (decide ((x36 : Int) > 0)) w34)
  (J19 false w34)
def A_ref10_Take : Ann := ⟨[], [(2, [(10, .one (.bool))]), (3, [])], []⟩
theorem F_ref10_Take_eq (c0 : Int) (c1 : Int) (c2 : Int) (w : World) (Q : Value → World → Prop) : vcFn Tryd.prog A_ref10_Take Tryd.f23 #[.agg #[.int .i64 (c0), .int .i64 (c1), .int .i64 (c2)]] w Q = F_ref10_Take c0 c1 c2 w Q := by kernel_rfl
theorem F_ref10_Take_does (c0 : Int) (c1 : Int) (c2 : Int) (w : World) (Q : Value → World → Prop) (hQ : F_ref10_Take c0 c1 c2 w Q) : Does Tryd.prog N_ref10_Take #[.agg #[.int .i64 (c0), .int .i64 (c1), .int .i64 (c2)]] w Q :=
  vcFn_sound noAsk mixed (A := A_ref10_Take) (by kernel_rfl) Tryd.func23 (Nat.le_of_ble_eq_true (by kernel_rfl)) (by kernel_rfl) ((F_ref10_Take_eq c0 c1 c2 w Q).mpr hQ)

/- nacelle/nacelleref10.Check -/
def F_ref10_Check (r0 : Int) (r1 : Int) (r2 : Sl) (w : World) (Q : Value → World → Prop) : Prop :=
  allocK w (#[.int .i64 (r0), .int .i64 (r1), .slice (r2.a) (r2.len) (r2.cap)]) T_api_Rule fun a1 w2 =>
  ∀ J4 : World → Prop, (∀ w3 : World, 
    (∃ (I7 : Int → World → Prop) (M8 : Int → World → Nat), I7 0 w3 ∧
    ∀ i5 : Int, ∀ w6 : World, I7 i5 w6 →
      ldT (.sl) w6 ((a1).add 2) fun l9 =>
      cond (decide ((i5 : Int) < (((l9.len : Nat) : Int))))
      (∀ J11 : World → Prop, (∀ w10 : World, 
         (I7 (IntKind.wrap .i64 (i5 + 1)) w10 ∧ M8 (IntKind.wrap .i64 (i5 + 1)) w10 < M8 i5 w6) → J11 w10) →
       ldT (.sl) w6 ((a1).add 2) fun l12 =>
       idx (l12.a) (l12.len) (i5) 4 fun a13 =>
       ldT (.int .i64) w6 (a13) fun x14 => ldT (.int .i64) w6 ((a13).add 1) fun x15 => ldT (.int .u64) w6 ((a13).add 2) fun x16 => ldT (.int .u64) w6 ((a13).add 3) fun x17 =>
       allocK w6 (zc Tryd.prog T_api_Field) T_api_Field fun a18 w19 =>
       stC w19 (a18) (.int .i64 (x14)) fun w21 => stC w21 ((a18).add 1) (.int .i64 (x15)) fun w22 => stC w22 ((a18).add 2) (.int .u64 (x16)) fun w23 => stC w23 ((a18).add 3) (.int .u64 (x17)) fun w24 =>
       ∀ J27 : Bool → World → Prop, (∀ ok25 : Bool, ∀ w26 : World, 
         (cond (!ok25)
         (Q (.tuple #[.int .i64 (4), .int .i64 (i5)]) w26)
         (ldT (.int .u64) w26 ((a18).add 2) fun x28 =>
          ldT (.int .u64) w26 ((a18).add 3) fun x29 =>
          cond (decide ((x28 : Int) > x29))
          (Q (.tuple #[.int .i64 (4), .int .i64 (i5)]) w26)
          (J11 w26))) → J27 ok25 w26) →
       ldT (.int .i64) w24 ((a18).add 1) fun x30 =>
       cond (decide ((x30 : Int) ≥ 1))
       (ldT (.int .i64) w24 ((a18).add 1) fun x31 =>
        cond (decide ((x31 : Int) ≤ 8))
        (ldT (.int .i64) w24 (a18) fun x32 =>
         cond (decide ((x32 : Int) ≥ 0))
         (ldT (.int .i64) w24 (a18) fun x33 =>
          cond (decide ((x33 : Int) < 64))
          (ldT (.int .i64) w24 (a18) fun x34 =>
           ldT (.int .i64) w24 ((a18).add 1) fun x35 =>
           J27 (decide (((IntKind.wrap .i64 ((IntKind.wrap .i64 (x34 + x35)) - 1)) : Int) < 64)) w24)
          (J27 false w24))
         (J27 false w24))
        (J27 false w24))
       (J27 false w24))
      (Q (.tuple #[.int .i64 (0), .int .i64 (0)]) w6)) → J4 w3) →
  ldT (.int .i64) w2 (a1) fun x36 =>
  cond (decide ((0 : Int) ≤ x36))
  (ldT (.int .i64) w2 (a1) fun x37 =>
   ldT (.int .i64) w2 ((a1).add 1) fun x38 =>
   cond (decide ((x37 : Int) ≤ x38))
   (ldT (.int .i64) w2 ((a1).add 1) fun x39 =>
    cond (!(decide ((x39 : Int) ≤ 64)))
    (Q (.tuple #[.int .i64 (1), .int .i64 (0)]) w2)
    (ldT (.sl) w2 ((a1).add 2) fun l40 =>
     cond (decide (((((l40.len : Nat) : Int)) : Int) > 8))
     (Q (.tuple #[.int .i64 (1), .int .i64 (0)]) w2)
     (J4 w2)))
   (Q (.tuple #[.int .i64 (1), .int .i64 (0)]) w2))
  (Q (.tuple #[.int .i64 (1), .int .i64 (0)]) w2)
def A_ref10_Check : Ann := ⟨[(4, [(4, .one (.int .i64))])], [(3, []), (5, []), (8, [(6, .one (.bool))])], []⟩
theorem F_ref10_Check_eq (r0 : Int) (r1 : Int) (r2 : Sl) (w : World) (Q : Value → World → Prop) : vcFn Tryd.prog A_ref10_Check Tryd.f24 #[.agg #[.int .i64 (r0), .int .i64 (r1), .slice (r2.a) (r2.len) (r2.cap)]] w Q = F_ref10_Check r0 r1 r2 w Q := by kernel_rfl
theorem F_ref10_Check_does (r0 : Int) (r1 : Int) (r2 : Sl) (w : World) (Q : Value → World → Prop) (hQ : F_ref10_Check r0 r1 r2 w Q) : Does Tryd.prog N_ref10_Check #[.agg #[.int .i64 (r0), .int .i64 (r1), .slice (r2.a) (r2.len) (r2.cap)]] w Q :=
  vcFn_sound noAsk mixed (A := A_ref10_Check) (by kernel_rfl) Tryd.func24 (Nat.le_of_ble_eq_true (by kernel_rfl)) (by kernel_rfl) ((F_ref10_Check_eq r0 r1 r2 w Q).mpr hQ)

/- nacelle/nacellelaw10.told -/
def F_law10_told (e : Value) (n : Int) (at_ : Int) (w : World) (Q : Value → World → Prop) : Prop :=
  cond ((n : Int) == 0)
  (runG (.bool) Tryd.prog w (do eqGuard .eql T_error (.tmp 10) (.const (.nilIface)) (e) (.nilIface); binOp .eql T_error (e) (.nilIface)) fun b1 w2 =>
   Q (.bool (b1)) w2)
  (Does Tryd.prog N_fault_Path #[e] w fun r3 w4 => ∃ l5 : Sl, r3 = .slice (l5.a) (l5.len) (l5.cap) ∧
   Does Tryd.prog N_fault_Code #[e] w4 fun r6 w7 => ∃ x8 : Int, r6 = .int .i64 (x8) ∧
   cond ((x8 : Int) == n)
   (cond (((((l5.len : Nat) : Int)) : Int) == 1)
    (idx (l5.a) (l5.len) (0) 1 fun a9 =>
     ldT (.int .i64) w7 (a9) fun x10 =>
     Q (.bool ((x10 : Int) == at_)) w7)
    (Q (.bool (false)) w7))
   (Q (.bool (false)) w7))
def A_law10_told : Ann := ⟨[], [], []⟩
theorem F_law10_told_eq (e : Value) (n : Int) (at_ : Int) (w : World) (Q : Value → World → Prop) : vcFn Tryd.prog A_law10_told Tryd.f25 #[e, .int .i64 (n), .int .i64 (at_)] w Q = F_law10_told e n at_ w Q := by kernel_rfl
theorem F_law10_told_does (e : Value) (n : Int) (at_ : Int) (w : World) (Q : Value → World → Prop) (hQ : F_law10_told e n at_ w Q) : Does Tryd.prog N_law10_told #[e, .int .i64 (n), .int .i64 (at_)] w Q :=
  vcFn_sound noAsk mixed (A := A_law10_told) (by kernel_rfl) Tryd.func25 (Nat.le_of_ble_eq_true (by kernel_rfl)) (by kernel_rfl) ((F_law10_told_eq e n at_ w Q).mpr hQ)

/- nacelle/filter.Check -/
def F_filter_Check (r0 : Int) (r1 : Int) (r2 : Sl) (w : World) (Q : Value → World → Prop) : Prop :=
  allocK w (#[.int .i64 (r0), .int .i64 (r1), .slice (r2.a) (r2.len) (r2.cap)]) T_api_Rule fun a1 w2 =>
  ∀ J4 : World → Prop, (∀ w3 : World, 
    (ldT (.sl) w3 ((a1).add 2) fun l5 =>
    ∃ (I8 : Int → World → Prop) (M9 : Int → World → Nat), I8 0 w3 ∧
    ∀ x6 : Int, ∀ w7 : World, I8 x6 w7 →
      cond (decide ((x6 : Int) < (((l5.len : Nat) : Int))))
      (∀ J11 : World → Prop, (∀ w10 : World, 
         (I8 (IntKind.wrap .i64 (x6 + 1)) w10 ∧ M9 (IntKind.wrap .i64 (x6 + 1)) w10 < M9 x6 w7) → J11 w10) →
       idx (l5.a) (l5.len) (x6) 4 fun a12 =>
       ldT (.int .i64) w7 (a12) fun x13 => ldT (.int .i64) w7 ((a12).add 1) fun x14 => ldT (.int .u64) w7 ((a12).add 2) fun x15 => ldT (.int .u64) w7 ((a12).add 3) fun x16 =>
       allocK w7 (zc Tryd.prog T_api_Field) T_api_Field fun a17 w18 =>
       stC w18 (a17) (.int .i64 (x13)) fun w20 => stC w20 ((a17).add 1) (.int .i64 (x14)) fun w21 => stC w21 ((a17).add 2) (.int .u64 (x15)) fun w22 => stC w22 ((a17).add 3) (.int .u64 (x16)) fun w23 =>
       ∀ J26 : Bool → World → Prop, (∀ b24 : Bool, ∀ w25 : World, 
         (cond (b24)
         (Does Tryd.prog N_fault_New #[.int .i64 (4), .int .i64 (x6)] w25 fun r27 w28 => ∃ v29 : Value, r27 = v29 ∧
          Q (v29) w28)
         (J11 w25)) → J26 b24 w25) →
       ldT (.int .i64) w23 ((a17).add 1) fun x30 =>
       cond (decide ((x30 : Int) < 1))
       (J26 true w23)
       (ldT (.int .i64) w23 ((a17).add 1) fun x31 =>
        cond (decide ((x31 : Int) > 8))
        (J26 true w23)
        (ldT (.int .i64) w23 (a17) fun x32 =>
         cond (decide ((x32 : Int) < 0))
         (J26 true w23)
         (ldT (.int .i64) w23 (a17) fun x33 =>
          ldT (.int .i64) w23 ((a17).add 1) fun x34 =>
          cond (decide ((x33 : Int) > (IntKind.wrap .i64 (64 - x34))))
          (J26 true w23)
          (ldT (.int .u64) w23 ((a17).add 2) fun x35 =>
           ldT (.int .u64) w23 ((a17).add 3) fun x36 =>
           J26 (decide ((x35 : Int) > x36)) w23)))))
      (Q (.nilIface) w7)) → J4 w3) →
  ∀ J39 : Bool → World → Prop, (∀ b37 : Bool, ∀ w38 : World, 
    (cond (b37)
    (Does Tryd.prog N_fault_New #[.int .i64 (1), .int .i64 (0)] w38 fun r40 w41 => ∃ v42 : Value, r40 = v42 ∧
     Q (v42) w41)
    (J4 w38)) → J39 b37 w38) →
  ldT (.int .i64) w2 (a1) fun x43 =>
  cond (decide ((x43 : Int) < 0))
  (J39 true w2)
  (ldT (.int .i64) w2 (a1) fun x44 =>
   ldT (.int .i64) w2 ((a1).add 1) fun x45 =>
   cond (decide ((x44 : Int) > x45))
   (J39 true w2)
   (ldT (.int .i64) w2 ((a1).add 1) fun x46 =>
    cond (decide ((x46 : Int) > 64))
    (J39 true w2)
    (ldT (.sl) w2 ((a1).add 2) fun l47 =>
     J39 (decide (((((l47.len : Nat) : Int)) : Int) > 8)) w2)))
def A_filter_Check : Ann := ⟨[(4, [(30, .one (.int .i64))])], [(2, [(25, .one (.bool))]), (3, []), (7, [(62, .one (.bool))]), (8, [])], []⟩
theorem F_filter_Check_eq (r0 : Int) (r1 : Int) (r2 : Sl) (w : World) (Q : Value → World → Prop) : vcFn Tryd.prog A_filter_Check Tryd.f26 #[.agg #[.int .i64 (r0), .int .i64 (r1), .slice (r2.a) (r2.len) (r2.cap)]] w Q = F_filter_Check r0 r1 r2 w Q := by kernel_rfl
theorem F_filter_Check_does (r0 : Int) (r1 : Int) (r2 : Sl) (w : World) (Q : Value → World → Prop) (hQ : F_filter_Check r0 r1 r2 w Q) : Does Tryd.prog N_filter_Check #[.agg #[.int .i64 (r0), .int .i64 (r1), .slice (r2.a) (r2.len) (r2.cap)]] w Q :=
  vcFn_sound noAsk mixed (A := A_filter_Check) (by kernel_rfl) Tryd.func26 (Nat.le_of_ble_eq_true (by kernel_rfl)) (by kernel_rfl) ((F_filter_Check_eq r0 r1 r2 w Q).mpr hQ)

/- nacelle/fault.Path -/
def F_fault_Path (err : Value) (w : World) (Q : Value → World → Prop) : Prop :=
  Does Tryd.prog N_fault_row #[err] w fun r1 w2 => ∃ l3 : Sl, r1 = .slice (l3.a) (l3.len) (l3.cap) ∧
  ∃ (I7 : Sl → Int → World → Prop) (M8 : Sl → Int → World → Nat), I7 ⟨none, 0, 0⟩ 0 w2 ∧
  ∀ out4 : Sl, ∀ x5 : Int, ∀ w6 : World, I7 out4 x5 w6 →
    cond (decide ((x5 : Int) < (((l3.len : Nat) : Int))))
    (idx (l3.a) (l3.len) (x5) 1 fun a9 =>
     ldT (.ptr) w6 (a9) fun p10 =>
     nnil (p10) fun a11 =>
     ldT (.int .i64) w6 ((a11).add 1) fun x12 =>
     allocK w6 #[.int .i64 (x12)] T_int fun a13 w14 =>
     runG (.sl) Tryd.prog w14 (Builtin.append_ #[T_l_int, T_l_int] T_l_int #[.slice (out4.a) (out4.len) (out4.cap), .slice (some (a13)) (1) (1)]) fun l15 w16 =>
     I7 ⟨l15.a, l15.len, l15.cap⟩ (IntKind.wrap .i64 (x5 + 1)) w16 ∧ M8 ⟨l15.a, l15.len, l15.cap⟩ (IntKind.wrap .i64 (x5 + 1)) w16 < M8 out4 x5 w6)
    (Q (.slice (out4.a) (out4.len) (out4.cap)) w6)
def A_fault_Path : Ann := ⟨[(3, [(3, .one (.sl)), (9, .one (.int .i64))])], [], []⟩
theorem F_fault_Path_eq (err : Value) (w : World) (Q : Value → World → Prop) : vcFn Tryd.prog A_fault_Path Tryd.f27 #[err] w Q = F_fault_Path err w Q := by kernel_rfl
theorem F_fault_Path_does (err : Value) (w : World) (Q : Value → World → Prop) (hQ : F_fault_Path err w Q) : Does Tryd.prog N_fault_Path #[err] w Q :=
  vcFn_sound noAsk mixed (A := A_fault_Path) (by kernel_rfl) Tryd.func27 (Nat.le_of_ble_eq_true (by kernel_rfl)) (by kernel_rfl) ((F_fault_Path_eq err w Q).mpr hQ)

/- nacelle/fault.Code -/
def F_fault_Code (err : Value) (w : World) (Q : Value → World → Prop) : Prop :=
  allocK w (zc Tryd.prog T_p_fault_Fault) T_p_fault_Fault fun a1 w2 =>
  Does Tryd.prog N_errors_As #[err, .iface T_p_p_fault_Fault (.pointer (some (a1)))] w2 fun r3 w4 => ∃ b5 : Bool, r3 = .bool (b5) ∧
  cond (b5)
  (ldT (.ptr) w4 (a1) fun p6 =>
   nnil (p6) fun a7 =>
   ldT (.int .i64) w4 (a7) fun x8 =>
   Q (.int .i64 (x8)) w4)
  (Q (.int .i64 (0)) w4)
def A_fault_Code : Ann := ⟨[], [], []⟩
theorem F_fault_Code_eq (err : Value) (w : World) (Q : Value → World → Prop) : vcFn Tryd.prog A_fault_Code Tryd.f28 #[err] w Q = F_fault_Code err w Q := by kernel_rfl
theorem F_fault_Code_does (err : Value) (w : World) (Q : Value → World → Prop) (hQ : F_fault_Code err w Q) : Does Tryd.prog N_fault_Code #[err] w Q :=
  vcFn_sound noAsk mixed (A := A_fault_Code) (by kernel_rfl) Tryd.func28 (Nat.le_of_ble_eq_true (by kernel_rfl)) (by kernel_rfl) ((F_fault_Code_eq err w Q).mpr hQ)

/- nacelle/nacelleref10.Pass -/
def F_ref10_Pass (r0 : Int) (r1 : Int) (r2 : Sl) (b : Sl) (w : World) (Q : Value → World → Prop) : Prop :=
  allocK w (#[.int .i64 (r0), .int .i64 (r1), .slice (r2.a) (r2.len) (r2.cap)]) T_api_Rule fun a1 w2 =>
  ldT (.int .i64) w2 (a1) fun x3 =>
  cond (decide (((((b.len : Nat) : Int)) : Int) < x3))
  (Q (.tuple #[.int .i64 (2), .int .i64 (((b.len : Nat) : Int))]) w2)
  (ldT (.int .i64) w2 ((a1).add 1) fun x4 =>
   cond (decide (((((b.len : Nat) : Int)) : Int) > x4))
   (ldT (.int .i64) w2.drew ((a1).add 1) fun x5 =>
    Q (.tuple #[.int .i64 (7), .int .i64 (x5)]) w2.drew)
   (∃ (I8 : Int → World → Prop) (M9 : Int → World → Nat), I8 0 w2 ∧
    ∀ i6 : Int, ∀ w7 : World, I8 i6 w7 →
      ldT (.sl) w7 ((a1).add 2) fun l10 =>
      cond (decide ((i6 : Int) < (((l10.len : Nat) : Int))))
      (∀ J12 : World → Prop, (∀ w11 : World, 
         (I8 (IntKind.wrap .i64 (i6 + 1)) w11 ∧ M9 (IntKind.wrap .i64 (i6 + 1)) w11 < M9 i6 w7) → J12 w11) →
       ldT (.sl) w7 ((a1).add 2) fun l13 =>
       idx (l13.a) (l13.len) (i6) 4 fun a14 =>
       ldT (.int .i64) w7 (a14) fun x15 => ldT (.int .i64) w7 ((a14).add 1) fun x16 => ldT (.int .u64) w7 ((a14).add 2) fun x17 => ldT (.int .u64) w7 ((a14).add 3) fun x18 =>
       allocK w7 (zc Tryd.prog T_api_Field) T_api_Field fun a19 w20 =>
       stC w20 (a19) (.int .i64 (x15)) fun w22 => stC w22 ((a19).add 1) (.int .i64 (x16)) fun w23 => stC w23 ((a19).add 2) (.int .u64 (x17)) fun w24 => stC w24 ((a19).add 3) (.int .u64 (x18)) fun w25 =>
       ldT (.int .i64) w25 (a19) fun x26 =>
       ldT (.int .i64) w25 ((a19).add 1) fun x27 =>
       cond (decide (((IntKind.wrap .i64 (x26 + x27)) : Int) > (((b.len : Nat) : Int))))
       (Q (.tuple #[.int .i64 (3), .int .i64 (i6)]) w25)
       (ldT (.int .i64) w25 (a19) fun x28 =>
        ldT (.int .i64) w25 (a19) fun x29 =>
        ldT (.int .i64) w25 ((a19).add 1) fun x30 =>
        slcT ⟨b.a, b.len, b.cap⟩ (x28) (IntKind.wrap .i64 (x29 + x30)) 1 fun l31 =>
        Does Tryd.prog N_ref02_Number #[.slice (l31.a) (l31.len) (l31.cap)] w25 fun r32 w33 => ∃ x34 : Int, r32 = .int .u64 (x34) ∧
        ldT (.int .u64) w33 ((a19).add 2) fun x35 =>
        cond (decide ((x34 : Int) < x35))
        (Q (.tuple #[.int .i64 (3), .int .i64 (i6)]) w33)
        (ldT (.int .u64) w33 ((a19).add 3) fun x36 =>
         cond (decide ((x34 : Int) > x36))
         (Q (.tuple #[.int .i64 (3), .int .i64 (i6)]) w33)
         (J12 w33))))
      (Q (.tuple #[.int .i64 (0), .int .i64 (0)]) w7)))
def A_ref10_Pass : Ann := ⟨[(6, [(6, .one (.int .i64))])], [(7, [])], [(4, [⟨0, 0, 0, true⟩, ⟨1, 1, 1, true⟩, ⟨0, 0, 0, true⟩, ⟨7, 2, 7, true⟩])]⟩
theorem F_ref10_Pass_eq (r0 : Int) (r1 : Int) (r2 : Sl) (b : Sl) (w : World) (Q : Value → World → Prop) : vcFn Tryd.prog A_ref10_Pass Tryd.f29 #[.agg #[.int .i64 (r0), .int .i64 (r1), .slice (r2.a) (r2.len) (r2.cap)], .slice (b.a) (b.len) (b.cap)] w Q = F_ref10_Pass r0 r1 r2 b w Q := by kernel_rfl
theorem F_ref10_Pass_does (r0 : Int) (r1 : Int) (r2 : Sl) (b : Sl) (w : World) (Q : Value → World → Prop) (hQ : F_ref10_Pass r0 r1 r2 b w Q) : Does Tryd.prog N_ref10_Pass #[.agg #[.int .i64 (r0), .int .i64 (r1), .slice (r2.a) (r2.len) (r2.cap)], .slice (b.a) (b.len) (b.cap)] w Q :=
  vcFn_sound noAsk mixed (A := A_ref10_Pass) (by kernel_rfl) Tryd.func29 (Nat.le_of_ble_eq_true (by kernel_rfl)) (by kernel_rfl) ((F_ref10_Pass_eq r0 r1 r2 b w Q).mpr hQ)

/- nacelle/nacellelaw07.awake -/
def F_law07_awake (w : World) (Q : Value → World → Prop) : Prop :=
  allocK w #[.int .u8 (15), .int .u8 (0), .int .u8 (1), .int .u8 (0)] T_api_Instr fun a1 w2 =>
  Does Tryd.prog N_code_Check #[.slice (some (a1)) (1) (1)] w2 fun r3 w4 => ∃ v5 : Value, r3 = v5 ∧
  allocK w4 #[.int .u8 (15), .int .u8 (0), .int .u8 (1), .int .u8 (0)] T_uint8 fun a6 w7 =>
  Does Tryd.prog N_code_Decode #[.slice (some (a6)) (4) (4)] w7 fun r8 w9 => ∃ l10 : Sl, ∃ v11 : Value, r8 = .tuple #[.slice (l10.a) (l10.len) (l10.cap), v11] ∧
  allocK w9 #[.int .u8 (16), .int .u8 (0), .int .u8 (0), .int .u8 (0), .int .u8 (0), .int .u8 (0), .int .u8 (0), .int .u8 (0)] T_api_Instr fun a12 w13 =>
  Does Tryd.prog N_code_Next #[.slice (some (a12)) (2) (2), .int .i64 (0)] w13 fun r14 w15 => ∃ l16 : Sl, r14 = .slice (l16.a) (l16.len) (l16.cap) ∧
  allocK w15 #[.int .u8 (1), .int .u8 (0), .int .u8 (5), .int .u8 (0), .int .u8 (0), .int .u8 (0), .int .u8 (0), .int .u8 (0)] T_api_Instr fun a17 w18 =>
  Does Tryd.prog N_code_Check #[.slice (some (a17)) (2) (2)] w18 fun r19 w20 => ∃ v21 : Value, r19 = v21 ∧
  runG (.bool) Tryd.prog w20 (do eqGuard .eql T_error (.tmp 20) (.const (.nilIface)) (v21) (.nilIface); binOp .eql T_error (v21) (.nilIface)) fun b22 w23 =>
  cond (b22)
  (Does Tryd.prog N_fault_Text #[v5] w23 fun r24 w25 => ∃ s26 : ByteArray, r24 = .string (s26) ∧
   cond ((s26).toList == (((⟨#[52, 64, 48]⟩ : ByteArray))).toList)
   (Does Tryd.prog N_fault_Text #[v11] w25 fun r27 w28 => ∃ s29 : ByteArray, r27 = .string (s29) ∧
    cond ((s29).toList == (((⟨#[52, 64, 48, 60, 52, 64, 48]⟩ : ByteArray))).toList)
    (cond (((((l16.len : Nat) : Int)) : Int) == 2)
     (idx (l16.a) (l16.len) (1) 1 fun a30 =>
      ldT (.int .i64) w28 (a30) fun x31 =>
      cond ((x31 : Int) == 1)
      (Does Tryd.prog N_code_Number #[.agg #[.int .u8 (1), .int .u8 (0), .int .u8 (255), .int .u8 (255)]] w28 fun r32 w33 => ∃ x34 : Int, r32 = .int .i64 (x34) ∧
       Q (.bool ((x34 : Int) == (-1))) w33)
      (Q (.bool (false)) w28))
     (Q (.bool (false)) w28))
    (Q (.bool (false)) w28))
   (Q (.bool (false)) w25))
  (Q (.bool (false)) w23)
def A_law07_awake : Ann := ⟨[], [], []⟩
theorem F_law07_awake_eq (w : World) (Q : Value → World → Prop) : vcFn Tryd.prog A_law07_awake Tryd.f30 #[] w Q = F_law07_awake w Q := by kernel_rfl
theorem F_law07_awake_does (w : World) (Q : Value → World → Prop) (hQ : F_law07_awake w Q) : Does Tryd.prog N_law07_awake #[] w Q :=
  vcFn_sound noAsk mixed (A := A_law07_awake) (by kernel_rfl) Tryd.func30 (Nat.le_of_ble_eq_true (by kernel_rfl)) (by kernel_rfl) ((F_law07_awake_eq w Q).mpr hQ)

/- nacelle/nacellelaw07.few -/
def F_law07_few (l : Sl) (w : World) (Q : Value → World → Prop) : Prop :=
  cond (decide (((((l.len : Nat) : Int)) : Int) > 140))
  (slcT ⟨l.a, l.len, l.cap⟩ (0) (140) 4 fun l1 =>
   Q (.slice (l1.a) (l1.len) (l1.cap)) w)
  (Q (.slice (l.a) (l.len) (l.cap)) w)
def A_law07_few : Ann := ⟨[], [], []⟩
theorem F_law07_few_eq (l : Sl) (w : World) (Q : Value → World → Prop) : vcFn Tryd.prog A_law07_few Tryd.f31 #[.slice (l.a) (l.len) (l.cap)] w Q = F_law07_few l w Q := by kernel_rfl
theorem F_law07_few_does (l : Sl) (w : World) (Q : Value → World → Prop) (hQ : F_law07_few l w Q) : Does Tryd.prog N_law07_few #[.slice (l.a) (l.len) (l.cap)] w Q :=
  vcFn_sound noAsk mixed (A := A_law07_few) (by kernel_rfl) Tryd.func31 (Nat.le_of_ble_eq_true (by kernel_rfl)) (by kernel_rfl) ((F_law07_few_eq l w Q).mpr hQ)

/- nacelle/code.Check -/
def F_code_Check (l : Sl) (w : World) (Q : Value → World → Prop) : Prop :=
  ∀ J2 : World → Prop, (∀ w1 : World, 
    (∃ (I5 : Int → World → Prop) (M6 : Int → World → Nat), I5 0 w1 ∧
    ∀ x3 : Int, ∀ w4 : World, I5 x3 w4 →
      cond (decide ((x3 : Int) < (((l.len : Nat) : Int))))
      (∀ J8 : World → Prop, (∀ w7 : World, 
         (I5 (IntKind.wrap .i64 (x3 + 1)) w7 ∧ M6 (IntKind.wrap .i64 (x3 + 1)) w7 < M6 x3 w4) → J8 w7) →
       idx (l.a) (l.len) (x3) 4 fun a9 =>
       ldT (.int .u8) w4 (a9) fun x10 => ldT (.int .u8) w4 ((a9).add 1) fun x11 => ldT (.int .u8) w4 ((a9).add 2) fun x12 => ldT (.int .u8) w4 ((a9).add 3) fun x13 =>
       allocK w4 (zc Tryd.prog T_api_Instr) T_api_Instr fun a14 w15 =>
       stC w15 (a14) (.int .u8 (x10)) fun w17 => stC w17 ((a14).add 1) (.int .u8 (x11)) fun w18 => stC w18 ((a14).add 2) (.int .u8 (x12)) fun w19 => stC w19 ((a14).add 3) (.int .u8 (x13)) fun w20 =>
       ldT (.int .u8) w20 (a14) fun x21 => ldT (.int .u8) w20 ((a14).add 1) fun x22 => ldT (.int .u8) w20 ((a14).add 2) fun x23 => ldT (.int .u8) w20 ((a14).add 3) fun x24 =>
       Does Tryd.prog N_code_formed #[.agg #[.int .u8 (x21), .int .u8 (x22), .int .u8 (x23), .int .u8 (x24)]] w20 fun r25 w26 => ∃ b27 : Bool, r25 = .bool (b27) ∧
       cond (!b27)
       (Does Tryd.prog N_fault_New #[.int .i64 (3), .int .i64 (x3)] w26 fun r28 w29 => ∃ v30 : Value, r28 = v30 ∧
        Q (v30) w29)
       (∀ J33 : Bool → World → Prop, (∀ b31 : Bool, ∀ w32 : World, 
          (cond (b31)
          (Does Tryd.prog N_fault_New #[.int .i64 (4), .int .i64 (x3)] w32 fun r34 w35 => ∃ v36 : Value, r34 = v36 ∧
           Q (v36) w35)
          (J8 w32)) → J33 b31 w32) →
        ldT (.int .u8) w26 (a14) fun x37 => ldT (.int .u8) w26 ((a14).add 1) fun x38 => ldT (.int .u8) w26 ((a14).add 2) fun x39 => ldT (.int .u8) w26 ((a14).add 3) fun x40 =>
        Does Tryd.prog N_code_jumps #[.agg #[.int .u8 (x37), .int .u8 (x38), .int .u8 (x39), .int .u8 (x40)]] w26 fun r41 w42 => ∃ b43 : Bool, r41 = .bool (b43) ∧
        cond (b43)
        (ldT (.int .u8) w42 (a14) fun x44 => ldT (.int .u8) w42 ((a14).add 1) fun x45 => ldT (.int .u8) w42 ((a14).add 2) fun x46 => ldT (.int .u8) w42 ((a14).add 3) fun x47 =>
         Does Tryd.prog N_code_Number #[.agg #[.int .u8 (x44), .int .u8 (x45), .int .u8 (x46), .int .u8 (x47)]] w42 fun r48 w49 => ∃ x50 : Int, r48 = .int .i64 (x50) ∧
         J33 (decide ((x50 : Int) ≥ (((l.len : Nat) : Int)))) w49)
        (J33 false w42)))
      (idx (l.a) (l.len) (IntKind.wrap .i64 ((((l.len : Nat) : Int)) - 1)) 4 fun a51 =>
       ldT (.int .u8) w4 (a51) fun x52 =>
       ∀ J55 : Bool → World → Prop, (∀ b53 : Bool, ∀ w54 : World, 
         (cond (b53)
         (Does Tryd.prog N_fault_New #[.int .i64 (2), .int .i64 (IntKind.wrap .i64 ((((l.len : Nat) : Int)) - 1))] w54 fun r56 w57 => ∃ v58 : Value, r56 = v58 ∧
          Q (v58) w57)
         (Q (.nilIface) w54)) → J55 b53 w54) →
       cond ((x52 : Int) != 0)
       (J55 ((x52 : Int) != 15) w4)
       (J55 false w4))) → J2 w1) →
  ∀ J61 : Bool → World → Prop, (∀ b59 : Bool, ∀ w60 : World, 
    (cond (b59)
    (Does Tryd.prog N_fault_New #[.int .i64 (1), .int .i64 (0)] w60 fun r62 w63 => ∃ v64 : Value, r62 = v64 ∧
     Q (v64) w63)
    (J2 w60)) → J61 b59 w60) →
  cond (((((l.len : Nat) : Int)) : Int) == 0)
  (J61 true w)
  (J61 (decide (((((l.len : Nat) : Int)) : Int) > 128)) w)
def A_code_Check : Ann := ⟨[(4, [(18, .one (.int .i64))])], [(2, [(14, .one (.bool))]), (3, []), (9, [(36, .one (.bool))]), (10, []), (14, [(53, .one (.bool))])], []⟩
theorem F_code_Check_eq (l : Sl) (w : World) (Q : Value → World → Prop) : vcFn Tryd.prog A_code_Check Tryd.f32 #[.slice (l.a) (l.len) (l.cap)] w Q = F_code_Check l w Q := by kernel_rfl
theorem F_code_Check_does (l : Sl) (w : World) (Q : Value → World → Prop) (hQ : F_code_Check l w Q) : Does Tryd.prog N_code_Check #[.slice (l.a) (l.len) (l.cap)] w Q :=
  vcFn_sound noAsk mixed (A := A_code_Check) (by kernel_rfl) Tryd.func32 (Nat.le_of_ble_eq_true (by kernel_rfl)) (by kernel_rfl) ((F_code_Check_eq l w Q).mpr hQ)

/- nacelle/nacelleref07.Check -/
def F_ref07_Check (l : Sl) (w : World) (Q : Value → World → Prop) : Prop :=
  ∀ J2 : World → Prop, (∀ w1 : World, 
    (∃ (I5 : Int → World → Prop) (M6 : Int → World → Nat), I5 0 w1 ∧
    ∀ k3 : Int, ∀ w4 : World, I5 k3 w4 →
      cond (decide ((k3 : Int) < (((l.len : Nat) : Int))))
      (∀ J8 : World → Prop, (∀ w7 : World, 
         (I5 (IntKind.wrap .i64 (k3 + 1)) w7 ∧ M6 (IntKind.wrap .i64 (k3 + 1)) w7 < M6 k3 w4) → J8 w7) →
       idx (l.a) (l.len) (k3) 4 fun a9 =>
       ldT (.int .u8) w4 (a9) fun x10 => ldT (.int .u8) w4 ((a9).add 1) fun x11 => ldT (.int .u8) w4 ((a9).add 2) fun x12 => ldT (.int .u8) w4 ((a9).add 3) fun x13 =>
       Does Tryd.prog N_ref07_Formed #[.agg #[.int .u8 (x10), .int .u8 (x11), .int .u8 (x12), .int .u8 (x13)]] w4 fun r14 w15 => ∃ b16 : Bool, r14 = .bool (b16) ∧
       cond (!b16)
       (Q (.tuple #[.int .i64 (3), .int .i64 (k3)]) w15)
       (idx (l.a) (l.len) (k3) 4 fun a17 =>
        ldT (.int .u8) w15 (a17) fun x18 =>
        cond ((x18 : Int) == 15)
        (idx (l.a) (l.len) (k3) 4 fun a19 =>
         ldT (.int .u8) w15 (a19) fun x20 => ldT (.int .u8) w15 ((a19).add 1) fun x21 => ldT (.int .u8) w15 ((a19).add 2) fun x22 => ldT (.int .u8) w15 ((a19).add 3) fun x23 =>
         Does Tryd.prog N_ref07_Number #[.agg #[.int .u8 (x20), .int .u8 (x21), .int .u8 (x22), .int .u8 (x23)]] w15 fun r24 w25 => ∃ x26 : Int, r24 = .int .i64 (x26) ∧
         cond (decide ((x26 : Int) ≥ (((l.len : Nat) : Int))))
         (Q (.tuple #[.int .i64 (4), .int .i64 (k3)]) w25)
         (J8 w25))
        (idx (l.a) (l.len) (k3) 4 fun a27 =>
         ldT (.int .u8) w15 (a27) fun x28 =>
         cond ((x28 : Int) == 16)
         (idx (l.a) (l.len) (k3) 4 fun a29 =>
          ldT (.int .u8) w15 (a29) fun x30 => ldT (.int .u8) w15 ((a29).add 1) fun x31 => ldT (.int .u8) w15 ((a29).add 2) fun x32 => ldT (.int .u8) w15 ((a29).add 3) fun x33 =>
          Does Tryd.prog N_ref07_Number #[.agg #[.int .u8 (x30), .int .u8 (x31), .int .u8 (x32), .int .u8 (x33)]] w15 fun r34 w35 => ∃ x36 : Int, r34 = .int .i64 (x36) ∧
          cond (decide ((x36 : Int) ≥ (((l.len : Nat) : Int))))
          (Q (.tuple #[.int .i64 (4), .int .i64 (k3)]) w35)
          (J8 w35))
         (J8 w15))))
      (idx (l.a) (l.len) (IntKind.wrap .i64 ((((l.len : Nat) : Int)) - 1)) 4 fun a37 =>
       ldT (.int .u8) w4 (a37) fun x38 =>
       cond ((x38 : Int) != 0)
       (idx (l.a) (l.len) (IntKind.wrap .i64 ((((l.len : Nat) : Int)) - 1)) 4 fun a39 =>
        ldT (.int .u8) w4 (a39) fun x40 =>
        cond ((x40 : Int) != 15)
        (Q (.tuple #[.int .i64 (2), .int .i64 (IntKind.wrap .i64 ((((l.len : Nat) : Int)) - 1))]) w4)
        (Q (.tuple #[.int .i64 (0), .int .i64 (0)]) w4))
       (Q (.tuple #[.int .i64 (0), .int .i64 (0)]) w4))) → J2 w1) →
  cond (decide (((((l.len : Nat) : Int)) : Int) < 1))
  (Q (.tuple #[.int .i64 (1), .int .i64 (0)]) w)
  (cond (decide (((((l.len : Nat) : Int)) : Int) > 128))
   (Q (.tuple #[.int .i64 (1), .int .i64 (0)]) w)
   (J2 w))
def A_ref07_Check : Ann := ⟨[(4, [(4, .one (.int .i64))])], [(3, []), (5, [])], []⟩
theorem F_ref07_Check_eq (l : Sl) (w : World) (Q : Value → World → Prop) : vcFn Tryd.prog A_ref07_Check Tryd.f33 #[.slice (l.a) (l.len) (l.cap)] w Q = F_ref07_Check l w Q := by kernel_rfl
theorem F_ref07_Check_does (l : Sl) (w : World) (Q : Value → World → Prop) (hQ : F_ref07_Check l w Q) : Does Tryd.prog N_ref07_Check #[.slice (l.a) (l.len) (l.cap)] w Q :=
  vcFn_sound noAsk mixed (A := A_ref07_Check) (by kernel_rfl) Tryd.func33 (Nat.le_of_ble_eq_true (by kernel_rfl)) (by kernel_rfl) ((F_ref07_Check_eq l w Q).mpr hQ)

/- nacelle/nacellelaw07.same -/
def F_law07_same (a : Sl) (b : Sl) (w : World) (Q : Value → World → Prop) : Prop :=
  cond (((((a.len : Nat) : Int)) : Int) != (((b.len : Nat) : Int)))
  (Q (.bool (false)) w)
  (∃ (I3 : Int → World → Prop) (M4 : Int → World → Nat), I3 0 w ∧
   ∀ i1 : Int, ∀ w2 : World, I3 i1 w2 →
     cond (decide ((i1 : Int) < (((a.len : Nat) : Int))))
     (idx (a.a) (a.len) (i1) 4 fun a5 =>
      ldT (.int .u8) w2.drew (a5) fun x6 => ldT (.int .u8) w2.drew ((a5).add 1) fun x7 => ldT (.int .u8) w2.drew ((a5).add 2) fun x8 => ldT (.int .u8) w2.drew ((a5).add 3) fun x9 =>
      idx (b.a) (b.len) (i1) 4 fun a10 =>
      ldT (.int .u8) w2.drew (a10) fun x11 => ldT (.int .u8) w2.drew ((a10).add 1) fun x12 => ldT (.int .u8) w2.drew ((a10).add 2) fun x13 => ldT (.int .u8) w2.drew ((a10).add 3) fun x14 =>
      runG (.bool) Tryd.prog w2.drew (do eqGuard .neq T_api_Instr (.tmp 20) (.tmp 24) (.agg #[.int .u8 (x6), .int .u8 (x7), .int .u8 (x8), .int .u8 (x9)]) (.agg #[.int .u8 (x11), .int .u8 (x12), .int .u8 (x13), .int .u8 (x14)]); binOp .neq T_api_Instr (.agg #[.int .u8 (x6), .int .u8 (x7), .int .u8 (x8), .int .u8 (x9)]) (.agg #[.int .u8 (x11), .int .u8 (x12), .int .u8 (x13), .int .u8 (x14)])) fun b15 w16 =>
      cond (b15)
      (Q (.bool (false)) w16)
      (I3 (IntKind.wrap .i64 (i1 + 1)) w16 ∧ M4 (IntKind.wrap .i64 (i1 + 1)) w16 < M4 i1 w2))
     (Q (.bool (true)) w2))
def A_law07_same : Ann := ⟨[(4, [(5, .one (.int .i64))])], [], [(6, [⟨0, 0, 0, true⟩, ⟨0, 0, 0, true⟩, ⟨3, 3, 3, true⟩, ⟨4, 4, 7, true⟩, ⟨0, 0, 0, true⟩, ⟨0, 0, 0, true⟩, ⟨48, 48, 48, true⟩, ⟨64, 64, 112, true⟩, ⟨136, 0, 255, false⟩])]⟩
theorem F_law07_same_eq (a : Sl) (b : Sl) (w : World) (Q : Value → World → Prop) : vcFn Tryd.prog A_law07_same Tryd.f34 #[.slice (a.a) (a.len) (a.cap), .slice (b.a) (b.len) (b.cap)] w Q = F_law07_same a b w Q := by kernel_rfl
theorem F_law07_same_does (a : Sl) (b : Sl) (w : World) (Q : Value → World → Prop) (hQ : F_law07_same a b w Q) : Does Tryd.prog N_law07_same #[.slice (a.a) (a.len) (a.cap), .slice (b.a) (b.len) (b.cap)] w Q :=
  vcFn_sound noAsk mixed (A := A_law07_same) (by kernel_rfl) Tryd.func34 (Nat.le_of_ble_eq_true (by kernel_rfl)) (by kernel_rfl) ((F_law07_same_eq a b w Q).mpr hQ)

/- nacelle/code.Decode -/
def F_code_Decode (b : Sl) (w : World) (Q : Value → World → Prop) : Prop :=
  (4 : Int) ≠ 0 ∧
  cond (((Int.tmod (((b.len : Nat) : Int)) 4) : Int) != 0)
  ((4 : Int) ≠ 0 ∧
   Does Tryd.prog N_fault_New #[.int .i64 (2), .int .i64 (IntKind.wrap .i64 (Int.tdiv (((b.len : Nat) : Int)) 4))] w fun r1 w2 => ∃ v3 : Value, r1 = v3 ∧
   Q (.tuple #[.slice (none) (0) (0), v3]) w2)
  (∃ (I7 : Sl → Sl → World → Prop) (M8 : Sl → Sl → World → Nat), I7 ⟨b.a, b.len, b.cap⟩ ⟨none, 0, 0⟩ w ∧
   ∀ b4 : Sl, ∀ l5 : Sl, ∀ w6 : World, I7 b4 l5 w6 →
     cond (decide (((((b4.len : Nat) : Int)) : Int) > 0))
     (idx (b4.a) (b4.len) (0) 1 fun a9 =>
      ldT (.int .u8) w6.drew (a9) fun x10 =>
      idx (b4.a) (b4.len) (1) 1 fun a11 =>
      ldT (.int .u8) w6.drew (a11) fun x12 =>
      idx (b4.a) (b4.len) (2) 1 fun a13 =>
      ldT (.int .u8) w6.drew (a13) fun x14 =>
      idx (b4.a) (b4.len) (3) 1 fun a15 =>
      ldT (.int .u8) w6.drew (a15) fun x16 =>
      allocK w6.drew #[.int .u8 (x10), .int .u8 (x12), .int .u8 (x14), .int .u8 (x16)] T_api_Instr fun a17 w18 =>
      runG (.sl) Tryd.prog w18 (Builtin.append_ #[T_l_api_Instr, T_l_api_Instr] T_l_api_Instr #[.slice (l5.a) (l5.len) (l5.cap), .slice (some (a17)) (1) (1)]) fun l19 w20 =>
      slcT ⟨b4.a, b4.len, b4.cap⟩ (4) (((b4.len : Nat) : Int)) 1 fun l21 =>
      I7 ⟨l21.a, l21.len, l21.cap⟩ ⟨l19.a, l19.len, l19.cap⟩ w20 ∧ M8 ⟨l21.a, l21.len, l21.cap⟩ ⟨l19.a, l19.len, l19.cap⟩ w20 < M8 b4 l5 w6)
     (Does Tryd.prog N_code_Check #[.slice (l5.a) (l5.len) (l5.cap)] w6 fun r22 w23 => ∃ v24 : Value, r22 = v24 ∧
      runG (.bool) Tryd.prog w23 (do eqGuard .neq T_error (.tmp 37) (.const (.nilIface)) (v24) (.nilIface); binOp .neq T_error (v24) (.nilIface)) fun b25 w26 =>
      cond (b25)
      (Does Tryd.prog N_fault_Path #[v24] w26 fun r27 w28 => ∃ l29 : Sl, r27 = .slice (l29.a) (l29.len) (l29.cap) ∧
       idx (l29.a) (l29.len) (0) 1 fun a30 =>
       ldT (.int .i64) w28 (a30) fun x31 =>
       Does Tryd.prog N_fault_In #[v24, .int .i64 (IntKind.wrap .i64 (4 * x31))] w28 fun r32 w33 => ∃ v34 : Value, r32 = v34 ∧
       Q (.tuple #[.slice (none) (0) (0), v34]) w33)
      (Q (.tuple #[.slice (l5.a) (l5.len) (l5.cap), .nilIface]) w26)))
def A_code_Decode : Ann := ⟨[(4, [(0, .one (.sl)), (4, .one (.sl))])], [], [(6, [⟨0, 0, 0, true⟩, ⟨0, 0, 0, true⟩, ⟨2, 2, 2, true⟩, ⟨4, 4, 6, true⟩, ⟨0, 0, 0, true⟩, ⟨16, 16, 16, true⟩, ⟨32, 32, 48, true⟩, ⟨0, 0, 0, true⟩, ⟨128, 128, 128, true⟩, ⟨256, 256, 384, true⟩, ⟨0, 0, 0, true⟩, ⟨1024, 1024, 1024, true⟩, ⟨2048, 2048, 3072, true⟩, ⟨4680, 4680, 8190, true⟩, ⟨8192, 0, 16382, false⟩, ⟨16385, 0, 32767, false⟩, ⟨65535, 32769, 65535, true⟩])]⟩
theorem F_code_Decode_eq (b : Sl) (w : World) (Q : Value → World → Prop) : vcFn Tryd.prog A_code_Decode Tryd.f35 #[.slice (b.a) (b.len) (b.cap)] w Q = F_code_Decode b w Q := by kernel_rfl
theorem F_code_Decode_does (b : Sl) (w : World) (Q : Value → World → Prop) (hQ : F_code_Decode b w Q) : Does Tryd.prog N_code_Decode #[.slice (b.a) (b.len) (b.cap)] w Q :=
  vcFn_sound noAsk mixed (A := A_code_Decode) (by kernel_rfl) Tryd.func35 (Nat.le_of_ble_eq_true (by kernel_rfl)) (by kernel_rfl) ((F_code_Decode_eq b w Q).mpr hQ)

/- nacelle/nacelleref07.List -/
def F_ref07_List (b : Sl) (w : World) (Q : Value → World → Prop) : Prop :=
  ∃ (I4 : Sl → Int → World → Prop) (M5 : Sl → Int → World → Nat), I4 ⟨none, 0, 0⟩ 0 w ∧
  ∀ l1 : Sl, ∀ k2 : Int, ∀ w3 : World, I4 l1 k2 w3 →
    cond (decide (((IntKind.wrap .i64 (k2 + 3)) : Int) < (((b.len : Nat) : Int))))
    (idx (b.a) (b.len) (k2) 1 fun a6 =>
     ldT (.int .u8) w3.drew (a6) fun x7 =>
     idx (b.a) (b.len) (IntKind.wrap .i64 (k2 + 1)) 1 fun a8 =>
     ldT (.int .u8) w3.drew (a8) fun x9 =>
     idx (b.a) (b.len) (IntKind.wrap .i64 (k2 + 2)) 1 fun a10 =>
     ldT (.int .u8) w3.drew (a10) fun x11 =>
     idx (b.a) (b.len) (IntKind.wrap .i64 (k2 + 3)) 1 fun a12 =>
     ldT (.int .u8) w3.drew (a12) fun x13 =>
     allocK w3.drew #[.int .u8 (x7), .int .u8 (x9), .int .u8 (x11), .int .u8 (x13)] T_api_Instr fun a14 w15 =>
     runG (.sl) Tryd.prog w15 (Builtin.append_ #[T_l_api_Instr, T_l_api_Instr] T_l_api_Instr #[.slice (l1.a) (l1.len) (l1.cap), .slice (some (a14)) (1) (1)]) fun l16 w17 =>
     I4 ⟨l16.a, l16.len, l16.cap⟩ (IntKind.wrap .i64 (k2 + 4)) w17 ∧ M5 ⟨l16.a, l16.len, l16.cap⟩ (IntKind.wrap .i64 (k2 + 4)) w17 < M5 l1 k2 w3)
    (Q (.slice (l1.a) (l1.len) (l1.cap)) w3)
def A_ref07_List : Ann := ⟨[(3, [(3, .one (.sl)), (4, .one (.int .i64))])], [], [(5, [⟨0, 0, 0, true⟩, ⟨0, 0, 0, true⟩, ⟨0, 0, 0, true⟩, ⟨6, 6, 6, true⟩, ⟨8, 8, 14, true⟩, ⟨0, 0, 0, true⟩, ⟨0, 0, 0, true⟩, ⟨64, 64, 64, true⟩, ⟨160, 160, 224, true⟩, ⟨256, 256, 480, true⟩, ⟨0, 0, 0, true⟩, ⟨0, 0, 0, true⟩, ⟨2048, 2048, 2048, true⟩, ⟨5120, 5120, 7168, true⟩, ⟨8192, 8192, 15360, true⟩, ⟨0, 0, 0, true⟩, ⟨0, 0, 0, true⟩, ⟨65536, 65536, 65536, true⟩, ⟨163840, 163840, 229376, true⟩, ⟨262144, 262144, 491520, true⟩, ⟨541200, 541200, 1048574, true⟩, ⟨1048576, 0, 2097150, false⟩, ⟨2097153, 0, 4194303, false⟩, ⟨8388607, 4194305, 8388607, true⟩])]⟩
theorem F_ref07_List_eq (b : Sl) (w : World) (Q : Value → World → Prop) : vcFn Tryd.prog A_ref07_List Tryd.f36 #[.slice (b.a) (b.len) (b.cap)] w Q = F_ref07_List b w Q := by kernel_rfl
theorem F_ref07_List_does (b : Sl) (w : World) (Q : Value → World → Prop) (hQ : F_ref07_List b w Q) : Does Tryd.prog N_ref07_List #[.slice (b.a) (b.len) (b.cap)] w Q :=
  vcFn_sound noAsk mixed (A := A_ref07_List) (by kernel_rfl) Tryd.func36 (Nat.le_of_ble_eq_true (by kernel_rfl)) (by kernel_rfl) ((F_ref07_List_eq b w Q).mpr hQ)

/- nacelle/code.Encode -/
def F_code_Encode (l : Sl) (w : World) (Q : Value → World → Prop) : Prop :=
  ∃ (I4 : Sl → Int → World → Prop) (M5 : Sl → Int → World → Nat), I4 ⟨none, 0, 0⟩ 0 w ∧
  ∀ out1 : Sl, ∀ x2 : Int, ∀ w3 : World, I4 out1 x2 w3 →
    cond (decide ((x2 : Int) < (((l.len : Nat) : Int))))
    (idx (l.a) (l.len) (x2) 4 fun a6 =>
     ldT (.int .u8) w3 (a6) fun x7 => ldT (.int .u8) w3 ((a6).add 1) fun x8 => ldT (.int .u8) w3 ((a6).add 2) fun x9 => ldT (.int .u8) w3 ((a6).add 3) fun x10 =>
     allocK w3 (zc Tryd.prog T_api_Instr) T_api_Instr fun a11 w12 =>
     stC w12 (a11) (.int .u8 (x7)) fun w14 => stC w14 ((a11).add 1) (.int .u8 (x8)) fun w15 => stC w15 ((a11).add 2) (.int .u8 (x9)) fun w16 => stC w16 ((a11).add 3) (.int .u8 (x10)) fun w17 =>
     ldT (.int .u8) w17 (a11) fun x18 =>
     ldT (.int .u8) w17 ((a11).add 1) fun x19 =>
     ldT (.int .u8) w17 ((a11).add 2) fun x20 =>
     ldT (.int .u8) w17 ((a11).add 3) fun x21 =>
     allocK w17 #[.int .u8 (x18), .int .u8 (x19), .int .u8 (x20), .int .u8 (x21)] T_uint8 fun a22 w23 =>
     runG (.sl) Tryd.prog w23 (Builtin.append_ #[T_l_uint8, T_l_uint8] T_l_uint8 #[.slice (out1.a) (out1.len) (out1.cap), .slice (some (a22)) (4) (4)]) fun l24 w25 =>
     I4 ⟨l24.a, l24.len, l24.cap⟩ (IntKind.wrap .i64 (x2 + 1)) w25 ∧ M5 ⟨l24.a, l24.len, l24.cap⟩ (IntKind.wrap .i64 (x2 + 1)) w25 < M5 out1 x2 w3)
    (Q (.slice (out1.a) (out1.len) (out1.cap)) w3)
def A_code_Encode : Ann := ⟨[(3, [(3, .one (.sl)), (8, .one (.int .i64))])], [], []⟩
theorem F_code_Encode_eq (l : Sl) (w : World) (Q : Value → World → Prop) : vcFn Tryd.prog A_code_Encode Tryd.f37 #[.slice (l.a) (l.len) (l.cap)] w Q = F_code_Encode l w Q := by kernel_rfl
theorem F_code_Encode_does (l : Sl) (w : World) (Q : Value → World → Prop) (hQ : F_code_Encode l w Q) : Does Tryd.prog N_code_Encode #[.slice (l.a) (l.len) (l.cap)] w Q :=
  vcFn_sound noAsk mixed (A := A_code_Encode) (by kernel_rfl) Tryd.func37 (Nat.le_of_ble_eq_true (by kernel_rfl)) (by kernel_rfl) ((F_code_Encode_eq l w Q).mpr hQ)

/- nacelle/code.Next -/
def F_code_Next (l : Sl) (at_ : Int) (w : World) (Q : Value → World → Prop) : Prop :=
  allocK w (#[.slice (l.a) (l.len) (l.cap)]) T_l_api_Instr fun a1 w2 =>
  ∀ J4 : World → Prop, (∀ w3 : World, 
    (allocK w3 (zc Tryd.prog T_l_int) T_l_int fun a5 w6 =>
    ldT (.sl) w6 (a1) fun l7 =>
    idx (l7.a) (l7.len) (at_) 4 fun a8 =>
    ldT (.int .u8) w6 (a8) fun x9 => ldT (.int .u8) w6 ((a8).add 1) fun x10 => ldT (.int .u8) w6 ((a8).add 2) fun x11 => ldT (.int .u8) w6 ((a8).add 3) fun x12 =>
    allocK w6 (zc Tryd.prog T_api_Instr) T_api_Instr fun a13 w14 =>
    stC w14 (a13) (.int .u8 (x9)) fun w16 => stC w16 ((a13).add 1) (.int .u8 (x10)) fun w17 => stC w17 ((a13).add 2) (.int .u8 (x11)) fun w18 => stC w18 ((a13).add 3) (.int .u8 (x12)) fun w19 =>
    ldT (.int .u8) w19 (a13) fun x20 => ldT (.int .u8) w19 ((a13).add 1) fun x21 => ldT (.int .u8) w19 ((a13).add 2) fun x22 => ldT (.int .u8) w19 ((a13).add 3) fun x23 =>
    Does Tryd.prog N_code_Number #[.agg #[.int .u8 (x20), .int .u8 (x21), .int .u8 (x22), .int .u8 (x23)]] w19 fun r24 w25 => ∃ x26 : Int, r24 = .int .i64 (x26) ∧
    ∀ J28 : World → Prop, (∀ w27 : World, 
      (ldT (.sl) w27 (a5) fun l29 =>
      Q (.slice (l29.a) (l29.len) (l29.cap)) w27) → J28 w27) →
    ldT (.int .u8) w25 (a13) fun x30 =>
    cond ((x30 : Int) == 0)
    (J28 w25)
    (cond ((x30 : Int) == 15)
     (Does Tryd.prog N_code_Next_1 #[.int .i64 (x26), .pointer (some (a1)), .pointer (some (a5))] w25 fun r31 w32 => r31 = .tuple #[] ∧
      J28 w32)
     (cond ((x30 : Int) == 16)
      (runG (.int .i64) Tryd.prog w25 (Builtin.min_ #[T_int, T_int] T_int #[.int .i64 (x26), .int .i64 (IntKind.wrap .i64 (at_ + 1))]) fun x33 w34 =>
       Does Tryd.prog N_code_Next_1 #[.int .i64 (x33), .pointer (some (a1)), .pointer (some (a5))] w34 fun r35 w36 => r35 = .tuple #[] ∧
       cond ((x26 : Int) != (IntKind.wrap .i64 (at_ + 1)))
       (runG (.int .i64) Tryd.prog w36 (Builtin.max_ #[T_int, T_int] T_int #[.int .i64 (x26), .int .i64 (IntKind.wrap .i64 (at_ + 1))]) fun x37 w38 =>
        Does Tryd.prog N_code_Next_1 #[.int .i64 (x37), .pointer (some (a1)), .pointer (some (a5))] w38 fun r39 w40 => r39 = .tuple #[] ∧
        J28 w40)
       (J28 w36))
      (Does Tryd.prog N_code_Next_1 #[.int .i64 (IntKind.wrap .i64 (at_ + 1)), .pointer (some (a1)), .pointer (some (a5))] w25 fun r41 w42 => r41 = .tuple #[] ∧
       J28 w42)))) → J4 w3) →
  cond (decide ((at_ : Int) < 0))
  (Q (.slice (none) (0) (0)) w2)
  (ldT (.sl) w2 (a1) fun l43 =>
   cond (decide ((at_ : Int) ≥ (((l43.len : Nat) : Int))))
   (Q (.slice (none) (0) (0)) w2)
   (J4 w2))
def A_code_Next : Ann := ⟨[], [(3, []), (16, [])], []⟩
theorem F_code_Next_eq (l : Sl) (at_ : Int) (w : World) (Q : Value → World → Prop) : vcFn Tryd.prog A_code_Next Tryd.f38 #[.slice (l.a) (l.len) (l.cap), .int .i64 (at_)] w Q = F_code_Next l at_ w Q := by kernel_rfl
theorem F_code_Next_does (l : Sl) (at_ : Int) (w : World) (Q : Value → World → Prop) (hQ : F_code_Next l at_ w Q) : Does Tryd.prog N_code_Next #[.slice (l.a) (l.len) (l.cap), .int .i64 (at_)] w Q :=
  vcFn_sound noAsk mixed (A := A_code_Next) (by kernel_rfl) Tryd.func38 (Nat.le_of_ble_eq_true (by kernel_rfl)) (by kernel_rfl) ((F_code_Next_eq l at_ w Q).mpr hQ)

/- nacelle/fault.In -/
def F_fault_In (err_t : Nat) (err_v : Value) (at_ : Int) (w : World) (Q : Value → World → Prop) : Prop :=
  runG (.bool) Tryd.prog w (do eqGuard .eql T_error (.tmp 5) (.const (.nilIface)) ((.iface err_t err_v)) (.nilIface); binOp .eql T_error ((.iface err_t err_v)) (.nilIface)) fun b1 w2 =>
  cond (b1)
  (Q (.nilIface) w2)
  (Does Tryd.prog N_fault_Code #[(.iface err_t err_v)] w2 fun r3 w4 => ∃ x5 : Int, r3 = .int .i64 (x5) ∧
   allocK w4 (#[.int .i64 (x5), .int .i64 (at_), (.iface err_t err_v)]) T_fault_Fault fun a6 w7 =>
   Q (.iface T_p_fault_Fault (.pointer (some (a6)))) w7)
def A_fault_In : Ann := ⟨[], [], []⟩
theorem F_fault_In_eq (err_t : Nat) (err_v : Value) (at_ : Int) (w : World) (Q : Value → World → Prop) : vcFn Tryd.prog A_fault_In Tryd.f40 #[(.iface err_t err_v), .int .i64 (at_)] w Q = F_fault_In err_t err_v at_ w Q := by kernel_rfl
theorem F_fault_In_does (err_t : Nat) (err_v : Value) (at_ : Int) (w : World) (Q : Value → World → Prop) (hQ : F_fault_In err_t err_v at_ w Q) : Does Tryd.prog N_fault_In #[(.iface err_t err_v), .int .i64 (at_)] w Q :=
  vcFn_sound noAsk mixed (A := A_fault_In) (by kernel_rfl) Tryd.func40 (Nat.le_of_ble_eq_true (by kernel_rfl)) (by kernel_rfl) ((F_fault_In_eq err_t err_v at_ w Q).mpr hQ)

/- nacelle/fault.New -/
def F_fault_New (code : Int) (at_ : Int) (w : World) (Q : Value → World → Prop) : Prop :=
  cond ((code : Int) == 0)
  (Q (.nilIface) w)
  (allocK w (#[.int .i64 (code), .int .i64 (at_), .nilIface]) T_fault_Fault fun a1 w2 =>
   Q (.iface T_p_fault_Fault (.pointer (some (a1)))) w2)
def A_fault_New : Ann := ⟨[], [], []⟩
theorem F_fault_New_eq (code : Int) (at_ : Int) (w : World) (Q : Value → World → Prop) : vcFn Tryd.prog A_fault_New Tryd.f41 #[.int .i64 (code), .int .i64 (at_)] w Q = F_fault_New code at_ w Q := by kernel_rfl
theorem F_fault_New_does (code : Int) (at_ : Int) (w : World) (Q : Value → World → Prop) (hQ : F_fault_New code at_ w Q) : Does Tryd.prog N_fault_New #[.int .i64 (code), .int .i64 (at_)] w Q :=
  vcFn_sound noAsk mixed (A := A_fault_New) (by kernel_rfl) Tryd.func41 (Nat.le_of_ble_eq_true (by kernel_rfl)) (by kernel_rfl) ((F_fault_New_eq code at_ w Q).mpr hQ)

/- nacelle/filter.holds -/
def F_filter_holds (f0 : Int) (f1 : Int) (f2 : Int) (f3 : Int) (b : Sl) (w : World) (Q : Value → World → Prop) : Prop :=
  allocK w (#[.int .i64 (f0), .int .i64 (f1), .int .u64 (f2), .int .u64 (f3)]) T_api_Field fun a1 w2 =>
  ldT (.int .i64) w2 (a1) fun x3 =>
  ldT (.int .i64) w2 ((a1).add 1) fun x4 =>
  cond (decide (((((b.len : Nat) : Int)) : Int) < (IntKind.wrap .i64 (x3 + x4))))
  (Q (.bool (false)) w2)
  (ldT (.int .i64) w2 (a1) fun x5 =>
   ldT (.int .i64) w2 (a1) fun x6 =>
   ldT (.int .i64) w2 ((a1).add 1) fun x7 =>
   slcT ⟨b.a, b.len, b.cap⟩ (x5) (IntKind.wrap .i64 (x6 + x7)) 1 fun l8 =>
   Does Tryd.prog N_octet_Get #[.slice (l8.a) (l8.len) (l8.cap)] w2 fun r9 w10 => ∃ x11 : Int, ∃ x12 : Int, r9 = .tuple #[.int .u64 (x11), .int .i64 (x12)] ∧
   ldT (.int .u64) w10 ((a1).add 2) fun x13 =>
   cond (decide ((x13 : Int) ≤ x11))
   (ldT (.int .u64) w10 ((a1).add 3) fun x14 =>
    Q (.bool (decide ((x11 : Int) ≤ x14))) w10)
   (Q (.bool (false)) w10))
def A_filter_holds : Ann := ⟨[], [], []⟩
theorem F_filter_holds_eq (f0 : Int) (f1 : Int) (f2 : Int) (f3 : Int) (b : Sl) (w : World) (Q : Value → World → Prop) : vcFn Tryd.prog A_filter_holds Tryd.f42 #[.agg #[.int .i64 (f0), .int .i64 (f1), .int .u64 (f2), .int .u64 (f3)], .slice (b.a) (b.len) (b.cap)] w Q = F_filter_holds f0 f1 f2 f3 b w Q := by kernel_rfl
theorem F_filter_holds_does (f0 : Int) (f1 : Int) (f2 : Int) (f3 : Int) (b : Sl) (w : World) (Q : Value → World → Prop) (hQ : F_filter_holds f0 f1 f2 f3 b w Q) : Does Tryd.prog N_filter_holds #[.agg #[.int .i64 (f0), .int .i64 (f1), .int .u64 (f2), .int .u64 (f3)], .slice (b.a) (b.len) (b.cap)] w Q :=
  vcFn_sound noAsk mixed (A := A_filter_holds) (by kernel_rfl) Tryd.func42 (Nat.le_of_ble_eq_true (by kernel_rfl)) (by kernel_rfl) ((F_filter_holds_eq f0 f1 f2 f3 b w Q).mpr hQ)

/- nacelle/fault.Text -/
def F_fault_Text (err : Value) (w : World) (Q : Value → World → Prop) : Prop :=
  Does Tryd.prog N_fault_row #[err] w fun r1 w2 => ∃ l3 : Sl, r1 = .slice (l3.a) (l3.len) (l3.cap) ∧
  ∃ (I7 : ByteArray → Int → World → Prop) (M8 : ByteArray → Int → World → Nat), I7 ((⟨#[]⟩ : ByteArray)) 0 w2 ∧
  ∀ s4 : ByteArray, ∀ x5 : Int, ∀ w6 : World, I7 s4 x5 w6 →
    cond (decide ((x5 : Int) < (((l3.len : Nat) : Int))))
    (∀ J11 : ByteArray → World → Prop, (∀ s9 : ByteArray, ∀ w10 : World, 
       (I7 s9 (IntKind.wrap .i64 (x5 + 1)) w10 ∧ M8 s9 (IntKind.wrap .i64 (x5 + 1)) w10 < M8 s4 x5 w6) → J11 s9 w10) →
     idx (l3.a) (l3.len) (x5) 1 fun a12 =>
     ldT (.ptr) w6 (a12) fun p13 =>
     ∀ J16 : ByteArray → World → Prop, (∀ s14 : ByteArray, ∀ w15 : World, 
       (nnil (p13) fun a17 =>
       ldT (.int .i64) w15.drew (a17) fun x18 =>
       nnil (p13) fun a19 =>
       ldT (.int .i64) w15.drew ((a19).add 1) fun x20 =>
       Does Tryd.prog N_strconv_Itoa #[.int .i64 (x18)] w15.drew fun r21 w22 => ∃ s23 : ByteArray, r21 = .string (s23) ∧
       w22.cell? ((a19).add 1) = some (.int .i64 (x20)) ∧ (((s23).size + (((⟨#[64]⟩ : ByteArray))).size : Nat) : Int) ≤ 9223372036854775807 ∧
       Does Tryd.prog N_strconv_Itoa #[.int .i64 (x20)] w22 fun r24 w25 => ∃ s26 : ByteArray, r24 = .string (s26) ∧
       ((((s23 ++ ((⟨#[64]⟩ : ByteArray)))).size + (s26).size : Nat) : Int) ≤ 9223372036854775807 ∧
       (((s14).size + (((s23 ++ ((⟨#[64]⟩ : ByteArray))) ++ s26)).size : Nat) : Int) ≤ 9223372036854775807 ∧
       J11 (s14 ++ ((s23 ++ ((⟨#[64]⟩ : ByteArray))) ++ s26)) w25) → J16 s14 w15) →
     cond (decide ((x5 : Int) > 0))
     ((((s4).size + (((⟨#[60]⟩ : ByteArray))).size : Nat) : Int) ≤ 9223372036854775807 ∧
      J16 (s4 ++ ((⟨#[60]⟩ : ByteArray))) w6)
     (J16 s4 w6))
    (Q (.string (s4)) w6)
def A_fault_Text : Ann := ⟨[(3, [(3, .one (.str)), (9, .one (.int .i64))])], [(7, [(3, .one (.str))]), (8, [(3, .one (.str))])], [(7, [⟨0, 0, 0, true⟩, ⟨0, 0, 0, true⟩, ⟨2, 2, 2, true⟩, ⟨4, 4, 6, true⟩, ⟨8, 8, 14, true⟩, ⟨16, 0, 30, false⟩, ⟨32, 32, 62, true⟩, ⟨0, 0, 0, true⟩, ⟨128, 128, 128, true⟩, ⟨256, 256, 384, true⟩, ⟨512, 512, 896, true⟩, ⟨1056, 0, 1982, false⟩, ⟨2112, 2112, 4094, true⟩, ⟨4097, 4097, 8191, true⟩, ⟨16383, 8193, 16383, true⟩])]⟩
theorem F_fault_Text_eq (err : Value) (w : World) (Q : Value → World → Prop) : vcFn Tryd.prog A_fault_Text Tryd.f43 #[err] w Q = F_fault_Text err w Q := by kernel_rfl
theorem F_fault_Text_does (err : Value) (w : World) (Q : Value → World → Prop) (hQ : F_fault_Text err w Q) : Does Tryd.prog N_fault_Text #[err] w Q :=
  vcFn_sound noAsk mixed (A := A_fault_Text) (by kernel_rfl) Tryd.func43 (Nat.le_of_ble_eq_true (by kernel_rfl)) (by kernel_rfl) ((F_fault_Text_eq err w Q).mpr hQ)

/- nacelle/fault.row -/
def F_fault_row (err : Value) (w : World) (Q : Value → World → Prop) : Prop :=
  allocK w (zc Tryd.prog T_p_fault_Fault) T_p_fault_Fault fun a1 w2 =>
  ∃ (I6 : Value → Sl → World → Prop) (M7 : Value → Sl → World → Nat), I6 (err) ⟨none, 0, 0⟩ w2 ∧
  ∀ err3 : Value, ∀ out4 : Sl, ∀ w5 : World, I6 err3 out4 w5 →
    Does Tryd.prog N_errors_As #[err3, .iface T_p_p_fault_Fault (.pointer (some (a1)))] w5 fun r8 w9 => ∃ b10 : Bool, r8 = .bool (b10) ∧
    cond (b10)
    (ldT (.ptr) w9 (a1) fun p11 =>
     allocK w9 #[.pointer (p11)] T_p_fault_Fault fun a12 w13 =>
     runG (.sl) Tryd.prog w13 (Builtin.append_ #[T_l_p_fault_Fault, T_l_p_fault_Fault] T_l_p_fault_Fault #[.slice (out4.a) (out4.len) (out4.cap), .slice (some (a12)) (1) (1)]) fun l14 w15 =>
     ldT (.ptr) w15 (a1) fun p16 =>
     nnil (p16) fun a17 =>
     ldT (.raw) w15 ((a17).add 2) fun v18 =>
     I6 (v18) ⟨l14.a, l14.len, l14.cap⟩ w15 ∧ M7 (v18) ⟨l14.a, l14.len, l14.cap⟩ w15 < M7 err3 out4 w5)
    (Q (.slice (out4.a) (out4.len) (out4.cap)) w9)
def A_fault_row : Ann := ⟨[(3, [(0, .one (.raw)), (3, .one (.sl))])], [], []⟩
theorem F_fault_row_eq (err : Value) (w : World) (Q : Value → World → Prop) : vcFn Tryd.prog A_fault_row Tryd.f44 #[err] w Q = F_fault_row err w Q := by kernel_rfl
theorem F_fault_row_does (err : Value) (w : World) (Q : Value → World → Prop) (hQ : F_fault_row err w Q) : Does Tryd.prog N_fault_row #[err] w Q :=
  vcFn_sound noAsk mixed (A := A_fault_row) (by kernel_rfl) Tryd.func44 (Nat.le_of_ble_eq_true (by kernel_rfl)) (by kernel_rfl) ((F_fault_row_eq err w Q).mpr hQ)

/- nacelle/nacelleref02.Number -/
def F_ref02_Number (b : Sl) (w : World) (Q : Value → World → Prop) : Prop :=
  ∃ (I5 : Int → Int → Int → World → Prop) (M6 : Int → Int → Int → World → Nat), I5 0 1 0 w ∧
  ∀ n1 : Int, ∀ unit2 : Int, ∀ i3 : Int, ∀ w4 : World, I5 n1 unit2 i3 w4 →
    cond (decide ((i3 : Int) < (((b.len : Nat) : Int))))
    (idx (b.a) (b.len) (i3) 1 fun a7 =>
     ldT (.int .u8) w4 (a7) fun x8 =>
     I5 (IntKind.wrap .u64 (n1 + (IntKind.wrap .u64 ((IntKind.wrap .u64 x8) * unit2)))) (IntKind.wrap .u64 (unit2 * 256)) (IntKind.wrap .i64 (i3 + 1)) w4 ∧ M6 (IntKind.wrap .u64 (n1 + (IntKind.wrap .u64 ((IntKind.wrap .u64 x8) * unit2)))) (IntKind.wrap .u64 (unit2 * 256)) (IntKind.wrap .i64 (i3 + 1)) w4 < M6 n1 unit2 i3 w4)
    (Q (.int .u64 (n1)) w4)
def A_ref02_Number : Ann := ⟨[(3, [(3, .one (.int .u64)), (4, .one (.int .u64)), (5, .one (.int .i64))])], [], []⟩
theorem F_ref02_Number_eq (b : Sl) (w : World) (Q : Value → World → Prop) : vcFn Tryd.prog A_ref02_Number Tryd.f46 #[.slice (b.a) (b.len) (b.cap)] w Q = F_ref02_Number b w Q := by kernel_rfl
theorem F_ref02_Number_does (b : Sl) (w : World) (Q : Value → World → Prop) (hQ : F_ref02_Number b w Q) : Does Tryd.prog N_ref02_Number #[.slice (b.a) (b.len) (b.cap)] w Q :=
  vcFn_sound noAsk mixed (A := A_ref02_Number) (by kernel_rfl) Tryd.func46 (Nat.le_of_ble_eq_true (by kernel_rfl)) (by kernel_rfl) ((F_ref02_Number_eq b w Q).mpr hQ)

/- nacelle/code.Number -/
def F_code_Number (i0 : Int) (i1 : Int) (i2 : Int) (i3 : Int) (w : World) (Q : Value → World → Prop) : Prop :=
  allocK w (#[.int .u8 (i0), .int .u8 (i1), .int .u8 (i2), .int .u8 (i3)]) T_api_Instr fun a1 w2 =>
  ldT (.int .u8) w2 ((a1).add 2) fun x3 =>
  ldT (.int .u8) w2 ((a1).add 3) fun x4 =>
  (0 : Int) ≤ 8 ∧
  ldT (.int .u8) w2 (a1) fun x5 =>
  cond ((x5 : Int) == 1)
  (Q (.int .i64 (IntKind.wrap .i64 (IntKind.wrap .i16 (bits .or .u16 (IntKind.wrap .u16 x3) (IntKind.wrap .u16 ((IntKind.wrap .u16 x4) * 2 ^ (min (Int.toNat (8)) (IntKind.bits .u16)))))))) w2)
  (Q (.int .i64 (IntKind.wrap .i64 (bits .or .u16 (IntKind.wrap .u16 x3) (IntKind.wrap .u16 ((IntKind.wrap .u16 x4) * 2 ^ (min (Int.toNat (8)) (IntKind.bits .u16))))))) w2)
def A_code_Number : Ann := ⟨[], [], []⟩
theorem F_code_Number_eq (i0 : Int) (i1 : Int) (i2 : Int) (i3 : Int) (w : World) (Q : Value → World → Prop) : vcFn Tryd.prog A_code_Number Tryd.f47 #[.agg #[.int .u8 (i0), .int .u8 (i1), .int .u8 (i2), .int .u8 (i3)]] w Q = F_code_Number i0 i1 i2 i3 w Q := by kernel_rfl
theorem F_code_Number_does (i0 : Int) (i1 : Int) (i2 : Int) (i3 : Int) (w : World) (Q : Value → World → Prop) (hQ : F_code_Number i0 i1 i2 i3 w Q) : Does Tryd.prog N_code_Number #[.agg #[.int .u8 (i0), .int .u8 (i1), .int .u8 (i2), .int .u8 (i3)]] w Q :=
  vcFn_sound noAsk mixed (A := A_code_Number) (by kernel_rfl) Tryd.func47 (Nat.le_of_ble_eq_true (by kernel_rfl)) (by kernel_rfl) ((F_code_Number_eq i0 i1 i2 i3 w Q).mpr hQ)

/- nacelle/code.formed -/
def F_code_formed (i0 : Int) (i1 : Int) (i2 : Int) (i3 : Int) (w : World) (Q : Value → World → Prop) : Prop :=
  allocK w (#[.int .u8 (i0), .int .u8 (i1), .int .u8 (i2), .int .u8 (i3)]) T_api_Instr fun a1 w2 =>
  ldT (.int .u8) w2.drew ((a1).add 1) fun x3 =>
  ldT (.int .u8) w2.drew ((a1).add 2) fun x4 =>
  ldT (.int .u8) w2.drew ((a1).add 3) fun x5 =>
  ∀ J7 : World → Prop, (∀ w6 : World, 
    (ldT (.int .u8) w6 (a1) fun x8 =>
    cond (decide ((x8 : Int) ≥ 3))
    (ldT (.int .u8) w6 (a1) fun x9 =>
     cond (decide ((x9 : Int) ≤ 12))
     (cond (decide ((x3 : Int) < 8))
      (cond (decide ((x4 : Int) < 8))
       (Q (.bool (decide ((x5 : Int) < 8))) w6)
       (Q (.bool (false)) w6))
      (Q (.bool (false)) w6))
     (Q (.bool (false)) w6))
    (Q (.bool (false)) w6)) → J7 w6) →
  ldT (.int .u8) w2.drew (a1) fun x10 =>
  ∀ J12 : World → Prop, (∀ w11 : World, 
    (cond (!(decide ((x4 : Int) < 8)))
    (Q (.bool (false)) w11)
    (Q (.bool (decide ((x3 : Int) < 8))) w11)) → J12 w11) →
  ∀ J14 : World → Prop, (∀ w13 : World, 
    (ldT (.int .u8) w13 ((a1).add 1) fun x15 =>
    Q (.bool ((x15 : Int) == 0)) w13) → J14 w13) →
  cond ((x10 : Int) == 0)
  (ldT (.int .u8) w2.drew ((a1).add 2) fun x16 =>
   cond ((x16 : Int) != 0)
   (Q (.bool (false)) w2.drew)
   (ldT (.int .u8) w2.drew ((a1).add 3) fun x17 =>
    cond ((x17 : Int) != 0)
    (Q (.bool (false)) w2.drew)
    (J14 w2.drew)))
  (cond ((x10 : Int) == 15)
   (J14 w2.drew)
   (cond ((x10 : Int) == 17)
    (ldT (.int .u8) w2.drew ((a1).add 1) fun x18 =>
     cond (decide ((x18 : Int) < 16))
     (ldT (.int .u8) w2.drew ((a1).add 2) fun x19 =>
      cond ((x19 : Int) == 0)
      (ldT (.int .u8) w2.drew ((a1).add 3) fun x20 =>
       Q (.bool ((x20 : Int) == 0)) w2.drew)
      (Q (.bool (false)) w2.drew))
     (Q (.bool (false)) w2.drew))
    (cond ((x10 : Int) == 2)
     (ldT (.int .u8) w2.drew ((a1).add 3) fun x21 =>
      cond ((x21 : Int) != 0)
      (Q (.bool (false)) w2.drew)
      (J12 w2.drew))
     (∀ J23 : World → Prop, (∀ w22 : World, 
        (cond ((x10 : Int) == 1)
        (cond ((x10 : Int) == 1)
         (Q (.bool (decide ((x3 : Int) < 8))) w22)
         (J7 w22))
        (cond ((x10 : Int) == 16)
         (Q (.bool (decide ((x3 : Int) < 8))) w22)
         (J7 w22))) → J23 w22) →
      cond ((x10 : Int) == 13)
      (cond ((x10 : Int) == 13)
       (J12 w2.drew)
       (J23 w2.drew))
      (cond ((x10 : Int) == 14)
       (J12 w2.drew)
       (J23 w2.drew))))))
def A_code_formed : Ann := ⟨[], [(9, []), (13, []), (17, []), (20, [])], [(1, [⟨0, 0, 0, true⟩, ⟨1, 1, 1, true⟩, ⟨2, 2, 3, true⟩, ⟨0, 0, 0, true⟩, ⟨8, 8, 8, true⟩, ⟨16, 16, 24, true⟩, ⟨0, 0, 0, true⟩, ⟨64, 64, 64, true⟩, ⟨128, 128, 192, true⟩, ⟨7, 4, 7, true⟩, ⟨575, 32, 575, true⟩, ⟨2047, 256, 2047, true⟩])]⟩
theorem F_code_formed_eq (i0 : Int) (i1 : Int) (i2 : Int) (i3 : Int) (w : World) (Q : Value → World → Prop) : vcFn Tryd.prog A_code_formed Tryd.f48 #[.agg #[.int .u8 (i0), .int .u8 (i1), .int .u8 (i2), .int .u8 (i3)]] w Q = F_code_formed i0 i1 i2 i3 w Q := by kernel_rfl
theorem F_code_formed_does (i0 : Int) (i1 : Int) (i2 : Int) (i3 : Int) (w : World) (Q : Value → World → Prop) (hQ : F_code_formed i0 i1 i2 i3 w Q) : Does Tryd.prog N_code_formed #[.agg #[.int .u8 (i0), .int .u8 (i1), .int .u8 (i2), .int .u8 (i3)]] w Q :=
  vcFn_sound noAsk mixed (A := A_code_formed) (by kernel_rfl) Tryd.func48 (Nat.le_of_ble_eq_true (by kernel_rfl)) (by kernel_rfl) ((F_code_formed_eq i0 i1 i2 i3 w Q).mpr hQ)

/- nacelle/code.jumps -/
def F_code_jumps (i0 : Int) (i1 : Int) (i2 : Int) (i3 : Int) (w : World) (Q : Value → World → Prop) : Prop :=
  allocK w (#[.int .u8 (i0), .int .u8 (i1), .int .u8 (i2), .int .u8 (i3)]) T_api_Instr fun a1 w2 =>
  ldT (.int .u8) w2 (a1) fun x3 =>
  cond ((x3 : Int) == 15)
  (Q (.bool (true)) w2)
  (ldT (.int .u8) w2 (a1) fun x4 =>
   Q (.bool ((x4 : Int) == 16)) w2)
def A_code_jumps : Ann := ⟨[], [], []⟩
theorem F_code_jumps_eq (i0 : Int) (i1 : Int) (i2 : Int) (i3 : Int) (w : World) (Q : Value → World → Prop) : vcFn Tryd.prog A_code_jumps Tryd.f49 #[.agg #[.int .u8 (i0), .int .u8 (i1), .int .u8 (i2), .int .u8 (i3)]] w Q = F_code_jumps i0 i1 i2 i3 w Q := by kernel_rfl
theorem F_code_jumps_does (i0 : Int) (i1 : Int) (i2 : Int) (i3 : Int) (w : World) (Q : Value → World → Prop) (hQ : F_code_jumps i0 i1 i2 i3 w Q) : Does Tryd.prog N_code_jumps #[.agg #[.int .u8 (i0), .int .u8 (i1), .int .u8 (i2), .int .u8 (i3)]] w Q :=
  vcFn_sound noAsk mixed (A := A_code_jumps) (by kernel_rfl) Tryd.func49 (Nat.le_of_ble_eq_true (by kernel_rfl)) (by kernel_rfl) ((F_code_jumps_eq i0 i1 i2 i3 w Q).mpr hQ)

/- nacelle/nacelleref07.Formed -/
def F_ref07_Formed (i0 : Int) (i1 : Int) (i2 : Int) (i3 : Int) (w : World) (Q : Value → World → Prop) : Prop :=
  allocK w (#[.int .u8 (i0), .int .u8 (i1), .int .u8 (i2), .int .u8 (i3)]) T_api_Instr fun a1 w2 =>
  ldT (.int .u8) w2.drew ((a1).add 1) fun x3 =>
  ldT (.int .u8) w2.drew ((a1).add 2) fun x4 =>
  ldT (.int .u8) w2.drew ((a1).add 3) fun x5 =>
  ldT (.int .u8) w2.drew (a1) fun x6 =>
  cond ((x6 : Int) == 0)
  (ldT (.int .u8) w2.drew ((a1).add 1) fun x7 =>
   cond ((x7 : Int) == 0)
   (ldT (.int .u8) w2.drew ((a1).add 2) fun x8 =>
    cond ((x8 : Int) == 0)
    (ldT (.int .u8) w2.drew ((a1).add 3) fun x9 =>
     Q (.bool ((x9 : Int) == 0)) w2.drew)
    (Q (.bool (false)) w2.drew))
   (Q (.bool (false)) w2.drew))
  (∀ J11 : World → Prop, (∀ w10 : World, 
     (ldT (.int .u8) w10 (a1) fun x12 =>
     cond ((x12 : Int) == 2)
     (cond (decide ((x3 : Int) < 8))
      (cond (decide ((x4 : Int) < 8))
       (ldT (.int .u8) w10 ((a1).add 3) fun x13 =>
        Q (.bool ((x13 : Int) == 0)) w10)
       (Q (.bool (false)) w10))
      (Q (.bool (false)) w10))
     (∀ J15 : World → Prop, (∀ w14 : World, 
        (∀ J17 : World → Prop, (∀ w16 : World, 
          (ldT (.int .u8) w16 (a1) fun x18 =>
          cond ((x18 : Int) == 15)
          (ldT (.int .u8) w16 ((a1).add 1) fun x19 =>
           Q (.bool ((x19 : Int) == 0)) w16)
          (ldT (.int .u8) w16 (a1) fun x20 =>
           cond ((x20 : Int) == 17)
           (ldT (.int .u8) w16 ((a1).add 1) fun x21 =>
            cond (decide ((x21 : Int) < 16))
            (ldT (.int .u8) w16 ((a1).add 2) fun x22 =>
             cond ((x22 : Int) == 0)
             (ldT (.int .u8) w16 ((a1).add 3) fun x23 =>
              Q (.bool ((x23 : Int) == 0)) w16)
             (Q (.bool (false)) w16))
            (Q (.bool (false)) w16))
           (Q (.bool (false)) w16))) → J17 w16) →
        ∀ J26 : Bool → World → Prop, (∀ b24 : Bool, ∀ w25 : World, 
          (cond (b24)
          (cond (decide ((x3 : Int) < 8))
           (Q (.bool (decide ((x4 : Int) < 8))) w25)
           (Q (.bool (false)) w25))
          (J17 w25)) → J26 b24 w25) →
        ldT (.int .u8) w14 (a1) fun x27 =>
        cond ((x27 : Int) == 13)
        (J26 true w14)
        (ldT (.int .u8) w14 (a1) fun x28 =>
         J26 ((x28 : Int) == 14) w14)) → J15 w14) →
      ∀ J31 : Bool → World → Prop, (∀ b29 : Bool, ∀ w30 : World, 
        (cond (b29)
        (cond (decide ((x3 : Int) < 8))
         (cond (decide ((x4 : Int) < 8))
          (Q (.bool (decide ((x5 : Int) < 8))) w30)
          (Q (.bool (false)) w30))
         (Q (.bool (false)) w30))
        (J15 w30)) → J31 b29 w30) →
      ldT (.int .u8) w10 (a1) fun x32 =>
      cond (decide ((x32 : Int) ≥ 3))
      (ldT (.int .u8) w10 (a1) fun x33 =>
       J31 (decide ((x33 : Int) ≤ 12)) w10)
      (J31 false w10))) → J11 w10) →
   ldT (.int .u8) w2.drew (a1) fun x34 =>
   cond ((x34 : Int) == 1)
   (Q (.bool (decide ((x3 : Int) < 8))) w2.drew)
   (ldT (.int .u8) w2.drew (a1) fun x35 =>
    cond ((x35 : Int) == 16)
    (Q (.bool (decide ((x3 : Int) < 8))) w2.drew)
    (J11 w2.drew)))
def A_ref07_Formed : Ann := ⟨[], [(6, []), (9, [(59, .one (.bool))]), (10, []), (11, [(74, .one (.bool))]), (12, [])], [(1, [⟨0, 0, 0, true⟩, ⟨1, 1, 1, true⟩, ⟨2, 2, 3, true⟩, ⟨0, 0, 0, true⟩, ⟨8, 8, 8, true⟩, ⟨16, 16, 24, true⟩, ⟨0, 0, 0, true⟩, ⟨64, 64, 64, true⟩, ⟨128, 128, 192, true⟩, ⟨7, 4, 7, true⟩, ⟨575, 32, 575, true⟩, ⟨2047, 256, 2047, true⟩])]⟩
theorem F_ref07_Formed_eq (i0 : Int) (i1 : Int) (i2 : Int) (i3 : Int) (w : World) (Q : Value → World → Prop) : vcFn Tryd.prog A_ref07_Formed Tryd.f50 #[.agg #[.int .u8 (i0), .int .u8 (i1), .int .u8 (i2), .int .u8 (i3)]] w Q = F_ref07_Formed i0 i1 i2 i3 w Q := by kernel_rfl
theorem F_ref07_Formed_does (i0 : Int) (i1 : Int) (i2 : Int) (i3 : Int) (w : World) (Q : Value → World → Prop) (hQ : F_ref07_Formed i0 i1 i2 i3 w Q) : Does Tryd.prog N_ref07_Formed #[.agg #[.int .u8 (i0), .int .u8 (i1), .int .u8 (i2), .int .u8 (i3)]] w Q :=
  vcFn_sound noAsk mixed (A := A_ref07_Formed) (by kernel_rfl) Tryd.func50 (Nat.le_of_ble_eq_true (by kernel_rfl)) (by kernel_rfl) ((F_ref07_Formed_eq i0 i1 i2 i3 w Q).mpr hQ)

/- nacelle/nacelleref07.Number -/
def F_ref07_Number (i0 : Int) (i1 : Int) (i2 : Int) (i3 : Int) (w : World) (Q : Value → World → Prop) : Prop :=
  allocK w (#[.int .u8 (i0), .int .u8 (i1), .int .u8 (i2), .int .u8 (i3)]) T_api_Instr fun a1 w2 =>
  ldT (.int .u8) w2 ((a1).add 2) fun x3 =>
  ldT (.int .u8) w2 ((a1).add 3) fun x4 =>
  ∀ J7 : Bool → World → Prop, (∀ b5 : Bool, ∀ w6 : World, 
    (cond (b5)
    (Q (.int .i64 (IntKind.wrap .i64 ((IntKind.wrap .i64 ((IntKind.wrap .i64 x3) + (IntKind.wrap .i64 (256 * (IntKind.wrap .i64 x4))))) - 65536))) w6)
    (Q (.int .i64 (IntKind.wrap .i64 ((IntKind.wrap .i64 x3) + (IntKind.wrap .i64 (256 * (IntKind.wrap .i64 x4)))))) w6)) → J7 b5 w6) →
  ldT (.int .u8) w2 (a1) fun x8 =>
  cond ((x8 : Int) == 1)
  (J7 (decide (((IntKind.wrap .i64 ((IntKind.wrap .i64 x3) + (IntKind.wrap .i64 (256 * (IntKind.wrap .i64 x4))))) : Int) ≥ 32768)) w2)
  (J7 false w2)
def A_ref07_Number : Ann := ⟨[], [(3, [(18, .one (.bool))])], []⟩
theorem F_ref07_Number_eq (i0 : Int) (i1 : Int) (i2 : Int) (i3 : Int) (w : World) (Q : Value → World → Prop) : vcFn Tryd.prog A_ref07_Number Tryd.f51 #[.agg #[.int .u8 (i0), .int .u8 (i1), .int .u8 (i2), .int .u8 (i3)]] w Q = F_ref07_Number i0 i1 i2 i3 w Q := by kernel_rfl
theorem F_ref07_Number_does (i0 : Int) (i1 : Int) (i2 : Int) (i3 : Int) (w : World) (Q : Value → World → Prop) (hQ : F_ref07_Number i0 i1 i2 i3 w Q) : Does Tryd.prog N_ref07_Number #[.agg #[.int .u8 (i0), .int .u8 (i1), .int .u8 (i2), .int .u8 (i3)]] w Q :=
  vcFn_sound noAsk mixed (A := A_ref07_Number) (by kernel_rfl) Tryd.func51 (Nat.le_of_ble_eq_true (by kernel_rfl)) (by kernel_rfl) ((F_ref07_Number_eq i0 i1 i2 i3 w Q).mpr hQ)

/- nacelle/code.Next$1 -/
def F_code_Next_1 (n : Int) (cap1 : Addr) (cap2 : Addr) (w : World) (Q : Value → World → Prop) : Prop :=
  ldT (.sl) w (cap1) fun l1 =>
  cond (decide ((n : Int) < (((l1.len : Nat) : Int))))
  (ldT (.sl) w (cap2) fun l2 =>
   allocK w #[.int .i64 (n)] T_int fun a3 w4 =>
   runG (.sl) Tryd.prog w4 (Builtin.append_ #[T_l_int, T_l_int] T_l_int #[.slice (l2.a) (l2.len) (l2.cap), .slice (some (a3)) (1) (1)]) fun l5 w6 =>
   stC w6 (cap2) (.slice (l5.a) (l5.len) (l5.cap)) fun w7 =>
   Q (.tuple #[]) w7)
  (Q (.tuple #[]) w)
def A_code_Next_1 : Ann := ⟨[], [], []⟩
theorem F_code_Next_1_eq (n : Int) (cap1 : Addr) (cap2 : Addr) (w : World) (Q : Value → World → Prop) : vcFn Tryd.prog A_code_Next_1 Tryd.f52 #[.int .i64 (n), .pointer (some (cap1)), .pointer (some (cap2))] w Q = F_code_Next_1 n cap1 cap2 w Q := by kernel_rfl
theorem F_code_Next_1_does (n : Int) (cap1 : Addr) (cap2 : Addr) (w : World) (Q : Value → World → Prop) (hQ : F_code_Next_1 n cap1 cap2 w Q) : Does Tryd.prog N_code_Next_1 #[.int .i64 (n), .pointer (some (cap1)), .pointer (some (cap2))] w Q :=
  vcFn_sound noAsk mixed (A := A_code_Next_1) (by kernel_rfl) Tryd.func52 (Nat.le_of_ble_eq_true (by kernel_rfl)) (by kernel_rfl) ((F_code_Next_1_eq n cap1 cap2 w Q).mpr hQ)

/- nacelle/octet.Get -/
def F_octet_Get (b : Sl) (w : World) (Q : Value → World → Prop) : Prop :=
  ∀ J2 : World → Prop, (∀ w1 : World, 
    (∃ (I6 : Int → Int → World → Prop) (M7 : Int → Int → World → Nat), I6 0 (IntKind.wrap .i64 ((((b.len : Nat) : Int)) - 1)) w1 ∧
    ∀ n3 : Int, ∀ i4 : Int, ∀ w5 : World, I6 n3 i4 w5 →
      cond (decide ((i4 : Int) ≥ 0))
      ((0 : Int) ≤ 8 ∧
       idx (b.a) (b.len) (i4) 1 fun a8 =>
       ldT (.int .u8) w5 (a8) fun x9 =>
       I6 (bits .or .u64 (IntKind.wrap .u64 (n3 * 2 ^ (min (Int.toNat (8)) (IntKind.bits .u64)))) (IntKind.wrap .u64 x9)) (IntKind.wrap .i64 (i4 - 1)) w5 ∧ M7 (bits .or .u64 (IntKind.wrap .u64 (n3 * 2 ^ (min (Int.toNat (8)) (IntKind.bits .u64)))) (IntKind.wrap .u64 x9)) (IntKind.wrap .i64 (i4 - 1)) w5 < M7 n3 i4 w5)
      (Q (.tuple #[.int .u64 (n3), .int .i64 (0)]) w5)) → J2 w1) →
  cond (decide (((((b.len : Nat) : Int)) : Int) < 1))
  (Q (.tuple #[.int .u64 (0), .int .i64 (1)]) w)
  (cond (decide (((((b.len : Nat) : Int)) : Int) > 8))
   (Q (.tuple #[.int .u64 (0), .int .i64 (1)]) w)
   (J2 w))
def A_octet_Get : Ann := ⟨[(5, [(4, .one (.int .u64)), (5, .one (.int .i64))])], [(3, [])], []⟩
theorem F_octet_Get_eq (b : Sl) (w : World) (Q : Value → World → Prop) : vcFn Tryd.prog A_octet_Get Tryd.f54 #[.slice (b.a) (b.len) (b.cap)] w Q = F_octet_Get b w Q := by kernel_rfl
theorem F_octet_Get_does (b : Sl) (w : World) (Q : Value → World → Prop) (hQ : F_octet_Get b w Q) : Does Tryd.prog N_octet_Get #[.slice (b.a) (b.len) (b.cap)] w Q :=
  vcFn_sound noAsk mixed (A := A_octet_Get) (by kernel_rfl) Tryd.func54 (Nat.le_of_ble_eq_true (by kernel_rfl)) (by kernel_rfl) ((F_octet_Get_eq b w Q).mpr hQ)

/- strconv.Itoa -/
def F_strconv_Itoa (i : Int) (w : World) (Q : Value → World → Prop) : Prop :=
  Does Tryd.prog N_internal_strconv_Itoa #[.int .i64 (i)] w fun r1 w2 => ∃ s3 : ByteArray, r1 = .string (s3) ∧
  Q (.string (s3)) w2
def A_strconv_Itoa : Ann := ⟨[], [], []⟩
theorem F_strconv_Itoa_eq (i : Int) (w : World) (Q : Value → World → Prop) : vcFn Tryd.prog A_strconv_Itoa Tryd.f55 #[.int .i64 (i)] w Q = F_strconv_Itoa i w Q := by kernel_rfl
theorem F_strconv_Itoa_does (i : Int) (w : World) (Q : Value → World → Prop) (hQ : F_strconv_Itoa i w Q) : Does Tryd.prog N_strconv_Itoa #[.int .i64 (i)] w Q :=
  vcFn_sound noAsk mixed (A := A_strconv_Itoa) (by kernel_rfl) Tryd.func55 (Nat.le_of_ble_eq_true (by kernel_rfl)) (by kernel_rfl) ((F_strconv_Itoa_eq i w Q).mpr hQ)

/- internal/strconv.Itoa -/
def F_internal_strconv_Itoa (i : Int) (w : World) (Q : Value → World → Prop) : Prop :=
  Does Tryd.prog N_internal_strconv_FormatInt #[.int .i64 (i), .int .i64 (10)] w fun r1 w2 => ∃ s3 : ByteArray, r1 = .string (s3) ∧
  Q (.string (s3)) w2
def A_internal_strconv_Itoa : Ann := ⟨[], [], []⟩
theorem F_internal_strconv_Itoa_eq (i : Int) (w : World) (Q : Value → World → Prop) : vcFn Tryd.prog A_internal_strconv_Itoa Tryd.f60 #[.int .i64 (i)] w Q = F_internal_strconv_Itoa i w Q := by kernel_rfl
theorem F_internal_strconv_Itoa_does (i : Int) (w : World) (Q : Value → World → Prop) (hQ : F_internal_strconv_Itoa i w Q) : Does Tryd.prog N_internal_strconv_Itoa #[.int .i64 (i)] w Q :=
  vcFn_sound noAsk mixed (A := A_internal_strconv_Itoa) (by kernel_rfl) Tryd.func60 (Nat.le_of_ble_eq_true (by kernel_rfl)) (by kernel_rfl) ((F_internal_strconv_Itoa_eq i w Q).mpr hQ)

/- internal/strconv.FormatInt -/
def F_internal_strconv_FormatInt (i : Int) (base : Int) (w : World) (Q : Value → World → Prop) : Prop :=
  cond ((base : Int) == 10)
  (∀ J2 : World → Prop, (∀ w1 : World, 
     (allocK w1 (zc Tryd.prog T_a24_uint8) T_a24_uint8 fun a3 w4 =>
     ∀ J7 : Int → World → Prop, (∀ u5 : Int, ∀ w6 : World, 
       (Does Tryd.prog N_internal_strconv_numDigits #[.int .u64 (u5)] w6 fun r8 w9 => ∃ x10 : Int, r8 = .int .i64 (x10) ∧
       slcA (a3) 24 (1) (IntKind.wrap .i64 (1 + x10)) 1 fun l11 =>
       Does Tryd.prog N_internal_strconv_formatBase10 #[.slice (l11.a) (l11.len) (l11.cap), .int .u64 (u5)] w9 fun r12 w13 => r12 = .tuple #[] ∧
       cond (decide ((i : Int) < 0))
       (idxR 24 (0) (
        stC w13 (a3) (.int .u8 (45)) fun w14 =>
        slcA (a3) 24 (0) (IntKind.wrap .i64 (1 + x10)) 1 fun l15 =>
        lookS Tryd.prog w14 (convert T_l_uint8 T_string (.slice (l15.a) (l15.len) (l15.cap))) fun s16 =>
        Q (.string (s16)) w14))
       (slcA (a3) 24 (1) (IntKind.wrap .i64 (1 + x10)) 1 fun l17 =>
        lookS Tryd.prog w13 (convert T_l_uint8 T_string (.slice (l17.a) (l17.len) (l17.cap))) fun s18 =>
        Q (.string (s18)) w13)) → J7 u5 w6) →
     cond (decide ((i : Int) < 0))
     (J7 (IntKind.wrap .u64 (0 - (IntKind.wrap .u64 i))) w4)
     (J7 (IntKind.wrap .u64 i) w4)) → J2 w1) →
   ∀ J21 : Bool → World → Prop, (∀ b19 : Bool, ∀ w20 : World, 
     (cond (b19)
     (Does Tryd.prog N_internal_strconv_small #[.int .i64 (i)] w20 fun r22 w23 => ∃ s24 : ByteArray, r22 = .string (s24) ∧
      Q (.string (s24)) w23)
     (J2 w20)) → J21 b19 w20) →
   cond (decide ((0 : Int) ≤ i))
   (J21 (decide ((i : Int) < 100)) w)
   (J21 false w))
  (Does Tryd.prog N_internal_strconv_formatBits #[.slice (none) (0) (0), .int .u64 (IntKind.wrap .u64 i), .int .i64 (base), .bool (decide ((i : Int) < 0)), .bool (false)] w fun r25 w26 => ∃ l27 : Sl, ∃ s28 : ByteArray, r25 = .tuple #[.slice (l27.a) (l27.len) (l27.cap), .string (s28)] ∧
   Q (.string (s28)) w26)
def A_internal_strconv_FormatInt : Ann := ⟨[], [(3, [(17, .one (.bool))]), (4, []), (8, [(6, .one (.int .u64))])], []⟩
theorem F_internal_strconv_FormatInt_eq (i : Int) (base : Int) (w : World) (Q : Value → World → Prop) : vcFn Tryd.prog A_internal_strconv_FormatInt Tryd.f64 #[.int .i64 (i), .int .i64 (base)] w Q = F_internal_strconv_FormatInt i base w Q := by kernel_rfl
theorem F_internal_strconv_FormatInt_does (i : Int) (base : Int) (w : World) (Q : Value → World → Prop) (hQ : F_internal_strconv_FormatInt i base w Q) : Does Tryd.prog N_internal_strconv_FormatInt #[.int .i64 (i), .int .i64 (base)] w Q :=
  vcFn_sound noAsk mixed (A := A_internal_strconv_FormatInt) (by kernel_rfl) Tryd.func64 (Nat.le_of_ble_eq_true (by kernel_rfl)) (by kernel_rfl) ((F_internal_strconv_FormatInt_eq i base w Q).mpr hQ)

/- internal/strconv.small -/
def F_internal_strconv_small (i : Int) (w : World) (Q : Value → World → Prop) : Prop :=
  cond (decide ((i : Int) < 10))
  (slcS ((⟨#[48, 49, 50, 51, 52, 53, 54, 55, 56, 57, 97, 98, 99, 100, 101, 102, 103, 104, 105, 106, 107, 108, 109, 110, 111, 112, 113, 114, 115, 116, 117, 118, 119, 120, 121, 122]⟩ : ByteArray)) (i) (IntKind.wrap .i64 (i + 1)) fun s1 =>
   Q (.string (s1)) w)
  (slcS ((⟨#[48, 48, 48, 49, 48, 50, 48, 51, 48, 52, 48, 53, 48, 54, 48, 55, 48, 56, 48, 57, 49, 48, 49, 49, 49, 50, 49, 51, 49, 52, 49, 53, 49, 54, 49, 55, 49, 56, 49, 57, 50, 48, 50, 49, 50, 50, 50, 51, 50, 52, 50, 53, 50, 54, 50, 55, 50, 56, 50, 57, 51, 48, 51, 49, 51, 50, 51, 51, 51, 52, 51, 53, 51, 54, 51, 55, 51, 56, 51, 57, 52, 48, 52, 49, 52, 50, 52, 51, 52, 52, 52, 53, 52, 54, 52, 55, 52, 56, 52, 57, 53, 48, 53, 49, 53, 50, 53, 51, 53, 52, 53, 53, 53, 54, 53, 55, 53, 56, 53, 57, 54, 48, 54, 49, 54, 50, 54, 51, 54, 52, 54, 53, 54, 54, 54, 55, 54, 56, 54, 57, 55, 48, 55, 49, 55, 50, 55, 51, 55, 52, 55, 53, 55, 54, 55, 55, 55, 56, 55, 57, 56, 48, 56, 49, 56, 50, 56, 51, 56, 52, 56, 53, 56, 54, 56, 55, 56, 56, 56, 57, 57, 48, 57, 49, 57, 50, 57, 51, 57, 52, 57, 53, 57, 54, 57, 55, 57, 56, 57, 57]⟩ : ByteArray)) (IntKind.wrap .i64 (i * 2)) (IntKind.wrap .i64 ((IntKind.wrap .i64 (i * 2)) + 2)) fun s2 =>
   Q (.string (s2)) w)
def A_internal_strconv_small : Ann := ⟨[], [], []⟩
theorem F_internal_strconv_small_eq (i : Int) (w : World) (Q : Value → World → Prop) : vcFn Tryd.prog A_internal_strconv_small Tryd.f65 #[.int .i64 (i)] w Q = F_internal_strconv_small i w Q := by kernel_rfl
theorem F_internal_strconv_small_does (i : Int) (w : World) (Q : Value → World → Prop) (hQ : F_internal_strconv_small i w Q) : Does Tryd.prog N_internal_strconv_small #[.int .i64 (i)] w Q :=
  vcFn_sound noAsk mixed (A := A_internal_strconv_small) (by kernel_rfl) Tryd.func65 (Nat.le_of_ble_eq_true (by kernel_rfl)) (by kernel_rfl) ((F_internal_strconv_small_eq i w Q).mpr hQ)

/- internal/strconv.numDigits -/
def F_internal_strconv_numDigits (d : Int) (w : World) (Q : Value → World → Prop) : Prop :=
  Does Tryd.prog N_math_bits_Len64 #[.int .u64 (d)] w fun r1 w2 => ∃ x3 : Int, r1 = .int .i64 (x3) ∧
  Does Tryd.prog N_internal_strconv_log10Pow2 #[.int .i64 (x3)] w2 fun r4 w5 => ∃ x6 : Int, r4 = .int .i64 (x6) ∧
  idxR 20 (x6) (
  ldT (.int .u64) w5 (((⟨1, 0, none⟩ : Addr)).add (Int.toNat (x6) * 1)) fun x7 =>
  Does Tryd.prog N_internal_strconv_bool2_int #[.bool (decide ((d : Int) ≥ x7))] w5 fun r8 w9 => ∃ x10 : Int, r8 = .int .i64 (x10) ∧
  Q (.int .i64 (IntKind.wrap .i64 (x6 + x10))) w9)
def A_internal_strconv_numDigits : Ann := ⟨[], [], []⟩
theorem F_internal_strconv_numDigits_eq (d : Int) (w : World) (Q : Value → World → Prop) : vcFn Tryd.prog A_internal_strconv_numDigits Tryd.f66 #[.int .u64 (d)] w Q = F_internal_strconv_numDigits d w Q := by kernel_rfl
theorem F_internal_strconv_numDigits_does (d : Int) (w : World) (Q : Value → World → Prop) (hQ : F_internal_strconv_numDigits d w Q) : Does Tryd.prog N_internal_strconv_numDigits #[.int .u64 (d)] w Q :=
  vcFn_sound noAsk mixed (A := A_internal_strconv_numDigits) (by kernel_rfl) Tryd.func66 (Nat.le_of_ble_eq_true (by kernel_rfl)) (by kernel_rfl) ((F_internal_strconv_numDigits_eq d w Q).mpr hQ)

/- internal/strconv.formatBase10 -/
def F_internal_strconv_formatBase10 (a : Sl) (u : Int) (w : World) (Q : Value → World → Prop) : Prop :=
  ∃ (I4 : Int → Int → World → Prop) (M5 : Int → Int → World → Nat), I4 u (((a.len : Nat) : Int)) w ∧
  ∀ u1 : Int, ∀ nd2 : Int, ∀ w3 : World, I4 u1 nd2 w3 →
    cond (decide ((nd2 : Int) ≥ 8))
    ((100000000 : Int) ≠ 0 ∧
     (100000000 : Int) ≠ 0 ∧
     (10000 : Int) ≠ 0 ∧
     (10000 : Int) ≠ 0 ∧
     (100 : Int) ≠ 0 ∧
     (100 : Int) ≠ 0 ∧
     (100 : Int) ≠ 0 ∧
     (100 : Int) ≠ 0 ∧
     idxS ((⟨#[48, 48, 48, 49, 48, 50, 48, 51, 48, 52, 48, 53, 48, 54, 48, 55, 48, 56, 48, 57, 49, 48, 49, 49, 49, 50, 49, 51, 49, 52, 49, 53, 49, 54, 49, 55, 49, 56, 49, 57, 50, 48, 50, 49, 50, 50, 50, 51, 50, 52, 50, 53, 50, 54, 50, 55, 50, 56, 50, 57, 51, 48, 51, 49, 51, 50, 51, 51, 51, 52, 51, 53, 51, 54, 51, 55, 51, 56, 51, 57, 52, 48, 52, 49, 52, 50, 52, 51, 52, 52, 52, 53, 52, 54, 52, 55, 52, 56, 52, 57, 53, 48, 53, 49, 53, 50, 53, 51, 53, 52, 53, 53, 53, 54, 53, 55, 53, 56, 53, 57, 54, 48, 54, 49, 54, 50, 54, 51, 54, 52, 54, 53, 54, 54, 54, 55, 54, 56, 54, 57, 55, 48, 55, 49, 55, 50, 55, 51, 55, 52, 55, 53, 55, 54, 55, 55, 55, 56, 55, 57, 56, 48, 56, 49, 56, 50, 56, 51, 56, 52, 56, 53, 56, 54, 56, 55, 56, 56, 56, 57, 57, 48, 57, 49, 57, 50, 57, 51, 57, 52, 57, 53, 57, 54, 57, 55, 57, 56, 57, 57]⟩ : ByteArray)) (IntKind.wrap .u32 ((IntKind.wrap .u32 ((Int.tmod (Int.tmod (IntKind.wrap .u32 (Int.tmod u1 100000000)) 10000) 100) * 2)) + 1)) fun x6 =>
     idxS ((⟨#[48, 48, 48, 49, 48, 50, 48, 51, 48, 52, 48, 53, 48, 54, 48, 55, 48, 56, 48, 57, 49, 48, 49, 49, 49, 50, 49, 51, 49, 52, 49, 53, 49, 54, 49, 55, 49, 56, 49, 57, 50, 48, 50, 49, 50, 50, 50, 51, 50, 52, 50, 53, 50, 54, 50, 55, 50, 56, 50, 57, 51, 48, 51, 49, 51, 50, 51, 51, 51, 52, 51, 53, 51, 54, 51, 55, 51, 56, 51, 57, 52, 48, 52, 49, 52, 50, 52, 51, 52, 52, 52, 53, 52, 54, 52, 55, 52, 56, 52, 57, 53, 48, 53, 49, 53, 50, 53, 51, 53, 52, 53, 53, 53, 54, 53, 55, 53, 56, 53, 57, 54, 48, 54, 49, 54, 50, 54, 51, 54, 52, 54, 53, 54, 54, 54, 55, 54, 56, 54, 57, 55, 48, 55, 49, 55, 50, 55, 51, 55, 52, 55, 53, 55, 54, 55, 55, 55, 56, 55, 57, 56, 48, 56, 49, 56, 50, 56, 51, 56, 52, 56, 53, 56, 54, 56, 55, 56, 56, 56, 57, 57, 48, 57, 49, 57, 50, 57, 51, 57, 52, 57, 53, 57, 54, 57, 55, 57, 56, 57, 57]⟩ : ByteArray)) (IntKind.wrap .u32 ((Int.tmod (Int.tmod (IntKind.wrap .u32 (Int.tmod u1 100000000)) 10000) 100) * 2)) fun x7 =>
     idx (a.a) (a.len) (IntKind.wrap .i64 (nd2 - 1)) 1 fun a8 =>
     stC w3.drew (a8) (.int .u8 (x6)) fun w9 =>
     idx (a.a) (a.len) (IntKind.wrap .i64 (nd2 - 2)) 1 fun a10 =>
     stC w9 (a10) (.int .u8 (x7)) fun w11 =>
     idxS ((⟨#[48, 48, 48, 49, 48, 50, 48, 51, 48, 52, 48, 53, 48, 54, 48, 55, 48, 56, 48, 57, 49, 48, 49, 49, 49, 50, 49, 51, 49, 52, 49, 53, 49, 54, 49, 55, 49, 56, 49, 57, 50, 48, 50, 49, 50, 50, 50, 51, 50, 52, 50, 53, 50, 54, 50, 55, 50, 56, 50, 57, 51, 48, 51, 49, 51, 50, 51, 51, 51, 52, 51, 53, 51, 54, 51, 55, 51, 56, 51, 57, 52, 48, 52, 49, 52, 50, 52, 51, 52, 52, 52, 53, 52, 54, 52, 55, 52, 56, 52, 57, 53, 48, 53, 49, 53, 50, 53, 51, 53, 52, 53, 53, 53, 54, 53, 55, 53, 56, 53, 57, 54, 48, 54, 49, 54, 50, 54, 51, 54, 52, 54, 53, 54, 54, 54, 55, 54, 56, 54, 57, 55, 48, 55, 49, 55, 50, 55, 51, 55, 52, 55, 53, 55, 54, 55, 55, 55, 56, 55, 57, 56, 48, 56, 49, 56, 50, 56, 51, 56, 52, 56, 53, 56, 54, 56, 55, 56, 56, 56, 57, 57, 48, 57, 49, 57, 50, 57, 51, 57, 52, 57, 53, 57, 54, 57, 55, 57, 56, 57, 57]⟩ : ByteArray)) (IntKind.wrap .u32 ((IntKind.wrap .u32 ((IntKind.wrap .u32 (Int.tdiv (Int.tmod (IntKind.wrap .u32 (Int.tmod u1 100000000)) 10000) 100)) * 2)) + 1)) fun x12 =>
     idxS ((⟨#[48, 48, 48, 49, 48, 50, 48, 51, 48, 52, 48, 53, 48, 54, 48, 55, 48, 56, 48, 57, 49, 48, 49, 49, 49, 50, 49, 51, 49, 52, 49, 53, 49, 54, 49, 55, 49, 56, 49, 57, 50, 48, 50, 49, 50, 50, 50, 51, 50, 52, 50, 53, 50, 54, 50, 55, 50, 56, 50, 57, 51, 48, 51, 49, 51, 50, 51, 51, 51, 52, 51, 53, 51, 54, 51, 55, 51, 56, 51, 57, 52, 48, 52, 49, 52, 50, 52, 51, 52, 52, 52, 53, 52, 54, 52, 55, 52, 56, 52, 57, 53, 48, 53, 49, 53, 50, 53, 51, 53, 52, 53, 53, 53, 54, 53, 55, 53, 56, 53, 57, 54, 48, 54, 49, 54, 50, 54, 51, 54, 52, 54, 53, 54, 54, 54, 55, 54, 56, 54, 57, 55, 48, 55, 49, 55, 50, 55, 51, 55, 52, 55, 53, 55, 54, 55, 55, 55, 56, 55, 57, 56, 48, 56, 49, 56, 50, 56, 51, 56, 52, 56, 53, 56, 54, 56, 55, 56, 56, 56, 57, 57, 48, 57, 49, 57, 50, 57, 51, 57, 52, 57, 53, 57, 54, 57, 55, 57, 56, 57, 57]⟩ : ByteArray)) (IntKind.wrap .u32 ((IntKind.wrap .u32 (Int.tdiv (Int.tmod (IntKind.wrap .u32 (Int.tmod u1 100000000)) 10000) 100)) * 2)) fun x13 =>
     idx (a.a) (a.len) (IntKind.wrap .i64 (nd2 - 3)) 1 fun a14 =>
     stC w11.drew (a14) (.int .u8 (x12)) fun w15 =>
     idx (a.a) (a.len) (IntKind.wrap .i64 (nd2 - 4)) 1 fun a16 =>
     stC w15 (a16) (.int .u8 (x13)) fun w17 =>
     idxS ((⟨#[48, 48, 48, 49, 48, 50, 48, 51, 48, 52, 48, 53, 48, 54, 48, 55, 48, 56, 48, 57, 49, 48, 49, 49, 49, 50, 49, 51, 49, 52, 49, 53, 49, 54, 49, 55, 49, 56, 49, 57, 50, 48, 50, 49, 50, 50, 50, 51, 50, 52, 50, 53, 50, 54, 50, 55, 50, 56, 50, 57, 51, 48, 51, 49, 51, 50, 51, 51, 51, 52, 51, 53, 51, 54, 51, 55, 51, 56, 51, 57, 52, 48, 52, 49, 52, 50, 52, 51, 52, 52, 52, 53, 52, 54, 52, 55, 52, 56, 52, 57, 53, 48, 53, 49, 53, 50, 53, 51, 53, 52, 53, 53, 53, 54, 53, 55, 53, 56, 53, 57, 54, 48, 54, 49, 54, 50, 54, 51, 54, 52, 54, 53, 54, 54, 54, 55, 54, 56, 54, 57, 55, 48, 55, 49, 55, 50, 55, 51, 55, 52, 55, 53, 55, 54, 55, 55, 55, 56, 55, 57, 56, 48, 56, 49, 56, 50, 56, 51, 56, 52, 56, 53, 56, 54, 56, 55, 56, 56, 56, 57, 57, 48, 57, 49, 57, 50, 57, 51, 57, 52, 57, 53, 57, 54, 57, 55, 57, 56, 57, 57]⟩ : ByteArray)) (IntKind.wrap .u32 ((IntKind.wrap .u32 ((Int.tmod (IntKind.wrap .u32 (Int.tdiv (IntKind.wrap .u32 (Int.tmod u1 100000000)) 10000)) 100) * 2)) + 1)) fun x18 =>
     idxS ((⟨#[48, 48, 48, 49, 48, 50, 48, 51, 48, 52, 48, 53, 48, 54, 48, 55, 48, 56, 48, 57, 49, 48, 49, 49, 49, 50, 49, 51, 49, 52, 49, 53, 49, 54, 49, 55, 49, 56, 49, 57, 50, 48, 50, 49, 50, 50, 50, 51, 50, 52, 50, 53, 50, 54, 50, 55, 50, 56, 50, 57, 51, 48, 51, 49, 51, 50, 51, 51, 51, 52, 51, 53, 51, 54, 51, 55, 51, 56, 51, 57, 52, 48, 52, 49, 52, 50, 52, 51, 52, 52, 52, 53, 52, 54, 52, 55, 52, 56, 52, 57, 53, 48, 53, 49, 53, 50, 53, 51, 53, 52, 53, 53, 53, 54, 53, 55, 53, 56, 53, 57, 54, 48, 54, 49, 54, 50, 54, 51, 54, 52, 54, 53, 54, 54, 54, 55, 54, 56, 54, 57, 55, 48, 55, 49, 55, 50, 55, 51, 55, 52, 55, 53, 55, 54, 55, 55, 55, 56, 55, 57, 56, 48, 56, 49, 56, 50, 56, 51, 56, 52, 56, 53, 56, 54, 56, 55, 56, 56, 56, 57, 57, 48, 57, 49, 57, 50, 57, 51, 57, 52, 57, 53, 57, 54, 57, 55, 57, 56, 57, 57]⟩ : ByteArray)) (IntKind.wrap .u32 ((Int.tmod (IntKind.wrap .u32 (Int.tdiv (IntKind.wrap .u32 (Int.tmod u1 100000000)) 10000)) 100) * 2)) fun x19 =>
     idx (a.a) (a.len) (IntKind.wrap .i64 (nd2 - 5)) 1 fun a20 =>
     stC w17.drew (a20) (.int .u8 (x18)) fun w21 =>
     idx (a.a) (a.len) (IntKind.wrap .i64 (nd2 - 6)) 1 fun a22 =>
     stC w21 (a22) (.int .u8 (x19)) fun w23 =>
     idxS ((⟨#[48, 48, 48, 49, 48, 50, 48, 51, 48, 52, 48, 53, 48, 54, 48, 55, 48, 56, 48, 57, 49, 48, 49, 49, 49, 50, 49, 51, 49, 52, 49, 53, 49, 54, 49, 55, 49, 56, 49, 57, 50, 48, 50, 49, 50, 50, 50, 51, 50, 52, 50, 53, 50, 54, 50, 55, 50, 56, 50, 57, 51, 48, 51, 49, 51, 50, 51, 51, 51, 52, 51, 53, 51, 54, 51, 55, 51, 56, 51, 57, 52, 48, 52, 49, 52, 50, 52, 51, 52, 52, 52, 53, 52, 54, 52, 55, 52, 56, 52, 57, 53, 48, 53, 49, 53, 50, 53, 51, 53, 52, 53, 53, 53, 54, 53, 55, 53, 56, 53, 57, 54, 48, 54, 49, 54, 50, 54, 51, 54, 52, 54, 53, 54, 54, 54, 55, 54, 56, 54, 57, 55, 48, 55, 49, 55, 50, 55, 51, 55, 52, 55, 53, 55, 54, 55, 55, 55, 56, 55, 57, 56, 48, 56, 49, 56, 50, 56, 51, 56, 52, 56, 53, 56, 54, 56, 55, 56, 56, 56, 57, 57, 48, 57, 49, 57, 50, 57, 51, 57, 52, 57, 53, 57, 54, 57, 55, 57, 56, 57, 57]⟩ : ByteArray)) (IntKind.wrap .u32 ((IntKind.wrap .u32 ((IntKind.wrap .u32 (Int.tdiv (IntKind.wrap .u32 (Int.tdiv (IntKind.wrap .u32 (Int.tmod u1 100000000)) 10000)) 100)) * 2)) + 1)) fun x24 =>
     idxS ((⟨#[48, 48, 48, 49, 48, 50, 48, 51, 48, 52, 48, 53, 48, 54, 48, 55, 48, 56, 48, 57, 49, 48, 49, 49, 49, 50, 49, 51, 49, 52, 49, 53, 49, 54, 49, 55, 49, 56, 49, 57, 50, 48, 50, 49, 50, 50, 50, 51, 50, 52, 50, 53, 50, 54, 50, 55, 50, 56, 50, 57, 51, 48, 51, 49, 51, 50, 51, 51, 51, 52, 51, 53, 51, 54, 51, 55, 51, 56, 51, 57, 52, 48, 52, 49, 52, 50, 52, 51, 52, 52, 52, 53, 52, 54, 52, 55, 52, 56, 52, 57, 53, 48, 53, 49, 53, 50, 53, 51, 53, 52, 53, 53, 53, 54, 53, 55, 53, 56, 53, 57, 54, 48, 54, 49, 54, 50, 54, 51, 54, 52, 54, 53, 54, 54, 54, 55, 54, 56, 54, 57, 55, 48, 55, 49, 55, 50, 55, 51, 55, 52, 55, 53, 55, 54, 55, 55, 55, 56, 55, 57, 56, 48, 56, 49, 56, 50, 56, 51, 56, 52, 56, 53, 56, 54, 56, 55, 56, 56, 56, 57, 57, 48, 57, 49, 57, 50, 57, 51, 57, 52, 57, 53, 57, 54, 57, 55, 57, 56, 57, 57]⟩ : ByteArray)) (IntKind.wrap .u32 ((IntKind.wrap .u32 (Int.tdiv (IntKind.wrap .u32 (Int.tdiv (IntKind.wrap .u32 (Int.tmod u1 100000000)) 10000)) 100)) * 2)) fun x25 =>
     idx (a.a) (a.len) (IntKind.wrap .i64 (nd2 - 7)) 1 fun a26 =>
     stC w23.drew (a26) (.int .u8 (x24)) fun w27 =>
     idx (a.a) (a.len) (IntKind.wrap .i64 (nd2 - 8)) 1 fun a28 =>
     stC w27 (a28) (.int .u8 (x25)) fun w29 =>
     I4 (IntKind.wrap .u64 (Int.tdiv u1 100000000)) (IntKind.wrap .i64 (nd2 - 8)) w29 ∧ M5 (IntKind.wrap .u64 (Int.tdiv u1 100000000)) (IntKind.wrap .i64 (nd2 - 8)) w29 < M5 u1 nd2 w3)
    (∀ J33 : Int → Int → World → Prop, (∀ nd30 : Int, ∀ x31 : Int, ∀ w32 : World, 
       (∀ J37 : Int → Int → World → Prop, (∀ nd34 : Int, ∀ x35 : Int, ∀ w36 : World, 
         (cond (decide ((nd34 : Int) > 0))
         (idx (a.a) (a.len) (0) 1 fun a38 =>
          stC w36 (a38) (.int .u8 (IntKind.wrap .u8 (IntKind.wrap .u32 (48 + x35)))) fun w39 =>
          Q (.tuple #[]) w39)
         (Q (.tuple #[]) w36)) → J37 nd34 x35 w36) →
       cond (decide ((nd30 : Int) ≥ 2))
       ((100 : Int) ≠ 0 ∧
        (100 : Int) ≠ 0 ∧
        idxS ((⟨#[48, 48, 48, 49, 48, 50, 48, 51, 48, 52, 48, 53, 48, 54, 48, 55, 48, 56, 48, 57, 49, 48, 49, 49, 49, 50, 49, 51, 49, 52, 49, 53, 49, 54, 49, 55, 49, 56, 49, 57, 50, 48, 50, 49, 50, 50, 50, 51, 50, 52, 50, 53, 50, 54, 50, 55, 50, 56, 50, 57, 51, 48, 51, 49, 51, 50, 51, 51, 51, 52, 51, 53, 51, 54, 51, 55, 51, 56, 51, 57, 52, 48, 52, 49, 52, 50, 52, 51, 52, 52, 52, 53, 52, 54, 52, 55, 52, 56, 52, 57, 53, 48, 53, 49, 53, 50, 53, 51, 53, 52, 53, 53, 53, 54, 53, 55, 53, 56, 53, 57, 54, 48, 54, 49, 54, 50, 54, 51, 54, 52, 54, 53, 54, 54, 54, 55, 54, 56, 54, 57, 55, 48, 55, 49, 55, 50, 55, 51, 55, 52, 55, 53, 55, 54, 55, 55, 55, 56, 55, 57, 56, 48, 56, 49, 56, 50, 56, 51, 56, 52, 56, 53, 56, 54, 56, 55, 56, 56, 56, 57, 57, 48, 57, 49, 57, 50, 57, 51, 57, 52, 57, 53, 57, 54, 57, 55, 57, 56, 57, 57]⟩ : ByteArray)) (IntKind.wrap .u32 ((IntKind.wrap .u32 ((Int.tmod x31 100) * 2)) + 1)) fun x40 =>
        idxS ((⟨#[48, 48, 48, 49, 48, 50, 48, 51, 48, 52, 48, 53, 48, 54, 48, 55, 48, 56, 48, 57, 49, 48, 49, 49, 49, 50, 49, 51, 49, 52, 49, 53, 49, 54, 49, 55, 49, 56, 49, 57, 50, 48, 50, 49, 50, 50, 50, 51, 50, 52, 50, 53, 50, 54, 50, 55, 50, 56, 50, 57, 51, 48, 51, 49, 51, 50, 51, 51, 51, 52, 51, 53, 51, 54, 51, 55, 51, 56, 51, 57, 52, 48, 52, 49, 52, 50, 52, 51, 52, 52, 52, 53, 52, 54, 52, 55, 52, 56, 52, 57, 53, 48, 53, 49, 53, 50, 53, 51, 53, 52, 53, 53, 53, 54, 53, 55, 53, 56, 53, 57, 54, 48, 54, 49, 54, 50, 54, 51, 54, 52, 54, 53, 54, 54, 54, 55, 54, 56, 54, 57, 55, 48, 55, 49, 55, 50, 55, 51, 55, 52, 55, 53, 55, 54, 55, 55, 55, 56, 55, 57, 56, 48, 56, 49, 56, 50, 56, 51, 56, 52, 56, 53, 56, 54, 56, 55, 56, 56, 56, 57, 57, 48, 57, 49, 57, 50, 57, 51, 57, 52, 57, 53, 57, 54, 57, 55, 57, 56, 57, 57]⟩ : ByteArray)) (IntKind.wrap .u32 ((Int.tmod x31 100) * 2)) fun x41 =>
        idx (a.a) (a.len) (IntKind.wrap .i64 (nd30 - 1)) 1 fun a42 =>
        stC w32.drew (a42) (.int .u8 (x40)) fun w43 =>
        idx (a.a) (a.len) (IntKind.wrap .i64 (nd30 - 2)) 1 fun a44 =>
        stC w43 (a44) (.int .u8 (x41)) fun w45 =>
        J37 (IntKind.wrap .i64 (nd30 - 2)) (IntKind.wrap .u32 (Int.tdiv x31 100)) w45)
       (J37 nd30 x31 w32)) → J33 nd30 x31 w32) →
     cond (decide ((nd2 : Int) ≥ 4))
     ((10000 : Int) ≠ 0 ∧
      (10000 : Int) ≠ 0 ∧
      (100 : Int) ≠ 0 ∧
      (100 : Int) ≠ 0 ∧
      idxS ((⟨#[48, 48, 48, 49, 48, 50, 48, 51, 48, 52, 48, 53, 48, 54, 48, 55, 48, 56, 48, 57, 49, 48, 49, 49, 49, 50, 49, 51, 49, 52, 49, 53, 49, 54, 49, 55, 49, 56, 49, 57, 50, 48, 50, 49, 50, 50, 50, 51, 50, 52, 50, 53, 50, 54, 50, 55, 50, 56, 50, 57, 51, 48, 51, 49, 51, 50, 51, 51, 51, 52, 51, 53, 51, 54, 51, 55, 51, 56, 51, 57, 52, 48, 52, 49, 52, 50, 52, 51, 52, 52, 52, 53, 52, 54, 52, 55, 52, 56, 52, 57, 53, 48, 53, 49, 53, 50, 53, 51, 53, 52, 53, 53, 53, 54, 53, 55, 53, 56, 53, 57, 54, 48, 54, 49, 54, 50, 54, 51, 54, 52, 54, 53, 54, 54, 54, 55, 54, 56, 54, 57, 55, 48, 55, 49, 55, 50, 55, 51, 55, 52, 55, 53, 55, 54, 55, 55, 55, 56, 55, 57, 56, 48, 56, 49, 56, 50, 56, 51, 56, 52, 56, 53, 56, 54, 56, 55, 56, 56, 56, 57, 57, 48, 57, 49, 57, 50, 57, 51, 57, 52, 57, 53, 57, 54, 57, 55, 57, 56, 57, 57]⟩ : ByteArray)) (IntKind.wrap .u32 ((IntKind.wrap .u32 ((Int.tmod (Int.tmod (IntKind.wrap .u32 u1) 10000) 100) * 2)) + 1)) fun x46 =>
      idxS ((⟨#[48, 48, 48, 49, 48, 50, 48, 51, 48, 52, 48, 53, 48, 54, 48, 55, 48, 56, 48, 57, 49, 48, 49, 49, 49, 50, 49, 51, 49, 52, 49, 53, 49, 54, 49, 55, 49, 56, 49, 57, 50, 48, 50, 49, 50, 50, 50, 51, 50, 52, 50, 53, 50, 54, 50, 55, 50, 56, 50, 57, 51, 48, 51, 49, 51, 50, 51, 51, 51, 52, 51, 53, 51, 54, 51, 55, 51, 56, 51, 57, 52, 48, 52, 49, 52, 50, 52, 51, 52, 52, 52, 53, 52, 54, 52, 55, 52, 56, 52, 57, 53, 48, 53, 49, 53, 50, 53, 51, 53, 52, 53, 53, 53, 54, 53, 55, 53, 56, 53, 57, 54, 48, 54, 49, 54, 50, 54, 51, 54, 52, 54, 53, 54, 54, 54, 55, 54, 56, 54, 57, 55, 48, 55, 49, 55, 50, 55, 51, 55, 52, 55, 53, 55, 54, 55, 55, 55, 56, 55, 57, 56, 48, 56, 49, 56, 50, 56, 51, 56, 52, 56, 53, 56, 54, 56, 55, 56, 56, 56, 57, 57, 48, 57, 49, 57, 50, 57, 51, 57, 52, 57, 53, 57, 54, 57, 55, 57, 56, 57, 57]⟩ : ByteArray)) (IntKind.wrap .u32 ((Int.tmod (Int.tmod (IntKind.wrap .u32 u1) 10000) 100) * 2)) fun x47 =>
      idx (a.a) (a.len) (IntKind.wrap .i64 (nd2 - 1)) 1 fun a48 =>
      stC w3.drew (a48) (.int .u8 (x46)) fun w49 =>
      idx (a.a) (a.len) (IntKind.wrap .i64 (nd2 - 2)) 1 fun a50 =>
      stC w49 (a50) (.int .u8 (x47)) fun w51 =>
      idxS ((⟨#[48, 48, 48, 49, 48, 50, 48, 51, 48, 52, 48, 53, 48, 54, 48, 55, 48, 56, 48, 57, 49, 48, 49, 49, 49, 50, 49, 51, 49, 52, 49, 53, 49, 54, 49, 55, 49, 56, 49, 57, 50, 48, 50, 49, 50, 50, 50, 51, 50, 52, 50, 53, 50, 54, 50, 55, 50, 56, 50, 57, 51, 48, 51, 49, 51, 50, 51, 51, 51, 52, 51, 53, 51, 54, 51, 55, 51, 56, 51, 57, 52, 48, 52, 49, 52, 50, 52, 51, 52, 52, 52, 53, 52, 54, 52, 55, 52, 56, 52, 57, 53, 48, 53, 49, 53, 50, 53, 51, 53, 52, 53, 53, 53, 54, 53, 55, 53, 56, 53, 57, 54, 48, 54, 49, 54, 50, 54, 51, 54, 52, 54, 53, 54, 54, 54, 55, 54, 56, 54, 57, 55, 48, 55, 49, 55, 50, 55, 51, 55, 52, 55, 53, 55, 54, 55, 55, 55, 56, 55, 57, 56, 48, 56, 49, 56, 50, 56, 51, 56, 52, 56, 53, 56, 54, 56, 55, 56, 56, 56, 57, 57, 48, 57, 49, 57, 50, 57, 51, 57, 52, 57, 53, 57, 54, 57, 55, 57, 56, 57, 57]⟩ : ByteArray)) (IntKind.wrap .u32 ((IntKind.wrap .u32 ((IntKind.wrap .u32 (Int.tdiv (Int.tmod (IntKind.wrap .u32 u1) 10000) 100)) * 2)) + 1)) fun x52 =>
      idxS ((⟨#[48, 48, 48, 49, 48, 50, 48, 51, 48, 52, 48, 53, 48, 54, 48, 55, 48, 56, 48, 57, 49, 48, 49, 49, 49, 50, 49, 51, 49, 52, 49, 53, 49, 54, 49, 55, 49, 56, 49, 57, 50, 48, 50, 49, 50, 50, 50, 51, 50, 52, 50, 53, 50, 54, 50, 55, 50, 56, 50, 57, 51, 48, 51, 49, 51, 50, 51, 51, 51, 52, 51, 53, 51, 54, 51, 55, 51, 56, 51, 57, 52, 48, 52, 49, 52, 50, 52, 51, 52, 52, 52, 53, 52, 54, 52, 55, 52, 56, 52, 57, 53, 48, 53, 49, 53, 50, 53, 51, 53, 52, 53, 53, 53, 54, 53, 55, 53, 56, 53, 57, 54, 48, 54, 49, 54, 50, 54, 51, 54, 52, 54, 53, 54, 54, 54, 55, 54, 56, 54, 57, 55, 48, 55, 49, 55, 50, 55, 51, 55, 52, 55, 53, 55, 54, 55, 55, 55, 56, 55, 57, 56, 48, 56, 49, 56, 50, 56, 51, 56, 52, 56, 53, 56, 54, 56, 55, 56, 56, 56, 57, 57, 48, 57, 49, 57, 50, 57, 51, 57, 52, 57, 53, 57, 54, 57, 55, 57, 56, 57, 57]⟩ : ByteArray)) (IntKind.wrap .u32 ((IntKind.wrap .u32 (Int.tdiv (Int.tmod (IntKind.wrap .u32 u1) 10000) 100)) * 2)) fun x53 =>
      idx (a.a) (a.len) (IntKind.wrap .i64 (nd2 - 3)) 1 fun a54 =>
      stC w51.drew (a54) (.int .u8 (x52)) fun w55 =>
      idx (a.a) (a.len) (IntKind.wrap .i64 (nd2 - 4)) 1 fun a56 =>
      stC w55 (a56) (.int .u8 (x53)) fun w57 =>
      J33 (IntKind.wrap .i64 (nd2 - 4)) (IntKind.wrap .u32 (Int.tdiv (IntKind.wrap .u32 u1) 10000)) w57)
     (J33 nd2 (IntKind.wrap .u32 u1) w3))
def A_internal_strconv_formatBase10 : Ann := ⟨[(1, [(1, .one (.int .u64)), (4, .one (.int .i64))])], [(20, [(4, .one (.int .i64)), (12, .one (.int .u32))]), (25, [(4, .one (.int .i64)), (12, .one (.int .u32))])], [(7, [⟨0, 0, 0, true⟩, ⟨0, 0, 0, true⟩, ⟨2, 2, 2, true⟩, ⟨0, 0, 0, true⟩, ⟨0, 0, 0, true⟩, ⟨16, 16, 16, true⟩, ⟨0, 0, 0, true⟩, ⟨64, 64, 64, true⟩, ⟨128, 128, 192, true⟩, ⟨0, 0, 0, true⟩, ⟨512, 512, 512, true⟩, ⟨455, 5, 455, true⟩, ⟨2503, 0, 2503, false⟩, ⟨8191, 40, 8191, true⟩, ⟨16383, 0, 16383, false⟩]), (8, [⟨0, 0, 0, true⟩, ⟨0, 0, 0, true⟩, ⟨2, 2, 2, true⟩, ⟨0, 0, 0, true⟩, ⟨0, 0, 0, true⟩, ⟨16, 16, 16, true⟩, ⟨0, 0, 0, true⟩, ⟨64, 64, 64, true⟩, ⟨128, 128, 192, true⟩, ⟨0, 0, 0, true⟩, ⟨512, 512, 512, true⟩, ⟨455, 5, 455, true⟩, ⟨2503, 0, 2503, false⟩, ⟨8191, 40, 8191, true⟩, ⟨16383, 0, 16383, false⟩]), (9, [⟨0, 0, 0, true⟩, ⟨0, 0, 0, true⟩, ⟨2, 2, 2, true⟩, ⟨0, 0, 0, true⟩, ⟨0, 0, 0, true⟩, ⟨16, 16, 16, true⟩, ⟨0, 0, 0, true⟩, ⟨64, 64, 64, true⟩, ⟨128, 128, 192, true⟩, ⟨0, 0, 0, true⟩, ⟨512, 512, 512, true⟩, ⟨455, 5, 455, true⟩, ⟨2503, 0, 2503, false⟩, ⟨8191, 40, 8191, true⟩, ⟨16383, 0, 16383, false⟩]), (10, [⟨0, 0, 0, true⟩, ⟨0, 0, 0, true⟩, ⟨2, 2, 2, true⟩, ⟨0, 0, 0, true⟩, ⟨0, 0, 0, true⟩, ⟨16, 16, 16, true⟩, ⟨0, 0, 0, true⟩, ⟨64, 64, 64, true⟩, ⟨128, 128, 192, true⟩, ⟨0, 0, 0, true⟩, ⟨512, 512, 512, true⟩, ⟨455, 5, 455, true⟩, ⟨2503, 0, 2503, false⟩, ⟨8191, 40, 8191, true⟩, ⟨16383, 0, 16383, false⟩]), (17, [⟨0, 0, 0, true⟩, ⟨0, 0, 0, true⟩, ⟨2, 2, 2, true⟩, ⟨0, 0, 0, true⟩, ⟨0, 0, 0, true⟩, ⟨16, 16, 16, true⟩, ⟨0, 0, 0, true⟩, ⟨64, 64, 64, true⟩, ⟨128, 128, 192, true⟩, ⟨0, 0, 0, true⟩, ⟨512, 512, 512, true⟩, ⟨455, 5, 455, true⟩, ⟨2503, 0, 2503, false⟩, ⟨8191, 40, 8191, true⟩, ⟨16383, 0, 16383, false⟩]), (18, [⟨0, 0, 0, true⟩, ⟨0, 0, 0, true⟩, ⟨2, 2, 2, true⟩, ⟨0, 0, 0, true⟩, ⟨0, 0, 0, true⟩, ⟨16, 16, 16, true⟩, ⟨0, 0, 0, true⟩, ⟨64, 64, 64, true⟩, ⟨128, 128, 192, true⟩, ⟨0, 0, 0, true⟩, ⟨512, 512, 512, true⟩, ⟨455, 5, 455, true⟩, ⟨2503, 0, 2503, false⟩, ⟨8191, 40, 8191, true⟩, ⟨16383, 0, 16383, false⟩]), (23, [⟨0, 0, 0, true⟩, ⟨0, 0, 0, true⟩, ⟨2, 2, 2, true⟩, ⟨0, 0, 0, true⟩, ⟨0, 0, 0, true⟩, ⟨16, 16, 16, true⟩, ⟨0, 0, 0, true⟩, ⟨64, 64, 64, true⟩, ⟨128, 128, 192, true⟩, ⟨0, 0, 0, true⟩, ⟨512, 512, 512, true⟩, ⟨455, 5, 455, true⟩, ⟨2503, 0, 2503, false⟩, ⟨8191, 40, 8191, true⟩, ⟨16383, 0, 16383, false⟩])]⟩
theorem F_internal_strconv_formatBase10_eq (a : Sl) (u : Int) (w : World) (Q : Value → World → Prop) : vcFn Tryd.prog A_internal_strconv_formatBase10 Tryd.f67 #[.slice (a.a) (a.len) (a.cap), .int .u64 (u)] w Q = F_internal_strconv_formatBase10 a u w Q := by kernel_rfl
theorem F_internal_strconv_formatBase10_does (a : Sl) (u : Int) (w : World) (Q : Value → World → Prop) (hQ : F_internal_strconv_formatBase10 a u w Q) : Does Tryd.prog N_internal_strconv_formatBase10 #[.slice (a.a) (a.len) (a.cap), .int .u64 (u)] w Q :=
  vcFn_sound noAsk mixed (A := A_internal_strconv_formatBase10) (by kernel_rfl) Tryd.func67 (Nat.le_of_ble_eq_true (by kernel_rfl)) (by kernel_rfl) ((F_internal_strconv_formatBase10_eq a u w Q).mpr hQ)

end Go.Proofs.YtomoejbamegpoaaDoor.G
