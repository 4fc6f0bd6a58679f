import Derived.Test.YtlbhilhfbbocfaaDoorGen
set_option linter.unusedVariables false
namespace Go.Proofs.YtlbhilhfbbocfaaDoor.G
open Go Go.VC Go.Proofs Go.Proofs.YtlbhilhfbbocfaaDoor
set_option maxRecDepth 100000
/- nacelle/nacellelaw19.ImageTakes -/
def F_law19_ImageTakes (s : Array Value) (l : Sl) (w : World) (Q : Value → World → Prop) : Prop :=
  allocK w (s) T_api_Staging fun a1 w2 =>
  ldT (.sl) w2 ((a1).add 35) fun l3 =>
  Does Tryd.prog N_law19_few #[.slice (l3.a) (l3.len) (l3.cap), .int .i64 (600)] w2 fun r4 w5 => ∃ l6 : Sl, r4 = .slice (l6.a) (l6.len) (l6.cap) ∧
  stC w5 ((a1).add 35) (.slice (l6.a) (l6.len) (l6.cap)) fun w7 =>
  ldArr w7 (a1) 35 fun c8 =>
  Does Tryd.prog N_image_Begin #[.agg (c8)] w7 fun r9 w10 => ∃ c11 : Array Value, ∃ x12 : Int, r9 = .tuple #[.agg (c11), .int .i64 (x12)] ∧
  allocK w10 (zc Tryd.prog T_api_Staging) T_api_Staging fun a13 w14 =>
  stArr w14 (a13) (c11) 36 fun w15 =>
  ∀ J17 : World → Prop, (∀ w16 : World, 
    (∀ J19 : World → Prop, (∀ w18 : World, 
      (ldArr w18 (a1) 36 fun c20 =>
      Does Tryd.prog N_image_Finish #[.agg (c20)] w18 fun r21 w22 => ∃ l23 : Sl, ∃ v24 : Value, r21 = .tuple #[.slice (l23.a) (l23.len) (l23.cap), v24] ∧
      ldArr w22 (a1) 35 fun c25 =>
      ldT (.sl) w22 ((a1).add 35) fun l26 =>
      Does Tryd.prog N_ref19_Check #[.agg (c25), .slice (l26.a) (l26.len) (l26.cap)] w22 fun r27 w28 => ∃ x29 : Int, ∃ l30 : Sl, r27 = .tuple #[.int .i64 (x29), .slice (l30.a) (l30.len) (l30.cap)] ∧
      cond ((x29 : Int) != 0)
      (cond (((((l23.len : Nat) : Int)) : Int) == 0)
       (Does Tryd.prog N_law19_told #[v24, .int .i64 (x29), .slice (l30.a) (l30.len) (l30.cap)] w28 fun r31 w32 => ∃ b33 : Bool, r31 = .bool (b33) ∧
        cond (b33)
        (Does Tryd.prog N_law19_awake #[] w32 fun r34 w35 => ∃ b36 : Bool, r34 = .bool (b36) ∧
         Q (.bool (b36)) w35)
        (Q (.bool (false)) w32))
       (Q (.bool (false)) w28))
      (ldT (.sl) w28 ((a1).add 35) fun l37 =>
       Does Tryd.prog N_ref07_List #[.slice (l37.a) (l37.len) (l37.cap)] w28 fun r38 w39 => ∃ l40 : Sl, r38 = .slice (l40.a) (l40.len) (l40.cap) ∧
       ∀ J42 : World → Prop, (∀ w41 : World, 
         (∃ (I45 : Int → World → Prop) (M46 : Int → World → Nat), I45 0 w41 ∧
         ∀ i43 : Int, ∀ w44 : World, I45 i43 w44 →
           cond (decide ((i43 : Int) < (((l23.len : Nat) : Int))))
           (idx (l23.a) (l23.len) (i43) 4 fun a47 =>
            ldT (.int .u8) w44.drew (a47) fun x48 => ldT (.int .u8) w44.drew ((a47).add 1) fun x49 => ldT (.int .u8) w44.drew ((a47).add 2) fun x50 => ldT (.int .u8) w44.drew ((a47).add 3) fun x51 =>
            idx (l40.a) (l40.len) (i43) 4 fun a52 =>
            ldT (.int .u8) w44.drew (a52) fun x53 => ldT (.int .u8) w44.drew ((a52).add 1) fun x54 => ldT (.int .u8) w44.drew ((a52).add 2) fun x55 => ldT (.int .u8) w44.drew ((a52).add 3) fun x56 =>
            runG (.bool) Tryd.prog w44.drew (do eqGuard .neq T_api_Instr (.tmp 189) (.tmp 193) (.agg #[.int .u8 (x48), .int .u8 (x49), .int .u8 (x50), .int .u8 (x51)]) (.agg #[.int .u8 (x53), .int .u8 (x54), .int .u8 (x55), .int .u8 (x56)]); binOp .neq T_api_Instr (.agg #[.int .u8 (x48), .int .u8 (x49), .int .u8 (x50), .int .u8 (x51)]) (.agg #[.int .u8 (x53), .int .u8 (x54), .int .u8 (x55), .int .u8 (x56)])) fun b57 w58 =>
            cond (b57)
            (Q (.bool (false)) w58)
            (I45 (IntKind.wrap .i64 (i43 + 1)) w58 ∧ M46 (IntKind.wrap .i64 (i43 + 1)) w58 < M46 i43 w44))
           (Does Tryd.prog N_law19_awake #[] w44 fun r59 w60 => ∃ b61 : Bool, r59 = .bool (b61) ∧
            Q (.bool (b61)) w60)) → J42 w41) →
       runG (.bool) Tryd.prog w39 (do eqGuard .neq T_error (.tmp 171) (.const (.nilIface)) (v24) (.nilIface); binOp .neq T_error (v24) (.nilIface)) fun b62 w63 =>
       cond (b62)
       (Q (.bool (false)) w63)
       (cond (((((l23.len : Nat) : Int)) : Int) != (((l40.len : Nat) : Int)))
        (Q (.bool (false)) w63)
        (J42 w63)))) → J19 w18) →
    ∃ (I66 : Int → World → Prop) (M67 : Int → World → Nat), I66 0 w16 ∧
    ∀ i64 : Int, ∀ w65 : World, I66 i64 w65 →
      ∀ J69 : World → Prop, (∀ w68 : World, 
        (∀ J71 : World → Prop, (∀ w70 : World, 
          (I66 (IntKind.wrap .i64 (i64 + 1)) w70 ∧ M67 (IntKind.wrap .i64 (i64 + 1)) w70 < M67 i64 w65) → J71 w70) →
        allocK w68 #[] T_uint8 fun a72 w73 =>
        idx (l.a) (l.len) (i64) 2 fun a74 =>
        ldT (.sl) w73 ((a74).add 1) fun l75 =>
        Does Tryd.prog N_law19_few #[.slice (l75.a) (l75.len) (l75.cap), .int .i64 (600)] w73 fun r76 w77 => ∃ l78 : Sl, r76 = .slice (l78.a) (l78.len) (l78.cap) ∧
        runG (.sl) Tryd.prog w77 (Builtin.append_ #[T_l_uint8, T_l_uint8] T_l_uint8 #[.slice (some (a72)) (0) (0), .slice (l78.a) (l78.len) (l78.cap)]) fun l79 w80 =>
        ∀ J84 : Addr → Int → World → Prop, (∀ y81 : Addr, ∀ f82 : Int, ∀ w83 : World, 
          (∀ J88 : Addr → Int → World → Prop, (∀ z85 : Addr, ∀ n86 : Int, ∀ w87 : World, 
            (∃ (I91 : Int → World → Prop) (M92 : Int → World → Nat), I91 0 w87 ∧
            ∀ k89 : Int, ∀ w90 : World, I91 k89 w90 →
              cond (decide ((k89 : Int) < (((l79.len : Nat) : Int))))
              (idx (l79.a) (l79.len) (k89) 1 fun a93 =>
               stC w90 (a93) (.int .u8 (99)) fun w94 =>
               I91 (IntKind.wrap .i64 (k89 + 1)) w94 ∧ M92 (IntKind.wrap .i64 (k89 + 1)) w94 < M92 k89 w90)
              (∀ J96 : World → Prop, (∀ w95 : World, 
                 (cond ((n86 : Int) == 0)
                 (ldArr w95 (y81) 36 fun c97 =>
                  stArr w95 (a1) (c97) 36 fun w98 =>
                  J71 w98)
                 (J71 w95)) → J96 w95) →
               cond ((f82 : Int) != n86)
               (Q (.bool (false)) w90)
               (cond ((n86 : Int) != 0)
                (ldArr w90 (y81) 36 fun c99 =>
                 Does Tryd.prog N_law19_same #[.agg (c99), .agg #[.int .i64 (0), .int .u32 (0), .int .i64 (0), .int .u8 (0), .int .u8 (0), .int .u8 (0), .int .u8 (0), .int .u8 (0), .int .u8 (0), .int .u8 (0), .int .u8 (0), .int .u8 (0), .int .u8 (0), .int .u8 (0), .int .u8 (0), .int .u8 (0), .int .u8 (0), .int .u8 (0), .int .u8 (0), .int .u8 (0), .int .u8 (0), .int .u8 (0), .int .u8 (0), .int .u8 (0), .int .u8 (0), .int .u8 (0), .int .u8 (0), .int .u8 (0), .int .u8 (0), .int .u8 (0), .int .u8 (0), .int .u8 (0), .int .u8 (0), .int .u8 (0), .int .u8 (0), .slice (none) (0) (0)]] w90 fun r100 w101 => ∃ b102 : Bool, r100 = .bool (b102) ∧
                 cond (!b102)
                 (Q (.bool (false)) w101)
                 (cond ((n86 : Int) == 0)
                  (ldArr w101 (y81) 36 fun c103 =>
                   ldArr w101 (z85) 36 fun c104 =>
                   Does Tryd.prog N_law19_same #[.agg (c103), .agg (c104)] w101 fun r105 w106 => ∃ b107 : Bool, r105 = .bool (b107) ∧
                   cond (!b107)
                   (Q (.bool (false)) w106)
                   (J96 w106))
                  (J96 w101)))
                (cond ((n86 : Int) == 0)
                 (ldArr w90 (y81) 36 fun c108 =>
                  ldArr w90 (z85) 36 fun c109 =>
                  Does Tryd.prog N_law19_same #[.agg (c108), .agg (c109)] w90 fun r110 w111 => ∃ b112 : Bool, r110 = .bool (b112) ∧
                  cond (!b112)
                  (Q (.bool (false)) w111)
                  (J96 w111))
                 (J96 w90))))) → J88 z85 n86 w87) →
          ldArr w83.drew (a1) 36 fun c113 =>
          idx (l.a) (l.len) (i64) 2 fun a114 =>
          ldT (.int .i64) w83.drew (a114) fun x115 =>
          (Does Tryd.prog N_ref19_Chunk #[.agg (c113), .int .i64 (x115), .slice (l79.a) (l79.len) (l79.cap)] w83.drew fun r116 w117 => ∃ c118 : Array Value, ∃ x119 : Int, r116 = .tuple #[.agg (c118), .int .i64 (x119)] ∧
           allocK w117 (zc Tryd.prog T_api_Staging) T_api_Staging fun a120 w121 =>
           stArr w121 (a120) (c118) 36 fun w122 =>
           J88 (a120) x119 w122) ∧
          (allocK w83.drew (zc Tryd.prog T_api_Staging) T_api_Staging fun a123 w124 =>
           w124.cell? (a114) = some (.int .i64 (x115)) ∧ ((c113 : Array Value).size = 36 ∧ RowIs w124 (a1) c113) ∧ Does Tryd.prog N_ref19_Chunk #[.agg (c113), .int .i64 (x115), .slice (l79.a) (l79.len) (l79.cap)] w124 fun r125 w126 => ∃ c127 : Array Value, ∃ x128 : Int, r125 = .tuple #[.agg (c127), .int .i64 (x128)] ∧
           stArr w126 (a123) (c127) 36 fun w129 =>
           J88 (a123) x128 w129)) → J84 y81 f82 w83) →
        ldArr w80.drew (a1) 36 fun c130 =>
        idx (l.a) (l.len) (i64) 2 fun a131 =>
        ldT (.int .i64) w80.drew (a131) fun x132 =>
        (Does Tryd.prog N_image_Chunk #[.agg (c130), .int .i64 (x132), .slice (l79.a) (l79.len) (l79.cap)] w80.drew fun r133 w134 => ∃ c135 : Array Value, ∃ x136 : Int, r133 = .tuple #[.agg (c135), .int .i64 (x136)] ∧
         allocK w134 (zc Tryd.prog T_api_Staging) T_api_Staging fun a137 w138 =>
         stArr w138 (a137) (c135) 36 fun w139 =>
         J84 (a137) x136 w139) ∧
        (allocK w80.drew (zc Tryd.prog T_api_Staging) T_api_Staging fun a140 w141 =>
         w141.cell? (a131) = some (.int .i64 (x132)) ∧ ((c130 : Array Value).size = 36 ∧ RowIs w141 (a1) c130) ∧ Does Tryd.prog N_image_Chunk #[.agg (c130), .int .i64 (x132), .slice (l79.a) (l79.len) (l79.cap)] w141 fun r142 w143 => ∃ c144 : Array Value, ∃ x145 : Int, r142 = .tuple #[.agg (c144), .int .i64 (x145)] ∧
         stArr w143 (a140) (c144) 36 fun w146 =>
         J84 (a140) x145 w146)) → J69 w68) →
      cond (decide ((i64 : Int) < (((l.len : Nat) : Int))))
      (cond (decide ((i64 : Int) < 20))
       (J69 w65)
       (J19 w65))
      (J19 w65)) → J17 w16) →
  ldArr w15 (a1) 35 fun c147 =>
  Does Tryd.prog N_ref19_May #[.agg (c147)] w15 fun r148 w149 => ∃ b150 : Bool, r148 = .bool (b150) ∧
  cond (!(b150 == ((x12 : Int) == 0)))
  (Q (.bool (false)) w149)
  (cond ((x12 : Int) != 0)
   (cond ((x12 : Int) != 1)
    (Q (.bool (false)) w149)
    (cond ((x12 : Int) == 0)
     (ldArr w149 (a13) 36 fun c151 =>
      ldArr w149 (a1) 35 fun c152 =>
      buildK Tryd.prog T_api_Staging #[(0, .agg (c152))] fun c153 =>
      Does Tryd.prog N_law19_same #[.agg (c151), .agg (c153)] w149 fun r154 w155 => ∃ b156 : Bool, r154 = .bool (b156) ∧
      cond (!b156)
      (Q (.bool (false)) w155)
      (cond ((x12 : Int) != 0)
       (ldArr w155 (a13) 36 fun c157 =>
        Does Tryd.prog N_law19_same #[.agg (c157), .agg #[.int .i64 (0), .int .u32 (0), .int .i64 (0), .int .u8 (0), .int .u8 (0), .int .u8 (0), .int .u8 (0), .int .u8 (0), .int .u8 (0), .int .u8 (0), .int .u8 (0), .int .u8 (0), .int .u8 (0), .int .u8 (0), .int .u8 (0), .int .u8 (0), .int .u8 (0), .int .u8 (0), .int .u8 (0), .int .u8 (0), .int .u8 (0), .int .u8 (0), .int .u8 (0), .int .u8 (0), .int .u8 (0), .int .u8 (0), .int .u8 (0), .int .u8 (0), .int .u8 (0), .int .u8 (0), .int .u8 (0), .int .u8 (0), .int .u8 (0), .int .u8 (0), .int .u8 (0), .slice (none) (0) (0)]] w155 fun r158 w159 => ∃ b160 : Bool, r158 = .bool (b160) ∧
        cond (!b160)
        (Q (.bool (false)) w159)
        (J17 w159))
       (J17 w155)))
     (cond ((x12 : Int) != 0)
      (ldArr w149 (a13) 36 fun c161 =>
       Does Tryd.prog N_law19_same #[.agg (c161), .agg #[.int .i64 (0), .int .u32 (0), .int .i64 (0), .int .u8 (0), .int .u8 (0), .int .u8 (0), .int .u8 (0), .int .u8 (0), .int .u8 (0), .int .u8 (0), .int .u8 (0), .int .u8 (0), .int .u8 (0), .int .u8 (0), .int .u8 (0), .int .u8 (0), .int .u8 (0), .int .u8 (0), .int .u8 (0), .int .u8 (0), .int .u8 (0), .int .u8 (0), .int .u8 (0), .int .u8 (0), .int .u8 (0), .int .u8 (0), .int .u8 (0), .int .u8 (0), .int .u8 (0), .int .u8 (0), .int .u8 (0), .int .u8 (0), .int .u8 (0), .int .u8 (0), .int .u8 (0), .slice (none) (0) (0)]] w149 fun r162 w163 => ∃ b164 : Bool, r162 = .bool (b164) ∧
       cond (!b164)
       (Q (.bool (false)) w163)
       (J17 w163))
      (J17 w149))))
   (cond ((x12 : Int) == 0)
    (ldArr w149 (a13) 36 fun c165 =>
     ldArr w149 (a1) 35 fun c166 =>
     buildK Tryd.prog T_api_Staging #[(0, .agg (c166))] fun c167 =>
     Does Tryd.prog N_law19_same #[.agg (c165), .agg (c167)] w149 fun r168 w169 => ∃ b170 : Bool, r168 = .bool (b170) ∧
     cond (!b170)
     (Q (.bool (false)) w169)
     (cond ((x12 : Int) != 0)
      (ldArr w169 (a13) 36 fun c171 =>
       Does Tryd.prog N_law19_same #[.agg (c171), .agg #[.int .i64 (0), .int .u32 (0), .int .i64 (0), .int .u8 (0), .int .u8 (0), .int .u8 (0), .int .u8 (0), .int .u8 (0), .int .u8 (0), .int .u8 (0), .int .u8 (0), .int .u8 (0), .int .u8 (0), .int .u8 (0), .int .u8 (0), .int .u8 (0), .int .u8 (0), .int .u8 (0), .int .u8 (0), .int .u8 (0), .int .u8 (0), .int .u8 (0), .int .u8 (0), .int .u8 (0), .int .u8 (0), .int .u8 (0), .int .u8 (0), .int .u8 (0), .int .u8 (0), .int .u8 (0), .int .u8 (0), .int .u8 (0), .int .u8 (0), .int .u8 (0), .int .u8 (0), .slice (none) (0) (0)]] w169 fun r172 w173 => ∃ b174 : Bool, r172 = .bool (b174) ∧
       cond (!b174)
       (Q (.bool (false)) w173)
       (J17 w173))
      (J17 w169)))
    (cond ((x12 : Int) != 0)
     (ldArr w149 (a13) 36 fun c175 =>
      Does Tryd.prog N_law19_same #[.agg (c175), .agg #[.int .i64 (0), .int .u32 (0), .int .i64 (0), .int .u8 (0), .int .u8 (0), .int .u8 (0), .int .u8 (0), .int .u8 (0), .int .u8 (0), .int .u8 (0), .int .u8 (0), .int .u8 (0), .int .u8 (0), .int .u8 (0), .int .u8 (0), .int .u8 (0), .int .u8 (0), .int .u8 (0), .int .u8 (0), .int .u8 (0), .int .u8 (0), .int .u8 (0), .int .u8 (0), .int .u8 (0), .int .u8 (0), .int .u8 (0), .int .u8 (0), .int .u8 (0), .int .u8 (0), .int .u8 (0), .int .u8 (0), .int .u8 (0), .int .u8 (0), .int .u8 (0), .int .u8 (0), .slice (none) (0) (0)]] w149 fun r176 w177 => ∃ b178 : Bool, r176 = .bool (b178) ∧
      cond (!b178)
      (Q (.bool (false)) w177)
      (J17 w177))
     (J17 w149))))
def A_law19_ImageTakes : Ann := ⟨[(6, [(7, .one (.int .i64))]), (12, [(13, .one (.int .i64))]), (27, [(19, .one (.int .i64))])], [(5, []), (7, []), (8, []), (10, [(9, .one (.adr)), (10, .one (.int .i64))]), (11, [(11, .one (.adr)), (12, .one (.int .i64))]), (17, []), (19, []), (26, [])], [(9, [⟨0, 0, 0, true⟩, ⟨0, 0, 0, true⟩, ⟨0, 0, 0, true⟩, ⟨6, 6, 6, true⟩, ⟨8, 8, 14, true⟩, ⟨16, 16, 30, true⟩, ⟨0, 0, 0, true⟩, ⟨97, 0, 127, false⟩, ⟨128, 128, 255, true⟩, ⟨256, 256, 511, true⟩, ⟨256, 256, 511, true⟩, ⟨0, 0, 0, false⟩, ⟨3071, 0, 3071, false⟩, ⟨8191, 1024, 8191, true⟩]), (10, [⟨0, 0, 0, true⟩, ⟨0, 0, 0, true⟩, ⟨0, 0, 0, true⟩, ⟨6, 6, 6, true⟩, ⟨8, 8, 14, true⟩, ⟨16, 16, 30, true⟩, ⟨0, 0, 0, true⟩, ⟨97, 0, 127, false⟩, ⟨128, 128, 255, true⟩, ⟨256, 256, 511, true⟩, ⟨256, 256, 511, true⟩, ⟨0, 0, 0, false⟩, ⟨3071, 0, 3071, false⟩, ⟨8191, 1024, 8191, true⟩]), (29, [⟨0, 0, 0, true⟩, ⟨0, 0, 0, true⟩, ⟨3, 3, 3, true⟩, ⟨4, 4, 7, true⟩, ⟨0, 0, 0, true⟩, ⟨0, 0, 0, true⟩, ⟨48, 48, 48, true⟩, ⟨64, 64, 112, true⟩, ⟨136, 0, 255, false⟩])]⟩
theorem F_law19_ImageTakes_eq (s : Array Value) (l : Sl) (w : World) (Q : Value → World → Prop) : vcFn Tryd.prog A_law19_ImageTakes Tryd.f3 #[.agg (s), .slice (l.a) (l.len) (l.cap)] w Q = F_law19_ImageTakes s l w Q := by kernel_rfl
theorem F_law19_ImageTakes_does (s : Array Value) (l : Sl) (w : World) (Q : Value → World → Prop) (hQ : F_law19_ImageTakes s l w Q) : Does Tryd.prog N_law19_ImageTakes #[.agg (s), .slice (l.a) (l.len) (l.cap)] w Q :=
  vcFn_sound noAsk mixed (A := A_law19_ImageTakes) (by kernel_rfl) Tryd.func3 (Nat.le_of_ble_eq_true (by kernel_rfl)) (by kernel_rfl) ((F_law19_ImageTakes_eq s l w Q).mpr hQ)

/- nacelle/nacellelaw19.ImageChecks -/
def F_law19_ImageChecks (m : Array Value) (b : Sl) (w : World) (Q : Value → World → Prop) : Prop :=
  allocK w (m) T_api_Manifest fun a1 w2 =>
  Does Tryd.prog N_law19_few #[.slice (b.a) (b.len) (b.cap), .int .i64 (600)] w2 fun r3 w4 => ∃ l5 : Sl, r3 = .slice (l5.a) (l5.len) (l5.cap) ∧
  allocK w4 #[] T_uint8 fun a6 w7 =>
  runG (.sl) Tryd.prog w7 (Builtin.append_ #[T_l_uint8, T_l_uint8] T_l_uint8 #[.slice (some (a6)) (0) (0), .slice (l5.a) (l5.len) (l5.cap)]) fun l8 w9 =>
  ldArr w9 (a1) 35 fun c10 =>
  Does Tryd.prog N_ref19_Check #[.agg (c10), .slice (l5.a) (l5.len) (l5.cap)] w9 fun r11 w12 => ∃ x13 : Int, ∃ l14 : Sl, r11 = .tuple #[.int .i64 (x13), .slice (l14.a) (l14.len) (l14.cap)] ∧
  ldArr w12 (a1) 35 fun c15 =>
  Does Tryd.prog N_image_Check #[.agg (c15), .slice (l5.a) (l5.len) (l5.cap)] w12 fun r16 w17 => ∃ v18 : Value, r16 = v18 ∧
  Does Tryd.prog N_law19_told #[v18, .int .i64 (x13), .slice (l14.a) (l14.len) (l14.cap)] w17 fun r19 w20 => ∃ b21 : Bool, r19 = .bool (b21) ∧
  cond (b21)
  (lookS Tryd.prog w20 (convert T_l_uint8 T_string (.slice (l8.a) (l8.len) (l8.cap))) fun s22 =>
   lookS Tryd.prog w20 (convert T_l_uint8 T_string (.slice (l5.a) (l5.len) (l5.cap))) fun s23 =>
   cond ((s22).toList == (s23).toList)
   (Does Tryd.prog N_law19_awake #[] w20 fun r24 w25 => ∃ b26 : Bool, r24 = .bool (b26) ∧
    Q (.bool (b26)) w25)
   (Q (.bool (false)) w20))
  (Q (.bool (false)) w20)
def A_law19_ImageChecks : Ann := ⟨[], [], []⟩
theorem F_law19_ImageChecks_eq (m : Array Value) (b : Sl) (w : World) (Q : Value → World → Prop) : vcFn Tryd.prog A_law19_ImageChecks Tryd.f4 #[.agg (m), .slice (b.a) (b.len) (b.cap)] w Q = F_law19_ImageChecks m b w Q := by kernel_rfl
theorem F_law19_ImageChecks_does (m : Array Value) (b : Sl) (w : World) (Q : Value → World → Prop) (hQ : F_law19_ImageChecks m b w Q) : Does Tryd.prog N_law19_ImageChecks #[.agg (m), .slice (b.a) (b.len) (b.cap)] w Q :=
  vcFn_sound noAsk mixed (A := A_law19_ImageChecks) (by kernel_rfl) Tryd.func4 (Nat.le_of_ble_eq_true (by kernel_rfl)) (by kernel_rfl) ((F_law19_ImageChecks_eq m b w Q).mpr hQ)

/- nacelle/nacellelaw19.ImageRight -/
def F_law19_ImageRight (s : Array Value) (w : World) (Q : Value → World → Prop) : Prop :=
  allocK w (s) T_api_Staging fun a1 w2 =>
  ldT (.sl) w2 ((a1).add 35) fun l3 =>
  Does Tryd.prog N_law19_few #[.slice (l3.a) (l3.len) (l3.cap), .int .i64 (600)] w2 fun r4 w5 => ∃ l6 : Sl, r4 = .slice (l6.a) (l6.len) (l6.cap) ∧
  stC w5 ((a1).add 35) (.slice (l6.a) (l6.len) (l6.cap)) fun w7 =>
  ldArr w7 (a1) 36 fun c8 =>
  Does Tryd.prog N_image_Finish #[.agg (c8)] w7 fun r9 w10 => ∃ l11 : Sl, ∃ v12 : Value, r9 = .tuple #[.slice (l11.a) (l11.len) (l11.cap), v12] ∧
  runG (.bool) Tryd.prog w10 (do eqGuard .neq T_error (.tmp 15) (.const (.nilIface)) (v12) (.nilIface); binOp .neq T_error (v12) (.nilIface)) fun b13 w14 =>
  cond (b13)
  (cond (((((l11.len : Nat) : Int)) : Int) == 0)
   (Does Tryd.prog N_law19_awake #[] w14 fun r15 w16 => ∃ b17 : Bool, r15 = .bool (b17) ∧
    Q (.bool (b17)) w16)
   (Q (.bool (false)) w14))
  (Does Tryd.prog N_code_Encode #[.slice (l11.a) (l11.len) (l11.cap)] w14 fun r18 w19 => ∃ l20 : Sl, r18 = .slice (l20.a) (l20.len) (l20.cap) ∧
   Does Tryd.prog N_code_Check #[.slice (l11.a) (l11.len) (l11.cap)] w19.drew fun r21 w22 => ∃ v23 : Value, r21 = v23 ∧
   runG (.bool) Tryd.prog w22 (do eqGuard .eql T_error (.tmp 26) (.const (.nilIface)) (v23) (.nilIface); binOp .eql T_error (v23) (.nilIface)) fun b24 w25 =>
   cond (b24)
   (∃ s26 : ByteArray, (convert T_l_uint8 T_string (.slice (l20.a) (l20.len) (l20.cap))).run Tryd.prog w25 = .ok (.string (s26)) w25 ∧
    ldT (.sl) w25 ((a1).add 35) fun l27 =>
    ∃ s28 : ByteArray, (convert T_l_uint8 T_string (.slice (l27.a) (l27.len) (l27.cap))).run Tryd.prog w25 = .ok (.string (s28)) w25 ∧
    cond ((s26).toList == (s28).toList)
    (ldT (.int .i64) w25 (a1) fun x29 =>
     ldT (.int .u32) w25 ((a1).add 1) fun x30 =>
     ldArr w25 (a1) 35 fun c31 =>
     Does Tryd.prog N_image_Of #[.int .i64 (x29), .int .u32 (x30), .slice (l20.a) (l20.len) (l20.cap)] w25 fun r32 w33 => ∃ c34 : Array Value, r32 = .agg (c34) ∧
     ((c31 : Array Value).size = 35 ∧ RowIs w33 (a1) c31) ∧ runG (.bool) Tryd.prog w33 (do eqGuard .eql T_api_Manifest (.tmp 44) (.tmp 46) (.agg (c34)) (.agg (c31)); binOp .eql T_api_Manifest (.agg (c34)) (.agg (c31))) fun b35 w36 =>
     cond (b35)
     (Does Tryd.prog N_law19_awake #[] w36 fun r37 w38 => ∃ b39 : Bool, r37 = .bool (b39) ∧
      Q (.bool (b39)) w38)
     (Q (.bool (false)) w36))
    (Q (.bool (false)) w25))
   (Q (.bool (false)) w25))
def A_law19_ImageRight : Ann := ⟨[], [], [(6, [⟨0, 0, 0, true⟩, ⟨1, 0, 1, false⟩, ⟨2, 0, 3, false⟩, ⟨6, 4, 7, true⟩, ⟨8, 8, 15, true⟩, ⟨24, 24, 31, true⟩, ⟨8, 8, 15, true⟩, ⟨72, 72, 79, true⟩, ⟨136, 136, 207, true⟩, ⟨296, 296, 511, true⟩, ⟨520, 520, 1023, true⟩, ⟨1032, 1024, 2047, true⟩, ⟨2048, 2048, 4095, true⟩, ⟨6144, 6144, 8191, true⟩, ⟨10240, 10240, 16383, true⟩, ⟨2048, 2048, 4095, true⟩, ⟨34816, 34816, 36863, true⟩, ⟨67584, 67584, 102399, true⟩, ⟨2048, 2048, 4095, true⟩, ⟨411648, 0, 524287, false⟩, ⟨2048, 2048, 4095, true⟩, ⟨1050624, 1050624, 1052671, true⟩, ⟨2623488, 0, 4194303, false⟩, ⟨4196352, 4196352, 8388607, true⟩, ⟨8912896, 8388608, 16777215, true⟩, ⟨16777216, 0, 33554431, false⟩, ⟨50331648, 50331648, 67108863, true⟩, ⟨134217727, 67108864, 134217727, true⟩])]⟩
theorem F_law19_ImageRight_eq (s : Array Value) (w : World) (Q : Value → World → Prop) : vcFn Tryd.prog A_law19_ImageRight Tryd.f5 #[.agg (s)] w Q = F_law19_ImageRight s w Q := by kernel_rfl
theorem F_law19_ImageRight_does (s : Array Value) (w : World) (Q : Value → World → Prop) (hQ : F_law19_ImageRight s w Q) : Does Tryd.prog N_law19_ImageRight #[.agg (s)] w Q :=
  vcFn_sound noAsk mixed (A := A_law19_ImageRight) (by kernel_rfl) Tryd.func5 (Nat.le_of_ble_eq_true (by kernel_rfl)) (by kernel_rfl) ((F_law19_ImageRight_eq s w Q).mpr hQ)

/- nacelle/nacellelaw19.ImagePieces -/
def F_law19_ImagePieces (k0 : Sl) (k1 : Int) (k2 : Int) (k3 : Sl) (w : World) (Q : Value → World → Prop) : Prop :=
  allocK w (#[.slice (k0.a) (k0.len) (k0.cap), .int .i64 (k1), .int .u32 (k2), .slice (k3.a) (k3.len) (k3.cap)]) T_law19_Cut fun a1 w2 =>
  ldT (.sl) w2.drew (a1) fun l3 =>
  ldT (.int .i64) w2.drew ((a1).add 1) fun x4 =>
  ldT (.int .u32) w2.drew ((a1).add 2) fun x5 =>
  ldT (.sl) w2.drew ((a1).add 3) fun l6 =>
  ∀ J8 : World → Prop, (∀ w7 : World, 
    (Does Tryd.prog N_code_Encode #[.slice (l3.a) (l3.len) (l3.cap)] w7 fun r9 w10 => ∃ l11 : Sl, r9 = .slice (l11.a) (l11.len) (l11.cap) ∧
    Does Tryd.prog N_image_Of #[.int .i64 (x4), .int .u32 (x5), .slice (l11.a) (l11.len) (l11.cap)] w10 fun r12 w13 => ∃ c14 : Array Value, r12 = .agg (c14) ∧
    Does Tryd.prog N_image_Begin #[.agg (c14)] w13 fun r15 w16 => ∃ c17 : Array Value, ∃ x18 : Int, r15 = .tuple #[.agg (c17), .int .i64 (x18)] ∧
    allocK w16 (zc Tryd.prog T_api_Staging) T_api_Staging fun a19 w20 =>
    stArr w20 (a19) (c17) 36 fun w21 =>
    cond ((x18 : Int) != 0)
    (Q (.bool (false)) w21)
    (∃ (I25 : Int → Int → World → Prop) (M26 : Int → Int → World → Nat), I25 0 0 w21 ∧
     ∀ at22 : Int, ∀ i23 : Int, ∀ w24 : World, I25 at22 i23 w24 →
       cond (decide ((at22 : Int) < (((l11.len : Nat) : Int))))
       (∀ J29 : Int → World → Prop, (∀ at27 : Int, ∀ w28 : World, 
          (I25 at27 (IntKind.wrap .i64 (i23 + 1)) w28 ∧ M26 at27 (IntKind.wrap .i64 (i23 + 1)) w28 < M26 at22 i23 w24) → J29 at27 w28) →
        ∀ J32 : Int → World → Prop, (∀ n30 : Int, ∀ w31 : World, 
          (∀ J36 : Addr → Int → World → Prop, (∀ x33 : Addr, ∀ f34 : Int, ∀ w35 : World, 
            (cond ((f34 : Int) != 0)
            (Q (.bool (false)) w35)
            (ldArr w35 (x33) 36 fun c37 =>
             stArr w35 (a19) (c37) 36 fun w38 =>
             J29 (IntKind.wrap .i64 (at22 + n30)) w38)) → J36 x33 f34 w35) →
          ldArr w31.drew (a19) 36 fun c39 =>
          slcT ⟨l11.a, l11.len, l11.cap⟩ (at22) (IntKind.wrap .i64 (at22 + n30)) 1 fun l40 =>
          (Does Tryd.prog N_image_Chunk #[.agg (c39), .int .i64 (at22), .slice (l40.a) (l40.len) (l40.cap)] w31.drew fun r41 w42 => ∃ c43 : Array Value, ∃ x44 : Int, r41 = .tuple #[.agg (c43), .int .i64 (x44)] ∧
           allocK w42 (zc Tryd.prog T_api_Staging) T_api_Staging fun a45 w46 =>
           stArr w46 (a45) (c43) 36 fun w47 =>
           J36 (a45) x44 w47) ∧
          (allocK w31.drew (zc Tryd.prog T_api_Staging) T_api_Staging fun a48 w49 =>
           ((c39 : Array Value).size = 36 ∧ RowIs w49 (a19) c39) ∧ Does Tryd.prog N_image_Chunk #[.agg (c39), .int .i64 (at22), .slice (l40.a) (l40.len) (l40.cap)] w49 fun r50 w51 => ∃ c52 : Array Value, ∃ x53 : Int, r50 = .tuple #[.agg (c52), .int .i64 (x53)] ∧
           stArr w51 (a48) (c52) 36 fun w54 =>
           J36 (a48) x53 w54)) → J32 n30 w31) →
        ∀ J57 : Bool → World → Prop, (∀ b55 : Bool, ∀ w56 : World, 
          (cond (b55)
          (idx (l6.a) (l6.len) (i23) 1 fun a58 =>
           ldT (.int .i64) w56 (a58) fun x59 =>
           J32 x59 w56)
          (J32 (IntKind.wrap .i64 ((((l11.len : Nat) : Int)) - at22)) w56)) → J57 b55 w56) →
        cond (decide ((i23 : Int) < (((l6.len : Nat) : Int))))
        (cond (decide ((i23 : Int) < 60))
         (idx (l6.a) (l6.len) (i23) 1 fun a60 =>
          ldT (.int .i64) w24 (a60) fun x61 =>
          cond (decide ((x61 : Int) ≥ 0))
          (idx (l6.a) (l6.len) (i23) 1 fun a62 =>
           ldT (.int .i64) w24 (a62) fun x63 =>
           J57 (decide ((x63 : Int) < (IntKind.wrap .i64 ((((l11.len : Nat) : Int)) - at22)))) w24)
          (J57 false w24))
         (J57 false w24))
        (J57 false w24))
       (ldArr w24 (a19) 36 fun c64 =>
        Does Tryd.prog N_image_Finish #[.agg (c64)] w24 fun r65 w66 => ∃ l67 : Sl, ∃ v68 : Value, r65 = .tuple #[.slice (l67.a) (l67.len) (l67.cap), v68] ∧
        runG (.bool) Tryd.prog w66.drew (do eqGuard .eql T_error (.tmp 109) (.const (.nilIface)) (v68) (.nilIface); binOp .eql T_error (v68) (.nilIface)) fun b69 w70 =>
        cond (b69)
        (∃ s71 : ByteArray, (convert T_l_uint8 T_string (.slice (l11.a) (l11.len) (l11.cap))).run Tryd.prog w70 = .ok (.string (s71)) w70 ∧
         Does Tryd.prog N_code_Encode #[.slice (l67.a) (l67.len) (l67.cap)] w70 fun r72 w73 => ∃ l74 : Sl, r72 = .slice (l74.a) (l74.len) (l74.cap) ∧
         (convert T_l_uint8 T_string (.slice (l11.a) (l11.len) (l11.cap))).run Tryd.prog w73 = .ok (.string (s71)) w73 ∧ ∃ s75 : ByteArray, (convert T_l_uint8 T_string (.slice (l74.a) (l74.len) (l74.cap))).run Tryd.prog w73 = .ok (.string (s75)) w73 ∧
         cond ((s75).toList == (s71).toList)
         (ldArr w73 (a19) 35 fun c76 =>
          Does Tryd.prog N_image_Check #[.agg (c76), .slice (l11.a) (l11.len) (l11.cap)] w73 fun r77 w78 => ∃ v79 : Value, r77 = v79 ∧
          runG (.bool) Tryd.prog w78 (do eqGuard .eql T_error (.tmp 123) (.const (.nilIface)) (v79) (.nilIface); binOp .eql T_error (v79) (.nilIface)) fun b80 w81 =>
          cond (b80)
          (Does Tryd.prog N_law19_awake #[] w81 fun r82 w83 => ∃ b84 : Bool, r82 = .bool (b84) ∧
           Q (.bool (b84)) w83)
          (Q (.bool (false)) w81))
         (Q (.bool (false)) w73))
        (Q (.bool (false)) w70)))) → J8 w7) →
  ∀ J87 : Bool → World → Prop, (∀ b85 : Bool, ∀ w86 : World, 
    (cond (b85)
    (Does Tryd.prog N_law19_awake #[] w86 fun r88 w89 => ∃ b90 : Bool, r88 = .bool (b90) ∧
     Q (.bool (b90)) w89)
    (J8 w86)) → J87 b85 w86) →
  Does Tryd.prog N_code_Check #[.slice (l3.a) (l3.len) (l3.cap)] w2.drew fun r91 w92 => ∃ v93 : Value, r91 = v93 ∧
  runG (.bool) Tryd.prog w92 (do eqGuard .neq T_error (.tmp 26) (.const (.nilIface)) (v93) (.nilIface); binOp .neq T_error (v93) (.nilIface)) fun b94 w95 =>
  cond (b94)
  (J87 true w95)
  (cond (decide ((x4 : Int) < 0))
   (J87 true w95)
   (J87 (decide ((x4 : Int) > 7)) w95))
def A_law19_ImagePieces : Ann := ⟨[(10, [(10, .one (.int .i64)), (11, .one (.int .i64))])], [(3, [(35, .one (.bool))]), (4, []), (11, [(10, .one (.int .i64))]), (14, [(81, .one (.bool))]), (15, [(12, .one (.int .i64))]), (16, [(13, .one (.adr)), (14, .one (.int .i64))])], [(1, [⟨0, 0, 0, true⟩, ⟨1, 1, 1, true⟩, ⟨0, 0, 0, true⟩, ⟨4, 4, 4, true⟩, ⟨0, 0, 0, true⟩, ⟨16, 16, 16, true⟩, ⟨0, 0, 0, true⟩, ⟨64, 64, 64, true⟩, ⟨3, 2, 3, true⟩, ⟨271, 8, 271, true⟩, ⟨831, 32, 831, true⟩, ⟨2047, 128, 2047, true⟩]), (15, [⟨0, 0, 0, true⟩, ⟨0, 0, 0, true⟩, ⟨0, 0, 0, true⟩, ⟨0, 0, 0, true⟩, ⟨0, 0, 0, true⟩, ⟨0, 0, 0, true⟩, ⟨48, 48, 48, true⟩, ⟨76, 76, 124, true⟩, ⟨131, 0, 255, false⟩, ⟨256, 256, 511, true⟩, ⟨512, 512, 1023, true⟩, ⟨512, 512, 1023, true⟩, ⟨0, 0, 0, false⟩, ⟨6143, 0, 6143, false⟩, ⟨16383, 2048, 16383, true⟩]), (21, [⟨0, 0, 0, true⟩, ⟨1, 0, 1, false⟩, ⟨2, 2, 3, true⟩, ⟨4, 4, 7, true⟩, ⟨12, 0, 15, false⟩, ⟨20, 20, 31, true⟩, ⟨4, 4, 7, true⟩, ⟨68, 68, 71, true⟩, ⟨164, 164, 255, true⟩, ⟨260, 260, 511, true⟩, ⟨528, 512, 1023, true⟩, ⟨1024, 1024, 2047, true⟩, ⟨3072, 3072, 4095, true⟩, ⟨1024, 1024, 2047, true⟩, ⟨13312, 0, 16383, false⟩, ⟨17408, 0, 32767, false⟩, ⟨33792, 33792, 65535, true⟩, ⟨81920, 65536, 131071, true⟩, ⟨131072, 0, 262143, false⟩, ⟨393216, 393216, 524287, true⟩, ⟨1048575, 524288, 1048575, true⟩])]⟩
theorem F_law19_ImagePieces_eq (k0 : Sl) (k1 : Int) (k2 : Int) (k3 : Sl) (w : World) (Q : Value → World → Prop) : vcFn Tryd.prog A_law19_ImagePieces Tryd.f6 #[.agg #[.slice (k0.a) (k0.len) (k0.cap), .int .i64 (k1), .int .u32 (k2), .slice (k3.a) (k3.len) (k3.cap)]] w Q = F_law19_ImagePieces k0 k1 k2 k3 w Q := by kernel_rfl
theorem F_law19_ImagePieces_does (k0 : Sl) (k1 : Int) (k2 : Int) (k3 : Sl) (w : World) (Q : Value → World → Prop) (hQ : F_law19_ImagePieces k0 k1 k2 k3 w Q) : Does Tryd.prog N_law19_ImagePieces #[.agg #[.slice (k0.a) (k0.len) (k0.cap), .int .i64 (k1), .int .u32 (k2), .slice (k3.a) (k3.len) (k3.cap)]] w Q :=
  vcFn_sound noAsk mixed (A := A_law19_ImagePieces) (by kernel_rfl) Tryd.func6 (Nat.le_of_ble_eq_true (by kernel_rfl)) (by kernel_rfl) ((F_law19_ImagePieces_eq k0 k1 k2 k3 w Q).mpr hQ)

/- nacelle/nacellelaw19.ImageBack -/
def F_law19_ImageBack (m : Array Value) (b : Sl) (w : World) (Q : Value → World → Prop) : Prop :=
  allocK w (m) T_api_Manifest fun a1 w2 =>
  ldArr w2 (a1) 35 fun c3 =>
  Does Tryd.prog N_image_Encode #[.agg (c3)] w2 fun r4 w5 => ∃ l6 : Sl, r4 = .slice (l6.a) (l6.len) (l6.cap) ∧
  ∀ J8 : World → Prop, (∀ w7 : World, 
    (Does Tryd.prog N_image_Decode #[.slice (b.a) (b.len) (b.cap)] w7 fun r9 w10 => ∃ c11 : Array Value, ∃ v12 : Value, r9 = .tuple #[.agg (c11), v12] ∧
    allocK w10 (zc Tryd.prog T_api_Manifest) T_api_Manifest fun a13 w14 =>
    stArr w14 (a13) (c11) 35 fun w15 =>
    runG (.bool) Tryd.prog w15 (do eqGuard .neq T_error (.tmp 37) (.const (.nilIface)) (v12) (.nilIface); binOp .neq T_error (v12) (.nilIface)) fun b16 w17 =>
    cond (b16)
    (ldArr w17 (a13) 35 fun c18 =>
     runG (.bool) Tryd.prog w17 (do eqGuard .eql T_api_Manifest (.tmp 39) (.tmp 40) (.agg (c18)) (.agg #[.int .i64 (0), .int .u32 (0), .int .i64 (0), .int .u8 (0), .int .u8 (0), .int .u8 (0), .int .u8 (0), .int .u8 (0), .int .u8 (0), .int .u8 (0), .int .u8 (0), .int .u8 (0), .int .u8 (0), .int .u8 (0), .int .u8 (0), .int .u8 (0), .int .u8 (0), .int .u8 (0), .int .u8 (0), .int .u8 (0), .int .u8 (0), .int .u8 (0), .int .u8 (0), .int .u8 (0), .int .u8 (0), .int .u8 (0), .int .u8 (0), .int .u8 (0), .int .u8 (0), .int .u8 (0), .int .u8 (0), .int .u8 (0), .int .u8 (0), .int .u8 (0), .int .u8 (0)]); binOp .eql T_api_Manifest (.agg (c18)) (.agg #[.int .i64 (0), .int .u32 (0), .int .i64 (0), .int .u8 (0), .int .u8 (0), .int .u8 (0), .int .u8 (0), .int .u8 (0), .int .u8 (0), .int .u8 (0), .int .u8 (0), .int .u8 (0), .int .u8 (0), .int .u8 (0), .int .u8 (0), .int .u8 (0), .int .u8 (0), .int .u8 (0), .int .u8 (0), .int .u8 (0), .int .u8 (0), .int .u8 (0), .int .u8 (0), .int .u8 (0), .int .u8 (0), .int .u8 (0), .int .u8 (0), .int .u8 (0), .int .u8 (0), .int .u8 (0), .int .u8 (0), .int .u8 (0), .int .u8 (0), .int .u8 (0), .int .u8 (0)])) fun b19 w20 =>
     cond (b19)
     (Does Tryd.prog N_law19_awake #[] w20 fun r21 w22 => ∃ b23 : Bool, r21 = .bool (b23) ∧
      Q (.bool (b23)) w22)
     (Q (.bool (false)) w20))
    (ldArr w17.drew (a13) 35 fun c24 =>
     ∃ s25 : ByteArray, (convert T_l_uint8 T_string (.slice (b.a) (b.len) (b.cap))).run Tryd.prog w17.drew = .ok (.string (s25)) w17.drew ∧
     Does Tryd.prog N_image_Encode #[.agg (c24)] w17.drew fun r26 w27 => ∃ l28 : Sl, r26 = .slice (l28.a) (l28.len) (l28.cap) ∧
     (convert T_l_uint8 T_string (.slice (b.a) (b.len) (b.cap))).run Tryd.prog w27 = .ok (.string (s25)) w27 ∧ ∃ s29 : ByteArray, (convert T_l_uint8 T_string (.slice (l28.a) (l28.len) (l28.cap))).run Tryd.prog w27 = .ok (.string (s29)) w27 ∧
     cond ((s29).toList == (s25).toList)
     (Does Tryd.prog N_law19_awake #[] w27 fun r30 w31 => ∃ b32 : Bool, r30 = .bool (b32) ∧
      Q (.bool (b32)) w31)
     (Q (.bool (false)) w27))) → J8 w7) →
  cond (decide (((((l6.len : Nat) : Int)) : Int) > 0))
  (Does Tryd.prog N_image_Decode #[.slice (l6.a) (l6.len) (l6.cap)] w5 fun r33 w34 => ∃ c35 : Array Value, ∃ v36 : Value, r33 = .tuple #[.agg (c35), v36] ∧
   allocK w34 (zc Tryd.prog T_api_Manifest) T_api_Manifest fun a37 w38 =>
   stArr w38 (a37) (c35) 35 fun w39 =>
   runG (.bool) Tryd.prog w39 (do eqGuard .neq T_error (.tmp 20) (.const (.nilIface)) (v36) (.nilIface); binOp .neq T_error (v36) (.nilIface)) fun b40 w41 =>
   cond (b40)
   (Q (.bool (false)) w41)
   (ldArr w41 (a37) 35 fun c42 =>
    ldArr w41 (a1) 35 fun c43 =>
    runG (.bool) Tryd.prog w41 (do eqGuard .neq T_api_Manifest (.tmp 23) (.tmp 24) (.agg (c42)) (.agg (c43)); binOp .neq T_api_Manifest (.agg (c42)) (.agg (c43))) fun b44 w45 =>
    cond (b44)
    (Q (.bool (false)) w45)
    (cond (((((l6.len : Nat) : Int)) : Int) != 40)
     (Q (.bool (false)) w45)
     (J8 w45))))
  (J8 w5)
def A_law19_ImageBack : Ann := ⟨[], [(6, [])], [(9, [⟨0, 0, 0, true⟩, ⟨1, 0, 1, false⟩, ⟨2, 2, 3, true⟩, ⟨0, 0, 0, true⟩, ⟨8, 8, 8, true⟩, ⟨20, 20, 31, true⟩, ⟨34, 32, 63, true⟩, ⟨64, 0, 127, false⟩, ⟨192, 192, 255, true⟩, ⟨511, 256, 511, true⟩])]⟩
theorem F_law19_ImageBack_eq (m : Array Value) (b : Sl) (w : World) (Q : Value → World → Prop) : vcFn Tryd.prog A_law19_ImageBack Tryd.f7 #[.agg (m), .slice (b.a) (b.len) (b.cap)] w Q = F_law19_ImageBack m b w Q := by kernel_rfl
theorem F_law19_ImageBack_does (m : Array Value) (b : Sl) (w : World) (Q : Value → World → Prop) (hQ : F_law19_ImageBack m b w Q) : Does Tryd.prog N_law19_ImageBack #[.agg (m), .slice (b.a) (b.len) (b.cap)] w Q :=
  vcFn_sound noAsk mixed (A := A_law19_ImageBack) (by kernel_rfl) Tryd.func7 (Nat.le_of_ble_eq_true (by kernel_rfl)) (by kernel_rfl) ((F_law19_ImageBack_eq m b w Q).mpr hQ)

/- nacelle/nacellelaw19.few -/
def F_law19_few (b : Sl) (n : Int) (w : World) (Q : Value → World → Prop) : Prop :=
  cond (decide (((((b.len : Nat) : Int)) : Int) > n))
  (slcT ⟨b.a, b.len, b.cap⟩ (0) (n) 1 fun l1 =>
   Q (.slice (l1.a) (l1.len) (l1.cap)) w)
  (Q (.slice (b.a) (b.len) (b.cap)) w)
def A_law19_few : Ann := ⟨[], [], []⟩
theorem F_law19_few_eq (b : Sl) (n : Int) (w : World) (Q : Value → World → Prop) : vcFn Tryd.prog A_law19_few Tryd.f8 #[.slice (b.a) (b.len) (b.cap), .int .i64 (n)] w Q = F_law19_few b n w Q := by kernel_rfl
theorem F_law19_few_does (b : Sl) (n : Int) (w : World) (Q : Value → World → Prop) (hQ : F_law19_few b n w Q) : Does Tryd.prog N_law19_few #[.slice (b.a) (b.len) (b.cap), .int .i64 (n)] w Q :=
  vcFn_sound noAsk mixed (A := A_law19_few) (by kernel_rfl) Tryd.func8 (Nat.le_of_ble_eq_true (by kernel_rfl)) (by kernel_rfl) ((F_law19_few_eq b n w Q).mpr hQ)

/- nacelle/image.Begin -/
def F_image_Begin (m : Array Value) (w : World) (Q : Value → World → Prop) : Prop :=
  allocK w (m) T_api_Manifest fun a1 w2 =>
  allocK w2 (zc Tryd.prog T_api_Staging) T_api_Staging fun a3 w4 =>
  ldArr w4 (a1) 35 fun c5 =>
  Does Tryd.prog N_image_may #[.agg (c5)] w4 fun r6 w7 => ∃ b8 : Bool, r6 = .bool (b8) ∧
  cond (!b8)
  (stArr w7 (a3) (#[.int .i64 (0), .int .u32 (0), .int .i64 (0), .int .u8 (0), .int .u8 (0), .int .u8 (0), .int .u8 (0), .int .u8 (0), .int .u8 (0), .int .u8 (0), .int .u8 (0), .int .u8 (0), .int .u8 (0), .int .u8 (0), .int .u8 (0), .int .u8 (0), .int .u8 (0), .int .u8 (0), .int .u8 (0), .int .u8 (0), .int .u8 (0), .int .u8 (0), .int .u8 (0), .int .u8 (0), .int .u8 (0), .int .u8 (0), .int .u8 (0), .int .u8 (0), .int .u8 (0), .int .u8 (0), .int .u8 (0), .int .u8 (0), .int .u8 (0), .int .u8 (0), .int .u8 (0), .slice (none) (0) (0)]) 36 fun w9 =>
   ldArr w9 (a3) 36 fun c10 =>
   Q (.tuple #[.agg (c10), .int .i64 (1)]) w9)
  (ldArr w7 (a1) 35 fun c11 =>
   buildK Tryd.prog T_api_Staging #[(0, .agg (c11))] fun c12 =>
   stArr w7 (a3) (c12) 36 fun w13 =>
   ldArr w13 (a3) 36 fun c14 =>
   Q (.tuple #[.agg (c14), .int .i64 (0)]) w13)
def A_image_Begin : Ann := ⟨[], [], []⟩
theorem F_image_Begin_eq (m : Array Value) (w : World) (Q : Value → World → Prop) : vcFn Tryd.prog A_image_Begin Tryd.f9 #[.agg (m)] w Q = F_image_Begin m w Q := by kernel_rfl
theorem F_image_Begin_does (m : Array Value) (w : World) (Q : Value → World → Prop) (hQ : F_image_Begin m w Q) : Does Tryd.prog N_image_Begin #[.agg (m)] w Q :=
  vcFn_sound noAsk mixed (A := A_image_Begin) (by kernel_rfl) Tryd.func9 (Nat.le_of_ble_eq_true (by kernel_rfl)) (by kernel_rfl) ((F_image_Begin_eq m w Q).mpr hQ)

/- nacelle/nacelleref19.May -/
def F_ref19_May (m : Array Value) (w : World) (Q : Value → World → Prop) : Prop :=
  allocK w (m) T_api_Manifest fun a1 w2 =>
  ∀ J4 : World → Prop, (∀ w3 : World, 
    (ldT (.int .i64) w3 ((a1).add 2) fun x5 =>
    (4 : Int) ≠ 0 ∧
    ldT (.int .i64) w3 ((a1).add 2) fun x6 =>
    Q (.bool (((IntKind.wrap .i64 ((IntKind.wrap .i64 (Int.tdiv x5 4)) * 4)) : Int) == x6)) w3) → J4 w3) →
  ldT (.int .i64) w2 (a1) fun x7 =>
  cond (decide ((x7 : Int) < 0))
  (Q (.bool (false)) w2)
  (ldT (.int .i64) w2 (a1) fun x8 =>
   cond (decide ((x8 : Int) > 7))
   (Q (.bool (false)) w2)
   (ldT (.int .i64) w2 ((a1).add 2) fun x9 =>
    cond (decide ((x9 : Int) < 1))
    (Q (.bool (false)) w2)
    (ldT (.int .i64) w2 ((a1).add 2) fun x10 =>
     cond (decide ((x10 : Int) > 512))
     (Q (.bool (false)) w2)
     (J4 w2))))
def A_ref19_May : Ann := ⟨[], [(3, [])], []⟩
theorem F_ref19_May_eq (m : Array Value) (w : World) (Q : Value → World → Prop) : vcFn Tryd.prog A_ref19_May Tryd.f10 #[.agg (m)] w Q = F_ref19_May m w Q := by kernel_rfl
theorem F_ref19_May_does (m : Array Value) (w : World) (Q : Value → World → Prop) (hQ : F_ref19_May m w Q) : Does Tryd.prog N_ref19_May #[.agg (m)] w Q :=
  vcFn_sound noAsk mixed (A := A_ref19_May) (by kernel_rfl) Tryd.func10 (Nat.le_of_ble_eq_true (by kernel_rfl)) (by kernel_rfl) ((F_ref19_May_eq m w Q).mpr hQ)

/- nacelle/nacellelaw19.same -/
def F_law19_same (a : Array Value) (b : Array Value) (w : World) (Q : Value → World → Prop) : Prop :=
  allocK w (a) T_api_Staging fun a1 w2 =>
  allocK w2 (b) T_api_Staging fun a3 w4 =>
  ldArr w4 (a1) 35 fun c5 =>
  ldArr w4 (a3) 35 fun c6 =>
  runG (.bool) Tryd.prog w4 (do eqGuard .eql T_api_Manifest (.tmp 6) (.tmp 8) (.agg (c5)) (.agg (c6)); binOp .eql T_api_Manifest (.agg (c5)) (.agg (c6))) fun b7 w8 =>
  cond (b7)
  (ldT (.sl) w8 ((a1).add 35) fun l9 =>
   lookS Tryd.prog w8 (convert T_l_uint8 T_string (.slice (l9.a) (l9.len) (l9.cap))) fun s10 =>
   ldT (.sl) w8 ((a3).add 35) fun l11 =>
   lookS Tryd.prog w8 (convert T_l_uint8 T_string (.slice (l11.a) (l11.len) (l11.cap))) fun s12 =>
   Q (.bool ((s10).toList == (s12).toList)) w8)
  (Q (.bool (false)) w8)
def A_law19_same : Ann := ⟨[], [], []⟩
theorem F_law19_same_eq (a : Array Value) (b : Array Value) (w : World) (Q : Value → World → Prop) : vcFn Tryd.prog A_law19_same Tryd.f11 #[.agg (a), .agg (b)] w Q = F_law19_same a b w Q := by kernel_rfl
theorem F_law19_same_does (a : Array Value) (b : Array Value) (w : World) (Q : Value → World → Prop) (hQ : F_law19_same a b w Q) : Does Tryd.prog N_law19_same #[.agg (a), .agg (b)] w Q :=
  vcFn_sound noAsk mixed (A := A_law19_same) (by kernel_rfl) Tryd.func11 (Nat.le_of_ble_eq_true (by kernel_rfl)) (by kernel_rfl) ((F_law19_same_eq a b w Q).mpr hQ)

/- nacelle/image.Chunk -/
def F_image_Chunk (s : Array Value) (at_ : Int) (b : Sl) (w : World) (Q : Value → World → Prop) : Prop :=
  allocK w (s) T_api_Staging fun a1 w2 =>
  allocK w2 (zc Tryd.prog T_api_Staging) T_api_Staging fun a3 w4 =>
  ldT (.sl) w4 ((a1).add 35) fun l5 =>
  ∀ J7 : World → Prop, (∀ w6 : World, 
    (runG (.sl) Tryd.prog w6 (Instr.makeSlice T_l_uint8 (.int .i64 (0)) (.int .i64 (IntKind.wrap .i64 ((((l5.len : Nat) : Int)) + (((b.len : Nat) : Int)))))) fun l8 w9 =>
    ldT (.sl) w9 ((a1).add 35) fun l10 =>
    runG (.sl) Tryd.prog w9 (Builtin.append_ #[T_l_uint8, T_l_uint8] T_l_uint8 #[.slice (l8.a) (l8.len) (l8.cap), .slice (l10.a) (l10.len) (l10.cap)]) fun l11 w12 =>
    runG (.sl) Tryd.prog w12 (Builtin.append_ #[T_l_uint8, T_l_uint8] T_l_uint8 #[.slice (l11.a) (l11.len) (l11.cap), .slice (b.a) (b.len) (b.cap)]) fun l13 w14 =>
    stC w14 ((a1).add 35) (.slice (l13.a) (l13.len) (l13.cap)) fun w15 =>
    ldArr w15 (a1) 36 fun c16 =>
    stArr w15 (a3) (c16) 36 fun w17 =>
    ldArr w17 (a3) 36 fun c18 =>
    Q (.tuple #[.agg (c18), .int .i64 (0)]) w17) → J7 w6) →
  ∀ J21 : Bool → World → Prop, (∀ b19 : Bool, ∀ w20 : World, 
    (cond (b19)
    (stArr w20 (a3) (#[.int .i64 (0), .int .u32 (0), .int .i64 (0), .int .u8 (0), .int .u8 (0), .int .u8 (0), .int .u8 (0), .int .u8 (0), .int .u8 (0), .int .u8 (0), .int .u8 (0), .int .u8 (0), .int .u8 (0), .int .u8 (0), .int .u8 (0), .int .u8 (0), .int .u8 (0), .int .u8 (0), .int .u8 (0), .int .u8 (0), .int .u8 (0), .int .u8 (0), .int .u8 (0), .int .u8 (0), .int .u8 (0), .int .u8 (0), .int .u8 (0), .int .u8 (0), .int .u8 (0), .int .u8 (0), .int .u8 (0), .int .u8 (0), .int .u8 (0), .int .u8 (0), .int .u8 (0), .slice (none) (0) (0)]) 36 fun w22 =>
     ldArr w22 (a3) 36 fun c23 =>
     Q (.tuple #[.agg (c23), .int .i64 (1)]) w22)
    (cond ((at_ : Int) != (((l5.len : Nat) : Int)))
     (stArr w20 (a3) (#[.int .i64 (0), .int .u32 (0), .int .i64 (0), .int .u8 (0), .int .u8 (0), .int .u8 (0), .int .u8 (0), .int .u8 (0), .int .u8 (0), .int .u8 (0), .int .u8 (0), .int .u8 (0), .int .u8 (0), .int .u8 (0), .int .u8 (0), .int .u8 (0), .int .u8 (0), .int .u8 (0), .int .u8 (0), .int .u8 (0), .int .u8 (0), .int .u8 (0), .int .u8 (0), .int .u8 (0), .int .u8 (0), .int .u8 (0), .int .u8 (0), .int .u8 (0), .int .u8 (0), .int .u8 (0), .int .u8 (0), .int .u8 (0), .int .u8 (0), .int .u8 (0), .int .u8 (0), .slice (none) (0) (0)]) 36 fun w24 =>
      ldArr w24 (a3) 36 fun c25 =>
      Q (.tuple #[.agg (c25), .int .i64 (4)]) w24)
     (ldT (.int .i64) w20 ((a1).add 2) fun x26 =>
      cond (decide (((((b.len : Nat) : Int)) : Int) > (IntKind.wrap .i64 (x26 - (((l5.len : Nat) : Int))))))
      (stArr w20 (a3) (#[.int .i64 (0), .int .u32 (0), .int .i64 (0), .int .u8 (0), .int .u8 (0), .int .u8 (0), .int .u8 (0), .int .u8 (0), .int .u8 (0), .int .u8 (0), .int .u8 (0), .int .u8 (0), .int .u8 (0), .int .u8 (0), .int .u8 (0), .int .u8 (0), .int .u8 (0), .int .u8 (0), .int .u8 (0), .int .u8 (0), .int .u8 (0), .int .u8 (0), .int .u8 (0), .int .u8 (0), .int .u8 (0), .int .u8 (0), .int .u8 (0), .int .u8 (0), .int .u8 (0), .int .u8 (0), .int .u8 (0), .int .u8 (0), .int .u8 (0), .int .u8 (0), .int .u8 (0), .slice (none) (0) (0)]) 36 fun w27 =>
       ldArr w27 (a3) 36 fun c28 =>
       Q (.tuple #[.agg (c28), .int .i64 (7)]) w27)
      (J7 w20)))) → J21 b19 w20) →
  ldArr w4 (a1) 35 fun c29 =>
  Does Tryd.prog N_image_may #[.agg (c29)] w4 fun r30 w31 => ∃ b32 : Bool, r30 = .bool (b32) ∧
  cond (!b32)
  (J21 true w31)
  (ldT (.int .i64) w31 ((a1).add 2) fun x33 =>
   J21 (decide (((((l5.len : Nat) : Int)) : Int) > x33)) w31)
def A_image_Chunk : Ann := ⟨[], [(3, [(13, .one (.bool))]), (8, [])], []⟩
theorem F_image_Chunk_eq (s : Array Value) (at_ : Int) (b : Sl) (w : World) (Q : Value → World → Prop) : vcFn Tryd.prog A_image_Chunk Tryd.f12 #[.agg (s), .int .i64 (at_), .slice (b.a) (b.len) (b.cap)] w Q = F_image_Chunk s at_ b w Q := by kernel_rfl
theorem F_image_Chunk_does (s : Array Value) (at_ : Int) (b : Sl) (w : World) (Q : Value → World → Prop) (hQ : F_image_Chunk s at_ b w Q) : Does Tryd.prog N_image_Chunk #[.agg (s), .int .i64 (at_), .slice (b.a) (b.len) (b.cap)] w Q :=
  vcFn_sound noAsk mixed (A := A_image_Chunk) (by kernel_rfl) Tryd.func12 (Nat.le_of_ble_eq_true (by kernel_rfl)) (by kernel_rfl) ((F_image_Chunk_eq s at_ b w Q).mpr hQ)

/- nacelle/nacelleref19.Chunk -/
def F_ref19_Chunk (s : Array Value) (at_ : Int) (b : Sl) (w : World) (Q : Value → World → Prop) : Prop :=
  allocK w (s) T_api_Staging fun a1 w2 =>
  allocK w2 (zc Tryd.prog T_api_Staging) T_api_Staging fun a3 w4 =>
  ∀ J6 : World → Prop, (∀ w5 : World, 
    (ldT (.sl) w5 ((a1).add 35) fun l7 =>
    cond ((at_ : Int) != (((l7.len : Nat) : Int)))
    (stArr w5 (a3) (#[.int .i64 (0), .int .u32 (0), .int .i64 (0), .int .u8 (0), .int .u8 (0), .int .u8 (0), .int .u8 (0), .int .u8 (0), .int .u8 (0), .int .u8 (0), .int .u8 (0), .int .u8 (0), .int .u8 (0), .int .u8 (0), .int .u8 (0), .int .u8 (0), .int .u8 (0), .int .u8 (0), .int .u8 (0), .int .u8 (0), .int .u8 (0), .int .u8 (0), .int .u8 (0), .int .u8 (0), .int .u8 (0), .int .u8 (0), .int .u8 (0), .int .u8 (0), .int .u8 (0), .int .u8 (0), .int .u8 (0), .int .u8 (0), .int .u8 (0), .int .u8 (0), .int .u8 (0), .slice (none) (0) (0)]) 36 fun w8 =>
     ldArr w8 (a3) 36 fun c9 =>
     Q (.tuple #[.agg (c9), .int .i64 (4)]) w8)
    (ldT (.sl) w5 ((a1).add 35) fun l10 =>
     ldT (.int .i64) w5 ((a1).add 2) fun x11 =>
     cond (decide (((IntKind.wrap .i64 ((((l10.len : Nat) : Int)) + (((b.len : Nat) : Int)))) : Int) > x11))
     (stArr w5 (a3) (#[.int .i64 (0), .int .u32 (0), .int .i64 (0), .int .u8 (0), .int .u8 (0), .int .u8 (0), .int .u8 (0), .int .u8 (0), .int .u8 (0), .int .u8 (0), .int .u8 (0), .int .u8 (0), .int .u8 (0), .int .u8 (0), .int .u8 (0), .int .u8 (0), .int .u8 (0), .int .u8 (0), .int .u8 (0), .int .u8 (0), .int .u8 (0), .int .u8 (0), .int .u8 (0), .int .u8 (0), .int .u8 (0), .int .u8 (0), .int .u8 (0), .int .u8 (0), .int .u8 (0), .int .u8 (0), .int .u8 (0), .int .u8 (0), .int .u8 (0), .int .u8 (0), .int .u8 (0), .slice (none) (0) (0)]) 36 fun w12 =>
      ldArr w12 (a3) 36 fun c13 =>
      Q (.tuple #[.agg (c13), .int .i64 (7)]) w12)
     (ldArr w5.drew (a1) 35 fun c14 =>
      ldT (.sl) w5.drew ((a1).add 35) fun l15 =>
      allocK w5.drew #[] T_uint8 fun a16 w17 =>
      w17.cell? ((a1).add 35) = some (.slice (l15.a) (l15.len) (l15.cap)) ∧ ((c14 : Array Value).size = 35 ∧ RowIs w17 (a1) c14) ∧ runG (.sl) Tryd.prog w17 (Builtin.append_ #[T_l_uint8, T_l_uint8] T_l_uint8 #[.slice (some (a16)) (0) (0), .slice (l15.a) (l15.len) (l15.cap)]) fun l18 w19 =>
      ((c14 : Array Value).size = 35 ∧ RowIs w19 (a1) c14) ∧ runG (.sl) Tryd.prog w19 (Builtin.append_ #[T_l_uint8, T_l_uint8] T_l_uint8 #[.slice (l18.a) (l18.len) (l18.cap), .slice (b.a) (b.len) (b.cap)]) fun l20 w21 =>
      ((c14 : Array Value).size = 35 ∧ RowIs w21 (a1) c14) ∧ buildK Tryd.prog T_api_Staging #[(0, .agg (c14)), (1, .slice (l20.a) (l20.len) (l20.cap))] fun c22 =>
      stArr w21 (a3) (c22) 36 fun w23 =>
      ldArr w23 (a3) 36 fun c24 =>
      Q (.tuple #[.agg (c24), .int .i64 (0)]) w23))) → J6 w5) →
  ∀ J27 : Bool → World → Prop, (∀ b25 : Bool, ∀ w26 : World, 
    (cond (b25)
    (stArr w26 (a3) (#[.int .i64 (0), .int .u32 (0), .int .i64 (0), .int .u8 (0), .int .u8 (0), .int .u8 (0), .int .u8 (0), .int .u8 (0), .int .u8 (0), .int .u8 (0), .int .u8 (0), .int .u8 (0), .int .u8 (0), .int .u8 (0), .int .u8 (0), .int .u8 (0), .int .u8 (0), .int .u8 (0), .int .u8 (0), .int .u8 (0), .int .u8 (0), .int .u8 (0), .int .u8 (0), .int .u8 (0), .int .u8 (0), .int .u8 (0), .int .u8 (0), .int .u8 (0), .int .u8 (0), .int .u8 (0), .int .u8 (0), .int .u8 (0), .int .u8 (0), .int .u8 (0), .int .u8 (0), .slice (none) (0) (0)]) 36 fun w28 =>
     ldArr w28 (a3) 36 fun c29 =>
     Q (.tuple #[.agg (c29), .int .i64 (1)]) w28)
    (J6 w26)) → J27 b25 w26) →
  ldArr w4 (a1) 35 fun c30 =>
  Does Tryd.prog N_ref19_May #[.agg (c30)] w4 fun r31 w32 => ∃ b33 : Bool, r31 = .bool (b33) ∧
  cond (!b33)
  (J27 true w32)
  (ldT (.sl) w32 ((a1).add 35) fun l34 =>
   ldT (.int .i64) w32 ((a1).add 2) fun x35 =>
   J27 (decide (((((l34.len : Nat) : Int)) : Int) > x35)) w32)
def A_ref19_Chunk : Ann := ⟨[], [(2, [(20, .one (.bool))]), (3, [])], [(7, [⟨0, 0, 0, true⟩, ⟨1, 1, 1, true⟩, ⟨0, 0, 0, false⟩, ⟨0, 0, 0, true⟩, ⟨8, 8, 8, true⟩, ⟨20, 0, 28, false⟩, ⟨0, 0, 0, true⟩, ⟨96, 0, 124, false⟩, ⟨130, 130, 255, true⟩, ⟨511, 0, 511, false⟩, ⟨1023, 0, 1023, true⟩])]⟩
theorem F_ref19_Chunk_eq (s : Array Value) (at_ : Int) (b : Sl) (w : World) (Q : Value → World → Prop) : vcFn Tryd.prog A_ref19_Chunk Tryd.f13 #[.agg (s), .int .i64 (at_), .slice (b.a) (b.len) (b.cap)] w Q = F_ref19_Chunk s at_ b w Q := by kernel_rfl
theorem F_ref19_Chunk_does (s : Array Value) (at_ : Int) (b : Sl) (w : World) (Q : Value → World → Prop) (hQ : F_ref19_Chunk s at_ b w Q) : Does Tryd.prog N_ref19_Chunk #[.agg (s), .int .i64 (at_), .slice (b.a) (b.len) (b.cap)] w Q :=
  vcFn_sound noAsk mixed (A := A_ref19_Chunk) (by kernel_rfl) Tryd.func13 (Nat.le_of_ble_eq_true (by kernel_rfl)) (by kernel_rfl) ((F_ref19_Chunk_eq s at_ b w Q).mpr hQ)

/- nacelle/image.Finish -/
def F_image_Finish (s : Array Value) (w : World) (Q : Value → World → Prop) : Prop :=
  allocK w (s) T_api_Staging fun a1 w2 =>
  ldArr w2 (a1) 35 fun c3 =>
  ldT (.sl) w2 ((a1).add 35) fun l4 =>
  Does Tryd.prog N_image_program #[.agg (c3), .slice (l4.a) (l4.len) (l4.cap)] w2 fun r5 w6 => ∃ l7 : Sl, ∃ v8 : Value, r5 = .tuple #[.slice (l7.a) (l7.len) (l7.cap), v8] ∧
  Q (.tuple #[.slice (l7.a) (l7.len) (l7.cap), v8]) w6
def A_image_Finish : Ann := ⟨[], [], []⟩
theorem F_image_Finish_eq (s : Array Value) (w : World) (Q : Value → World → Prop) : vcFn Tryd.prog A_image_Finish Tryd.f14 #[.agg (s)] w Q = F_image_Finish s w Q := by kernel_rfl
theorem F_image_Finish_does (s : Array Value) (w : World) (Q : Value → World → Prop) (hQ : F_image_Finish s w Q) : Does Tryd.prog N_image_Finish #[.agg (s)] w Q :=
  vcFn_sound noAsk mixed (A := A_image_Finish) (by kernel_rfl) Tryd.func14 (Nat.le_of_ble_eq_true (by kernel_rfl)) (by kernel_rfl) ((F_image_Finish_eq s w Q).mpr hQ)

/- nacelle/nacelleref19.Check -/
def F_ref19_Check (m : Array Value) (b : Sl) (w : World) (Q : Value → World → Prop) : Prop :=
  allocK w (m) T_api_Manifest fun a1 w2 =>
  ldArr w2 (a1) 35 fun c3 =>
  Does Tryd.prog N_ref19_May #[.agg (c3)] w2 fun r4 w5 => ∃ b6 : Bool, r4 = .bool (b6) ∧
  cond (!b6)
  (allocK w5 #[.int .i64 (0)] T_int fun a7 w8 =>
   Q (.tuple #[.int .i64 (1), .slice (some (a7)) (1) (1)]) w8)
  (ldT (.int .i64) w5 ((a1).add 2) fun x9 =>
   cond (decide (((((b.len : Nat) : Int)) : Int) < x9))
   (allocK w5 #[.int .i64 (((b.len : Nat) : Int))] T_int fun a10 w11 =>
    Q (.tuple #[.int .i64 (2), .slice (some (a10)) (1) (1)]) w11)
   (ldT (.int .i64) w5 ((a1).add 2) fun x12 =>
    cond (decide (((((b.len : Nat) : Int)) : Int) > x12))
    (ldT (.int .i64) w5.drew ((a1).add 2) fun x13 =>
     allocK w5.drew #[.int .i64 (x13)] T_int fun a14 w15 =>
     Q (.tuple #[.int .i64 (7), .slice (some (a14)) (1) (1)]) w15)
    (ldArr w5.drew ((a1).add 3) 32 fun c16 =>
     Does Tryd.prog N_ref04_Sum #[.slice (b.a) (b.len) (b.cap)] w5.drew fun r17 w18 => ∃ c19 : Array Value, r17 = .agg (c19) ∧
     ((c16 : Array Value).size = 32 ∧ RowIs w18 ((a1).add 3) c16) ∧ runG (.bool) Tryd.prog w18 (do eqGuard .neq T_a32_uint8 (.tmp 29) (.tmp 31) (.agg (c19)) (.agg (c16)); binOp .neq T_a32_uint8 (.agg (c19)) (.agg (c16))) fun b20 w21 =>
     cond (b20)
     (allocK w21 #[.int .i64 (0)] T_int fun a22 w23 =>
      Q (.tuple #[.int .i64 (8), .slice (some (a22)) (1) (1)]) w23)
     (Does Tryd.prog N_ref07_List #[.slice (b.a) (b.len) (b.cap)] w21 fun r24 w25 => ∃ l26 : Sl, r24 = .slice (l26.a) (l26.len) (l26.cap) ∧
      Does Tryd.prog N_ref07_Check #[.slice (l26.a) (l26.len) (l26.cap)] w25 fun r27 w28 => ∃ x29 : Int, ∃ x30 : Int, r27 = .tuple #[.int .i64 (x29), .int .i64 (x30)] ∧
      cond ((x29 : Int) != 0)
      (ldT (.int .u32) w28.drew ((a1).add 1) fun x31 =>
       allocK w28.drew #[.int .i64 (IntKind.wrap .i64 x31), .int .i64 (IntKind.wrap .i64 (4 * x30)), .int .i64 (x30)] T_int fun a32 w33 =>
       Q (.tuple #[.int .i64 (x29), .slice (some (a32)) (3) (3)]) w33)
      (Q (.tuple #[.int .i64 (0), .slice (none) (0) (0)]) w28)))))
def A_ref19_Check : Ann := ⟨[], [], [(6, [⟨0, 0, 0, true⟩, ⟨1, 1, 1, true⟩, ⟨2, 0, 3, false⟩, ⟨0, 0, 0, true⟩, ⟨15, 4, 15, true⟩]), (7, [⟨0, 0, 0, true⟩, ⟨1, 0, 1, false⟩, ⟨0, 0, 0, true⟩, ⟨4, 4, 4, true⟩, ⟨10, 0, 15, false⟩]), (11, [⟨0, 0, 0, true⟩, ⟨0, 0, 0, true⟩, ⟨2, 2, 2, true⟩, ⟨4, 4, 6, true⟩, ⟨0, 0, 0, true⟩, ⟨16, 16, 16, true⟩, ⟨0, 0, 0, true⟩, ⟨104, 0, 126, false⟩, ⟨1, 1, 1, true⟩, ⟨511, 128, 511, true⟩])]⟩
theorem F_ref19_Check_eq (m : Array Value) (b : Sl) (w : World) (Q : Value → World → Prop) : vcFn Tryd.prog A_ref19_Check Tryd.f15 #[.agg (m), .slice (b.a) (b.len) (b.cap)] w Q = F_ref19_Check m b w Q := by kernel_rfl
theorem F_ref19_Check_does (m : Array Value) (b : Sl) (w : World) (Q : Value → World → Prop) (hQ : F_ref19_Check m b w Q) : Does Tryd.prog N_ref19_Check #[.agg (m), .slice (b.a) (b.len) (b.cap)] w Q :=
  vcFn_sound noAsk mixed (A := A_ref19_Check) (by kernel_rfl) Tryd.func15 (Nat.le_of_ble_eq_true (by kernel_rfl)) (by kernel_rfl) ((F_ref19_Check_eq m b w Q).mpr hQ)

/- nacelle/nacellelaw19.told -/
def F_law19_told (e : Value) (n : Int) (path : Sl) (w : World) (Q : Value → World → Prop) : Prop :=
  Does Tryd.prog N_fault_Path #[e] w fun r1 w2 => ∃ l3 : Sl, r1 = .slice (l3.a) (l3.len) (l3.cap) ∧
  ∀ J5 : World → Prop, (∀ w4 : World, 
    (∃ (I8 : Int → World → Prop) (M9 : Int → World → Nat), I8 0 w4 ∧
    ∀ i6 : Int, ∀ w7 : World, I8 i6 w7 →
      cond (decide ((i6 : Int) < (((l3.len : Nat) : Int))))
      (idx (l3.a) (l3.len) (i6) 1 fun a10 =>
       ldT (.int .i64) w7.drew (a10) fun x11 =>
       idx (path.a) (path.len) (i6) 1 fun a12 =>
       ldT (.int .i64) w7.drew (a12) fun x13 =>
       cond ((x11 : Int) != x13)
       (Q (.bool (false)) w7.drew)
       (I8 (IntKind.wrap .i64 (i6 + 1)) w7.drew ∧ M9 (IntKind.wrap .i64 (i6 + 1)) w7.drew < M9 i6 w7))
      (Q (.bool (true)) w7)) → J5 w4) →
  Does Tryd.prog N_fault_Code #[e] w2 fun r14 w15 => ∃ x16 : Int, r14 = .int .i64 (x16) ∧
  cond ((x16 : Int) != n)
  (Q (.bool (false)) w15)
  (cond (((((l3.len : Nat) : Int)) : Int) != (((path.len : Nat) : Int)))
   (Q (.bool (false)) w15)
   (runG (.bool) Tryd.prog w15 (do eqGuard .eql T_error (.tmp 23) (.const (.nilIface)) (e) (.nilIface); binOp .eql T_error (e) (.nilIface)) fun b17 w18 =>
    cond (!(b17 == ((n : Int) == 0)))
    (Q (.bool (false)) w18)
    (J5 w18)))
def A_law19_told : Ann := ⟨[(5, [(8, .one (.int .i64))])], [(4, [])], [(7, [⟨0, 0, 0, true⟩, ⟨0, 0, 0, true⟩, ⟨3, 3, 3, true⟩, ⟨4, 4, 7, true⟩, ⟨0, 0, 0, true⟩, ⟨0, 0, 0, true⟩, ⟨48, 48, 48, true⟩, ⟨64, 64, 112, true⟩, ⟨136, 136, 255, true⟩])]⟩
theorem F_law19_told_eq (e : Value) (n : Int) (path : Sl) (w : World) (Q : Value → World → Prop) : vcFn Tryd.prog A_law19_told Tryd.f16 #[e, .int .i64 (n), .slice (path.a) (path.len) (path.cap)] w Q = F_law19_told e n path w Q := by kernel_rfl
theorem F_law19_told_does (e : Value) (n : Int) (path : Sl) (w : World) (Q : Value → World → Prop) (hQ : F_law19_told e n path w Q) : Does Tryd.prog N_law19_told #[e, .int .i64 (n), .slice (path.a) (path.len) (path.cap)] w Q :=
  vcFn_sound noAsk mixed (A := A_law19_told) (by kernel_rfl) Tryd.func16 (Nat.le_of_ble_eq_true (by kernel_rfl)) (by kernel_rfl) ((F_law19_told_eq e n path w Q).mpr hQ)

/- nacelle/nacellelaw19.awake -/
def F_law19_awake (w : World) (Q : Value → World → Prop) : Prop :=
  allocK w #[.int .u8 (0), .int .u8 (0), .int .u8 (0), .int .u8 (0)] T_uint8 fun a1 w2 =>
  Does Tryd.prog N_image_Of #[.int .i64 (1), .int .u32 (7), .slice (some (a1)) (4) (4)] w2 fun r3 w4 => ∃ c5 : Array Value, r3 = .agg (c5) ∧
  allocK w4 (zc Tryd.prog T_api_Manifest) T_api_Manifest fun a6 w7 =>
  stArr w7 (a6) (c5) 35 fun w8 =>
  ldArr w8 (a6) 35 fun c9 =>
  Does Tryd.prog N_image_Begin #[.agg (c9)] w8 fun r10 w11 => ∃ c12 : Array Value, ∃ x13 : Int, r10 = .tuple #[.agg (c12), .int .i64 (x13)] ∧
  allocK w11 (zc Tryd.prog T_api_Staging) T_api_Staging fun a14 w15 =>
  stArr w15 (a14) (c12) 36 fun w16 =>
  ldArr w16.drew (a14) 36 fun c17 =>
  slcT ⟨some (a1), 4, 4⟩ (0) (3) 1 fun l18 =>
  Does Tryd.prog N_image_Chunk #[.agg (c17), .int .i64 (0), .slice (l18.a) (l18.len) (l18.cap)] w16.drew fun r19 w20 => ∃ c21 : Array Value, ∃ x22 : Int, r19 = .tuple #[.agg (c21), .int .i64 (x22)] ∧
  stArr w20 (a14) (c21) 36 fun w23 =>
  ∀ J26 : Int → World → Prop, (∀ g24 : Int, ∀ w25 : World, 
    (ldArr w25 (a14) 36 fun c27 =>
    Does Tryd.prog N_image_Finish #[.agg (c27)] w25 fun r28 w29 => ∃ l30 : Sl, ∃ v31 : Value, r28 = .tuple #[.slice (l30.a) (l30.len) (l30.cap), v31] ∧
    ldArr w29.drew (a14) 36 fun c32 =>
    slcT ⟨some (a1), 4, 4⟩ (0) (1) 1 fun l33 =>
    Does Tryd.prog N_image_Chunk #[.agg (c32), .int .i64 (3), .slice (l33.a) (l33.len) (l33.cap)] w29.drew fun r34 w35 => ∃ c36 : Array Value, ∃ x37 : Int, r34 = .tuple #[.agg (c36), .int .i64 (x37)] ∧
    stArr w35 (a14) (c36) 36 fun w38 =>
    ldArr w38 (a14) 36 fun c39 =>
    Does Tryd.prog N_image_Finish #[.agg (c39)] w38 fun r40 w41 => ∃ l42 : Sl, ∃ v43 : Value, r40 = .tuple #[.slice (l42.a) (l42.len) (l42.cap), v43] ∧
    ldArr w41 (a6) 35 fun c44 =>
    Does Tryd.prog N_image_Encode #[.agg (c44)] w41 fun r45 w46 => ∃ l47 : Sl, r45 = .slice (l47.a) (l47.len) (l47.cap) ∧
    ldT (.int .i64) w46 ((a6).add 2) fun x48 =>
    cond ((x48 : Int) == 4)
    (cond ((x13 : Int) == 0)
     (cond ((x22 : Int) == 0)
      (cond ((g24 : Int) == 4)
       (Does Tryd.prog N_fault_Text #[v31] w46 fun r49 w50 => ∃ s51 : ByteArray, r49 = .string (s51) ∧
        cond ((s51).toList == (((⟨#[50, 64, 51]⟩ : ByteArray))).toList)
        (cond ((x37 : Int) == 0)
         (cond (((((l42.len : Nat) : Int)) : Int) == 1)
          (idx (l42.a) (l42.len) (0) 4 fun a52 =>
           ldT (.int .u8) w50 (a52) fun x53 => ldT (.int .u8) w50 ((a52).add 1) fun x54 => ldT (.int .u8) w50 ((a52).add 2) fun x55 => ldT (.int .u8) w50 ((a52).add 3) fun x56 =>
           runG (.bool) Tryd.prog w50 (do eqGuard .eql T_api_Instr (.tmp 87) (.tmp 88) (.agg #[.int .u8 (x53), .int .u8 (x54), .int .u8 (x55), .int .u8 (x56)]) (.agg #[.int .u8 (0), .int .u8 (0), .int .u8 (0), .int .u8 (0)]); binOp .eql T_api_Instr (.agg #[.int .u8 (x53), .int .u8 (x54), .int .u8 (x55), .int .u8 (x56)]) (.agg #[.int .u8 (0), .int .u8 (0), .int .u8 (0), .int .u8 (0)])) fun b57 w58 =>
           cond (b57)
           (runG (.bool) Tryd.prog w58 (do eqGuard .eql T_error (.tmp 92) (.const (.nilIface)) (v43) (.nilIface); binOp .eql T_error (v43) (.nilIface)) fun b59 w60 =>
            cond (b59)
            (cond (((((l47.len : Nat) : Int)) : Int) == 40)
             (idx (l47.a) (l47.len) (0) 1 fun a61 =>
              ldT (.int .u8) w60 (a61) fun x62 =>
              cond ((x62 : Int) == 77)
              (idx (l47.a) (l47.len) (2) 1 fun a63 =>
               ldT (.int .u8) w60 (a63) fun x64 =>
               Q (.bool ((x64 : Int) == 7)) w60)
              (Q (.bool (false)) w60))
             (Q (.bool (false)) w60))
            (Q (.bool (false)) w60))
           (Q (.bool (false)) w58))
          (Q (.bool (false)) w50))
         (Q (.bool (false)) w50))
        (Q (.bool (false)) w50))
       (Q (.bool (false)) w46))
      (Q (.bool (false)) w46))
     (Q (.bool (false)) w46))
    (Q (.bool (false)) w46)) → J26 g24 w25) →
  ldArr w23.drew (a14) 36 fun c65 =>
  slcT ⟨some (a1), 4, 4⟩ (0) (1) 1 fun l66 =>
  (Does Tryd.prog N_image_Chunk #[.agg (c65), .int .i64 (2), .slice (l66.a) (l66.len) (l66.cap)] w23.drew fun r67 w68 => ∃ c69 : Array Value, ∃ x70 : Int, r67 = .tuple #[.agg (c69), .int .i64 (x70)] ∧
   allocK w68 (zc Tryd.prog T_api_Staging) T_api_Staging fun a71 w72 =>
   stArr w72 (a71) (c69) 36 fun w73 =>
   J26 x70 w73) ∧
  (allocK w23.drew (zc Tryd.prog T_api_Staging) T_api_Staging fun a74 w75 =>
   ((c65 : Array Value).size = 36 ∧ RowIs w75 (a14) c65) ∧ Does Tryd.prog N_image_Chunk #[.agg (c65), .int .i64 (2), .slice (l66.a) (l66.len) (l66.cap)] w75 fun r76 w77 => ∃ c78 : Array Value, ∃ x79 : Int, r76 = .tuple #[.agg (c78), .int .i64 (x79)] ∧
   stArr w77 (a74) (c78) 36 fun w80 =>
   J26 x79 w80)
def A_law19_awake : Ann := ⟨[], [(6, [(7, .one (.int .i64))])], [(4, [⟨0, 0, 0, true⟩, ⟨0, 0, 0, true⟩, ⟨2, 2, 2, true⟩, ⟨5, 0, 7, false⟩, ⟨8, 8, 15, true⟩, ⟨16, 16, 31, true⟩, ⟨16, 16, 31, true⟩, ⟨63, 0, 63, false⟩, ⟨255, 64, 255, true⟩]), (5, [⟨0, 0, 0, true⟩, ⟨0, 0, 0, true⟩, ⟨2, 2, 2, true⟩, ⟨5, 0, 7, false⟩, ⟨8, 8, 15, true⟩, ⟨16, 16, 31, true⟩, ⟨16, 16, 31, true⟩, ⟨0, 0, 0, false⟩, ⟨191, 0, 191, false⟩, ⟨511, 64, 511, true⟩]), (7, [⟨0, 0, 0, true⟩, ⟨0, 0, 0, true⟩, ⟨2, 2, 2, true⟩, ⟨5, 0, 7, false⟩, ⟨8, 8, 15, true⟩, ⟨16, 16, 31, true⟩, ⟨16, 16, 31, true⟩, ⟨63, 0, 63, false⟩, ⟨255, 64, 255, true⟩])]⟩
theorem F_law19_awake_eq (w : World) (Q : Value → World → Prop) : vcFn Tryd.prog A_law19_awake Tryd.f17 #[] w Q = F_law19_awake w Q := by kernel_rfl
theorem F_law19_awake_does (w : World) (Q : Value → World → Prop) (hQ : F_law19_awake w Q) : Does Tryd.prog N_law19_awake #[] w Q :=
  vcFn_sound noAsk mixed (A := A_law19_awake) (by kernel_rfl) Tryd.func17 (Nat.le_of_ble_eq_true (by kernel_rfl)) (by kernel_rfl) ((F_law19_awake_eq w Q).mpr hQ)

/- nacelle/nacelleref07.List -/
def F_ref07_List (b : Sl) (w : World) (Q : Value → World → Prop) : Prop :=
  ∃ (I4 : Sl → Int → World → Prop) (M5 : Sl → Int → World → Nat), I4 ⟨none, 0, 0⟩ 0 w ∧
  ∀ l1 : Sl, ∀ k2 : Int, ∀ w3 : World, I4 l1 k2 w3 →
    cond (decide (((IntKind.wrap .i64 (k2 + 3)) : Int) < (((b.len : Nat) : Int))))
    (idx (b.a) (b.len) (k2) 1 fun a6 =>
     ldT (.int .u8) w3.drew (a6) fun x7 =>
     idx (b.a) (b.len) (IntKind.wrap .i64 (k2 + 1)) 1 fun a8 =>
     ldT (.int .u8) w3.drew (a8) fun x9 =>
     idx (b.a) (b.len) (IntKind.wrap .i64 (k2 + 2)) 1 fun a10 =>
     ldT (.int .u8) w3.drew (a10) fun x11 =>
     idx (b.a) (b.len) (IntKind.wrap .i64 (k2 + 3)) 1 fun a12 =>
     ldT (.int .u8) w3.drew (a12) fun x13 =>
     allocK w3.drew #[.int .u8 (x7), .int .u8 (x9), .int .u8 (x11), .int .u8 (x13)] T_api_Instr fun a14 w15 =>
     runG (.sl) Tryd.prog w15 (Builtin.append_ #[T_l_api_Instr, T_l_api_Instr] T_l_api_Instr #[.slice (l1.a) (l1.len) (l1.cap), .slice (some (a14)) (1) (1)]) fun l16 w17 =>
     I4 ⟨l16.a, l16.len, l16.cap⟩ (IntKind.wrap .i64 (k2 + 4)) w17 ∧ M5 ⟨l16.a, l16.len, l16.cap⟩ (IntKind.wrap .i64 (k2 + 4)) w17 < M5 l1 k2 w3)
    (Q (.slice (l1.a) (l1.len) (l1.cap)) w3)
def A_ref07_List : Ann := ⟨[(3, [(3, .one (.sl)), (4, .one (.int .i64))])], [], [(5, [⟨0, 0, 0, true⟩, ⟨0, 0, 0, true⟩, ⟨0, 0, 0, true⟩, ⟨6, 6, 6, true⟩, ⟨8, 8, 14, true⟩, ⟨0, 0, 0, true⟩, ⟨0, 0, 0, true⟩, ⟨64, 64, 64, true⟩, ⟨160, 160, 224, true⟩, ⟨256, 256, 480, true⟩, ⟨0, 0, 0, true⟩, ⟨0, 0, 0, true⟩, ⟨2048, 2048, 2048, true⟩, ⟨5120, 5120, 7168, true⟩, ⟨8192, 8192, 15360, true⟩, ⟨0, 0, 0, true⟩, ⟨0, 0, 0, true⟩, ⟨65536, 65536, 65536, true⟩, ⟨163840, 163840, 229376, true⟩, ⟨262144, 262144, 491520, true⟩, ⟨541200, 541200, 1048574, true⟩, ⟨1048576, 0, 2097150, false⟩, ⟨2097153, 0, 4194303, false⟩, ⟨8388607, 4194305, 8388607, true⟩])]⟩
theorem F_ref07_List_eq (b : Sl) (w : World) (Q : Value → World → Prop) : vcFn Tryd.prog A_ref07_List Tryd.f18 #[.slice (b.a) (b.len) (b.cap)] w Q = F_ref07_List b w Q := by kernel_rfl
theorem F_ref07_List_does (b : Sl) (w : World) (Q : Value → World → Prop) (hQ : F_ref07_List b w Q) : Does Tryd.prog N_ref07_List #[.slice (b.a) (b.len) (b.cap)] w Q :=
  vcFn_sound noAsk mixed (A := A_ref07_List) (by kernel_rfl) Tryd.func18 (Nat.le_of_ble_eq_true (by kernel_rfl)) (by kernel_rfl) ((F_ref07_List_eq b w Q).mpr hQ)

/- nacelle/image.Check -/
def F_image_Check (m : Array Value) (b : Sl) (w : World) (Q : Value → World → Prop) : Prop :=
  allocK w (m) T_api_Manifest fun a1 w2 =>
  ldArr w2 (a1) 35 fun c3 =>
  Does Tryd.prog N_image_program #[.agg (c3), .slice (b.a) (b.len) (b.cap)] w2 fun r4 w5 => ∃ l6 : Sl, ∃ v7 : Value, r4 = .tuple #[.slice (l6.a) (l6.len) (l6.cap), v7] ∧
  Q (v7) w5
def A_image_Check : Ann := ⟨[], [], []⟩
theorem F_image_Check_eq (m : Array Value) (b : Sl) (w : World) (Q : Value → World → Prop) : vcFn Tryd.prog A_image_Check Tryd.f19 #[.agg (m), .slice (b.a) (b.len) (b.cap)] w Q = F_image_Check m b w Q := by kernel_rfl
theorem F_image_Check_does (m : Array Value) (b : Sl) (w : World) (Q : Value → World → Prop) (hQ : F_image_Check m b w Q) : Does Tryd.prog N_image_Check #[.agg (m), .slice (b.a) (b.len) (b.cap)] w Q :=
  vcFn_sound noAsk mixed (A := A_image_Check) (by kernel_rfl) Tryd.func19 (Nat.le_of_ble_eq_true (by kernel_rfl)) (by kernel_rfl) ((F_image_Check_eq m b w Q).mpr hQ)

/- nacelle/code.Encode -/
def F_code_Encode (l : Sl) (w : World) (Q : Value → World → Prop) : Prop :=
  ∃ (I4 : Sl → Int → World → Prop) (M5 : Sl → Int → World → Nat), I4 ⟨none, 0, 0⟩ 0 w ∧
  ∀ out1 : Sl, ∀ x2 : Int, ∀ w3 : World, I4 out1 x2 w3 →
    cond (decide ((x2 : Int) < (((l.len : Nat) : Int))))
    (idx (l.a) (l.len) (x2) 4 fun a6 =>
     ldT (.int .u8) w3 (a6) fun x7 => ldT (.int .u8) w3 ((a6).add 1) fun x8 => ldT (.int .u8) w3 ((a6).add 2) fun x9 => ldT (.int .u8) w3 ((a6).add 3) fun x10 =>
     allocK w3 (zc Tryd.prog T_api_Instr) T_api_Instr fun a11 w12 =>
     stC w12 (a11) (.int .u8 (x7)) fun w14 => stC w14 ((a11).add 1) (.int .u8 (x8)) fun w15 => stC w15 ((a11).add 2) (.int .u8 (x9)) fun w16 => stC w16 ((a11).add 3) (.int .u8 (x10)) fun w17 =>
     ldT (.int .u8) w17 (a11) fun x18 =>
     ldT (.int .u8) w17 ((a11).add 1) fun x19 =>
     ldT (.int .u8) w17 ((a11).add 2) fun x20 =>
     ldT (.int .u8) w17 ((a11).add 3) fun x21 =>
     allocK w17 #[.int .u8 (x18), .int .u8 (x19), .int .u8 (x20), .int .u8 (x21)] T_uint8 fun a22 w23 =>
     runG (.sl) Tryd.prog w23 (Builtin.append_ #[T_l_uint8, T_l_uint8] T_l_uint8 #[.slice (out1.a) (out1.len) (out1.cap), .slice (some (a22)) (4) (4)]) fun l24 w25 =>
     I4 ⟨l24.a, l24.len, l24.cap⟩ (IntKind.wrap .i64 (x2 + 1)) w25 ∧ M5 ⟨l24.a, l24.len, l24.cap⟩ (IntKind.wrap .i64 (x2 + 1)) w25 < M5 out1 x2 w3)
    (Q (.slice (out1.a) (out1.len) (out1.cap)) w3)
def A_code_Encode : Ann := ⟨[(3, [(3, .one (.sl)), (8, .one (.int .i64))])], [], []⟩
theorem F_code_Encode_eq (l : Sl) (w : World) (Q : Value → World → Prop) : vcFn Tryd.prog A_code_Encode Tryd.f20 #[.slice (l.a) (l.len) (l.cap)] w Q = F_code_Encode l w Q := by kernel_rfl
theorem F_code_Encode_does (l : Sl) (w : World) (Q : Value → World → Prop) (hQ : F_code_Encode l w Q) : Does Tryd.prog N_code_Encode #[.slice (l.a) (l.len) (l.cap)] w Q :=
  vcFn_sound noAsk mixed (A := A_code_Encode) (by kernel_rfl) Tryd.func20 (Nat.le_of_ble_eq_true (by kernel_rfl)) (by kernel_rfl) ((F_code_Encode_eq l w Q).mpr hQ)

/- nacelle/code.Check -/
def F_code_Check (l : Sl) (w : World) (Q : Value → World → Prop) : Prop :=
  ∀ J2 : World → Prop, (∀ w1 : World, 
    (∃ (I5 : Int → World → Prop) (M6 : Int → World → Nat), I5 0 w1 ∧
    ∀ x3 : Int, ∀ w4 : World, I5 x3 w4 →
      cond (decide ((x3 : Int) < (((l.len : Nat) : Int))))
      (∀ J8 : World → Prop, (∀ w7 : World, 
         (I5 (IntKind.wrap .i64 (x3 + 1)) w7 ∧ M6 (IntKind.wrap .i64 (x3 + 1)) w7 < M6 x3 w4) → J8 w7) →
       idx (l.a) (l.len) (x3) 4 fun a9 =>
       ldT (.int .u8) w4 (a9) fun x10 => ldT (.int .u8) w4 ((a9).add 1) fun x11 => ldT (.int .u8) w4 ((a9).add 2) fun x12 => ldT (.int .u8) w4 ((a9).add 3) fun x13 =>
       allocK w4 (zc Tryd.prog T_api_Instr) T_api_Instr fun a14 w15 =>
       stC w15 (a14) (.int .u8 (x10)) fun w17 => stC w17 ((a14).add 1) (.int .u8 (x11)) fun w18 => stC w18 ((a14).add 2) (.int .u8 (x12)) fun w19 => stC w19 ((a14).add 3) (.int .u8 (x13)) fun w20 =>
       ldT (.int .u8) w20 (a14) fun x21 => ldT (.int .u8) w20 ((a14).add 1) fun x22 => ldT (.int .u8) w20 ((a14).add 2) fun x23 => ldT (.int .u8) w20 ((a14).add 3) fun x24 =>
       Does Tryd.prog N_code_formed #[.agg #[.int .u8 (x21), .int .u8 (x22), .int .u8 (x23), .int .u8 (x24)]] w20 fun r25 w26 => ∃ b27 : Bool, r25 = .bool (b27) ∧
       cond (!b27)
       (Does Tryd.prog N_fault_New #[.int .i64 (3), .int .i64 (x3)] w26 fun r28 w29 => ∃ v30 : Value, r28 = v30 ∧
        Q (v30) w29)
       (∀ J33 : Bool → World → Prop, (∀ b31 : Bool, ∀ w32 : World, 
          (cond (b31)
          (Does Tryd.prog N_fault_New #[.int .i64 (4), .int .i64 (x3)] w32 fun r34 w35 => ∃ v36 : Value, r34 = v36 ∧
           Q (v36) w35)
          (J8 w32)) → J33 b31 w32) →
        ldT (.int .u8) w26 (a14) fun x37 => ldT (.int .u8) w26 ((a14).add 1) fun x38 => ldT (.int .u8) w26 ((a14).add 2) fun x39 => ldT (.int .u8) w26 ((a14).add 3) fun x40 =>
        Does Tryd.prog N_code_jumps #[.agg #[.int .u8 (x37), .int .u8 (x38), .int .u8 (x39), .int .u8 (x40)]] w26 fun r41 w42 => ∃ b43 : Bool, r41 = .bool (b43) ∧
        cond (b43)
        (ldT (.int .u8) w42 (a14) fun x44 => ldT (.int .u8) w42 ((a14).add 1) fun x45 => ldT (.int .u8) w42 ((a14).add 2) fun x46 => ldT (.int .u8) w42 ((a14).add 3) fun x47 =>
         Does Tryd.prog N_code_Number #[.agg #[.int .u8 (x44), .int .u8 (x45), .int .u8 (x46), .int .u8 (x47)]] w42 fun r48 w49 => ∃ x50 : Int, r48 = .int .i64 (x50) ∧
         J33 (decide ((x50 : Int) ≥ (((l.len : Nat) : Int)))) w49)
        (J33 false w42)))
      (idx (l.a) (l.len) (IntKind.wrap .i64 ((((l.len : Nat) : Int)) - 1)) 4 fun a51 =>
       ldT (.int .u8) w4 (a51) fun x52 =>
       ∀ J55 : Bool → World → Prop, (∀ b53 : Bool, ∀ w54 : World, 
         (cond (b53)
         (Does Tryd.prog N_fault_New #[.int .i64 (2), .int .i64 (IntKind.wrap .i64 ((((l.len : Nat) : Int)) - 1))] w54 fun r56 w57 => ∃ v58 : Value, r56 = v58 ∧
          Q (v58) w57)
         (Q (.nilIface) w54)) → J55 b53 w54) →
       cond ((x52 : Int) != 0)
       (J55 ((x52 : Int) != 15) w4)
       (J55 false w4))) → J2 w1) →
  ∀ J61 : Bool → World → Prop, (∀ b59 : Bool, ∀ w60 : World, 
    (cond (b59)
    (Does Tryd.prog N_fault_New #[.int .i64 (1), .int .i64 (0)] w60 fun r62 w63 => ∃ v64 : Value, r62 = v64 ∧
     Q (v64) w63)
    (J2 w60)) → J61 b59 w60) →
  cond (((((l.len : Nat) : Int)) : Int) == 0)
  (J61 true w)
  (J61 (decide (((((l.len : Nat) : Int)) : Int) > 128)) w)
def A_code_Check : Ann := ⟨[(4, [(18, .one (.int .i64))])], [(2, [(14, .one (.bool))]), (3, []), (9, [(36, .one (.bool))]), (10, []), (14, [(53, .one (.bool))])], []⟩
theorem F_code_Check_eq (l : Sl) (w : World) (Q : Value → World → Prop) : vcFn Tryd.prog A_code_Check Tryd.f21 #[.slice (l.a) (l.len) (l.cap)] w Q = F_code_Check l w Q := by kernel_rfl
theorem F_code_Check_does (l : Sl) (w : World) (Q : Value → World → Prop) (hQ : F_code_Check l w Q) : Does Tryd.prog N_code_Check #[.slice (l.a) (l.len) (l.cap)] w Q :=
  vcFn_sound noAsk mixed (A := A_code_Check) (by kernel_rfl) Tryd.func21 (Nat.le_of_ble_eq_true (by kernel_rfl)) (by kernel_rfl) ((F_code_Check_eq l w Q).mpr hQ)

/- nacelle/image.Of -/
def F_image_Of (part : Int) (version : Int) (b : Sl) (w : World) (Q : Value → World → Prop) : Prop :=
  allocK w (zc Tryd.prog T_api_Manifest) T_api_Manifest fun a1 w2 =>
  Does Tryd.prog N_sha_Sum #[.slice (b.a) (b.len) (b.cap)] w2 fun r3 w4 => ∃ c5 : Array Value, r3 = .agg (c5) ∧
  buildK Tryd.prog T_api_Manifest #[(0, .int .i64 (part)), (1, .int .u32 (version)), (2, .int .i64 (((b.len : Nat) : Int))), (3, .agg (c5))] fun c6 =>
  stArr w4 (a1) (c6) 35 fun w7 =>
  ldArr w7 (a1) 35 fun c8 =>
  Q (.agg (c8)) w7
def A_image_Of : Ann := ⟨[], [], []⟩
theorem F_image_Of_eq (part : Int) (version : Int) (b : Sl) (w : World) (Q : Value → World → Prop) : vcFn Tryd.prog A_image_Of Tryd.f22 #[.int .i64 (part), .int .u32 (version), .slice (b.a) (b.len) (b.cap)] w Q = F_image_Of part version b w Q := by kernel_rfl
theorem F_image_Of_does (part : Int) (version : Int) (b : Sl) (w : World) (Q : Value → World → Prop) (hQ : F_image_Of part version b w Q) : Does Tryd.prog N_image_Of #[.int .i64 (part), .int .u32 (version), .slice (b.a) (b.len) (b.cap)] w Q :=
  vcFn_sound noAsk mixed (A := A_image_Of) (by kernel_rfl) Tryd.func22 (Nat.le_of_ble_eq_true (by kernel_rfl)) (by kernel_rfl) ((F_image_Of_eq part version b w Q).mpr hQ)

/- nacelle/image.Encode -/
def F_image_Encode (m : Array Value) (w : World) (Q : Value → World → Prop) : Prop :=
  allocK w (m) T_api_Manifest fun a1 w2 =>
  ldArr w2 (a1) 35 fun c3 =>
  Does Tryd.prog N_image_may #[.agg (c3)] w2 fun r4 w5 => ∃ b6 : Bool, r4 = .bool (b6) ∧
  cond (!b6)
  (Q (.slice (none) (0) (0)) w5)
  (allocK w5 #[.int .u8 (77)] T_uint8 fun a7 w8 =>
   ldT (.int .i64) w8 (a1) fun x9 =>
   Does Tryd.prog N_octet_Put #[.int .u64 (IntKind.wrap .u64 x9), .int .i64 (1)] w8 fun r10 w11 => ∃ l12 : Sl, r10 = .slice (l12.a) (l12.len) (l12.cap) ∧
   runG (.sl) Tryd.prog w11 (Builtin.append_ #[T_l_uint8, T_l_uint8] T_l_uint8 #[.slice (some (a7)) (1) (1), .slice (l12.a) (l12.len) (l12.cap)]) fun l13 w14 =>
   ldT (.int .u32) w14 ((a1).add 1) fun x15 =>
   Does Tryd.prog N_octet_Put #[.int .u64 (IntKind.wrap .u64 x15), .int .i64 (4)] w14 fun r16 w17 => ∃ l18 : Sl, r16 = .slice (l18.a) (l18.len) (l18.cap) ∧
   runG (.sl) Tryd.prog w17 (Builtin.append_ #[T_l_uint8, T_l_uint8] T_l_uint8 #[.slice (l13.a) (l13.len) (l13.cap), .slice (l18.a) (l18.len) (l18.cap)]) fun l19 w20 =>
   ldT (.int .i64) w20 ((a1).add 2) fun x21 =>
   Does Tryd.prog N_octet_Put #[.int .u64 (IntKind.wrap .u64 x21), .int .i64 (2)] w20 fun r22 w23 => ∃ l24 : Sl, r22 = .slice (l24.a) (l24.len) (l24.cap) ∧
   runG (.sl) Tryd.prog w23 (Builtin.append_ #[T_l_uint8, T_l_uint8] T_l_uint8 #[.slice (l19.a) (l19.len) (l19.cap), .slice (l24.a) (l24.len) (l24.cap)]) fun l25 w26 =>
   slcA ((a1).add 3) 32 (0) (((32 : Nat) : Int)) 1 fun l27 =>
   runG (.sl) Tryd.prog w26 (Builtin.append_ #[T_l_uint8, T_l_uint8] T_l_uint8 #[.slice (l25.a) (l25.len) (l25.cap), .slice (l27.a) (l27.len) (l27.cap)]) fun l28 w29 =>
   Q (.slice (l28.a) (l28.len) (l28.cap)) w29)
def A_image_Encode : Ann := ⟨[], [], []⟩
theorem F_image_Encode_eq (m : Array Value) (w : World) (Q : Value → World → Prop) : vcFn Tryd.prog A_image_Encode Tryd.f23 #[.agg (m)] w Q = F_image_Encode m w Q := by kernel_rfl
theorem F_image_Encode_does (m : Array Value) (w : World) (Q : Value → World → Prop) (hQ : F_image_Encode m w Q) : Does Tryd.prog N_image_Encode #[.agg (m)] w Q :=
  vcFn_sound noAsk mixed (A := A_image_Encode) (by kernel_rfl) Tryd.func23 (Nat.le_of_ble_eq_true (by kernel_rfl)) (by kernel_rfl) ((F_image_Encode_eq m w Q).mpr hQ)

/- nacelle/image.Decode -/
def F_image_Decode (b : Sl) (w : World) (Q : Value → World → Prop) : Prop :=
  allocK w (zc Tryd.prog T_api_Manifest) T_api_Manifest fun a1 w2 =>
  Does Tryd.prog N_octet_Read #[.slice (b.a) (b.len) (b.cap)] w2 fun r3 w4 => ∃ p5 : Option Addr, r3 = .pointer (p5) ∧
  Does Tryd.prog N_octet_Reader_Num #[.pointer (p5), .int .i64 (1)] w4 fun r6 w7 => ∃ x8 : Int, r6 = .int .u64 (x8) ∧
  Does Tryd.prog N_octet_Reader_Must #[.pointer (p5), .bool ((x8 : Int) == 77), .int .i64 (3)] w7 fun r9 w10 => r9 = .tuple #[] ∧
  Does Tryd.prog N_octet_Reader_Num #[.pointer (p5), .int .i64 (1)] w10 fun r11 w12 => ∃ x13 : Int, r11 = .int .u64 (x13) ∧
  Does Tryd.prog N_octet_Reader_Num #[.pointer (p5), .int .i64 (4)] w12 fun r14 w15 => ∃ x16 : Int, r14 = .int .u64 (x16) ∧
  Does Tryd.prog N_octet_Reader_Num #[.pointer (p5), .int .i64 (2)] w15 fun r17 w18 => ∃ x19 : Int, r17 = .int .u64 (x19) ∧
  allocK w18 (zc Tryd.prog T_api_Manifest) T_api_Manifest fun a20 w21 =>
  stArr w21 (a20) (#[.int .i64 (IntKind.wrap .i64 x13), .int .u32 (IntKind.wrap .u32 x16), .int .i64 (IntKind.wrap .i64 x19), .int .u8 (0), .int .u8 (0), .int .u8 (0), .int .u8 (0), .int .u8 (0), .int .u8 (0), .int .u8 (0), .int .u8 (0), .int .u8 (0), .int .u8 (0), .int .u8 (0), .int .u8 (0), .int .u8 (0), .int .u8 (0), .int .u8 (0), .int .u8 (0), .int .u8 (0), .int .u8 (0), .int .u8 (0), .int .u8 (0), .int .u8 (0), .int .u8 (0), .int .u8 (0), .int .u8 (0), .int .u8 (0), .int .u8 (0), .int .u8 (0), .int .u8 (0), .int .u8 (0), .int .u8 (0), .int .u8 (0), .int .u8 (0)]) 35 fun w22 =>
  slcA ((a20).add 3) 32 (0) (((32 : Nat) : Int)) 1 fun l23 =>
  Does Tryd.prog N_octet_Reader_Bytes #[.pointer (p5), .int .i64 (32)] w22.drew fun r24 w25 => ∃ l26 : Sl, r24 = .slice (l26.a) (l26.len) (l26.cap) ∧
  runG (.int .i64) Tryd.prog w25 (Builtin.copy_ #[T_l_uint8, T_l_uint8] T_int #[.slice (l23.a) (l23.len) (l23.cap), .slice (l26.a) (l26.len) (l26.cap)]) fun x27 w28 =>
  Does Tryd.prog N_octet_Reader_At #[.pointer (p5)] w28 fun r29 w30 => ∃ x31 : Int, r29 = .int .i64 (x31) ∧
  Does Tryd.prog N_octet_Reader_End #[.pointer (p5)] w30 fun r32 w33 => ∃ v34 : Value, r32 = v34 ∧
  runG (.bool) Tryd.prog w33 (do eqGuard .neq T_error (.tmp 36) (.const (.nilIface)) (v34) (.nilIface); binOp .neq T_error (v34) (.nilIface)) fun b35 w36 =>
  cond (b35)
  (Does Tryd.prog N_fault_In #[v34, .int .i64 (0)] w36 fun r37 w38 => ∃ v39 : Value, r37 = v39 ∧
   stArr w38 (a1) (#[.int .i64 (0), .int .u32 (0), .int .i64 (0), .int .u8 (0), .int .u8 (0), .int .u8 (0), .int .u8 (0), .int .u8 (0), .int .u8 (0), .int .u8 (0), .int .u8 (0), .int .u8 (0), .int .u8 (0), .int .u8 (0), .int .u8 (0), .int .u8 (0), .int .u8 (0), .int .u8 (0), .int .u8 (0), .int .u8 (0), .int .u8 (0), .int .u8 (0), .int .u8 (0), .int .u8 (0), .int .u8 (0), .int .u8 (0), .int .u8 (0), .int .u8 (0), .int .u8 (0), .int .u8 (0), .int .u8 (0), .int .u8 (0), .int .u8 (0), .int .u8 (0), .int .u8 (0)]) 35 fun w40 =>
   ldArr w40 (a1) 35 fun c41 =>
   Q (.tuple #[.agg (c41), v39]) w40)
  (ldArr w36 (a20) 35 fun c42 =>
   Does Tryd.prog N_image_may #[.agg (c42)] w36 fun r43 w44 => ∃ b45 : Bool, r43 = .bool (b45) ∧
   cond (!b45)
   (Does Tryd.prog N_fault_New #[.int .i64 (1), .int .i64 (x31)] w44 fun r46 w47 => ∃ v48 : Value, r46 = v48 ∧
    stArr w47 (a1) (#[.int .i64 (0), .int .u32 (0), .int .i64 (0), .int .u8 (0), .int .u8 (0), .int .u8 (0), .int .u8 (0), .int .u8 (0), .int .u8 (0), .int .u8 (0), .int .u8 (0), .int .u8 (0), .int .u8 (0), .int .u8 (0), .int .u8 (0), .int .u8 (0), .int .u8 (0), .int .u8 (0), .int .u8 (0), .int .u8 (0), .int .u8 (0), .int .u8 (0), .int .u8 (0), .int .u8 (0), .int .u8 (0), .int .u8 (0), .int .u8 (0), .int .u8 (0), .int .u8 (0), .int .u8 (0), .int .u8 (0), .int .u8 (0), .int .u8 (0), .int .u8 (0), .int .u8 (0)]) 35 fun w49 =>
    ldArr w49 (a1) 35 fun c50 =>
    Q (.tuple #[.agg (c50), v48]) w49)
   (ldArr w44 (a20) 35 fun c51 =>
    stArr w44 (a1) (c51) 35 fun w52 =>
    ldArr w52 (a1) 35 fun c53 =>
    Q (.tuple #[.agg (c53), .nilIface]) w52))
def A_image_Decode : Ann := ⟨[], [], [(5, [⟨0, 0, 0, true⟩, ⟨1, 1, 1, true⟩, ⟨0, 0, 0, true⟩, ⟨4, 0, 4, false⟩, ⟨10, 0, 15, false⟩])]⟩
theorem F_image_Decode_eq (b : Sl) (w : World) (Q : Value → World → Prop) : vcFn Tryd.prog A_image_Decode Tryd.f24 #[.slice (b.a) (b.len) (b.cap)] w Q = F_image_Decode b w Q := by kernel_rfl
theorem F_image_Decode_does (b : Sl) (w : World) (Q : Value → World → Prop) (hQ : F_image_Decode b w Q) : Does Tryd.prog N_image_Decode #[.slice (b.a) (b.len) (b.cap)] w Q :=
  vcFn_sound noAsk mixed (A := A_image_Decode) (by kernel_rfl) Tryd.func24 (Nat.le_of_ble_eq_true (by kernel_rfl)) (by kernel_rfl) ((F_image_Decode_eq b w Q).mpr hQ)

/- nacelle/image.may -/
def F_image_may (m : Array Value) (w : World) (Q : Value → World → Prop) : Prop :=
  allocK w (m) T_api_Manifest fun a1 w2 =>
  ldT (.int .i64) w2 (a1) fun x3 =>
  cond (decide ((x3 : Int) ≥ 0))
  (ldT (.int .i64) w2 (a1) fun x4 =>
   cond (decide ((x4 : Int) < 8))
   (ldT (.int .i64) w2 ((a1).add 2) fun x5 =>
    cond (decide ((x5 : Int) ≥ 4))
    (ldT (.int .i64) w2 ((a1).add 2) fun x6 =>
     cond (decide ((x6 : Int) ≤ 512))
     (ldT (.int .i64) w2 ((a1).add 2) fun x7 =>
      (4 : Int) ≠ 0 ∧
      Q (.bool (((Int.tmod x7 4) : Int) == 0)) w2)
     (Q (.bool (false)) w2))
    (Q (.bool (false)) w2))
   (Q (.bool (false)) w2))
  (Q (.bool (false)) w2)
def A_image_may : Ann := ⟨[], [], []⟩
theorem F_image_may_eq (m : Array Value) (w : World) (Q : Value → World → Prop) : vcFn Tryd.prog A_image_may Tryd.f25 #[.agg (m)] w Q = F_image_may m w Q := by kernel_rfl
theorem F_image_may_does (m : Array Value) (w : World) (Q : Value → World → Prop) (hQ : F_image_may m w Q) : Does Tryd.prog N_image_may #[.agg (m)] w Q :=
  vcFn_sound noAsk mixed (A := A_image_may) (by kernel_rfl) Tryd.func25 (Nat.le_of_ble_eq_true (by kernel_rfl)) (by kernel_rfl) ((F_image_may_eq m w Q).mpr hQ)

/- nacelle/image.program -/
def F_image_program (m : Array Value) (b : Sl) (w : World) (Q : Value → World → Prop) : Prop :=
  allocK w (m) T_api_Manifest fun a1 w2 =>
  ldArr w2 (a1) 35 fun c3 =>
  Does Tryd.prog N_image_may #[.agg (c3)] w2 fun r4 w5 => ∃ b6 : Bool, r4 = .bool (b6) ∧
  cond (!b6)
  (Does Tryd.prog N_fault_New #[.int .i64 (1), .int .i64 (0)] w5 fun r7 w8 => ∃ v9 : Value, r7 = v9 ∧
   Q (.tuple #[.slice (none) (0) (0), v9]) w8)
  (ldT (.int .i64) w5 ((a1).add 2) fun x10 =>
   cond (decide (((((b.len : Nat) : Int)) : Int) < x10))
   (Does Tryd.prog N_fault_New #[.int .i64 (2), .int .i64 (((b.len : Nat) : Int))] w5 fun r11 w12 => ∃ v13 : Value, r11 = v13 ∧
    Q (.tuple #[.slice (none) (0) (0), v13]) w12)
   (ldT (.int .i64) w5 ((a1).add 2) fun x14 =>
    cond (decide (((((b.len : Nat) : Int)) : Int) > x14))
    (ldT (.int .i64) w5 ((a1).add 2) fun x15 =>
     Does Tryd.prog N_fault_New #[.int .i64 (7), .int .i64 (x15)] w5 fun r16 w17 => ∃ v18 : Value, r16 = v18 ∧
     Q (.tuple #[.slice (none) (0) (0), v18]) w17)
    (ldArr w5.drew ((a1).add 3) 32 fun c19 =>
     Does Tryd.prog N_sha_Sum #[.slice (b.a) (b.len) (b.cap)] w5.drew fun r20 w21 => ∃ c22 : Array Value, r20 = .agg (c22) ∧
     ((c19 : Array Value).size = 32 ∧ RowIs w21 ((a1).add 3) c19) ∧ runG (.bool) Tryd.prog w21 (do eqGuard .neq T_a32_uint8 (.tmp 33) (.tmp 35) (.agg (c22)) (.agg (c19)); binOp .neq T_a32_uint8 (.agg (c22)) (.agg (c19))) fun b23 w24 =>
     cond (b23)
     (Does Tryd.prog N_fault_New #[.int .i64 (8), .int .i64 (0)] w24 fun r25 w26 => ∃ v27 : Value, r25 = v27 ∧
      Q (.tuple #[.slice (none) (0) (0), v27]) w26)
     (Does Tryd.prog N_code_Decode #[.slice (b.a) (b.len) (b.cap)] w24 fun r28 w29 => ∃ l30 : Sl, ∃ v31 : Value, r28 = .tuple #[.slice (l30.a) (l30.len) (l30.cap), v31] ∧
      ldT (.int .u32) w29 ((a1).add 1) fun x32 =>
      Does Tryd.prog N_fault_In #[v31, .int .i64 (IntKind.wrap .i64 x32)] w29 fun r33 w34 => ∃ v35 : Value, r33 = v35 ∧
      Q (.tuple #[.slice (l30.a) (l30.len) (l30.cap), v35]) w34))))
def A_image_program : Ann := ⟨[], [], [(7, [⟨0, 0, 0, true⟩, ⟨1, 0, 1, false⟩, ⟨0, 0, 0, true⟩, ⟨4, 4, 4, true⟩, ⟨10, 0, 15, false⟩, ⟨18, 16, 31, true⟩])]⟩
theorem F_image_program_eq (m : Array Value) (b : Sl) (w : World) (Q : Value → World → Prop) : vcFn Tryd.prog A_image_program Tryd.f26 #[.agg (m), .slice (b.a) (b.len) (b.cap)] w Q = F_image_program m b w Q := by kernel_rfl
theorem F_image_program_does (m : Array Value) (b : Sl) (w : World) (Q : Value → World → Prop) (hQ : F_image_program m b w Q) : Does Tryd.prog N_image_program #[.agg (m), .slice (b.a) (b.len) (b.cap)] w Q :=
  vcFn_sound noAsk mixed (A := A_image_program) (by kernel_rfl) Tryd.func26 (Nat.le_of_ble_eq_true (by kernel_rfl)) (by kernel_rfl) ((F_image_program_eq m b w Q).mpr hQ)

/- nacelle/nacelleref04.Sum -/
def F_ref04_Sum (b : Sl) (w : World) (Q : Value → World → Prop) : Prop :=
  allocK w (zc Tryd.prog T_a32_uint8) T_a32_uint8 fun a1 w2 =>
  allocK w2 (zc Tryd.prog T_a8_uint32) T_a8_uint32 fun a3 w4 =>
  stC w4 (a3) (.int .u32 (1779033703)) fun w6 => stC w6 ((a3).add 1) (.int .u32 (3144134277)) fun w7 => stC w7 ((a3).add 2) (.int .u32 (1013904242)) fun w8 => stC w8 ((a3).add 3) (.int .u32 (2773480762)) fun w9 => stC w9 ((a3).add 4) (.int .u32 (1359893119)) fun w10 => stC w10 ((a3).add 5) (.int .u32 (2600822924)) fun w11 => stC w11 ((a3).add 6) (.int .u32 (528734635)) fun w12 => stC w12 ((a3).add 7) (.int .u32 (1541459225)) fun w13 =>
  Does Tryd.prog N_ref04_padded #[.slice (b.a) (b.len) (b.cap)] w13 fun r14 w15 => ∃ l16 : Sl, r14 = .slice (l16.a) (l16.len) (l16.cap) ∧
  ∃ (I19 : Int → World → Prop) (M20 : Int → World → Nat), I19 0 w15 ∧
  ∀ i17 : Int, ∀ w18 : World, I19 i17 w18 →
    cond (decide ((i17 : Int) < (((l16.len : Nat) : Int))))
    (ldT (.int .u32) w18.drew (a3) fun x21 => ldT (.int .u32) w18.drew ((a3).add 1) fun x22 => ldT (.int .u32) w18.drew ((a3).add 2) fun x23 => ldT (.int .u32) w18.drew ((a3).add 3) fun x24 => ldT (.int .u32) w18.drew ((a3).add 4) fun x25 => ldT (.int .u32) w18.drew ((a3).add 5) fun x26 => ldT (.int .u32) w18.drew ((a3).add 6) fun x27 => ldT (.int .u32) w18.drew ((a3).add 7) fun x28 =>
     slcT ⟨l16.a, l16.len, l16.cap⟩ (i17) (IntKind.wrap .i64 (i17 + 64)) 1 fun l29 =>
     Does Tryd.prog N_ref04_block #[.agg #[.int .u32 (x21), .int .u32 (x22), .int .u32 (x23), .int .u32 (x24), .int .u32 (x25), .int .u32 (x26), .int .u32 (x27), .int .u32 (x28)], .slice (l29.a) (l29.len) (l29.cap)] w18.drew fun r30 w31 => ∃ x32 : Int, ∃ x33 : Int, ∃ x34 : Int, ∃ x35 : Int, ∃ x36 : Int, ∃ x37 : Int, ∃ x38 : Int, ∃ x39 : Int, r30 = .agg #[.int .u32 (x32), .int .u32 (x33), .int .u32 (x34), .int .u32 (x35), .int .u32 (x36), .int .u32 (x37), .int .u32 (x38), .int .u32 (x39)] ∧
     stC w31 (a3) (.int .u32 (x32)) fun w41 => stC w41 ((a3).add 1) (.int .u32 (x33)) fun w42 => stC w42 ((a3).add 2) (.int .u32 (x34)) fun w43 => stC w43 ((a3).add 3) (.int .u32 (x35)) fun w44 => stC w44 ((a3).add 4) (.int .u32 (x36)) fun w45 => stC w45 ((a3).add 5) (.int .u32 (x37)) fun w46 => stC w46 ((a3).add 6) (.int .u32 (x38)) fun w47 => stC w47 ((a3).add 7) (.int .u32 (x39)) fun w48 =>
     I19 (IntKind.wrap .i64 (i17 + 64)) w48 ∧ M20 (IntKind.wrap .i64 (i17 + 64)) w48 < M20 i17 w18)
    (allocK w18 (zc Tryd.prog T_a32_uint8) T_a32_uint8 fun a49 w50 =>
     ∃ (I53 : Int → World → Prop) (M54 : Int → World → Nat), I53 0 w50 ∧
     ∀ i51 : Int, ∀ w52 : World, I53 i51 w52 →
       cond (decide ((i51 : Int) < 32))
       ((4 : Int) ≠ 0 ∧
        idxR 8 (IntKind.wrap .i64 (Int.tdiv i51 4)) (
        ldT (.int .u32) w52 ((a3).add (Int.toNat (IntKind.wrap .i64 (Int.tdiv i51 4)) * 1)) fun x55 =>
        (4 : Int) ≠ 0 ∧
        (0 : Int) ≤ (IntKind.wrap .u64 (IntKind.wrap .i64 (24 - (IntKind.wrap .i64 (8 * (Int.tmod i51 4)))))) ∧
        idxR 32 (i51) (
        stC w52 ((a49).add (Int.toNat (i51) * 1)) (.int .u8 (IntKind.wrap .u8 (Int.fdiv x55 (2 ^ (min (Int.toNat ((IntKind.wrap .u64 (IntKind.wrap .i64 (24 - (IntKind.wrap .i64 (8 * (Int.tmod i51 4)))))))) (IntKind.bits .u32)))))) fun w56 =>
        I53 (IntKind.wrap .i64 (i51 + 1)) w56 ∧ M54 (IntKind.wrap .i64 (i51 + 1)) w56 < M54 i51 w52)))
       (ldArr w52 (a49) 32 fun c57 =>
        stArr w52 (a1) (c57) 32 fun w58 =>
        ldArr w58 (a1) 32 fun c59 =>
        Q (.agg (c59)) w58))
def A_ref04_Sum : Ann := ⟨[(4, [(5, .one (.int .i64))]), (9, [(7, .one (.int .i64))])], [], [(6, [⟨0, 0, 0, true⟩, ⟨0, 0, 0, true⟩, ⟨0, 0, 0, true⟩, ⟨0, 0, 0, true⟩, ⟨8, 8, 8, true⟩, ⟨22, 22, 30, true⟩, ⟨33, 0, 63, false⟩, ⟨127, 0, 127, false⟩])]⟩
theorem F_ref04_Sum_eq (b : Sl) (w : World) (Q : Value → World → Prop) : vcFn Tryd.prog A_ref04_Sum Tryd.f27 #[.slice (b.a) (b.len) (b.cap)] w Q = F_ref04_Sum b w Q := by kernel_rfl
theorem F_ref04_Sum_does (b : Sl) (w : World) (Q : Value → World → Prop) (hQ : F_ref04_Sum b w Q) : Does Tryd.prog N_ref04_Sum #[.slice (b.a) (b.len) (b.cap)] w Q :=
  vcFn_sound noAsk mixed (A := A_ref04_Sum) (by kernel_rfl) Tryd.func27 (Nat.le_of_ble_eq_true (by kernel_rfl)) (by kernel_rfl) ((F_ref04_Sum_eq b w Q).mpr hQ)

/- nacelle/nacelleref07.Check -/
def F_ref07_Check (l : Sl) (w : World) (Q : Value → World → Prop) : Prop :=
  ∀ J2 : World → Prop, (∀ w1 : World, 
    (∃ (I5 : Int → World → Prop) (M6 : Int → World → Nat), I5 0 w1 ∧
    ∀ k3 : Int, ∀ w4 : World, I5 k3 w4 →
      cond (decide ((k3 : Int) < (((l.len : Nat) : Int))))
      (∀ J8 : World → Prop, (∀ w7 : World, 
         (I5 (IntKind.wrap .i64 (k3 + 1)) w7 ∧ M6 (IntKind.wrap .i64 (k3 + 1)) w7 < M6 k3 w4) → J8 w7) →
       idx (l.a) (l.len) (k3) 4 fun a9 =>
       ldT (.int .u8) w4 (a9) fun x10 => ldT (.int .u8) w4 ((a9).add 1) fun x11 => ldT (.int .u8) w4 ((a9).add 2) fun x12 => ldT (.int .u8) w4 ((a9).add 3) fun x13 =>
       Does Tryd.prog N_ref07_Formed #[.agg #[.int .u8 (x10), .int .u8 (x11), .int .u8 (x12), .int .u8 (x13)]] w4 fun r14 w15 => ∃ b16 : Bool, r14 = .bool (b16) ∧
       cond (!b16)
       (Q (.tuple #[.int .i64 (3), .int .i64 (k3)]) w15)
       (idx (l.a) (l.len) (k3) 4 fun a17 =>
        ldT (.int .u8) w15 (a17) fun x18 =>
        cond ((x18 : Int) == 15)
        (idx (l.a) (l.len) (k3) 4 fun a19 =>
         ldT (.int .u8) w15 (a19) fun x20 => ldT (.int .u8) w15 ((a19).add 1) fun x21 => ldT (.int .u8) w15 ((a19).add 2) fun x22 => ldT (.int .u8) w15 ((a19).add 3) fun x23 =>
         Does Tryd.prog N_ref07_Number #[.agg #[.int .u8 (x20), .int .u8 (x21), .int .u8 (x22), .int .u8 (x23)]] w15 fun r24 w25 => ∃ x26 : Int, r24 = .int .i64 (x26) ∧
         cond (decide ((x26 : Int) ≥ (((l.len : Nat) : Int))))
         (Q (.tuple #[.int .i64 (4), .int .i64 (k3)]) w25)
         (J8 w25))
        (idx (l.a) (l.len) (k3) 4 fun a27 =>
         ldT (.int .u8) w15 (a27) fun x28 =>
         cond ((x28 : Int) == 16)
         (idx (l.a) (l.len) (k3) 4 fun a29 =>
          ldT (.int .u8) w15 (a29) fun x30 => ldT (.int .u8) w15 ((a29).add 1) fun x31 => ldT (.int .u8) w15 ((a29).add 2) fun x32 => ldT (.int .u8) w15 ((a29).add 3) fun x33 =>
          Does Tryd.prog N_ref07_Number #[.agg #[.int .u8 (x30), .int .u8 (x31), .int .u8 (x32), .int .u8 (x33)]] w15 fun r34 w35 => ∃ x36 : Int, r34 = .int .i64 (x36) ∧
          cond (decide ((x36 : Int) ≥ (((l.len : Nat) : Int))))
          (Q (.tuple #[.int .i64 (4), .int .i64 (k3)]) w35)
          (J8 w35))
         (J8 w15))))
      (idx (l.a) (l.len) (IntKind.wrap .i64 ((((l.len : Nat) : Int)) - 1)) 4 fun a37 =>
       ldT (.int .u8) w4 (a37) fun x38 =>
       cond ((x38 : Int) != 0)
       (idx (l.a) (l.len) (IntKind.wrap .i64 ((((l.len : Nat) : Int)) - 1)) 4 fun a39 =>
        ldT (.int .u8) w4 (a39) fun x40 =>
        cond ((x40 : Int) != 15)
        (Q (.tuple #[.int .i64 (2), .int .i64 (IntKind.wrap .i64 ((((l.len : Nat) : Int)) - 1))]) w4)
        (Q (.tuple #[.int .i64 (0), .int .i64 (0)]) w4))
       (Q (.tuple #[.int .i64 (0), .int .i64 (0)]) w4))) → J2 w1) →
  cond (decide (((((l.len : Nat) : Int)) : Int) < 1))
  (Q (.tuple #[.int .i64 (1), .int .i64 (0)]) w)
  (cond (decide (((((l.len : Nat) : Int)) : Int) > 128))
   (Q (.tuple #[.int .i64 (1), .int .i64 (0)]) w)
   (J2 w))
def A_ref07_Check : Ann := ⟨[(4, [(4, .one (.int .i64))])], [(3, []), (5, [])], []⟩
theorem F_ref07_Check_eq (l : Sl) (w : World) (Q : Value → World → Prop) : vcFn Tryd.prog A_ref07_Check Tryd.f28 #[.slice (l.a) (l.len) (l.cap)] w Q = F_ref07_Check l w Q := by kernel_rfl
theorem F_ref07_Check_does (l : Sl) (w : World) (Q : Value → World → Prop) (hQ : F_ref07_Check l w Q) : Does Tryd.prog N_ref07_Check #[.slice (l.a) (l.len) (l.cap)] w Q :=
  vcFn_sound noAsk mixed (A := A_ref07_Check) (by kernel_rfl) Tryd.func28 (Nat.le_of_ble_eq_true (by kernel_rfl)) (by kernel_rfl) ((F_ref07_Check_eq l w Q).mpr hQ)

/- nacelle/fault.Path -/
def F_fault_Path (err : Value) (w : World) (Q : Value → World → Prop) : Prop :=
  Does Tryd.prog N_fault_row #[err] w fun r1 w2 => ∃ l3 : Sl, r1 = .slice (l3.a) (l3.len) (l3.cap) ∧
  ∃ (I7 : Sl → Int → World → Prop) (M8 : Sl → Int → World → Nat), I7 ⟨none, 0, 0⟩ 0 w2 ∧
  ∀ out4 : Sl, ∀ x5 : Int, ∀ w6 : World, I7 out4 x5 w6 →
    cond (decide ((x5 : Int) < (((l3.len : Nat) : Int))))
    (idx (l3.a) (l3.len) (x5) 1 fun a9 =>
     ldT (.ptr) w6 (a9) fun p10 =>
     nnil (p10) fun a11 =>
     ldT (.int .i64) w6 ((a11).add 1) fun x12 =>
     allocK w6 #[.int .i64 (x12)] T_int fun a13 w14 =>
     runG (.sl) Tryd.prog w14 (Builtin.append_ #[T_l_int, T_l_int] T_l_int #[.slice (out4.a) (out4.len) (out4.cap), .slice (some (a13)) (1) (1)]) fun l15 w16 =>
     I7 ⟨l15.a, l15.len, l15.cap⟩ (IntKind.wrap .i64 (x5 + 1)) w16 ∧ M8 ⟨l15.a, l15.len, l15.cap⟩ (IntKind.wrap .i64 (x5 + 1)) w16 < M8 out4 x5 w6)
    (Q (.slice (out4.a) (out4.len) (out4.cap)) w6)
def A_fault_Path : Ann := ⟨[(3, [(3, .one (.sl)), (9, .one (.int .i64))])], [], []⟩
theorem F_fault_Path_eq (err : Value) (w : World) (Q : Value → World → Prop) : vcFn Tryd.prog A_fault_Path Tryd.f29 #[err] w Q = F_fault_Path err w Q := by kernel_rfl
theorem F_fault_Path_does (err : Value) (w : World) (Q : Value → World → Prop) (hQ : F_fault_Path err w Q) : Does Tryd.prog N_fault_Path #[err] w Q :=
  vcFn_sound noAsk mixed (A := A_fault_Path) (by kernel_rfl) Tryd.func29 (Nat.le_of_ble_eq_true (by kernel_rfl)) (by kernel_rfl) ((F_fault_Path_eq err w Q).mpr hQ)

/- nacelle/fault.Code -/
def F_fault_Code (err : Value) (w : World) (Q : Value → World → Prop) : Prop :=
  allocK w (zc Tryd.prog T_p_fault_Fault) T_p_fault_Fault fun a1 w2 =>
  Does Tryd.prog N_errors_As #[err, .iface T_p_p_fault_Fault (.pointer (some (a1)))] w2 fun r3 w4 => ∃ b5 : Bool, r3 = .bool (b5) ∧
  cond (b5)
  (ldT (.ptr) w4 (a1) fun p6 =>
   nnil (p6) fun a7 =>
   ldT (.int .i64) w4 (a7) fun x8 =>
   Q (.int .i64 (x8)) w4)
  (Q (.int .i64 (0)) w4)
def A_fault_Code : Ann := ⟨[], [], []⟩
theorem F_fault_Code_eq (err : Value) (w : World) (Q : Value → World → Prop) : vcFn Tryd.prog A_fault_Code Tryd.f30 #[err] w Q = F_fault_Code err w Q := by kernel_rfl
theorem F_fault_Code_does (err : Value) (w : World) (Q : Value → World → Prop) (hQ : F_fault_Code err w Q) : Does Tryd.prog N_fault_Code #[err] w Q :=
  vcFn_sound noAsk mixed (A := A_fault_Code) (by kernel_rfl) Tryd.func30 (Nat.le_of_ble_eq_true (by kernel_rfl)) (by kernel_rfl) ((F_fault_Code_eq err w Q).mpr hQ)

/- nacelle/fault.Text -/
def F_fault_Text (err : Value) (w : World) (Q : Value → World → Prop) : Prop :=
  Does Tryd.prog N_fault_row #[err] w fun r1 w2 => ∃ l3 : Sl, r1 = .slice (l3.a) (l3.len) (l3.cap) ∧
  ∃ (I7 : ByteArray → Int → World → Prop) (M8 : ByteArray → Int → World → Nat), I7 ((⟨#[]⟩ : ByteArray)) 0 w2 ∧
  ∀ s4 : ByteArray, ∀ x5 : Int, ∀ w6 : World, I7 s4 x5 w6 →
    cond (decide ((x5 : Int) < (((l3.len : Nat) : Int))))
    (∀ J11 : ByteArray → World → Prop, (∀ s9 : ByteArray, ∀ w10 : World, 
       (I7 s9 (IntKind.wrap .i64 (x5 + 1)) w10 ∧ M8 s9 (IntKind.wrap .i64 (x5 + 1)) w10 < M8 s4 x5 w6) → J11 s9 w10) →
     idx (l3.a) (l3.len) (x5) 1 fun a12 =>
     ldT (.ptr) w6 (a12) fun p13 =>
     ∀ J16 : ByteArray → World → Prop, (∀ s14 : ByteArray, ∀ w15 : World, 
       (nnil (p13) fun a17 =>
       ldT (.int .i64) w15.drew (a17) fun x18 =>
       nnil (p13) fun a19 =>
       ldT (.int .i64) w15.drew ((a19).add 1) fun x20 =>
       Does Tryd.prog N_strconv_Itoa #[.int .i64 (x18)] w15.drew fun r21 w22 => ∃ s23 : ByteArray, r21 = .string (s23) ∧
       w22.cell? ((a19).add 1) = some (.int .i64 (x20)) ∧ (((s23).size + (((⟨#[64]⟩ : ByteArray))).size : Nat) : Int) ≤ 9223372036854775807 ∧
       Does Tryd.prog N_strconv_Itoa #[.int .i64 (x20)] w22 fun r24 w25 => ∃ s26 : ByteArray, r24 = .string (s26) ∧
       ((((s23 ++ ((⟨#[64]⟩ : ByteArray)))).size + (s26).size : Nat) : Int) ≤ 9223372036854775807 ∧
       (((s14).size + (((s23 ++ ((⟨#[64]⟩ : ByteArray))) ++ s26)).size : Nat) : Int) ≤ 9223372036854775807 ∧
       J11 (s14 ++ ((s23 ++ ((⟨#[64]⟩ : ByteArray))) ++ s26)) w25) → J16 s14 w15) →
     cond (decide ((x5 : Int) > 0))
     ((((s4).size + (((⟨#[60]⟩ : ByteArray))).size : Nat) : Int) ≤ 9223372036854775807 ∧
      J16 (s4 ++ ((⟨#[60]⟩ : ByteArray))) w6)
     (J16 s4 w6))
    (Q (.string (s4)) w6)
def A_fault_Text : Ann := ⟨[(3, [(3, .one (.str)), (9, .one (.int .i64))])], [(7, [(3, .one (.str))]), (8, [(3, .one (.str))])], [(7, [⟨0, 0, 0, true⟩, ⟨0, 0, 0, true⟩, ⟨2, 2, 2, true⟩, ⟨4, 4, 6, true⟩, ⟨8, 8, 14, true⟩, ⟨16, 0, 30, false⟩, ⟨32, 32, 62, true⟩, ⟨0, 0, 0, true⟩, ⟨128, 128, 128, true⟩, ⟨256, 256, 384, true⟩, ⟨512, 512, 896, true⟩, ⟨1056, 0, 1982, false⟩, ⟨2112, 2112, 4094, true⟩, ⟨4097, 4097, 8191, true⟩, ⟨16383, 8193, 16383, true⟩])]⟩
theorem F_fault_Text_eq (err : Value) (w : World) (Q : Value → World → Prop) : vcFn Tryd.prog A_fault_Text Tryd.f31 #[err] w Q = F_fault_Text err w Q := by kernel_rfl
theorem F_fault_Text_does (err : Value) (w : World) (Q : Value → World → Prop) (hQ : F_fault_Text err w Q) : Does Tryd.prog N_fault_Text #[err] w Q :=
  vcFn_sound noAsk mixed (A := A_fault_Text) (by kernel_rfl) Tryd.func31 (Nat.le_of_ble_eq_true (by kernel_rfl)) (by kernel_rfl) ((F_fault_Text_eq err w Q).mpr hQ)

/- nacelle/fault.New -/
def F_fault_New (code : Int) (at_ : Int) (w : World) (Q : Value → World → Prop) : Prop :=
  cond ((code : Int) == 0)
  (Q (.nilIface) w)
  (allocK w (#[.int .i64 (code), .int .i64 (at_), .nilIface]) T_fault_Fault fun a1 w2 =>
   Q (.iface T_p_fault_Fault (.pointer (some (a1)))) w2)
def A_fault_New : Ann := ⟨[], [], []⟩
theorem F_fault_New_eq (code : Int) (at_ : Int) (w : World) (Q : Value → World → Prop) : vcFn Tryd.prog A_fault_New Tryd.f32 #[.int .i64 (code), .int .i64 (at_)] w Q = F_fault_New code at_ w Q := by kernel_rfl
theorem F_fault_New_does (code : Int) (at_ : Int) (w : World) (Q : Value → World → Prop) (hQ : F_fault_New code at_ w Q) : Does Tryd.prog N_fault_New #[.int .i64 (code), .int .i64 (at_)] w Q :=
  vcFn_sound noAsk mixed (A := A_fault_New) (by kernel_rfl) Tryd.func32 (Nat.le_of_ble_eq_true (by kernel_rfl)) (by kernel_rfl) ((F_fault_New_eq code at_ w Q).mpr hQ)

/- nacelle/code.formed -/
def F_code_formed (i0 : Int) (i1 : Int) (i2 : Int) (i3 : Int) (w : World) (Q : Value → World → Prop) : Prop :=
  allocK w (#[.int .u8 (i0), .int .u8 (i1), .int .u8 (i2), .int .u8 (i3)]) T_api_Instr fun a1 w2 =>
  ldT (.int .u8) w2.drew ((a1).add 1) fun x3 =>
  ldT (.int .u8) w2.drew ((a1).add 2) fun x4 =>
  ldT (.int .u8) w2.drew ((a1).add 3) fun x5 =>
  ∀ J7 : World → Prop, (∀ w6 : World, 
    (ldT (.int .u8) w6 (a1) fun x8 =>
    cond (decide ((x8 : Int) ≥ 3))
    (ldT (.int .u8) w6 (a1) fun x9 =>
     cond (decide ((x9 : Int) ≤ 12))
     (cond (decide ((x3 : Int) < 8))
      (cond (decide ((x4 : Int) < 8))
       (Q (.bool (decide ((x5 : Int) < 8))) w6)
       (Q (.bool (false)) w6))
      (Q (.bool (false)) w6))
     (Q (.bool (false)) w6))
    (Q (.bool (false)) w6)) → J7 w6) →
  ldT (.int .u8) w2.drew (a1) fun x10 =>
  ∀ J12 : World → Prop, (∀ w11 : World, 
    (cond (!(decide ((x4 : Int) < 8)))
    (Q (.bool (false)) w11)
    (Q (.bool (decide ((x3 : Int) < 8))) w11)) → J12 w11) →
  ∀ J14 : World → Prop, (∀ w13 : World, 
    (ldT (.int .u8) w13 ((a1).add 1) fun x15 =>
    Q (.bool ((x15 : Int) == 0)) w13) → J14 w13) →
  cond ((x10 : Int) == 0)
  (ldT (.int .u8) w2.drew ((a1).add 2) fun x16 =>
   cond ((x16 : Int) != 0)
   (Q (.bool (false)) w2.drew)
   (ldT (.int .u8) w2.drew ((a1).add 3) fun x17 =>
    cond ((x17 : Int) != 0)
    (Q (.bool (false)) w2.drew)
    (J14 w2.drew)))
  (cond ((x10 : Int) == 15)
   (J14 w2.drew)
   (cond ((x10 : Int) == 17)
    (ldT (.int .u8) w2.drew ((a1).add 1) fun x18 =>
     cond (decide ((x18 : Int) < 16))
     (ldT (.int .u8) w2.drew ((a1).add 2) fun x19 =>
      cond ((x19 : Int) == 0)
      (ldT (.int .u8) w2.drew ((a1).add 3) fun x20 =>
       Q (.bool ((x20 : Int) == 0)) w2.drew)
      (Q (.bool (false)) w2.drew))
     (Q (.bool (false)) w2.drew))
    (cond ((x10 : Int) == 2)
     (ldT (.int .u8) w2.drew ((a1).add 3) fun x21 =>
      cond ((x21 : Int) != 0)
      (Q (.bool (false)) w2.drew)
      (J12 w2.drew))
     (∀ J23 : World → Prop, (∀ w22 : World, 
        (cond ((x10 : Int) == 1)
        (cond ((x10 : Int) == 1)
         (Q (.bool (decide ((x3 : Int) < 8))) w22)
         (J7 w22))
        (cond ((x10 : Int) == 16)
         (Q (.bool (decide ((x3 : Int) < 8))) w22)
         (J7 w22))) → J23 w22) →
      cond ((x10 : Int) == 13)
      (cond ((x10 : Int) == 13)
       (J12 w2.drew)
       (J23 w2.drew))
      (cond ((x10 : Int) == 14)
       (J12 w2.drew)
       (J23 w2.drew))))))
def A_code_formed : Ann := ⟨[], [(9, []), (13, []), (17, []), (20, [])], [(1, [⟨0, 0, 0, true⟩, ⟨1, 1, 1, true⟩, ⟨2, 2, 3, true⟩, ⟨0, 0, 0, true⟩, ⟨8, 8, 8, true⟩, ⟨16, 16, 24, true⟩, ⟨0, 0, 0, true⟩, ⟨64, 64, 64, true⟩, ⟨128, 128, 192, true⟩, ⟨7, 4, 7, true⟩, ⟨575, 32, 575, true⟩, ⟨2047, 256, 2047, true⟩])]⟩
theorem F_code_formed_eq (i0 : Int) (i1 : Int) (i2 : Int) (i3 : Int) (w : World) (Q : Value → World → Prop) : vcFn Tryd.prog A_code_formed Tryd.f33 #[.agg #[.int .u8 (i0), .int .u8 (i1), .int .u8 (i2), .int .u8 (i3)]] w Q = F_code_formed i0 i1 i2 i3 w Q := by kernel_rfl
theorem F_code_formed_does (i0 : Int) (i1 : Int) (i2 : Int) (i3 : Int) (w : World) (Q : Value → World → Prop) (hQ : F_code_formed i0 i1 i2 i3 w Q) : Does Tryd.prog N_code_formed #[.agg #[.int .u8 (i0), .int .u8 (i1), .int .u8 (i2), .int .u8 (i3)]] w Q :=
  vcFn_sound noAsk mixed (A := A_code_formed) (by kernel_rfl) Tryd.func33 (Nat.le_of_ble_eq_true (by kernel_rfl)) (by kernel_rfl) ((F_code_formed_eq i0 i1 i2 i3 w Q).mpr hQ)

/- nacelle/code.jumps -/
def F_code_jumps (i0 : Int) (i1 : Int) (i2 : Int) (i3 : Int) (w : World) (Q : Value → World → Prop) : Prop :=
  allocK w (#[.int .u8 (i0), .int .u8 (i1), .int .u8 (i2), .int .u8 (i3)]) T_api_Instr fun a1 w2 =>
  ldT (.int .u8) w2 (a1) fun x3 =>
  cond ((x3 : Int) == 15)
  (Q (.bool (true)) w2)
  (ldT (.int .u8) w2 (a1) fun x4 =>
   Q (.bool ((x4 : Int) == 16)) w2)
def A_code_jumps : Ann := ⟨[], [], []⟩
theorem F_code_jumps_eq (i0 : Int) (i1 : Int) (i2 : Int) (i3 : Int) (w : World) (Q : Value → World → Prop) : vcFn Tryd.prog A_code_jumps Tryd.f34 #[.agg #[.int .u8 (i0), .int .u8 (i1), .int .u8 (i2), .int .u8 (i3)]] w Q = F_code_jumps i0 i1 i2 i3 w Q := by kernel_rfl
theorem F_code_jumps_does (i0 : Int) (i1 : Int) (i2 : Int) (i3 : Int) (w : World) (Q : Value → World → Prop) (hQ : F_code_jumps i0 i1 i2 i3 w Q) : Does Tryd.prog N_code_jumps #[.agg #[.int .u8 (i0), .int .u8 (i1), .int .u8 (i2), .int .u8 (i3)]] w Q :=
  vcFn_sound noAsk mixed (A := A_code_jumps) (by kernel_rfl) Tryd.func34 (Nat.le_of_ble_eq_true (by kernel_rfl)) (by kernel_rfl) ((F_code_jumps_eq i0 i1 i2 i3 w Q).mpr hQ)

/- nacelle/code.Number -/
def F_code_Number (i0 : Int) (i1 : Int) (i2 : Int) (i3 : Int) (w : World) (Q : Value → World → Prop) : Prop :=
  allocK w (#[.int .u8 (i0), .int .u8 (i1), .int .u8 (i2), .int .u8 (i3)]) T_api_Instr fun a1 w2 =>
  ldT (.int .u8) w2 ((a1).add 2) fun x3 =>
  ldT (.int .u8) w2 ((a1).add 3) fun x4 =>
  (0 : Int) ≤ 8 ∧
  ldT (.int .u8) w2 (a1) fun x5 =>
  cond ((x5 : Int) == 1)
  (Q (.int .i64 (IntKind.wrap .i64 (IntKind.wrap .i16 (bits .or .u16 (IntKind.wrap .u16 x3) (IntKind.wrap .u16 ((IntKind.wrap .u16 x4) * 2 ^ (min (Int.toNat (8)) (IntKind.bits .u16)))))))) w2)
  (Q (.int .i64 (IntKind.wrap .i64 (bits .or .u16 (IntKind.wrap .u16 x3) (IntKind.wrap .u16 ((IntKind.wrap .u16 x4) * 2 ^ (min (Int.toNat (8)) (IntKind.bits .u16))))))) w2)
def A_code_Number : Ann := ⟨[], [], []⟩
theorem F_code_Number_eq (i0 : Int) (i1 : Int) (i2 : Int) (i3 : Int) (w : World) (Q : Value → World → Prop) : vcFn Tryd.prog A_code_Number Tryd.f35 #[.agg #[.int .u8 (i0), .int .u8 (i1), .int .u8 (i2), .int .u8 (i3)]] w Q = F_code_Number i0 i1 i2 i3 w Q := by kernel_rfl
theorem F_code_Number_does (i0 : Int) (i1 : Int) (i2 : Int) (i3 : Int) (w : World) (Q : Value → World → Prop) (hQ : F_code_Number i0 i1 i2 i3 w Q) : Does Tryd.prog N_code_Number #[.agg #[.int .u8 (i0), .int .u8 (i1), .int .u8 (i2), .int .u8 (i3)]] w Q :=
  vcFn_sound noAsk mixed (A := A_code_Number) (by kernel_rfl) Tryd.func35 (Nat.le_of_ble_eq_true (by kernel_rfl)) (by kernel_rfl) ((F_code_Number_eq i0 i1 i2 i3 w Q).mpr hQ)

/- nacelle/sha.Sum -/
def F_sha_Sum (b : Sl) (w : World) (Q : Value → World → Prop) : Prop :=
  allocK w (zc Tryd.prog T_a32_uint8) T_a32_uint8 fun a1 w2 =>
  Does Tryd.prog N_sha_New #[] w2 fun r3 w4 => ∃ p5 : Option Addr, r3 = .pointer (p5) ∧
  Does Tryd.prog N_sha_Hash_Write #[.pointer (p5), .slice (b.a) (b.len) (b.cap)] w4 fun r6 w7 => r6 = .tuple #[] ∧
  Does Tryd.prog N_sha_Hash_Sum #[.pointer (p5)] w7 fun r8 w9 => ∃ c10 : Array Value, r8 = .agg (c10) ∧
  stArr w9 (a1) (c10) 32 fun w11 =>
  ldArr w11 (a1) 32 fun c12 =>
  Q (.agg (c12)) w11
def A_sha_Sum : Ann := ⟨[], [], []⟩
theorem F_sha_Sum_eq (b : Sl) (w : World) (Q : Value → World → Prop) : vcFn Tryd.prog A_sha_Sum Tryd.f36 #[.slice (b.a) (b.len) (b.cap)] w Q = F_sha_Sum b w Q := by kernel_rfl
theorem F_sha_Sum_does (b : Sl) (w : World) (Q : Value → World → Prop) (hQ : F_sha_Sum b w Q) : Does Tryd.prog N_sha_Sum #[.slice (b.a) (b.len) (b.cap)] w Q :=
  vcFn_sound noAsk mixed (A := A_sha_Sum) (by kernel_rfl) Tryd.func36 (Nat.le_of_ble_eq_true (by kernel_rfl)) (by kernel_rfl) ((F_sha_Sum_eq b w Q).mpr hQ)

/- nacelle/octet.Put -/
def F_octet_Put (n : Int) (size : Int) (w : World) (Q : Value → World → Prop) : Prop :=
  ∀ J2 : World → Prop, (∀ w1 : World, 
    (runG (.sl) Tryd.prog w1 (Instr.makeSlice T_l_uint8 (.int .i64 (size)) (.int .i64 (size))) fun l3 w4 =>
    ∃ (I8 : Int → Int → World → Prop) (M9 : Int → Int → World → Nat), I8 n 0 w4 ∧
    ∀ n5 : Int, ∀ x6 : Int, ∀ w7 : World, I8 n5 x6 w7 →
      cond (decide ((x6 : Int) < (((l3.len : Nat) : Int))))
      (idx (l3.a) (l3.len) (x6) 1 fun a10 =>
       stC w7 (a10) (.int .u8 (IntKind.wrap .u8 n5)) fun w11 =>
       (0 : Int) ≤ 8 ∧
       I8 (Int.fdiv n5 (2 ^ (min (Int.toNat (8)) (IntKind.bits .u64)))) (IntKind.wrap .i64 (x6 + 1)) w11 ∧ M9 (Int.fdiv n5 (2 ^ (min (Int.toNat (8)) (IntKind.bits .u64)))) (IntKind.wrap .i64 (x6 + 1)) w11 < M9 n5 x6 w7)
      (Q (.slice (l3.a) (l3.len) (l3.cap)) w7)) → J2 w1) →
  cond (decide ((size : Int) < 1))
  (Q (.slice (none) (0) (0)) w)
  (cond (decide ((size : Int) > 8))
   (Q (.slice (none) (0) (0)) w)
   (J2 w))
def A_octet_Put : Ann := ⟨[(5, [(0, .one (.int .u64)), (17, .one (.int .i64))])], [(3, [])], []⟩
theorem F_octet_Put_eq (n : Int) (size : Int) (w : World) (Q : Value → World → Prop) : vcFn Tryd.prog A_octet_Put Tryd.f37 #[.int .u64 (n), .int .i64 (size)] w Q = F_octet_Put n size w Q := by kernel_rfl
theorem F_octet_Put_does (n : Int) (size : Int) (w : World) (Q : Value → World → Prop) (hQ : F_octet_Put n size w Q) : Does Tryd.prog N_octet_Put #[.int .u64 (n), .int .i64 (size)] w Q :=
  vcFn_sound noAsk mixed (A := A_octet_Put) (by kernel_rfl) Tryd.func37 (Nat.le_of_ble_eq_true (by kernel_rfl)) (by kernel_rfl) ((F_octet_Put_eq n size w Q).mpr hQ)

/- nacelle/octet.Read -/
def F_octet_Read (b : Sl) (w : World) (Q : Value → World → Prop) : Prop :=
  runG (.sl) Tryd.prog w (Builtin.append_ #[T_l_uint8, T_l_uint8] T_l_uint8 #[.slice (none) (0) (0), .slice (b.a) (b.len) (b.cap)]) fun l1 w2 =>
  allocK w2 (#[.slice (l1.a) (l1.len) (l1.cap), .int .i64 (0), .nilIface]) T_octet_Reader fun a3 w4 =>
  Q (.pointer (some (a3))) w4
def A_octet_Read : Ann := ⟨[], [], []⟩
theorem F_octet_Read_eq (b : Sl) (w : World) (Q : Value → World → Prop) : vcFn Tryd.prog A_octet_Read Tryd.f38 #[.slice (b.a) (b.len) (b.cap)] w Q = F_octet_Read b w Q := by kernel_rfl
theorem F_octet_Read_does (b : Sl) (w : World) (Q : Value → World → Prop) (hQ : F_octet_Read b w Q) : Does Tryd.prog N_octet_Read #[.slice (b.a) (b.len) (b.cap)] w Q :=
  vcFn_sound noAsk mixed (A := A_octet_Read) (by kernel_rfl) Tryd.func38 (Nat.le_of_ble_eq_true (by kernel_rfl)) (by kernel_rfl) ((F_octet_Read_eq b w Q).mpr hQ)

/- (*nacelle/octet.Reader).Num -/
def F_octet_Reader_Num (r : Option Addr) (size : Int) (w : World) (Q : Value → World → Prop) : Prop :=
  ∀ J2 : World → Prop, (∀ w1 : World, 
    (Does Tryd.prog N_octet_Reader_Bytes #[.pointer (r), .int .i64 (size)] w1 fun r3 w4 => ∃ l5 : Sl, r3 = .slice (l5.a) (l5.len) (l5.cap) ∧
    Does Tryd.prog N_octet_Get #[.slice (l5.a) (l5.len) (l5.cap)] w4 fun r6 w7 => ∃ x8 : Int, ∃ x9 : Int, r6 = .tuple #[.int .u64 (x8), .int .i64 (x9)] ∧
    Q (.int .u64 (x8)) w7) → J2 w1) →
  ∀ J12 : Bool → World → Prop, (∀ b10 : Bool, ∀ w11 : World, 
    (cond (b10)
    (Does Tryd.prog N_octet_Reader_fail #[.pointer (r), .int .i64 (1)] w11 fun r13 w14 => r13 = .tuple #[] ∧
     Q (.int .u64 (0)) w14)
    (J2 w11)) → J12 b10 w11) →
  cond (decide ((size : Int) < 1))
  (J12 true w)
  (J12 (decide ((size : Int) > 8)) w)
def A_octet_Reader_Num : Ann := ⟨[], [(2, [(12, .one (.bool))]), (4, [])], []⟩
theorem F_octet_Reader_Num_eq (r : Option Addr) (size : Int) (w : World) (Q : Value → World → Prop) : vcFn Tryd.prog A_octet_Reader_Num Tryd.f39 #[.pointer (r), .int .i64 (size)] w Q = F_octet_Reader_Num r size w Q := by kernel_rfl
theorem F_octet_Reader_Num_does (r : Option Addr) (size : Int) (w : World) (Q : Value → World → Prop) (hQ : F_octet_Reader_Num r size w Q) : Does Tryd.prog N_octet_Reader_Num #[.pointer (r), .int .i64 (size)] w Q :=
  vcFn_sound noAsk mixed (A := A_octet_Reader_Num) (by kernel_rfl) Tryd.func39 (Nat.le_of_ble_eq_true (by kernel_rfl)) (by kernel_rfl) ((F_octet_Reader_Num_eq r size w Q).mpr hQ)

/- (*nacelle/octet.Reader).Must -/
def F_octet_Reader_Must (r : Option Addr) (ok : Bool) (code : Int) (w : World) (Q : Value → World → Prop) : Prop :=
  cond (ok)
  (Q (.tuple #[]) w)
  (∀ J3 : Int → World → Prop, (∀ code1 : Int, ∀ w2 : World, 
     (Does Tryd.prog N_octet_Reader_fail #[.pointer (r), .int .i64 (code1)] w2 fun r4 w5 => r4 = .tuple #[] ∧
     Q (.tuple #[]) w5) → J3 code1 w2) →
   cond ((code : Int) == 0)
   (J3 3 w)
   (J3 code w))
def A_octet_Reader_Must : Ann := ⟨[], [(3, [(2, .one (.int .i64))])], []⟩
theorem F_octet_Reader_Must_eq (r : Option Addr) (ok : Bool) (code : Int) (w : World) (Q : Value → World → Prop) : vcFn Tryd.prog A_octet_Reader_Must Tryd.f40 #[.pointer (r), .bool (ok), .int .i64 (code)] w Q = F_octet_Reader_Must r ok code w Q := by kernel_rfl
theorem F_octet_Reader_Must_does (r : Option Addr) (ok : Bool) (code : Int) (w : World) (Q : Value → World → Prop) (hQ : F_octet_Reader_Must r ok code w Q) : Does Tryd.prog N_octet_Reader_Must #[.pointer (r), .bool (ok), .int .i64 (code)] w Q :=
  vcFn_sound noAsk mixed (A := A_octet_Reader_Must) (by kernel_rfl) Tryd.func40 (Nat.le_of_ble_eq_true (by kernel_rfl)) (by kernel_rfl) ((F_octet_Reader_Must_eq r ok code w Q).mpr hQ)

/- (*nacelle/octet.Reader).Bytes -/
def F_octet_Reader_Bytes (r : Option Addr) (n : Int) (w : World) (Q : Value → World → Prop) : Prop :=
  nnil (r) fun a1 =>
  ldT (.raw) w ((a1).add 2) fun v2 =>
  runG (.bool) Tryd.prog w (do eqGuard .neq T_error (.tmp 10) (.const (.nilIface)) (v2) (.nilIface); binOp .neq T_error (v2) (.nilIface)) fun b3 w4 =>
  cond (b3)
  (Q (.slice (none) (0) (0)) w4)
  (cond (decide ((n : Int) < 0))
   (Does Tryd.prog N_octet_Reader_fail #[.pointer (r), .int .i64 (1)] w4 fun r5 w6 => r5 = .tuple #[] ∧
    Q (.slice (none) (0) (0)) w6)
   (Does Tryd.prog N_octet_Reader_Left #[.pointer (r)] w4 fun r7 w8 => ∃ x9 : Int, r7 = .int .i64 (x9) ∧
    cond (decide ((n : Int) > x9))
    (Does Tryd.prog N_octet_Reader_fail #[.pointer (r), .int .i64 (2)] w8 fun r10 w11 => r10 = .tuple #[] ∧
     Q (.slice (none) (0) (0)) w11)
    (nnil (r) fun a12 =>
     ldT (.sl) w8.drew (a12) fun l13 =>
     nnil (r) fun a14 =>
     ldT (.int .i64) w8.drew ((a14).add 1) fun x15 =>
     nnil (r) fun a16 =>
     ldT (.int .i64) w8.drew ((a16).add 1) fun x17 =>
     slcT ⟨l13.a, l13.len, l13.cap⟩ (x15) (IntKind.wrap .i64 (x17 + n)) 1 fun l18 =>
     runG (.sl) Tryd.prog w8.drew (Builtin.append_ #[T_l_uint8, T_l_uint8] T_l_uint8 #[.slice (none) (0) (0), .slice (l18.a) (l18.len) (l18.cap)]) fun l19 w20 =>
     nnil (r) fun a21 =>
     ldT (.int .i64) w20 ((a21).add 1) fun x22 =>
     nnil (r) fun a23 =>
     stC w20 ((a23).add 1) (.int .i64 (IntKind.wrap .i64 (x22 + n))) fun w24 =>
     Q (.slice (l19.a) (l19.len) (l19.cap)) w24)))
def A_octet_Reader_Bytes : Ann := ⟨[], [], [(9, [⟨0, 0, 0, true⟩, ⟨1, 1, 1, true⟩, ⟨2, 2, 3, true⟩, ⟨4, 4, 7, true⟩, ⟨0, 0, 0, true⟩, ⟨16, 16, 16, true⟩, ⟨32, 32, 48, true⟩, ⟨64, 64, 112, true⟩, ⟨0, 0, 0, true⟩, ⟨256, 256, 256, true⟩, ⟨512, 512, 768, true⟩, ⟨1024, 1024, 1792, true⟩, ⟨0, 0, 0, true⟩, ⟨6144, 6144, 7936, true⟩, ⟨8328, 8328, 16383, true⟩, ⟨16384, 0, 32767, false⟩, ⟨65535, 32768, 65535, true⟩])]⟩
theorem F_octet_Reader_Bytes_eq (r : Option Addr) (n : Int) (w : World) (Q : Value → World → Prop) : vcFn Tryd.prog A_octet_Reader_Bytes Tryd.f41 #[.pointer (r), .int .i64 (n)] w Q = F_octet_Reader_Bytes r n w Q := by kernel_rfl
theorem F_octet_Reader_Bytes_does (r : Option Addr) (n : Int) (w : World) (Q : Value → World → Prop) (hQ : F_octet_Reader_Bytes r n w Q) : Does Tryd.prog N_octet_Reader_Bytes #[.pointer (r), .int .i64 (n)] w Q :=
  vcFn_sound noAsk mixed (A := A_octet_Reader_Bytes) (by kernel_rfl) Tryd.func41 (Nat.le_of_ble_eq_true (by kernel_rfl)) (by kernel_rfl) ((F_octet_Reader_Bytes_eq r n w Q).mpr hQ)

/- (*nacelle/octet.Reader).At -/
def F_octet_Reader_At (r : Option Addr) (w : World) (Q : Value → World → Prop) : Prop :=
  nnil (r) fun a1 =>
  ldT (.int .i64) w ((a1).add 1) fun x2 =>
  Q (.int .i64 (x2)) w
def A_octet_Reader_At : Ann := ⟨[], [], []⟩
theorem F_octet_Reader_At_eq (r : Option Addr) (w : World) (Q : Value → World → Prop) : vcFn Tryd.prog A_octet_Reader_At Tryd.f42 #[.pointer (r)] w Q = F_octet_Reader_At r w Q := by kernel_rfl
theorem F_octet_Reader_At_does (r : Option Addr) (w : World) (Q : Value → World → Prop) (hQ : F_octet_Reader_At r w Q) : Does Tryd.prog N_octet_Reader_At #[.pointer (r)] w Q :=
  vcFn_sound noAsk mixed (A := A_octet_Reader_At) (by kernel_rfl) Tryd.func42 (Nat.le_of_ble_eq_true (by kernel_rfl)) (by kernel_rfl) ((F_octet_Reader_At_eq r w Q).mpr hQ)

/- (*nacelle/octet.Reader).End -/
def F_octet_Reader_End (r : Option Addr) (w : World) (Q : Value → World → Prop) : Prop :=
  nnil (r) fun a1 =>
  ldT (.raw) w ((a1).add 2) fun v2 =>
  runG (.bool) Tryd.prog w (do eqGuard .neq T_error (.tmp 6) (.const (.nilIface)) (v2) (.nilIface); binOp .neq T_error (v2) (.nilIface)) fun b3 w4 =>
  cond (b3)
  (nnil (r) fun a5 =>
   ldT (.raw) w4 ((a5).add 2) fun v6 =>
   Q (v6) w4)
  (Does Tryd.prog N_octet_Reader_Left #[.pointer (r)] w4 fun r7 w8 => ∃ x9 : Int, r7 = .int .i64 (x9) ∧
   cond (decide ((x9 : Int) > 0))
   (nnil (r) fun a10 =>
    ldT (.int .i64) w8 ((a10).add 1) fun x11 =>
    Does Tryd.prog N_fault_New #[.int .i64 (7), .int .i64 (x11)] w8 fun r12 w13 => ∃ v14 : Value, r12 = v14 ∧
    Q (v14) w13)
   (Q (.nilIface) w8))
def A_octet_Reader_End : Ann := ⟨[], [], []⟩
theorem F_octet_Reader_End_eq (r : Option Addr) (w : World) (Q : Value → World → Prop) : vcFn Tryd.prog A_octet_Reader_End Tryd.f43 #[.pointer (r)] w Q = F_octet_Reader_End r w Q := by kernel_rfl
theorem F_octet_Reader_End_does (r : Option Addr) (w : World) (Q : Value → World → Prop) (hQ : F_octet_Reader_End r w Q) : Does Tryd.prog N_octet_Reader_End #[.pointer (r)] w Q :=
  vcFn_sound noAsk mixed (A := A_octet_Reader_End) (by kernel_rfl) Tryd.func43 (Nat.le_of_ble_eq_true (by kernel_rfl)) (by kernel_rfl) ((F_octet_Reader_End_eq r w Q).mpr hQ)

/- nacelle/fault.In -/
def F_fault_In (err_t : Nat) (err_v : Value) (at_ : Int) (w : World) (Q : Value → World → Prop) : Prop :=
  runG (.bool) Tryd.prog w (do eqGuard .eql T_error (.tmp 5) (.const (.nilIface)) ((.iface err_t err_v)) (.nilIface); binOp .eql T_error ((.iface err_t err_v)) (.nilIface)) fun b1 w2 =>
  cond (b1)
  (Q (.nilIface) w2)
  (Does Tryd.prog N_fault_Code #[(.iface err_t err_v)] w2 fun r3 w4 => ∃ x5 : Int, r3 = .int .i64 (x5) ∧
   allocK w4 (#[.int .i64 (x5), .int .i64 (at_), (.iface err_t err_v)]) T_fault_Fault fun a6 w7 =>
   Q (.iface T_p_fault_Fault (.pointer (some (a6)))) w7)
def A_fault_In : Ann := ⟨[], [], []⟩
theorem F_fault_In_eq (err_t : Nat) (err_v : Value) (at_ : Int) (w : World) (Q : Value → World → Prop) : vcFn Tryd.prog A_fault_In Tryd.f44 #[(.iface err_t err_v), .int .i64 (at_)] w Q = F_fault_In err_t err_v at_ w Q := by kernel_rfl
theorem F_fault_In_does (err_t : Nat) (err_v : Value) (at_ : Int) (w : World) (Q : Value → World → Prop) (hQ : F_fault_In err_t err_v at_ w Q) : Does Tryd.prog N_fault_In #[(.iface err_t err_v), .int .i64 (at_)] w Q :=
  vcFn_sound noAsk mixed (A := A_fault_In) (by kernel_rfl) Tryd.func44 (Nat.le_of_ble_eq_true (by kernel_rfl)) (by kernel_rfl) ((F_fault_In_eq err_t err_v at_ w Q).mpr hQ)

/- nacelle/code.Decode -/
def F_code_Decode (b : Sl) (w : World) (Q : Value → World → Prop) : Prop :=
  (4 : Int) ≠ 0 ∧
  cond (((Int.tmod (((b.len : Nat) : Int)) 4) : Int) != 0)
  ((4 : Int) ≠ 0 ∧
   Does Tryd.prog N_fault_New #[.int .i64 (2), .int .i64 (IntKind.wrap .i64 (Int.tdiv (((b.len : Nat) : Int)) 4))] w fun r1 w2 => ∃ v3 : Value, r1 = v3 ∧
   Q (.tuple #[.slice (none) (0) (0), v3]) w2)
  (∃ (I7 : Sl → Sl → World → Prop) (M8 : Sl → Sl → World → Nat), I7 ⟨b.a, b.len, b.cap⟩ ⟨none, 0, 0⟩ w ∧
   ∀ b4 : Sl, ∀ l5 : Sl, ∀ w6 : World, I7 b4 l5 w6 →
     cond (decide (((((b4.len : Nat) : Int)) : Int) > 0))
     (idx (b4.a) (b4.len) (0) 1 fun a9 =>
      ldT (.int .u8) w6.drew (a9) fun x10 =>
      idx (b4.a) (b4.len) (1) 1 fun a11 =>
      ldT (.int .u8) w6.drew (a11) fun x12 =>
      idx (b4.a) (b4.len) (2) 1 fun a13 =>
      ldT (.int .u8) w6.drew (a13) fun x14 =>
      idx (b4.a) (b4.len) (3) 1 fun a15 =>
      ldT (.int .u8) w6.drew (a15) fun x16 =>
      allocK w6.drew #[.int .u8 (x10), .int .u8 (x12), .int .u8 (x14), .int .u8 (x16)] T_api_Instr fun a17 w18 =>
      runG (.sl) Tryd.prog w18 (Builtin.append_ #[T_l_api_Instr, T_l_api_Instr] T_l_api_Instr #[.slice (l5.a) (l5.len) (l5.cap), .slice (some (a17)) (1) (1)]) fun l19 w20 =>
      slcT ⟨b4.a, b4.len, b4.cap⟩ (4) (((b4.len : Nat) : Int)) 1 fun l21 =>
      I7 ⟨l21.a, l21.len, l21.cap⟩ ⟨l19.a, l19.len, l19.cap⟩ w20 ∧ M8 ⟨l21.a, l21.len, l21.cap⟩ ⟨l19.a, l19.len, l19.cap⟩ w20 < M8 b4 l5 w6)
     (Does Tryd.prog N_code_Check #[.slice (l5.a) (l5.len) (l5.cap)] w6 fun r22 w23 => ∃ v24 : Value, r22 = v24 ∧
      runG (.bool) Tryd.prog w23 (do eqGuard .neq T_error (.tmp 37) (.const (.nilIface)) (v24) (.nilIface); binOp .neq T_error (v24) (.nilIface)) fun b25 w26 =>
      cond (b25)
      (Does Tryd.prog N_fault_Path #[v24] w26 fun r27 w28 => ∃ l29 : Sl, r27 = .slice (l29.a) (l29.len) (l29.cap) ∧
       idx (l29.a) (l29.len) (0) 1 fun a30 =>
       ldT (.int .i64) w28 (a30) fun x31 =>
       Does Tryd.prog N_fault_In #[v24, .int .i64 (IntKind.wrap .i64 (4 * x31))] w28 fun r32 w33 => ∃ v34 : Value, r32 = v34 ∧
       Q (.tuple #[.slice (none) (0) (0), v34]) w33)
      (Q (.tuple #[.slice (l5.a) (l5.len) (l5.cap), .nilIface]) w26)))
def A_code_Decode : Ann := ⟨[(4, [(0, .one (.sl)), (4, .one (.sl))])], [], [(6, [⟨0, 0, 0, true⟩, ⟨0, 0, 0, true⟩, ⟨2, 2, 2, true⟩, ⟨4, 4, 6, true⟩, ⟨0, 0, 0, true⟩, ⟨16, 16, 16, true⟩, ⟨32, 32, 48, true⟩, ⟨0, 0, 0, true⟩, ⟨128, 128, 128, true⟩, ⟨256, 256, 384, true⟩, ⟨0, 0, 0, true⟩, ⟨1024, 1024, 1024, true⟩, ⟨2048, 2048, 3072, true⟩, ⟨4680, 4680, 8190, true⟩, ⟨8192, 0, 16382, false⟩, ⟨16385, 0, 32767, false⟩, ⟨65535, 32769, 65535, true⟩])]⟩
theorem F_code_Decode_eq (b : Sl) (w : World) (Q : Value → World → Prop) : vcFn Tryd.prog A_code_Decode Tryd.f45 #[.slice (b.a) (b.len) (b.cap)] w Q = F_code_Decode b w Q := by kernel_rfl
theorem F_code_Decode_does (b : Sl) (w : World) (Q : Value → World → Prop) (hQ : F_code_Decode b w Q) : Does Tryd.prog N_code_Decode #[.slice (b.a) (b.len) (b.cap)] w Q :=
  vcFn_sound noAsk mixed (A := A_code_Decode) (by kernel_rfl) Tryd.func45 (Nat.le_of_ble_eq_true (by kernel_rfl)) (by kernel_rfl) ((F_code_Decode_eq b w Q).mpr hQ)

/- nacelle/nacelleref04.padded -/
def F_ref04_padded (b : Sl) (w : World) (Q : Value → World → Prop) : Prop :=
  allocK w #[] T_uint8 fun a1 w2 =>
  runG (.sl) Tryd.prog w2 (Builtin.append_ #[T_l_uint8, T_l_uint8] T_l_uint8 #[.slice (some (a1)) (0) (0), .slice (b.a) (b.len) (b.cap)]) fun l3 w4 =>
  allocK w4 #[.int .u8 (128)] T_uint8 fun a5 w6 =>
  runG (.sl) Tryd.prog w6 (Builtin.append_ #[T_l_uint8, T_l_uint8] T_l_uint8 #[.slice (l3.a) (l3.len) (l3.cap), .slice (some (a5)) (1) (1)]) fun l7 w8 =>
  ∃ (I11 : Sl → World → Prop) (M12 : Sl → World → Nat), I11 ⟨l7.a, l7.len, l7.cap⟩ w8 ∧
  ∀ out9 : Sl, ∀ w10 : World, I11 out9 w10 →
    (64 : Int) ≠ 0 ∧
    cond (((Int.tmod (((out9.len : Nat) : Int)) 64) : Int) != 56)
    (allocK w10 #[.int .u8 (0)] T_uint8 fun a13 w14 =>
     runG (.sl) Tryd.prog w14 (Builtin.append_ #[T_l_uint8, T_l_uint8] T_l_uint8 #[.slice (out9.a) (out9.len) (out9.cap), .slice (some (a13)) (1) (1)]) fun l15 w16 =>
     I11 ⟨l15.a, l15.len, l15.cap⟩ w16 ∧ M12 ⟨l15.a, l15.len, l15.cap⟩ w16 < M12 out9 w10)
    (∃ (I20 : Sl → Int → World → Prop) (M21 : Sl → Int → World → Nat), I20 ⟨out9.a, out9.len, out9.cap⟩ 7 w10 ∧
     ∀ out17 : Sl, ∀ k18 : Int, ∀ w19 : World, I20 out17 k18 w19 →
       cond (decide ((k18 : Int) ≥ 0))
       ((0 : Int) ≤ (IntKind.wrap .u64 (IntKind.wrap .i64 (8 * k18))) ∧
        allocK w19 #[.int .u8 (IntKind.wrap .u8 (Int.fdiv (IntKind.wrap .u64 ((IntKind.wrap .u64 (((b.len : Nat) : Int))) * 8)) (2 ^ (min (Int.toNat ((IntKind.wrap .u64 (IntKind.wrap .i64 (8 * k18))))) (IntKind.bits .u64)))))] T_uint8 fun a22 w23 =>
        runG (.sl) Tryd.prog w23 (Builtin.append_ #[T_l_uint8, T_l_uint8] T_l_uint8 #[.slice (out17.a) (out17.len) (out17.cap), .slice (some (a22)) (1) (1)]) fun l24 w25 =>
        I20 ⟨l24.a, l24.len, l24.cap⟩ (IntKind.wrap .i64 (k18 - 1)) w25 ∧ M21 ⟨l24.a, l24.len, l24.cap⟩ (IntKind.wrap .i64 (k18 - 1)) w25 < M21 out17 k18 w19)
       (Q (.slice (out17.a) (out17.len) (out17.cap)) w19))
def A_ref04_padded : Ann := ⟨[(2, [(3, .one (.sl))]), (6, [(3, .one (.sl)), (5, .one (.int .i64))])], [], []⟩
theorem F_ref04_padded_eq (b : Sl) (w : World) (Q : Value → World → Prop) : vcFn Tryd.prog A_ref04_padded Tryd.f46 #[.slice (b.a) (b.len) (b.cap)] w Q = F_ref04_padded b w Q := by kernel_rfl
theorem F_ref04_padded_does (b : Sl) (w : World) (Q : Value → World → Prop) (hQ : F_ref04_padded b w Q) : Does Tryd.prog N_ref04_padded #[.slice (b.a) (b.len) (b.cap)] w Q :=
  vcFn_sound noAsk mixed (A := A_ref04_padded) (by kernel_rfl) Tryd.func46 (Nat.le_of_ble_eq_true (by kernel_rfl)) (by kernel_rfl) ((F_ref04_padded_eq b w Q).mpr hQ)

/- nacelle/nacelleref04.block -/
def F_ref04_block (h0 : Int) (h1 : Int) (h2 : Int) (h3 : Int) (h4 : Int) (h5 : Int) (h6 : Int) (h7 : Int) (b : Sl) (w : World) (Q : Value → World → Prop) : Prop :=
  allocK w (#[.int .u32 (h0), .int .u32 (h1), .int .u32 (h2), .int .u32 (h3), .int .u32 (h4), .int .u32 (h5), .int .u32 (h6), .int .u32 (h7)]) T_a8_uint32 fun a1 w2 =>
  allocK w2 (zc Tryd.prog T_a8_uint32) T_a8_uint32 fun a3 w4 =>
  Does Tryd.prog N_ref04_words #[.slice (b.a) (b.len) (b.cap)] w4 fun r5 w6 => ∃ l7 : Sl, r5 = .slice (l7.a) (l7.len) (l7.cap) ∧
  Does Tryd.prog N_ref04_keys #[] w6 fun r8 w9 => ∃ l10 : Sl, r8 = .slice (l10.a) (l10.len) (l10.cap) ∧
  idxR 8 (0) (
  ldT (.int .u32) w9.drew (a1) fun x11 =>
  idxR 8 (1) (
  ldT (.int .u32) w9.drew ((a1).add 1) fun x12 =>
  idxR 8 (2) (
  ldT (.int .u32) w9.drew ((a1).add 2) fun x13 =>
  idxR 8 (3) (
  ldT (.int .u32) w9.drew ((a1).add 3) fun x14 =>
  idxR 8 (4) (
  ldT (.int .u32) w9.drew ((a1).add 4) fun x15 =>
  idxR 8 (5) (
  ldT (.int .u32) w9.drew ((a1).add 5) fun x16 =>
  idxR 8 (6) (
  ldT (.int .u32) w9.drew ((a1).add 6) fun x17 =>
  idxR 8 (7) (
  ldT (.int .u32) w9.drew ((a1).add 7) fun x18 =>
  ∃ (I29 : Int → Int → Int → Int → Int → Int → Int → Int → Int → World → Prop) (M30 : Int → Int → Int → Int → Int → Int → Int → Int → Int → World → Nat), I29 x11 x12 x13 x14 x15 x16 x17 x18 0 w9.drew ∧
  ∀ a19 : Int, ∀ bb20 : Int, ∀ c21 : Int, ∀ d22 : Int, ∀ e23 : Int, ∀ f24 : Int, ∀ g25 : Int, ∀ x26 : Int, ∀ t27 : Int, ∀ w28 : World, I29 a19 bb20 c21 d22 e23 f24 g25 x26 t27 w28 →
    cond (decide ((t27 : Int) < 64))
    (idx (l10.a) (l10.len) (t27) 1 fun a31 =>
     ldT (.int .u32) w28.drew (a31) fun x32 =>
     idx (l7.a) (l7.len) (t27) 1 fun a33 =>
     ldT (.int .u32) w28.drew (a33) fun x34 =>
     Does Tryd.prog N_ref04_turn #[.int .u32 (e23), .int .u64 (6)] w28.drew fun r35 w36 => ∃ x37 : Int, r35 = .int .u32 (x37) ∧
     w36.cell? (a33) = some (.int .u32 (x34)) ∧ w36.cell? (a31) = some (.int .u32 (x32)) ∧ Does Tryd.prog N_ref04_turn #[.int .u32 (e23), .int .u64 (11)] w36 fun r38 w39 => ∃ x40 : Int, r38 = .int .u32 (x40) ∧
     w39.cell? (a33) = some (.int .u32 (x34)) ∧ w39.cell? (a31) = some (.int .u32 (x32)) ∧ Does Tryd.prog N_ref04_turn #[.int .u32 (e23), .int .u64 (25)] w39 fun r41 w42 => ∃ x43 : Int, r41 = .int .u32 (x43) ∧
     w42.cell? (a33) = some (.int .u32 (x34)) ∧ w42.cell? (a31) = some (.int .u32 (x32)) ∧ Does Tryd.prog N_ref04_turn #[.int .u32 (a19), .int .u64 (2)] w42 fun r44 w45 => ∃ x46 : Int, r44 = .int .u32 (x46) ∧
     Does Tryd.prog N_ref04_turn #[.int .u32 (a19), .int .u64 (13)] w45 fun r47 w48 => ∃ x49 : Int, r47 = .int .u32 (x49) ∧
     Does Tryd.prog N_ref04_turn #[.int .u32 (a19), .int .u64 (22)] w48 fun r50 w51 => ∃ x52 : Int, r50 = .int .u32 (x52) ∧
     I29 (IntKind.wrap .u32 ((IntKind.wrap .u32 ((IntKind.wrap .u32 ((IntKind.wrap .u32 ((IntKind.wrap .u32 (x26 + (bits .xor .u32 (bits .xor .u32 x37 x40) x43))) + (bits .or .u32 (bits .and .u32 e23 f24) (bits .and .u32 (IntKind.wrap .u32 (4294967295 - e23)) g25)))) + x32)) + x34)) + (IntKind.wrap .u32 ((bits .xor .u32 (bits .xor .u32 x46 x49) x52) + (bits .or .u32 (bits .or .u32 (bits .and .u32 a19 bb20) (bits .and .u32 a19 c21)) (bits .and .u32 bb20 c21)))))) a19 bb20 c21 (IntKind.wrap .u32 (d22 + (IntKind.wrap .u32 ((IntKind.wrap .u32 ((IntKind.wrap .u32 ((IntKind.wrap .u32 (x26 + (bits .xor .u32 (bits .xor .u32 x37 x40) x43))) + (bits .or .u32 (bits .and .u32 e23 f24) (bits .and .u32 (IntKind.wrap .u32 (4294967295 - e23)) g25)))) + x32)) + x34)))) e23 f24 g25 (IntKind.wrap .i64 (t27 + 1)) w51 ∧ M30 (IntKind.wrap .u32 ((IntKind.wrap .u32 ((IntKind.wrap .u32 ((IntKind.wrap .u32 ((IntKind.wrap .u32 (x26 + (bits .xor .u32 (bits .xor .u32 x37 x40) x43))) + (bits .or .u32 (bits .and .u32 e23 f24) (bits .and .u32 (IntKind.wrap .u32 (4294967295 - e23)) g25)))) + x32)) + x34)) + (IntKind.wrap .u32 ((bits .xor .u32 (bits .xor .u32 x46 x49) x52) + (bits .or .u32 (bits .or .u32 (bits .and .u32 a19 bb20) (bits .and .u32 a19 c21)) (bits .and .u32 bb20 c21)))))) a19 bb20 c21 (IntKind.wrap .u32 (d22 + (IntKind.wrap .u32 ((IntKind.wrap .u32 ((IntKind.wrap .u32 ((IntKind.wrap .u32 (x26 + (bits .xor .u32 (bits .xor .u32 x37 x40) x43))) + (bits .or .u32 (bits .and .u32 e23 f24) (bits .and .u32 (IntKind.wrap .u32 (4294967295 - e23)) g25)))) + x32)) + x34)))) e23 f24 g25 (IntKind.wrap .i64 (t27 + 1)) w51 < M30 a19 bb20 c21 d22 e23 f24 g25 x26 t27 w28)
    (idxR 8 (0) (
     ldT (.int .u32) w28 (a1) fun x53 =>
     idxR 8 (1) (
     ldT (.int .u32) w28 ((a1).add 1) fun x54 =>
     idxR 8 (2) (
     ldT (.int .u32) w28 ((a1).add 2) fun x55 =>
     idxR 8 (3) (
     ldT (.int .u32) w28 ((a1).add 3) fun x56 =>
     idxR 8 (4) (
     ldT (.int .u32) w28 ((a1).add 4) fun x57 =>
     idxR 8 (5) (
     ldT (.int .u32) w28 ((a1).add 5) fun x58 =>
     idxR 8 (6) (
     ldT (.int .u32) w28 ((a1).add 6) fun x59 =>
     idxR 8 (7) (
     ldT (.int .u32) w28 ((a1).add 7) fun x60 =>
     stC w28 (a3) (.int .u32 (IntKind.wrap .u32 (x53 + a19))) fun w62 => stC w62 ((a3).add 1) (.int .u32 (IntKind.wrap .u32 (x54 + bb20))) fun w63 => stC w63 ((a3).add 2) (.int .u32 (IntKind.wrap .u32 (x55 + c21))) fun w64 => stC w64 ((a3).add 3) (.int .u32 (IntKind.wrap .u32 (x56 + d22))) fun w65 => stC w65 ((a3).add 4) (.int .u32 (IntKind.wrap .u32 (x57 + e23))) fun w66 => stC w66 ((a3).add 5) (.int .u32 (IntKind.wrap .u32 (x58 + f24))) fun w67 => stC w67 ((a3).add 6) (.int .u32 (IntKind.wrap .u32 (x59 + g25))) fun w68 => stC w68 ((a3).add 7) (.int .u32 (IntKind.wrap .u32 (x60 + x26))) fun w69 =>
     ldT (.int .u32) w69 (a3) fun x70 => ldT (.int .u32) w69 ((a3).add 1) fun x71 => ldT (.int .u32) w69 ((a3).add 2) fun x72 => ldT (.int .u32) w69 ((a3).add 3) fun x73 => ldT (.int .u32) w69 ((a3).add 4) fun x74 => ldT (.int .u32) w69 ((a3).add 5) fun x75 => ldT (.int .u32) w69 ((a3).add 6) fun x76 => ldT (.int .u32) w69 ((a3).add 7) fun x77 =>
     Q (.agg #[.int .u32 (x70), .int .u32 (x71), .int .u32 (x72), .int .u32 (x73), .int .u32 (x74), .int .u32 (x75), .int .u32 (x76), .int .u32 (x77)]) w69)))))))))))))))))
def A_ref04_block : Ann := ⟨[(4, [(7, .one (.int .u32)), (8, .one (.int .u32)), (9, .one (.int .u32)), (10, .one (.int .u32)), (11, .one (.int .u32)), (12, .one (.int .u32)), (13, .one (.int .u32)), (14, .one (.int .u32)), (15, .one (.int .i64))])], [], [(2, [⟨0, 0, 0, true⟩, ⟨1, 1, 1, true⟩, ⟨0, 0, 0, true⟩, ⟨4, 4, 4, true⟩, ⟨0, 0, 0, true⟩, ⟨16, 16, 16, true⟩, ⟨0, 0, 0, true⟩, ⟨64, 64, 64, true⟩, ⟨0, 0, 0, true⟩, ⟨256, 256, 256, true⟩, ⟨0, 0, 0, true⟩, ⟨1024, 1024, 1024, true⟩, ⟨0, 0, 0, true⟩, ⟨4096, 4096, 4096, true⟩, ⟨0, 0, 0, true⟩, ⟨16384, 16384, 16384, true⟩, ⟨3, 2, 3, true⟩, ⟨65551, 8, 65551, true⟩, ⟨196671, 32, 196671, true⟩, ⟨459007, 128, 459007, true⟩, ⟨984063, 512, 984063, true⟩, ⟨2035711, 2048, 2035711, true⟩, ⟨4145151, 8192, 4145151, true⟩, ⟨8388607, 32768, 8388607, true⟩]), (6, [⟨0, 0, 0, true⟩, ⟨0, 0, 0, true⟩, ⟨2, 0, 2, false⟩, ⟨0, 0, 0, true⟩, ⟨12, 0, 14, false⟩, ⟨20, 20, 30, true⟩, ⟨0, 0, 0, true⟩, ⟨80, 0, 94, false⟩, ⟨160, 160, 254, true⟩, ⟨257, 257, 511, true⟩, ⟨0, 0, 0, true⟩, ⟨0, 0, 0, true⟩, ⟨3072, 3072, 3072, true⟩, ⟨0, 0, 0, true⟩, ⟨8192, 8192, 8192, true⟩, ⟨0, 0, 0, true⟩, ⟨49152, 49152, 57344, true⟩, ⟨69632, 69632, 130048, true⟩, ⟨131584, 131584, 262143, true⟩, ⟨0, 0, 0, true⟩, ⟨0, 0, 0, true⟩, ⟨1572864, 1572864, 1572864, true⟩, ⟨2097152, 2097152, 3670016, true⟩, ⟨4456448, 4456448, 8388607, true⟩, ⟨0, 0, 0, true⟩, ⟨0, 0, 0, true⟩, ⟨50331648, 50331648, 50331648, true⟩, ⟨67108864, 67108864, 117440512, true⟩, ⟨142606336, 142606336, 268435455, true⟩, ⟨536870911, 268435456, 536870911, true⟩])]⟩
theorem F_ref04_block_eq (h0 : Int) (h1 : Int) (h2 : Int) (h3 : Int) (h4 : Int) (h5 : Int) (h6 : Int) (h7 : Int) (b : Sl) (w : World) (Q : Value → World → Prop) : vcFn Tryd.prog A_ref04_block Tryd.f47 #[.agg #[.int .u32 (h0), .int .u32 (h1), .int .u32 (h2), .int .u32 (h3), .int .u32 (h4), .int .u32 (h5), .int .u32 (h6), .int .u32 (h7)], .slice (b.a) (b.len) (b.cap)] w Q = F_ref04_block h0 h1 h2 h3 h4 h5 h6 h7 b w Q := by kernel_rfl
theorem F_ref04_block_does (h0 : Int) (h1 : Int) (h2 : Int) (h3 : Int) (h4 : Int) (h5 : Int) (h6 : Int) (h7 : Int) (b : Sl) (w : World) (Q : Value → World → Prop) (hQ : F_ref04_block h0 h1 h2 h3 h4 h5 h6 h7 b w Q) : Does Tryd.prog N_ref04_block #[.agg #[.int .u32 (h0), .int .u32 (h1), .int .u32 (h2), .int .u32 (h3), .int .u32 (h4), .int .u32 (h5), .int .u32 (h6), .int .u32 (h7)], .slice (b.a) (b.len) (b.cap)] w Q :=
  vcFn_sound noAsk mixed (A := A_ref04_block) (by kernel_rfl) Tryd.func47 (Nat.le_of_ble_eq_true (by kernel_rfl)) (by kernel_rfl) ((F_ref04_block_eq h0 h1 h2 h3 h4 h5 h6 h7 b w Q).mpr hQ)

/- nacelle/nacelleref07.Formed -/
def F_ref07_Formed (i0 : Int) (i1 : Int) (i2 : Int) (i3 : Int) (w : World) (Q : Value → World → Prop) : Prop :=
  allocK w (#[.int .u8 (i0), .int .u8 (i1), .int .u8 (i2), .int .u8 (i3)]) T_api_Instr fun a1 w2 =>
  ldT (.int .u8) w2.drew ((a1).add 1) fun x3 =>
  ldT (.int .u8) w2.drew ((a1).add 2) fun x4 =>
  ldT (.int .u8) w2.drew ((a1).add 3) fun x5 =>
  ldT (.int .u8) w2.drew (a1) fun x6 =>
  cond ((x6 : Int) == 0)
  (ldT (.int .u8) w2.drew ((a1).add 1) fun x7 =>
   cond ((x7 : Int) == 0)
   (ldT (.int .u8) w2.drew ((a1).add 2) fun x8 =>
    cond ((x8 : Int) == 0)
    (ldT (.int .u8) w2.drew ((a1).add 3) fun x9 =>
     Q (.bool ((x9 : Int) == 0)) w2.drew)
    (Q (.bool (false)) w2.drew))
   (Q (.bool (false)) w2.drew))
  (∀ J11 : World → Prop, (∀ w10 : World, 
     (ldT (.int .u8) w10 (a1) fun x12 =>
     cond ((x12 : Int) == 2)
     (cond (decide ((x3 : Int) < 8))
      (cond (decide ((x4 : Int) < 8))
       (ldT (.int .u8) w10 ((a1).add 3) fun x13 =>
        Q (.bool ((x13 : Int) == 0)) w10)
       (Q (.bool (false)) w10))
      (Q (.bool (false)) w10))
     (∀ J15 : World → Prop, (∀ w14 : World, 
        (∀ J17 : World → Prop, (∀ w16 : World, 
          (ldT (.int .u8) w16 (a1) fun x18 =>
          cond ((x18 : Int) == 15)
          (ldT (.int .u8) w16 ((a1).add 1) fun x19 =>
           Q (.bool ((x19 : Int) == 0)) w16)
          (ldT (.int .u8) w16 (a1) fun x20 =>
           cond ((x20 : Int) == 17)
           (ldT (.int .u8) w16 ((a1).add 1) fun x21 =>
            cond (decide ((x21 : Int) < 16))
            (ldT (.int .u8) w16 ((a1).add 2) fun x22 =>
             cond ((x22 : Int) == 0)
             (ldT (.int .u8) w16 ((a1).add 3) fun x23 =>
              Q (.bool ((x23 : Int) == 0)) w16)
             (Q (.bool (false)) w16))
            (Q (.bool (false)) w16))
           (Q (.bool (false)) w16))) → J17 w16) →
        ∀ J26 : Bool → World → Prop, (∀ b24 : Bool, ∀ w25 : World, 
          (cond (b24)
          (cond (decide ((x3 : Int) < 8))
           (Q (.bool (decide ((x4 : Int) < 8))) w25)
           (Q (.bool (false)) w25))
          (J17 w25)) → J26 b24 w25) →
        ldT (.int .u8) w14 (a1) fun x27 =>
        cond ((x27 : Int) == 13)
        (J26 true w14)
        (ldT (.int .u8) w14 (a1) fun x28 =>
         J26 ((x28 : Int) == 14) w14)) → J15 w14) →
      ∀ J31 : Bool → World → Prop, (∀ b29 : Bool, ∀ w30 : World, 
        (cond (b29)
        (cond (decide ((x3 : Int) < 8))
         (cond (decide ((x4 : Int) < 8))
          (Q (.bool (decide ((x5 : Int) < 8))) w30)
          (Q (.bool (false)) w30))
         (Q (.bool (false)) w30))
        (J15 w30)) → J31 b29 w30) →
      ldT (.int .u8) w10 (a1) fun x32 =>
      cond (decide ((x32 : Int) ≥ 3))
      (ldT (.int .u8) w10 (a1) fun x33 =>
       J31 (decide ((x33 : Int) ≤ 12)) w10)
      (J31 false w10))) → J11 w10) →
   ldT (.int .u8) w2.drew (a1) fun x34 =>
   cond ((x34 : Int) == 1)
   (Q (.bool (decide ((x3 : Int) < 8))) w2.drew)
   (ldT (.int .u8) w2.drew (a1) fun x35 =>
    cond ((x35 : Int) == 16)
    (Q (.bool (decide ((x3 : Int) < 8))) w2.drew)
    (J11 w2.drew)))
def A_ref07_Formed : Ann := ⟨[], [(6, []), (9, [(59, .one (.bool))]), (10, []), (11, [(74, .one (.bool))]), (12, [])], [(1, [⟨0, 0, 0, true⟩, ⟨1, 1, 1, true⟩, ⟨2, 2, 3, true⟩, ⟨0, 0, 0, true⟩, ⟨8, 8, 8, true⟩, ⟨16, 16, 24, true⟩, ⟨0, 0, 0, true⟩, ⟨64, 64, 64, true⟩, ⟨128, 128, 192, true⟩, ⟨7, 4, 7, true⟩, ⟨575, 32, 575, true⟩, ⟨2047, 256, 2047, true⟩])]⟩
theorem F_ref07_Formed_eq (i0 : Int) (i1 : Int) (i2 : Int) (i3 : Int) (w : World) (Q : Value → World → Prop) : vcFn Tryd.prog A_ref07_Formed Tryd.f48 #[.agg #[.int .u8 (i0), .int .u8 (i1), .int .u8 (i2), .int .u8 (i3)]] w Q = F_ref07_Formed i0 i1 i2 i3 w Q := by kernel_rfl
theorem F_ref07_Formed_does (i0 : Int) (i1 : Int) (i2 : Int) (i3 : Int) (w : World) (Q : Value → World → Prop) (hQ : F_ref07_Formed i0 i1 i2 i3 w Q) : Does Tryd.prog N_ref07_Formed #[.agg #[.int .u8 (i0), .int .u8 (i1), .int .u8 (i2), .int .u8 (i3)]] w Q :=
  vcFn_sound noAsk mixed (A := A_ref07_Formed) (by kernel_rfl) Tryd.func48 (Nat.le_of_ble_eq_true (by kernel_rfl)) (by kernel_rfl) ((F_ref07_Formed_eq i0 i1 i2 i3 w Q).mpr hQ)

/- nacelle/nacelleref07.Number -/
def F_ref07_Number (i0 : Int) (i1 : Int) (i2 : Int) (i3 : Int) (w : World) (Q : Value → World → Prop) : Prop :=
  allocK w (#[.int .u8 (i0), .int .u8 (i1), .int .u8 (i2), .int .u8 (i3)]) T_api_Instr fun a1 w2 =>
  ldT (.int .u8) w2 ((a1).add 2) fun x3 =>
  ldT (.int .u8) w2 ((a1).add 3) fun x4 =>
  ∀ J7 : Bool → World → Prop, (∀ b5 : Bool, ∀ w6 : World, 
    (cond (b5)
    (Q (.int .i64 (IntKind.wrap .i64 ((IntKind.wrap .i64 ((IntKind.wrap .i64 x3) + (IntKind.wrap .i64 (256 * (IntKind.wrap .i64 x4))))) - 65536))) w6)
    (Q (.int .i64 (IntKind.wrap .i64 ((IntKind.wrap .i64 x3) + (IntKind.wrap .i64 (256 * (IntKind.wrap .i64 x4)))))) w6)) → J7 b5 w6) →
  ldT (.int .u8) w2 (a1) fun x8 =>
  cond ((x8 : Int) == 1)
  (J7 (decide (((IntKind.wrap .i64 ((IntKind.wrap .i64 x3) + (IntKind.wrap .i64 (256 * (IntKind.wrap .i64 x4))))) : Int) ≥ 32768)) w2)
  (J7 false w2)
def A_ref07_Number : Ann := ⟨[], [(3, [(18, .one (.bool))])], []⟩
theorem F_ref07_Number_eq (i0 : Int) (i1 : Int) (i2 : Int) (i3 : Int) (w : World) (Q : Value → World → Prop) : vcFn Tryd.prog A_ref07_Number Tryd.f49 #[.agg #[.int .u8 (i0), .int .u8 (i1), .int .u8 (i2), .int .u8 (i3)]] w Q = F_ref07_Number i0 i1 i2 i3 w Q := by kernel_rfl
theorem F_ref07_Number_does (i0 : Int) (i1 : Int) (i2 : Int) (i3 : Int) (w : World) (Q : Value → World → Prop) (hQ : F_ref07_Number i0 i1 i2 i3 w Q) : Does Tryd.prog N_ref07_Number #[.agg #[.int .u8 (i0), .int .u8 (i1), .int .u8 (i2), .int .u8 (i3)]] w Q :=
  vcFn_sound noAsk mixed (A := A_ref07_Number) (by kernel_rfl) Tryd.func49 (Nat.le_of_ble_eq_true (by kernel_rfl)) (by kernel_rfl) ((F_ref07_Number_eq i0 i1 i2 i3 w Q).mpr hQ)

/- nacelle/fault.row -/
def F_fault_row (err : Value) (w : World) (Q : Value → World → Prop) : Prop :=
  allocK w (zc Tryd.prog T_p_fault_Fault) T_p_fault_Fault fun a1 w2 =>
  ∃ (I6 : Value → Sl → World → Prop) (M7 : Value → Sl → World → Nat), I6 (err) ⟨none, 0, 0⟩ w2 ∧
  ∀ err3 : Value, ∀ out4 : Sl, ∀ w5 : World, I6 err3 out4 w5 →
    Does Tryd.prog N_errors_As #[err3, .iface T_p_p_fault_Fault (.pointer (some (a1)))] w5 fun r8 w9 => ∃ b10 : Bool, r8 = .bool (b10) ∧
    cond (b10)
    (ldT (.ptr) w9 (a1) fun p11 =>
     allocK w9 #[.pointer (p11)] T_p_fault_Fault fun a12 w13 =>
     runG (.sl) Tryd.prog w13 (Builtin.append_ #[T_l_p_fault_Fault, T_l_p_fault_Fault] T_l_p_fault_Fault #[.slice (out4.a) (out4.len) (out4.cap), .slice (some (a12)) (1) (1)]) fun l14 w15 =>
     ldT (.ptr) w15 (a1) fun p16 =>
     nnil (p16) fun a17 =>
     ldT (.raw) w15 ((a17).add 2) fun v18 =>
     I6 (v18) ⟨l14.a, l14.len, l14.cap⟩ w15 ∧ M7 (v18) ⟨l14.a, l14.len, l14.cap⟩ w15 < M7 err3 out4 w5)
    (Q (.slice (out4.a) (out4.len) (out4.cap)) w9)
def A_fault_row : Ann := ⟨[(3, [(0, .one (.raw)), (3, .one (.sl))])], [], []⟩
theorem F_fault_row_eq (err : Value) (w : World) (Q : Value → World → Prop) : vcFn Tryd.prog A_fault_row Tryd.f50 #[err] w Q = F_fault_row err w Q := by kernel_rfl
theorem F_fault_row_does (err : Value) (w : World) (Q : Value → World → Prop) (hQ : F_fault_row err w Q) : Does Tryd.prog N_fault_row #[err] w Q :=
  vcFn_sound noAsk mixed (A := A_fault_row) (by kernel_rfl) Tryd.func50 (Nat.le_of_ble_eq_true (by kernel_rfl)) (by kernel_rfl) ((F_fault_row_eq err w Q).mpr hQ)

/- strconv.Itoa -/
def F_strconv_Itoa (i : Int) (w : World) (Q : Value → World → Prop) : Prop :=
  Does Tryd.prog N_internal_strconv_Itoa #[.int .i64 (i)] w fun r1 w2 => ∃ s3 : ByteArray, r1 = .string (s3) ∧
  Q (.string (s3)) w2
def A_strconv_Itoa : Ann := ⟨[], [], []⟩
theorem F_strconv_Itoa_eq (i : Int) (w : World) (Q : Value → World → Prop) : vcFn Tryd.prog A_strconv_Itoa Tryd.f52 #[.int .i64 (i)] w Q = F_strconv_Itoa i w Q := by kernel_rfl
theorem F_strconv_Itoa_does (i : Int) (w : World) (Q : Value → World → Prop) (hQ : F_strconv_Itoa i w Q) : Does Tryd.prog N_strconv_Itoa #[.int .i64 (i)] w Q :=
  vcFn_sound noAsk mixed (A := A_strconv_Itoa) (by kernel_rfl) Tryd.func52 (Nat.le_of_ble_eq_true (by kernel_rfl)) (by kernel_rfl) ((F_strconv_Itoa_eq i w Q).mpr hQ)

/- nacelle/sha.New -/
def F_sha_New (w : World) (Q : Value → World → Prop) : Prop :=
  allocK w (#[.int .u32 (1779033703), .int .u32 (3144134277), .int .u32 (1013904242), .int .u32 (2773480762), .int .u32 (1359893119), .int .u32 (2600822924), .int .u32 (528734635), .int .u32 (1541459225), .int .u8 (0), .int .u8 (0), .int .u8 (0), .int .u8 (0), .int .u8 (0), .int .u8 (0), .int .u8 (0), .int .u8 (0), .int .u8 (0), .int .u8 (0), .int .u8 (0), .int .u8 (0), .int .u8 (0), .int .u8 (0), .int .u8 (0), .int .u8 (0), .int .u8 (0), .int .u8 (0), .int .u8 (0), .int .u8 (0), .int .u8 (0), .int .u8 (0), .int .u8 (0), .int .u8 (0), .int .u8 (0), .int .u8 (0), .int .u8 (0), .int .u8 (0), .int .u8 (0), .int .u8 (0), .int .u8 (0), .int .u8 (0), .int .u8 (0), .int .u8 (0), .int .u8 (0), .int .u8 (0), .int .u8 (0), .int .u8 (0), .int .u8 (0), .int .u8 (0), .int .u8 (0), .int .u8 (0), .int .u8 (0), .int .u8 (0), .int .u8 (0), .int .u8 (0), .int .u8 (0), .int .u8 (0), .int .u8 (0), .int .u8 (0), .int .u8 (0), .int .u8 (0), .int .u8 (0), .int .u8 (0), .int .u8 (0), .int .u8 (0), .int .u8 (0), .int .u8 (0), .int .u8 (0), .int .u8 (0), .int .u8 (0), .int .u8 (0), .int .u8 (0), .int .u8 (0), .int .i64 (0)]) T_sha_Hash fun a1 w2 =>
  Q (.pointer (some (a1))) w2
def A_sha_New : Ann := ⟨[], [], []⟩
theorem F_sha_New_eq (w : World) (Q : Value → World → Prop) : vcFn Tryd.prog A_sha_New Tryd.f53 #[] w Q = F_sha_New w Q := by kernel_rfl
theorem F_sha_New_does (w : World) (Q : Value → World → Prop) (hQ : F_sha_New w Q) : Does Tryd.prog N_sha_New #[] w Q :=
  vcFn_sound noAsk mixed (A := A_sha_New) (by kernel_rfl) Tryd.func53 (Nat.le_of_ble_eq_true (by kernel_rfl)) (by kernel_rfl) ((F_sha_New_eq w Q).mpr hQ)

/- (*nacelle/sha.Hash).Write -/
def F_sha_Hash_Write (h : Option Addr) (b : Sl) (w : World) (Q : Value → World → Prop) : Prop :=
  ∃ (I3 : Sl → World → Prop) (M4 : Sl → World → Nat), I3 ⟨b.a, b.len, b.cap⟩ w ∧
  ∀ b1 : Sl, ∀ w2 : World, I3 b1 w2 →
    cond (decide (((((b1.len : Nat) : Int)) : Int) > 0))
    (nnil (h) fun a5 =>
     nnil (h) fun a6 =>
     ldT (.int .i64) w2.drew ((a6).add 72) fun x7 =>
     (64 : Int) ≠ 0 ∧
     slcA ((a5).add 8) 64 (Int.tmod x7 64) (((64 : Nat) : Int)) 1 fun l8 =>
     runG (.int .i64) Tryd.prog w2.drew (Builtin.copy_ #[T_l_uint8, T_l_uint8] T_int #[.slice (l8.a) (l8.len) (l8.cap), .slice (b1.a) (b1.len) (b1.cap)]) fun x9 w10 =>
     nnil (h) fun a11 =>
     ldT (.int .i64) w10 ((a11).add 72) fun x12 =>
     nnil (h) fun a13 =>
     stC w10 ((a13).add 72) (.int .i64 (IntKind.wrap .i64 (x12 + x9))) fun w14 =>
     slcT ⟨b1.a, b1.len, b1.cap⟩ (x9) (((b1.len : Nat) : Int)) 1 fun l15 =>
     nnil (h) fun a16 =>
     ldT (.int .i64) w14 ((a16).add 72) fun x17 =>
     (64 : Int) ≠ 0 ∧
     cond (((Int.tmod x17 64) : Int) == 0)
     (nnil (h) fun a18 =>
      ldT (.int .u32) w14.drew (a18) fun x19 => ldT (.int .u32) w14.drew ((a18).add 1) fun x20 => ldT (.int .u32) w14.drew ((a18).add 2) fun x21 => ldT (.int .u32) w14.drew ((a18).add 3) fun x22 => ldT (.int .u32) w14.drew ((a18).add 4) fun x23 => ldT (.int .u32) w14.drew ((a18).add 5) fun x24 => ldT (.int .u32) w14.drew ((a18).add 6) fun x25 => ldT (.int .u32) w14.drew ((a18).add 7) fun x26 =>
      nnil (h) fun a27 =>
      ldArr w14.drew ((a27).add 8) 64 fun c28 =>
      Does Tryd.prog N_sha_block #[.agg #[.int .u32 (x19), .int .u32 (x20), .int .u32 (x21), .int .u32 (x22), .int .u32 (x23), .int .u32 (x24), .int .u32 (x25), .int .u32 (x26)], .agg (c28)] w14.drew fun r29 w30 => ∃ x31 : Int, ∃ x32 : Int, ∃ x33 : Int, ∃ x34 : Int, ∃ x35 : Int, ∃ x36 : Int, ∃ x37 : Int, ∃ x38 : Int, r29 = .agg #[.int .u32 (x31), .int .u32 (x32), .int .u32 (x33), .int .u32 (x34), .int .u32 (x35), .int .u32 (x36), .int .u32 (x37), .int .u32 (x38)] ∧
      nnil (h) fun a39 =>
      stC w30 (a39) (.int .u32 (x31)) fun w41 => stC w41 ((a39).add 1) (.int .u32 (x32)) fun w42 => stC w42 ((a39).add 2) (.int .u32 (x33)) fun w43 => stC w43 ((a39).add 3) (.int .u32 (x34)) fun w44 => stC w44 ((a39).add 4) (.int .u32 (x35)) fun w45 => stC w45 ((a39).add 5) (.int .u32 (x36)) fun w46 => stC w46 ((a39).add 6) (.int .u32 (x37)) fun w47 => stC w47 ((a39).add 7) (.int .u32 (x38)) fun w48 =>
      I3 ⟨l15.a, l15.len, l15.cap⟩ w48 ∧ M4 ⟨l15.a, l15.len, l15.cap⟩ w48 < M4 b1 w2)
     (I3 ⟨l15.a, l15.len, l15.cap⟩ w14 ∧ M4 ⟨l15.a, l15.len, l15.cap⟩ w14 < M4 b1 w2))
    (Q (.tuple #[]) w2)
def A_sha_Hash_Write : Ann := ⟨[(0, [(1, .one (.sl))])], [], [(1, [⟨0, 0, 0, true⟩, ⟨1, 1, 1, true⟩, ⟨2, 2, 3, true⟩, ⟨0, 0, 0, true⟩, ⟨8, 8, 8, true⟩, ⟨16, 16, 24, true⟩, ⟨32, 32, 56, true⟩, ⟨64, 64, 120, true⟩, ⟨132, 132, 255, true⟩, ⟨0, 0, 0, true⟩, ⟨768, 0, 1023, false⟩, ⟨2047, 1024, 2047, true⟩]), (5, [⟨0, 0, 0, true⟩, ⟨0, 0, 0, true⟩, ⟨2, 2, 2, true⟩, ⟨4, 4, 6, true⟩, ⟨8, 8, 14, true⟩, ⟨0, 0, 0, true⟩, ⟨32, 32, 32, true⟩, ⟨64, 64, 96, true⟩, ⟨128, 128, 224, true⟩, ⟨272, 0, 510, false⟩, ⟨1023, 1, 1023, true⟩, ⟨2047, 1024, 2047, true⟩, ⟨3071, 0, 4095, false⟩])]⟩
theorem F_sha_Hash_Write_eq (h : Option Addr) (b : Sl) (w : World) (Q : Value → World → Prop) : vcFn Tryd.prog A_sha_Hash_Write Tryd.f54 #[.pointer (h), .slice (b.a) (b.len) (b.cap)] w Q = F_sha_Hash_Write h b w Q := by kernel_rfl
theorem F_sha_Hash_Write_does (h : Option Addr) (b : Sl) (w : World) (Q : Value → World → Prop) (hQ : F_sha_Hash_Write h b w Q) : Does Tryd.prog N_sha_Hash_Write #[.pointer (h), .slice (b.a) (b.len) (b.cap)] w Q :=
  vcFn_sound noAsk mixed (A := A_sha_Hash_Write) (by kernel_rfl) Tryd.func54 (Nat.le_of_ble_eq_true (by kernel_rfl)) (by kernel_rfl) ((F_sha_Hash_Write_eq h b w Q).mpr hQ)

/- (*nacelle/sha.Hash).Sum -/
def F_sha_Hash_Sum (h : Option Addr) (w : World) (Q : Value → World → Prop) : Prop :=
  allocK w (zc Tryd.prog T_a32_uint8) T_a32_uint8 fun a1 w2 =>
  Does Tryd.prog N_sha_Hash_Copy #[.pointer (h)] w2 fun r3 w4 => ∃ p5 : Option Addr, r3 = .pointer (p5) ∧
  allocK w4 #[.int .u8 (128)] T_uint8 fun a6 w7 =>
  Does Tryd.prog N_sha_Hash_Write #[.pointer (p5), .slice (some (a6)) (1) (1)] w7 fun r8 w9 => r8 = .tuple #[] ∧
  ∃ (I11 : World → Prop) (M12 : World → Nat), I11 w9 ∧
  ∀ w10 : World, I11 w10 →
    nnil (p5) fun a13 =>
    ldT (.int .i64) w10 ((a13).add 72) fun x14 =>
    (64 : Int) ≠ 0 ∧
    cond (((Int.tmod x14 64) : Int) != 56)
    (allocK w10 #[.int .u8 (0)] T_uint8 fun a15 w16 =>
     Does Tryd.prog N_sha_Hash_Write #[.pointer (p5), .slice (some (a15)) (1) (1)] w16 fun r17 w18 => r17 = .tuple #[] ∧
     I11 w18 ∧ M12 w18 < M12 w10)
    (allocK w10 (zc Tryd.prog T_a8_uint8) T_a8_uint8 fun a19 w20 =>
     ∃ (I23 : Int → World → Prop) (M24 : Int → World → Nat), I23 0 w20 ∧
     ∀ x21 : Int, ∀ w22 : World, I23 x21 w22 →
       cond (decide ((x21 : Int) < 8))
       (nnil (h) fun a25 =>
        ldT (.int .i64) w22 ((a25).add 72) fun x26 =>
        (0 : Int) ≤ (IntKind.wrap .i64 (56 - (IntKind.wrap .i64 (8 * x21)))) ∧
        idxR 8 (x21) (
        stC w22 ((a19).add (Int.toNat (x21) * 1)) (.int .u8 (IntKind.wrap .u8 (Int.fdiv (IntKind.wrap .u64 ((IntKind.wrap .u64 x26) * 8)) (2 ^ (min (Int.toNat ((IntKind.wrap .i64 (56 - (IntKind.wrap .i64 (8 * x21)))))) (IntKind.bits .u64)))))) fun w27 =>
        I23 (IntKind.wrap .i64 (x21 + 1)) w27 ∧ M24 (IntKind.wrap .i64 (x21 + 1)) w27 < M24 x21 w22))
       (slcA (a19) 8 (0) (((8 : Nat) : Int)) 1 fun l28 =>
        Does Tryd.prog N_sha_Hash_Write #[.pointer (p5), .slice (l28.a) (l28.len) (l28.cap)] w22 fun r29 w30 => r29 = .tuple #[] ∧
        allocK w30 (zc Tryd.prog T_a32_uint8) T_a32_uint8 fun a31 w32 =>
        ∃ (I35 : Int → World → Prop) (M36 : Int → World → Nat), I35 0 w32 ∧
        ∀ x33 : Int, ∀ w34 : World, I35 x33 w34 →
          cond (decide ((x33 : Int) < 32))
          ((4 : Int) ≠ 0 ∧
           nnil (p5) fun a37 =>
           idxR 8 (IntKind.wrap .i64 (Int.tdiv x33 4)) (
           ldT (.int .u32) w34 ((a37).add (Int.toNat (IntKind.wrap .i64 (Int.tdiv x33 4)) * 1)) fun x38 =>
           (4 : Int) ≠ 0 ∧
           (0 : Int) ≤ (IntKind.wrap .i64 (24 - (IntKind.wrap .i64 (8 * (Int.tmod x33 4))))) ∧
           idxR 32 (x33) (
           stC w34 ((a31).add (Int.toNat (x33) * 1)) (.int .u8 (IntKind.wrap .u8 (Int.fdiv x38 (2 ^ (min (Int.toNat ((IntKind.wrap .i64 (24 - (IntKind.wrap .i64 (8 * (Int.tmod x33 4))))))) (IntKind.bits .u32)))))) fun w39 =>
           I35 (IntKind.wrap .i64 (x33 + 1)) w39 ∧ M36 (IntKind.wrap .i64 (x33 + 1)) w39 < M36 x33 w34)))
          (ldArr w34 (a31) 32 fun c40 =>
           stArr w34 (a1) (c40) 32 fun w41 =>
           ldArr w41 (a1) 32 fun c42 =>
           Q (.agg (c42)) w41)))
def A_sha_Hash_Sum : Ann := ⟨[(3, []), (7, [(22, .one (.int .i64))]), (14, [(42, .one (.int .i64))])], [], []⟩
theorem F_sha_Hash_Sum_eq (h : Option Addr) (w : World) (Q : Value → World → Prop) : vcFn Tryd.prog A_sha_Hash_Sum Tryd.f55 #[.pointer (h)] w Q = F_sha_Hash_Sum h w Q := by kernel_rfl
theorem F_sha_Hash_Sum_does (h : Option Addr) (w : World) (Q : Value → World → Prop) (hQ : F_sha_Hash_Sum h w Q) : Does Tryd.prog N_sha_Hash_Sum #[.pointer (h)] w Q :=
  vcFn_sound noAsk mixed (A := A_sha_Hash_Sum) (by kernel_rfl) Tryd.func55 (Nat.le_of_ble_eq_true (by kernel_rfl)) (by kernel_rfl) ((F_sha_Hash_Sum_eq h w Q).mpr hQ)

/- (*nacelle/octet.Reader).fail -/
def F_octet_Reader_fail (r : Option Addr) (code : Int) (w : World) (Q : Value → World → Prop) : Prop :=
  nnil (r) fun a1 =>
  ldT (.raw) w ((a1).add 2) fun v2 =>
  runG (.bool) Tryd.prog w (do eqGuard .eql T_error (.tmp 7) (.const (.nilIface)) (v2) (.nilIface); binOp .eql T_error (v2) (.nilIface)) fun b3 w4 =>
  cond (b3)
  (nnil (r) fun a5 =>
   ldT (.int .i64) w4 ((a5).add 1) fun x6 =>
   Does Tryd.prog N_fault_New #[.int .i64 (code), .int .i64 (x6)] w4 fun r7 w8 => ∃ v9 : Value, r7 = v9 ∧
   nnil (r) fun a10 =>
   stC w8 ((a10).add 2) (v9) fun w11 =>
   Q (.tuple #[]) w11)
  (Q (.tuple #[]) w4)
def A_octet_Reader_fail : Ann := ⟨[], [], []⟩
theorem F_octet_Reader_fail_eq (r : Option Addr) (code : Int) (w : World) (Q : Value → World → Prop) : vcFn Tryd.prog A_octet_Reader_fail Tryd.f56 #[.pointer (r), .int .i64 (code)] w Q = F_octet_Reader_fail r code w Q := by kernel_rfl
theorem F_octet_Reader_fail_does (r : Option Addr) (code : Int) (w : World) (Q : Value → World → Prop) (hQ : F_octet_Reader_fail r code w Q) : Does Tryd.prog N_octet_Reader_fail #[.pointer (r), .int .i64 (code)] w Q :=
  vcFn_sound noAsk mixed (A := A_octet_Reader_fail) (by kernel_rfl) Tryd.func56 (Nat.le_of_ble_eq_true (by kernel_rfl)) (by kernel_rfl) ((F_octet_Reader_fail_eq r code w Q).mpr hQ)

/- nacelle/octet.Get -/
def F_octet_Get (b : Sl) (w : World) (Q : Value → World → Prop) : Prop :=
  ∀ J2 : World → Prop, (∀ w1 : World, 
    (∃ (I6 : Int → Int → World → Prop) (M7 : Int → Int → World → Nat), I6 0 (IntKind.wrap .i64 ((((b.len : Nat) : Int)) - 1)) w1 ∧
    ∀ n3 : Int, ∀ i4 : Int, ∀ w5 : World, I6 n3 i4 w5 →
      cond (decide ((i4 : Int) ≥ 0))
      ((0 : Int) ≤ 8 ∧
       idx (b.a) (b.len) (i4) 1 fun a8 =>
       ldT (.int .u8) w5 (a8) fun x9 =>
       I6 (bits .or .u64 (IntKind.wrap .u64 (n3 * 2 ^ (min (Int.toNat (8)) (IntKind.bits .u64)))) (IntKind.wrap .u64 x9)) (IntKind.wrap .i64 (i4 - 1)) w5 ∧ M7 (bits .or .u64 (IntKind.wrap .u64 (n3 * 2 ^ (min (Int.toNat (8)) (IntKind.bits .u64)))) (IntKind.wrap .u64 x9)) (IntKind.wrap .i64 (i4 - 1)) w5 < M7 n3 i4 w5)
      (Q (.tuple #[.int .u64 (n3), .int .i64 (0)]) w5)) → J2 w1) →
  cond (decide (((((b.len : Nat) : Int)) : Int) < 1))
  (Q (.tuple #[.int .u64 (0), .int .i64 (1)]) w)
  (cond (decide (((((b.len : Nat) : Int)) : Int) > 8))
   (Q (.tuple #[.int .u64 (0), .int .i64 (1)]) w)
   (J2 w))
def A_octet_Get : Ann := ⟨[(5, [(4, .one (.int .u64)), (5, .one (.int .i64))])], [(3, [])], []⟩
theorem F_octet_Get_eq (b : Sl) (w : World) (Q : Value → World → Prop) : vcFn Tryd.prog A_octet_Get Tryd.f57 #[.slice (b.a) (b.len) (b.cap)] w Q = F_octet_Get b w Q := by kernel_rfl
theorem F_octet_Get_does (b : Sl) (w : World) (Q : Value → World → Prop) (hQ : F_octet_Get b w Q) : Does Tryd.prog N_octet_Get #[.slice (b.a) (b.len) (b.cap)] w Q :=
  vcFn_sound noAsk mixed (A := A_octet_Get) (by kernel_rfl) Tryd.func57 (Nat.le_of_ble_eq_true (by kernel_rfl)) (by kernel_rfl) ((F_octet_Get_eq b w Q).mpr hQ)

/- (*nacelle/octet.Reader).Left -/
def F_octet_Reader_Left (r : Option Addr) (w : World) (Q : Value → World → Prop) : Prop :=
  nnil (r) fun a1 =>
  ldT (.sl) w.drew (a1) fun l2 =>
  nnil (r) fun a3 =>
  ldT (.int .i64) w.drew ((a3).add 1) fun x4 =>
  Q (.int .i64 (IntKind.wrap .i64 ((((l2.len : Nat) : Int)) - x4))) w.drew
def A_octet_Reader_Left : Ann := ⟨[], [], [(1, [⟨0, 0, 0, true⟩, ⟨1, 1, 1, true⟩, ⟨2, 2, 3, true⟩, ⟨4, 4, 7, true⟩, ⟨8, 8, 15, true⟩, ⟨0, 0, 0, true⟩, ⟨32, 32, 32, true⟩, ⟨64, 64, 96, true⟩, ⟨128, 128, 224, true⟩, ⟨272, 272, 511, true⟩, ⟨1023, 512, 1023, true⟩])]⟩
theorem F_octet_Reader_Left_eq (r : Option Addr) (w : World) (Q : Value → World → Prop) : vcFn Tryd.prog A_octet_Reader_Left Tryd.f58 #[.pointer (r)] w Q = F_octet_Reader_Left r w Q := by kernel_rfl
theorem F_octet_Reader_Left_does (r : Option Addr) (w : World) (Q : Value → World → Prop) (hQ : F_octet_Reader_Left r w Q) : Does Tryd.prog N_octet_Reader_Left #[.pointer (r)] w Q :=
  vcFn_sound noAsk mixed (A := A_octet_Reader_Left) (by kernel_rfl) Tryd.func58 (Nat.le_of_ble_eq_true (by kernel_rfl)) (by kernel_rfl) ((F_octet_Reader_Left_eq r w Q).mpr hQ)

/- nacelle/nacelleref04.words -/
def F_ref04_words (b : Sl) (w : World) (Q : Value → World → Prop) : Prop :=
  ∃ (I4 : Sl → Int → World → Prop) (M5 : Sl → Int → World → Nat), I4 ⟨none, 0, 0⟩ 0 w ∧
  ∀ w1 : Sl, ∀ t2 : Int, ∀ w3 : World, I4 w1 t2 w3 →
    cond (decide ((t2 : Int) < 16))
    (∃ (I9 : Int → Int → World → Prop) (M10 : Int → Int → World → Nat), I9 0 0 w3 ∧
     ∀ x6 : Int, ∀ k7 : Int, ∀ w8 : World, I9 x6 k7 w8 →
       cond (decide ((k7 : Int) < 4))
       (idx (b.a) (b.len) (IntKind.wrap .i64 ((IntKind.wrap .i64 (4 * t2)) + k7)) 1 fun a11 =>
        ldT (.int .u8) w8 (a11) fun x12 =>
        I9 (IntKind.wrap .u32 ((IntKind.wrap .u32 (x6 * 256)) + (IntKind.wrap .u32 x12))) (IntKind.wrap .i64 (k7 + 1)) w8 ∧ M10 (IntKind.wrap .u32 ((IntKind.wrap .u32 (x6 * 256)) + (IntKind.wrap .u32 x12))) (IntKind.wrap .i64 (k7 + 1)) w8 < M10 x6 k7 w8)
       (allocK w8 #[.int .u32 (x6)] T_uint32 fun a13 w14 =>
        runG (.sl) Tryd.prog w14 (Builtin.append_ #[T_l_uint32, T_l_uint32] T_l_uint32 #[.slice (w1.a) (w1.len) (w1.cap), .slice (some (a13)) (1) (1)]) fun l15 w16 =>
        I4 ⟨l15.a, l15.len, l15.cap⟩ (IntKind.wrap .i64 (t2 + 1)) w16 ∧ M5 ⟨l15.a, l15.len, l15.cap⟩ (IntKind.wrap .i64 (t2 + 1)) w16 < M5 w1 t2 w3))
    (∃ (I20 : Sl → Int → World → Prop) (M21 : Sl → Int → World → Nat), I20 ⟨w1.a, w1.len, w1.cap⟩ 16 w3 ∧
     ∀ w17 : Sl, ∀ t18 : Int, ∀ w19 : World, I20 w17 t18 w19 →
       cond (decide ((t18 : Int) < 64))
       (idx (w17.a) (w17.len) (IntKind.wrap .i64 (t18 - 15)) 1 fun a22 =>
        ldT (.int .u32) w19.drew (a22) fun x23 =>
        idx (w17.a) (w17.len) (IntKind.wrap .i64 (t18 - 15)) 1 fun a24 =>
        ldT (.int .u32) w19.drew (a24) fun x25 =>
        idx (w17.a) (w17.len) (IntKind.wrap .i64 (t18 - 15)) 1 fun a26 =>
        ldT (.int .u32) w19.drew (a26) fun x27 =>
        (0 : Int) ≤ 3 ∧
        Does Tryd.prog N_ref04_turn #[.int .u32 (x23), .int .u64 (7)] w19.drew fun r28 w29 => ∃ x30 : Int, r28 = .int .u32 (x30) ∧
        w29.cell? (a26) = some (.int .u32 (x27)) ∧ w29.cell? (a24) = some (.int .u32 (x25)) ∧ Does Tryd.prog N_ref04_turn #[.int .u32 (x25), .int .u64 (18)] w29 fun r31 w32 => ∃ x33 : Int, r31 = .int .u32 (x33) ∧
        w32.cell? (a26) = some (.int .u32 (x27)) ∧ idx (w17.a) (w17.len) (IntKind.wrap .i64 (t18 - 2)) 1 fun a34 =>
        ldT (.int .u32) w32.drew (a34) fun x35 =>
        idx (w17.a) (w17.len) (IntKind.wrap .i64 (t18 - 2)) 1 fun a36 =>
        ldT (.int .u32) w32.drew (a36) fun x37 =>
        idx (w17.a) (w17.len) (IntKind.wrap .i64 (t18 - 2)) 1 fun a38 =>
        ldT (.int .u32) w32.drew (a38) fun x39 =>
        (0 : Int) ≤ 10 ∧
        Does Tryd.prog N_ref04_turn #[.int .u32 (x35), .int .u64 (17)] w32.drew fun r40 w41 => ∃ x42 : Int, r40 = .int .u32 (x42) ∧
        w41.cell? (a38) = some (.int .u32 (x39)) ∧ w41.cell? (a36) = some (.int .u32 (x37)) ∧ Does Tryd.prog N_ref04_turn #[.int .u32 (x37), .int .u64 (19)] w41 fun r43 w44 => ∃ x45 : Int, r43 = .int .u32 (x45) ∧
        w44.cell? (a38) = some (.int .u32 (x39)) ∧ idx (w17.a) (w17.len) (IntKind.wrap .i64 (t18 - 7)) 1 fun a46 =>
        ldT (.int .u32) w44.drew (a46) fun x47 =>
        idx (w17.a) (w17.len) (IntKind.wrap .i64 (t18 - 16)) 1 fun a48 =>
        ldT (.int .u32) w44.drew (a48) fun x49 =>
        allocK w44.drew #[.int .u32 (IntKind.wrap .u32 ((IntKind.wrap .u32 ((IntKind.wrap .u32 ((bits .xor .u32 (bits .xor .u32 x42 x45) (Int.fdiv x39 (2 ^ (min (Int.toNat (10)) (IntKind.bits .u32))))) + x47)) + (bits .xor .u32 (bits .xor .u32 x30 x33) (Int.fdiv x27 (2 ^ (min (Int.toNat (3)) (IntKind.bits .u32))))))) + x49))] T_uint32 fun a50 w51 =>
        runG (.sl) Tryd.prog w51 (Builtin.append_ #[T_l_uint32, T_l_uint32] T_l_uint32 #[.slice (w17.a) (w17.len) (w17.cap), .slice (some (a50)) (1) (1)]) fun l52 w53 =>
        I20 ⟨l52.a, l52.len, l52.cap⟩ (IntKind.wrap .i64 (t18 + 1)) w53 ∧ M21 ⟨l52.a, l52.len, l52.cap⟩ (IntKind.wrap .i64 (t18 + 1)) w53 < M21 w17 t18 w19)
       (Q (.slice (w17.a) (w17.len) (w17.cap)) w19))
def A_ref04_words : Ann := ⟨[(3, [(3, .one (.sl)), (4, .one (.int .i64))]), (7, [(5, .one (.int .u32)), (6, .one (.int .i64))]), (12, [(3, .one (.sl)), (7, .one (.int .i64))])], [], [(14, [⟨0, 0, 0, true⟩, ⟨0, 0, 0, true⟩, ⟨2, 2, 2, true⟩, ⟨5, 5, 7, true⟩, ⟨8, 8, 15, true⟩, ⟨16, 0, 31, false⟩, ⟨0, 0, 0, true⟩, ⟨0, 0, 0, true⟩, ⟨128, 128, 128, true⟩, ⟨320, 320, 448, true⟩, ⟨512, 512, 960, true⟩, ⟨1056, 0, 2047, false⟩, ⟨2080, 2080, 4095, true⟩, ⟨0, 0, 0, true⟩, ⟨0, 0, 0, true⟩, ⟨16384, 16384, 16384, true⟩, ⟨40960, 40960, 57344, true⟩, ⟨65536, 65536, 122880, true⟩, ⟨131072, 131072, 253952, true⟩, ⟨266240, 266240, 524287, true⟩, ⟨1048575, 524288, 1048575, true⟩]), (15, [⟨0, 0, 0, true⟩, ⟨0, 0, 0, true⟩, ⟨2, 2, 2, true⟩, ⟨5, 5, 7, true⟩, ⟨8, 8, 15, true⟩, ⟨16, 0, 31, false⟩, ⟨0, 0, 0, true⟩, ⟨0, 0, 0, true⟩, ⟨128, 128, 128, true⟩, ⟨320, 320, 448, true⟩, ⟨512, 512, 960, true⟩, ⟨1056, 0, 2047, false⟩, ⟨2080, 2080, 4095, true⟩, ⟨0, 0, 0, true⟩, ⟨0, 0, 0, true⟩, ⟨16384, 16384, 16384, true⟩, ⟨40960, 40960, 57344, true⟩, ⟨65536, 65536, 122880, true⟩, ⟨131072, 131072, 253952, true⟩, ⟨266240, 266240, 524287, true⟩, ⟨1048575, 524288, 1048575, true⟩]), (16, [⟨0, 0, 0, true⟩, ⟨0, 0, 0, true⟩, ⟨0, 0, 0, true⟩, ⟨0, 0, 0, true⟩, ⟨8, 8, 8, true⟩, ⟨20, 20, 28, true⟩, ⟨32, 32, 60, true⟩, ⟨66, 66, 126, true⟩, ⟨0, 0, 0, true⟩, ⟨384, 384, 510, true⟩, ⟨0, 0, 0, true⟩, ⟨0, 0, 0, true⟩, ⟨2048, 2048, 2048, true⟩, ⟨5120, 5120, 7168, true⟩, ⟨8192, 8192, 15360, true⟩, ⟨16896, 16896, 32766, true⟩, ⟨32768, 0, 65534, false⟩, ⟨65537, 0, 131071, false⟩, ⟨262143, 132101, 262143, true⟩])]⟩
theorem F_ref04_words_eq (b : Sl) (w : World) (Q : Value → World → Prop) : vcFn Tryd.prog A_ref04_words Tryd.f59 #[.slice (b.a) (b.len) (b.cap)] w Q = F_ref04_words b w Q := by kernel_rfl
theorem F_ref04_words_does (b : Sl) (w : World) (Q : Value → World → Prop) (hQ : F_ref04_words b w Q) : Does Tryd.prog N_ref04_words #[.slice (b.a) (b.len) (b.cap)] w Q :=
  vcFn_sound noAsk mixed (A := A_ref04_words) (by kernel_rfl) Tryd.func59 (Nat.le_of_ble_eq_true (by kernel_rfl)) (by kernel_rfl) ((F_ref04_words_eq b w Q).mpr hQ)

/- nacelle/nacelleref04.keys -/
def F_ref04_keys (w : World) (Q : Value → World → Prop) : Prop :=
  allocK w #[.int .u32 (1116352408), .int .u32 (1899447441), .int .u32 (3049323471), .int .u32 (3921009573), .int .u32 (961987163), .int .u32 (1508970993), .int .u32 (2453635748), .int .u32 (2870763221), .int .u32 (3624381080), .int .u32 (310598401), .int .u32 (607225278), .int .u32 (1426881987), .int .u32 (1925078388), .int .u32 (2162078206), .int .u32 (2614888103), .int .u32 (3248222580), .int .u32 (3835390401), .int .u32 (4022224774), .int .u32 (264347078), .int .u32 (604807628), .int .u32 (770255983), .int .u32 (1249150122), .int .u32 (1555081692), .int .u32 (1996064986), .int .u32 (2554220882), .int .u32 (2821834349), .int .u32 (2952996808), .int .u32 (3210313671), .int .u32 (3336571891), .int .u32 (3584528711), .int .u32 (113926993), .int .u32 (338241895), .int .u32 (666307205), .int .u32 (773529912), .int .u32 (1294757372), .int .u32 (1396182291), .int .u32 (1695183700), .int .u32 (1986661051), .int .u32 (2177026350), .int .u32 (2456956037), .int .u32 (2730485921), .int .u32 (2820302411), .int .u32 (3259730800), .int .u32 (3345764771), .int .u32 (3516065817), .int .u32 (3600352804), .int .u32 (4094571909), .int .u32 (275423344), .int .u32 (430227734), .int .u32 (506948616), .int .u32 (659060556), .int .u32 (883997877), .int .u32 (958139571), .int .u32 (1322822218), .int .u32 (1537002063), .int .u32 (1747873779), .int .u32 (1955562222), .int .u32 (2024104815), .int .u32 (2227730452), .int .u32 (2361852424), .int .u32 (2428436474), .int .u32 (2756734187), .int .u32 (3204031479), .int .u32 (3329325298)] T_uint32 fun a1 w2 =>
  Q (.slice (some (a1)) (64) (64)) w2
def A_ref04_keys : Ann := ⟨[], [], []⟩
theorem F_ref04_keys_eq (w : World) (Q : Value → World → Prop) : vcFn Tryd.prog A_ref04_keys Tryd.f60 #[] w Q = F_ref04_keys w Q := by kernel_rfl
theorem F_ref04_keys_does (w : World) (Q : Value → World → Prop) (hQ : F_ref04_keys w Q) : Does Tryd.prog N_ref04_keys #[] w Q :=
  vcFn_sound noAsk mixed (A := A_ref04_keys) (by kernel_rfl) Tryd.func60 (Nat.le_of_ble_eq_true (by kernel_rfl)) (by kernel_rfl) ((F_ref04_keys_eq w Q).mpr hQ)

/- nacelle/nacelleref04.turn -/
def F_ref04_turn (x : Int) (n : Int) (w : World) (Q : Value → World → Prop) : Prop :=
  (0 : Int) ≤ n ∧
  (0 : Int) ≤ (IntKind.wrap .u64 (32 - n)) ∧
  Q (.int .u32 (bits .or .u32 (Int.fdiv x (2 ^ (min (Int.toNat (n)) (IntKind.bits .u32)))) (IntKind.wrap .u32 (x * 2 ^ (min (Int.toNat ((IntKind.wrap .u64 (32 - n)))) (IntKind.bits .u32)))))) w
def A_ref04_turn : Ann := ⟨[], [], []⟩
theorem F_ref04_turn_eq (x : Int) (n : Int) (w : World) (Q : Value → World → Prop) : vcFn Tryd.prog A_ref04_turn Tryd.f61 #[.int .u32 (x), .int .u64 (n)] w Q = F_ref04_turn x n w Q := by kernel_rfl
theorem F_ref04_turn_does (x : Int) (n : Int) (w : World) (Q : Value → World → Prop) (hQ : F_ref04_turn x n w Q) : Does Tryd.prog N_ref04_turn #[.int .u32 (x), .int .u64 (n)] w Q :=
  vcFn_sound noAsk mixed (A := A_ref04_turn) (by kernel_rfl) Tryd.func61 (Nat.le_of_ble_eq_true (by kernel_rfl)) (by kernel_rfl) ((F_ref04_turn_eq x n w Q).mpr hQ)

/- internal/strconv.Itoa -/
def F_internal_strconv_Itoa (i : Int) (w : World) (Q : Value → World → Prop) : Prop :=
  Does Tryd.prog N_internal_strconv_FormatInt #[.int .i64 (i), .int .i64 (10)] w fun r1 w2 => ∃ s3 : ByteArray, r1 = .string (s3) ∧
  Q (.string (s3)) w2
def A_internal_strconv_Itoa : Ann := ⟨[], [], []⟩
theorem F_internal_strconv_Itoa_eq (i : Int) (w : World) (Q : Value → World → Prop) : vcFn Tryd.prog A_internal_strconv_Itoa Tryd.f66 #[.int .i64 (i)] w Q = F_internal_strconv_Itoa i w Q := by kernel_rfl
theorem F_internal_strconv_Itoa_does (i : Int) (w : World) (Q : Value → World → Prop) (hQ : F_internal_strconv_Itoa i w Q) : Does Tryd.prog N_internal_strconv_Itoa #[.int .i64 (i)] w Q :=
  vcFn_sound noAsk mixed (A := A_internal_strconv_Itoa) (by kernel_rfl) Tryd.func66 (Nat.le_of_ble_eq_true (by kernel_rfl)) (by kernel_rfl) ((F_internal_strconv_Itoa_eq i w Q).mpr hQ)

/- nacelle/sha.block -/
def F_sha_block (h0 : Int) (h1 : Int) (h2 : Int) (h3 : Int) (h4 : Int) (h5 : Int) (h6 : Int) (h7 : Int) (b : Array Value) (w : World) (Q : Value → World → Prop) : Prop :=
  allocK w (#[.int .u32 (h0), .int .u32 (h1), .int .u32 (h2), .int .u32 (h3), .int .u32 (h4), .int .u32 (h5), .int .u32 (h6), .int .u32 (h7)]) T_a8_uint32 fun a1 w2 =>
  allocK w2 (b) T_a64_uint8 fun a3 w4 =>
  allocK w4 (zc Tryd.prog T_a8_uint32) T_a8_uint32 fun a5 w6 =>
  allocK w6 (zc Tryd.prog T_a64_uint32) T_a64_uint32 fun a7 w8 =>
  ∃ (I11 : Int → World → Prop) (M12 : Int → World → Nat), I11 0 w8 ∧
  ∀ x9 : Int, ∀ w10 : World, I11 x9 w10 →
    cond (decide ((x9 : Int) < 16))
    (idxR 64 (IntKind.wrap .i64 (4 * x9)) (
     ldT (.int .u8) w10.drew ((a3).add (Int.toNat (IntKind.wrap .i64 (4 * x9)) * 1)) fun x13 =>
     (0 : Int) ≤ 24 ∧
     idxR 64 (IntKind.wrap .i64 ((IntKind.wrap .i64 (4 * x9)) + 1)) (
     ldT (.int .u8) w10.drew ((a3).add (Int.toNat (IntKind.wrap .i64 ((IntKind.wrap .i64 (4 * x9)) + 1)) * 1)) fun x14 =>
     (0 : Int) ≤ 16 ∧
     idxR 64 (IntKind.wrap .i64 ((IntKind.wrap .i64 (4 * x9)) + 2)) (
     ldT (.int .u8) w10.drew ((a3).add (Int.toNat (IntKind.wrap .i64 ((IntKind.wrap .i64 (4 * x9)) + 2)) * 1)) fun x15 =>
     (0 : Int) ≤ 8 ∧
     idxR 64 (IntKind.wrap .i64 ((IntKind.wrap .i64 (4 * x9)) + 3)) (
     ldT (.int .u8) w10.drew ((a3).add (Int.toNat (IntKind.wrap .i64 ((IntKind.wrap .i64 (4 * x9)) + 3)) * 1)) fun x16 =>
     idxR 64 (x9) (
     stC w10.drew ((a7).add (Int.toNat (x9) * 1)) (.int .u32 (bits .or .u32 (bits .or .u32 (bits .or .u32 (IntKind.wrap .u32 ((IntKind.wrap .u32 x13) * 2 ^ (min (Int.toNat (24)) (IntKind.bits .u32)))) (IntKind.wrap .u32 ((IntKind.wrap .u32 x14) * 2 ^ (min (Int.toNat (16)) (IntKind.bits .u32))))) (IntKind.wrap .u32 ((IntKind.wrap .u32 x15) * 2 ^ (min (Int.toNat (8)) (IntKind.bits .u32))))) (IntKind.wrap .u32 x16))) fun w17 =>
     I11 (IntKind.wrap .i64 (x9 + 1)) w17 ∧ M12 (IntKind.wrap .i64 (x9 + 1)) w17 < M12 x9 w10))))))
    (∃ (I20 : Int → World → Prop) (M21 : Int → World → Nat), I20 16 w10 ∧
     ∀ i18 : Int, ∀ w19 : World, I20 i18 w19 →
       cond (decide ((i18 : Int) < 64))
       (idxR 64 (IntKind.wrap .i64 (i18 - 15)) (
        ldT (.int .u32) w19.drew ((a7).add (Int.toNat (IntKind.wrap .i64 (i18 - 15)) * 1)) fun x22 =>
        idxR 64 (IntKind.wrap .i64 (i18 - 2)) (
        ldT (.int .u32) w19.drew ((a7).add (Int.toNat (IntKind.wrap .i64 (i18 - 2)) * 1)) fun x23 =>
        idxR 64 (IntKind.wrap .i64 (i18 - 16)) (
        ldT (.int .u32) w19.drew.drew ((a7).add (Int.toNat (IntKind.wrap .i64 (i18 - 16)) * 1)) fun x24 =>
        idxR 64 (IntKind.wrap .i64 (i18 - 7)) (
        ldT (.int .u32) w19.drew.drew ((a7).add (Int.toNat (IntKind.wrap .i64 (i18 - 7)) * 1)) fun x25 =>
        (0 : Int) ≤ 3 ∧
        (0 : Int) ≤ 10 ∧
        Does Tryd.prog N_sha_turn #[.int .u32 (x22), .int .i64 (7)] w19.drew.drew fun r26 w27 => ∃ x28 : Int, r26 = .int .u32 (x28) ∧
        w27.cell? ((a7).add (Int.toNat (IntKind.wrap .i64 (i18 - 7)) * 1)) = some (.int .u32 (x25)) ∧ w27.cell? ((a7).add (Int.toNat (IntKind.wrap .i64 (i18 - 16)) * 1)) = some (.int .u32 (x24)) ∧ Does Tryd.prog N_sha_turn #[.int .u32 (x22), .int .i64 (18)] w27 fun r29 w30 => ∃ x31 : Int, r29 = .int .u32 (x31) ∧
        w30.cell? ((a7).add (Int.toNat (IntKind.wrap .i64 (i18 - 7)) * 1)) = some (.int .u32 (x25)) ∧ w30.cell? ((a7).add (Int.toNat (IntKind.wrap .i64 (i18 - 16)) * 1)) = some (.int .u32 (x24)) ∧ Does Tryd.prog N_sha_turn #[.int .u32 (x23), .int .i64 (17)] w30 fun r32 w33 => ∃ x34 : Int, r32 = .int .u32 (x34) ∧
        w33.cell? ((a7).add (Int.toNat (IntKind.wrap .i64 (i18 - 7)) * 1)) = some (.int .u32 (x25)) ∧ w33.cell? ((a7).add (Int.toNat (IntKind.wrap .i64 (i18 - 16)) * 1)) = some (.int .u32 (x24)) ∧ Does Tryd.prog N_sha_turn #[.int .u32 (x23), .int .i64 (19)] w33 fun r35 w36 => ∃ x37 : Int, r35 = .int .u32 (x37) ∧
        w36.cell? ((a7).add (Int.toNat (IntKind.wrap .i64 (i18 - 7)) * 1)) = some (.int .u32 (x25)) ∧ w36.cell? ((a7).add (Int.toNat (IntKind.wrap .i64 (i18 - 16)) * 1)) = some (.int .u32 (x24)) ∧ idxR 64 (i18) (
        stC w36 ((a7).add (Int.toNat (i18) * 1)) (.int .u32 (IntKind.wrap .u32 ((IntKind.wrap .u32 ((IntKind.wrap .u32 (x24 + x25)) + (bits .xor .u32 (bits .xor .u32 x28 x31) (Int.fdiv x22 (2 ^ (min (Int.toNat (3)) (IntKind.bits .u32))))))) + (bits .xor .u32 (bits .xor .u32 x34 x37) (Int.fdiv x23 (2 ^ (min (Int.toNat (10)) (IntKind.bits .u32)))))))) fun w38 =>
        I20 (IntKind.wrap .i64 (i18 + 1)) w38 ∧ M21 (IntKind.wrap .i64 (i18 + 1)) w38 < M21 i18 w19))))))
       (ldT (.int .u32) w19 (a1) fun x39 => ldT (.int .u32) w19 ((a1).add 1) fun x40 => ldT (.int .u32) w19 ((a1).add 2) fun x41 => ldT (.int .u32) w19 ((a1).add 3) fun x42 => ldT (.int .u32) w19 ((a1).add 4) fun x43 => ldT (.int .u32) w19 ((a1).add 5) fun x44 => ldT (.int .u32) w19 ((a1).add 6) fun x45 => ldT (.int .u32) w19 ((a1).add 7) fun x46 =>
        allocK w19 (zc Tryd.prog T_a8_uint32) T_a8_uint32 fun a47 w48 =>
        stC w48 (a47) (.int .u32 (x39)) fun w50 => stC w50 ((a47).add 1) (.int .u32 (x40)) fun w51 => stC w51 ((a47).add 2) (.int .u32 (x41)) fun w52 => stC w52 ((a47).add 3) (.int .u32 (x42)) fun w53 => stC w53 ((a47).add 4) (.int .u32 (x43)) fun w54 => stC w54 ((a47).add 5) (.int .u32 (x44)) fun w55 => stC w55 ((a47).add 6) (.int .u32 (x45)) fun w56 => stC w56 ((a47).add 7) (.int .u32 (x46)) fun w57 =>
        ∃ (I60 : Int → World → Prop) (M61 : Int → World → Nat), I60 0 w57 ∧
        ∀ x58 : Int, ∀ w59 : World, I60 x58 w59 →
          cond (decide ((x58 : Int) < 64))
          (idxR 8 (4) (
           ldT (.int .u32) w59.drew ((a47).add 4) fun x62 =>
           idxR 8 (0) (
           ldT (.int .u32) w59.drew (a47) fun x63 =>
           idxR 8 (7) (
           ldT (.int .u32) w59.drew.drew ((a47).add 7) fun x64 =>
           idxR 8 (5) (
           ldT (.int .u32) w59.drew.drew ((a47).add 5) fun x65 =>
           idxR 8 (6) (
           ldT (.int .u32) w59.drew.drew ((a47).add 6) fun x66 =>
           idxR 64 (x58) (
           ldT (.int .u32) w59.drew.drew (((⟨1, 0, none⟩ : Addr)).add (Int.toNat (x58) * 1)) fun x67 =>
           idxR 64 (x58) (
           ldT (.int .u32) w59.drew.drew ((a7).add (Int.toNat (x58) * 1)) fun x68 =>
           Does Tryd.prog N_sha_turn #[.int .u32 (x62), .int .i64 (6)] w59.drew.drew fun r69 w70 => ∃ x71 : Int, r69 = .int .u32 (x71) ∧
           w70.cell? ((a7).add (Int.toNat (x58) * 1)) = some (.int .u32 (x68)) ∧ w70.cell? (((⟨1, 0, none⟩ : Addr)).add (Int.toNat (x58) * 1)) = some (.int .u32 (x67)) ∧ w70.cell? ((a47).add 6) = some (.int .u32 (x66)) ∧ w70.cell? ((a47).add 5) = some (.int .u32 (x65)) ∧ w70.cell? ((a47).add 7) = some (.int .u32 (x64)) ∧ Does Tryd.prog N_sha_turn #[.int .u32 (x62), .int .i64 (11)] w70 fun r72 w73 => ∃ x74 : Int, r72 = .int .u32 (x74) ∧
           w73.cell? ((a7).add (Int.toNat (x58) * 1)) = some (.int .u32 (x68)) ∧ w73.cell? (((⟨1, 0, none⟩ : Addr)).add (Int.toNat (x58) * 1)) = some (.int .u32 (x67)) ∧ w73.cell? ((a47).add 6) = some (.int .u32 (x66)) ∧ w73.cell? ((a47).add 5) = some (.int .u32 (x65)) ∧ w73.cell? ((a47).add 7) = some (.int .u32 (x64)) ∧ Does Tryd.prog N_sha_turn #[.int .u32 (x62), .int .i64 (25)] w73 fun r75 w76 => ∃ x77 : Int, r75 = .int .u32 (x77) ∧
           w76.cell? ((a7).add (Int.toNat (x58) * 1)) = some (.int .u32 (x68)) ∧ w76.cell? (((⟨1, 0, none⟩ : Addr)).add (Int.toNat (x58) * 1)) = some (.int .u32 (x67)) ∧ w76.cell? ((a47).add 6) = some (.int .u32 (x66)) ∧ w76.cell? ((a47).add 5) = some (.int .u32 (x65)) ∧ w76.cell? ((a47).add 7) = some (.int .u32 (x64)) ∧ idxR 8 (1) (
           ldT (.int .u32) w76.drew ((a47).add 1) fun x78 =>
           idxR 8 (2) (
           ldT (.int .u32) w76.drew ((a47).add 2) fun x79 =>
           idxR 8 (1) (
           ldT (.int .u32) w76.drew ((a47).add 1) fun x80 =>
           idxR 8 (2) (
           ldT (.int .u32) w76.drew ((a47).add 2) fun x81 =>
           Does Tryd.prog N_sha_turn #[.int .u32 (x63), .int .i64 (2)] w76.drew fun r82 w83 => ∃ x84 : Int, r82 = .int .u32 (x84) ∧
           w83.cell? ((a47).add 2) = some (.int .u32 (x81)) ∧ w83.cell? ((a47).add 1) = some (.int .u32 (x80)) ∧ w83.cell? ((a47).add 2) = some (.int .u32 (x79)) ∧ w83.cell? ((a47).add 1) = some (.int .u32 (x78)) ∧ Does Tryd.prog N_sha_turn #[.int .u32 (x63), .int .i64 (13)] w83 fun r85 w86 => ∃ x87 : Int, r85 = .int .u32 (x87) ∧
           w86.cell? ((a47).add 2) = some (.int .u32 (x81)) ∧ w86.cell? ((a47).add 1) = some (.int .u32 (x80)) ∧ w86.cell? ((a47).add 2) = some (.int .u32 (x79)) ∧ w86.cell? ((a47).add 1) = some (.int .u32 (x78)) ∧ Does Tryd.prog N_sha_turn #[.int .u32 (x63), .int .i64 (22)] w86 fun r88 w89 => ∃ x90 : Int, r88 = .int .u32 (x90) ∧
           w89.cell? ((a47).add 2) = some (.int .u32 (x81)) ∧ w89.cell? ((a47).add 1) = some (.int .u32 (x80)) ∧ w89.cell? ((a47).add 2) = some (.int .u32 (x79)) ∧ w89.cell? ((a47).add 1) = some (.int .u32 (x78)) ∧ idxR 8 (1) (
           ldT (.int .u32) w89 ((a47).add 1) fun x91 =>
           idxR 8 (2) (
           ldT (.int .u32) w89 ((a47).add 2) fun x92 =>
           idxR 8 (3) (
           ldT (.int .u32) w89 ((a47).add 3) fun x93 =>
           idxR 8 (5) (
           ldT (.int .u32) w89 ((a47).add 5) fun x94 =>
           idxR 8 (6) (
           ldT (.int .u32) w89 ((a47).add 6) fun x95 =>
           stC w89 (a47) (.int .u32 (IntKind.wrap .u32 ((IntKind.wrap .u32 ((IntKind.wrap .u32 ((IntKind.wrap .u32 ((IntKind.wrap .u32 (x64 + (bits .xor .u32 (bits .xor .u32 x71 x74) x77))) + (bits .xor .u32 (bits .and .u32 x62 x65) (bits .and .u32 (notK .u32 x62) x66)))) + x67)) + x68)) + (IntKind.wrap .u32 ((bits .xor .u32 (bits .xor .u32 x84 x87) x90) + (bits .xor .u32 (bits .xor .u32 (bits .and .u32 x63 x78) (bits .and .u32 x63 x79)) (bits .and .u32 x80 x81))))))) fun w97 => stC w97 ((a47).add 1) (.int .u32 (x63)) fun w98 => stC w98 ((a47).add 2) (.int .u32 (x91)) fun w99 => stC w99 ((a47).add 3) (.int .u32 (x92)) fun w100 => stC w100 ((a47).add 4) (.int .u32 (IntKind.wrap .u32 (x93 + (IntKind.wrap .u32 ((IntKind.wrap .u32 ((IntKind.wrap .u32 ((IntKind.wrap .u32 (x64 + (bits .xor .u32 (bits .xor .u32 x71 x74) x77))) + (bits .xor .u32 (bits .and .u32 x62 x65) (bits .and .u32 (notK .u32 x62) x66)))) + x67)) + x68))))) fun w101 => stC w101 ((a47).add 5) (.int .u32 (x62)) fun w102 => stC w102 ((a47).add 6) (.int .u32 (x94)) fun w103 => stC w103 ((a47).add 7) (.int .u32 (x95)) fun w104 =>
           I60 (IntKind.wrap .i64 (x58 + 1)) w104 ∧ M61 (IntKind.wrap .i64 (x58 + 1)) w104 < M61 x58 w59)))))))))))))))))
          (∃ (I107 : Int → World → Prop) (M108 : Int → World → Nat), I107 0 w59 ∧
           ∀ x105 : Int, ∀ w106 : World, I107 x105 w106 →
             cond (decide ((x105 : Int) < 8))
             (idxR 8 (x105) (
              ldT (.int .u32) w106.drew ((a1).add (Int.toNat (x105) * 1)) fun x109 =>
              idxR 8 (x105) (
              ldT (.int .u32) w106.drew ((a47).add (Int.toNat (x105) * 1)) fun x110 =>
              idxR 8 (x105) (
              stC w106.drew ((a1).add (Int.toNat (x105) * 1)) (.int .u32 (IntKind.wrap .u32 (x109 + x110))) fun w111 =>
              I107 (IntKind.wrap .i64 (x105 + 1)) w111 ∧ M108 (IntKind.wrap .i64 (x105 + 1)) w111 < M108 x105 w106))))
             (ldT (.int .u32) w106 (a1) fun x112 => ldT (.int .u32) w106 ((a1).add 1) fun x113 => ldT (.int .u32) w106 ((a1).add 2) fun x114 => ldT (.int .u32) w106 ((a1).add 3) fun x115 => ldT (.int .u32) w106 ((a1).add 4) fun x116 => ldT (.int .u32) w106 ((a1).add 5) fun x117 => ldT (.int .u32) w106 ((a1).add 6) fun x118 => ldT (.int .u32) w106 ((a1).add 7) fun x119 =>
              stC w106 (a5) (.int .u32 (x112)) fun w121 => stC w121 ((a5).add 1) (.int .u32 (x113)) fun w122 => stC w122 ((a5).add 2) (.int .u32 (x114)) fun w123 => stC w123 ((a5).add 3) (.int .u32 (x115)) fun w124 => stC w124 ((a5).add 4) (.int .u32 (x116)) fun w125 => stC w125 ((a5).add 5) (.int .u32 (x117)) fun w126 => stC w126 ((a5).add 6) (.int .u32 (x118)) fun w127 => stC w127 ((a5).add 7) (.int .u32 (x119)) fun w128 =>
              ldT (.int .u32) w128 (a5) fun x129 => ldT (.int .u32) w128 ((a5).add 1) fun x130 => ldT (.int .u32) w128 ((a5).add 2) fun x131 => ldT (.int .u32) w128 ((a5).add 3) fun x132 => ldT (.int .u32) w128 ((a5).add 4) fun x133 => ldT (.int .u32) w128 ((a5).add 5) fun x134 => ldT (.int .u32) w128 ((a5).add 6) fun x135 => ldT (.int .u32) w128 ((a5).add 7) fun x136 =>
              Q (.agg #[.int .u32 (x129), .int .u32 (x130), .int .u32 (x131), .int .u32 (x132), .int .u32 (x133), .int .u32 (x134), .int .u32 (x135), .int .u32 (x136)]) w128))))
def A_sha_block : Ann := ⟨[(3, [(17, .one (.int .i64))]), (8, [(7, .one (.int .i64))]), (14, [(94, .one (.int .i64))]), (22, [(174, .one (.int .i64))])], [], [(5, [⟨0, 0, 0, true⟩, ⟨0, 0, 0, true⟩, ⟨2, 2, 2, true⟩, ⟨4, 4, 6, true⟩, ⟨8, 8, 14, true⟩, ⟨16, 16, 30, true⟩, ⟨32, 32, 62, true⟩, ⟨0, 0, 0, true⟩, ⟨128, 128, 128, true⟩, ⟨256, 256, 384, true⟩, ⟨512, 512, 896, true⟩, ⟨1024, 1024, 1920, true⟩, ⟨2048, 2048, 3968, true⟩, ⟨4096, 4096, 8064, true⟩, ⟨8256, 8256, 16382, true⟩, ⟨0, 0, 0, true⟩, ⟨32768, 32768, 32768, true⟩, ⟨65536, 65536, 98304, true⟩, ⟨131072, 131072, 229376, true⟩, ⟨262144, 262144, 491520, true⟩, ⟨524288, 524288, 1015808, true⟩, ⟨1048576, 1048576, 2064384, true⟩, ⟨2113536, 2113536, 4194302, true⟩, ⟨0, 0, 0, true⟩, ⟨8388608, 8388608, 8388608, true⟩, ⟨16777216, 16777216, 25165824, true⟩, ⟨33554432, 33554432, 58720256, true⟩, ⟨67108864, 67108864, 125829120, true⟩, ⟨134217728, 134217728, 260046848, true⟩, ⟨272629760, 272629760, 536870910, true⟩, ⟨1073741823, 1, 1073741823, true⟩, ⟨2147483647, 0, 2147483647, false⟩]), (10, [⟨0, 0, 0, true⟩, ⟨1, 1, 1, true⟩, ⟨2, 2, 3, true⟩, ⟨4, 4, 7, true⟩, ⟨0, 0, 0, true⟩, ⟨16, 16, 16, true⟩, ⟨32, 32, 48, true⟩, ⟨64, 64, 112, true⟩, ⟨15, 8, 15, true⟩, ⟨511, 128, 511, true⟩]), (11, [⟨0, 0, 0, true⟩, ⟨0, 0, 0, true⟩, ⟨2, 2, 2, true⟩, ⟨4, 4, 6, true⟩, ⟨8, 8, 14, true⟩, ⟨0, 0, 0, true⟩, ⟨32, 32, 32, true⟩, ⟨64, 64, 96, true⟩, ⟨128, 128, 224, true⟩, ⟨272, 272, 510, true⟩, ⟨0, 0, 0, true⟩, ⟨1024, 0, 1024, false⟩, ⟨0, 0, 0, true⟩, ⟨6144, 0, 7168, false⟩, ⟨10240, 10240, 15360, true⟩, ⟨0, 0, 0, true⟩, ⟨32768, 32768, 32768, true⟩, ⟨81920, 81920, 130048, true⟩, ⟨131584, 131584, 262142, true⟩, ⟨0, 0, 0, true⟩, ⟨532480, 0, 539648, false⟩, ⟨0, 0, 0, true⟩, ⟨3145728, 0, 3685376, false⟩, ⟨5242880, 5242880, 7879680, true⟩, ⟨0, 0, 0, true⟩, ⟨16777216, 16777216, 16777216, true⟩, ⟨41943040, 41943040, 66599936, true⟩, ⟨67371008, 67371008, 134217726, true⟩, ⟨268435455, 1, 268435455, true⟩, ⟨536870911, 0, 536870911, false⟩]), (16, [⟨0, 0, 0, true⟩, ⟨1, 1, 1, true⟩, ⟨0, 0, 0, true⟩, ⟨4, 4, 4, true⟩, ⟨3, 2, 3, true⟩, ⟨31, 8, 31, true⟩]), (17, [⟨0, 0, 0, true⟩, ⟨1, 1, 1, true⟩, ⟨0, 0, 0, true⟩, ⟨4, 0, 4, false⟩, ⟨0, 0, 0, true⟩, ⟨24, 0, 28, false⟩, ⟨40, 40, 60, true⟩, ⟨0, 0, 0, true⟩, ⟨160, 0, 188, false⟩, ⟨320, 320, 508, true⟩, ⟨514, 514, 1023, true⟩, ⟨0, 0, 0, true⟩, ⟨0, 0, 0, true⟩, ⟨4096, 4096, 4096, true⟩, ⟨10240, 10240, 14336, true⟩, ⟨0, 0, 0, true⟩, ⟨32768, 32768, 32768, true⟩, ⟨0, 0, 0, true⟩, ⟨131072, 131072, 131072, true⟩, ⟨327680, 327680, 491520, true⟩, ⟨540672, 540672, 1046528, true⟩, ⟨1049600, 1049600, 2097151, true⟩, ⟨0, 0, 0, true⟩, ⟨4194304, 4194304, 4194304, true⟩, ⟨8388608, 8388608, 12582912, true⟩, ⟨18874368, 18874368, 33554431, true⟩, ⟨0, 0, 0, true⟩, ⟨67108864, 67108864, 67108864, true⟩, ⟨134217728, 134217728, 201326592, true⟩, ⟨301989888, 301989888, 536870911, true⟩, ⟨1073741823, 536870912, 1073741823, true⟩]), (18, [⟨0, 0, 0, true⟩, ⟨1, 0, 1, false⟩, ⟨0, 0, 0, true⟩, ⟨6, 0, 7, false⟩, ⟨10, 10, 15, true⟩, ⟨0, 0, 0, true⟩, ⟨40, 0, 47, false⟩, ⟨80, 80, 127, true⟩, ⟨0, 0, 0, true⟩, ⟨0, 0, 0, true⟩, ⟨512, 512, 512, true⟩, ⟨1280, 1280, 1792, true⟩, ⟨0, 0, 0, true⟩, ⟨0, 0, 0, true⟩, ⟨8192, 8192, 8192, true⟩, ⟨20480, 20480, 28672, true⟩, ⟨34816, 34816, 65280, true⟩, ⟨0, 0, 0, true⟩, ⟨131072, 131072, 131072, true⟩, ⟨0, 0, 0, true⟩, ⟨524288, 524288, 524288, true⟩, ⟨1310720, 1310720, 1966080, true⟩, ⟨2162688, 2162688, 4194048, true⟩, ⟨4194432, 4194432, 8388607, true⟩, ⟨16777215, 8388608, 16777215, true⟩]), (24, [⟨0, 0, 0, true⟩, ⟨1, 1, 1, true⟩, ⟨2, 2, 3, true⟩, ⟨0, 0, 0, true⟩, ⟨8, 8, 8, true⟩, ⟨16, 16, 24, true⟩, ⟨36, 36, 63, true⟩, ⟨127, 1, 127, true⟩, ⟨255, 0, 255, false⟩])]⟩
theorem F_sha_block_eq (h0 : Int) (h1 : Int) (h2 : Int) (h3 : Int) (h4 : Int) (h5 : Int) (h6 : Int) (h7 : Int) (b : Array Value) (w : World) (Q : Value → World → Prop) : vcFn Tryd.prog A_sha_block Tryd.f67 #[.agg #[.int .u32 (h0), .int .u32 (h1), .int .u32 (h2), .int .u32 (h3), .int .u32 (h4), .int .u32 (h5), .int .u32 (h6), .int .u32 (h7)], .agg (b)] w Q = F_sha_block h0 h1 h2 h3 h4 h5 h6 h7 b w Q := by kernel_rfl
theorem F_sha_block_does (h0 : Int) (h1 : Int) (h2 : Int) (h3 : Int) (h4 : Int) (h5 : Int) (h6 : Int) (h7 : Int) (b : Array Value) (w : World) (Q : Value → World → Prop) (hQ : F_sha_block h0 h1 h2 h3 h4 h5 h6 h7 b w Q) : Does Tryd.prog N_sha_block #[.agg #[.int .u32 (h0), .int .u32 (h1), .int .u32 (h2), .int .u32 (h3), .int .u32 (h4), .int .u32 (h5), .int .u32 (h6), .int .u32 (h7)], .agg (b)] w Q :=
  vcFn_sound noAsk mixed (A := A_sha_block) (by kernel_rfl) Tryd.func67 (Nat.le_of_ble_eq_true (by kernel_rfl)) (by kernel_rfl) ((F_sha_block_eq h0 h1 h2 h3 h4 h5 h6 h7 b w Q).mpr hQ)

/- (*nacelle/sha.Hash).Copy -/
def F_sha_Hash_Copy (h : Option Addr) (w : World) (Q : Value → World → Prop) : Prop :=
  nnil (h) fun a1 =>
  ldArr w (a1) 73 fun c2 =>
  allocK w (zc Tryd.prog T_sha_Hash) T_sha_Hash fun a3 w4 =>
  stArr w4 (a3) (c2) 73 fun w5 =>
  Q (.pointer (some (a3))) w5
def A_sha_Hash_Copy : Ann := ⟨[], [], []⟩
theorem F_sha_Hash_Copy_eq (h : Option Addr) (w : World) (Q : Value → World → Prop) : vcFn Tryd.prog A_sha_Hash_Copy Tryd.f68 #[.pointer (h)] w Q = F_sha_Hash_Copy h w Q := by kernel_rfl
theorem F_sha_Hash_Copy_does (h : Option Addr) (w : World) (Q : Value → World → Prop) (hQ : F_sha_Hash_Copy h w Q) : Does Tryd.prog N_sha_Hash_Copy #[.pointer (h)] w Q :=
  vcFn_sound noAsk mixed (A := A_sha_Hash_Copy) (by kernel_rfl) Tryd.func68 (Nat.le_of_ble_eq_true (by kernel_rfl)) (by kernel_rfl) ((F_sha_Hash_Copy_eq h w Q).mpr hQ)

/- internal/strconv.FormatInt -/
def F_internal_strconv_FormatInt (i : Int) (base : Int) (w : World) (Q : Value → World → Prop) : Prop :=
  cond ((base : Int) == 10)
  (∀ J2 : World → Prop, (∀ w1 : World, 
     (allocK w1 (zc Tryd.prog T_a24_uint8) T_a24_uint8 fun a3 w4 =>
     ∀ J7 : Int → World → Prop, (∀ u5 : Int, ∀ w6 : World, 
       (Does Tryd.prog N_internal_strconv_numDigits #[.int .u64 (u5)] w6 fun r8 w9 => ∃ x10 : Int, r8 = .int .i64 (x10) ∧
       slcA (a3) 24 (1) (IntKind.wrap .i64 (1 + x10)) 1 fun l11 =>
       Does Tryd.prog N_internal_strconv_formatBase10 #[.slice (l11.a) (l11.len) (l11.cap), .int .u64 (u5)] w9 fun r12 w13 => r12 = .tuple #[] ∧
       cond (decide ((i : Int) < 0))
       (idxR 24 (0) (
        stC w13 (a3) (.int .u8 (45)) fun w14 =>
        slcA (a3) 24 (0) (IntKind.wrap .i64 (1 + x10)) 1 fun l15 =>
        lookS Tryd.prog w14 (convert T_l_uint8 T_string (.slice (l15.a) (l15.len) (l15.cap))) fun s16 =>
        Q (.string (s16)) w14))
       (slcA (a3) 24 (1) (IntKind.wrap .i64 (1 + x10)) 1 fun l17 =>
        lookS Tryd.prog w13 (convert T_l_uint8 T_string (.slice (l17.a) (l17.len) (l17.cap))) fun s18 =>
        Q (.string (s18)) w13)) → J7 u5 w6) →
     cond (decide ((i : Int) < 0))
     (J7 (IntKind.wrap .u64 (0 - (IntKind.wrap .u64 i))) w4)
     (J7 (IntKind.wrap .u64 i) w4)) → J2 w1) →
   ∀ J21 : Bool → World → Prop, (∀ b19 : Bool, ∀ w20 : World, 
     (cond (b19)
     (Does Tryd.prog N_internal_strconv_small #[.int .i64 (i)] w20 fun r22 w23 => ∃ s24 : ByteArray, r22 = .string (s24) ∧
      Q (.string (s24)) w23)
     (J2 w20)) → J21 b19 w20) →
   cond (decide ((0 : Int) ≤ i))
   (J21 (decide ((i : Int) < 100)) w)
   (J21 false w))
  (Does Tryd.prog N_internal_strconv_formatBits #[.slice (none) (0) (0), .int .u64 (IntKind.wrap .u64 i), .int .i64 (base), .bool (decide ((i : Int) < 0)), .bool (false)] w fun r25 w26 => ∃ l27 : Sl, ∃ s28 : ByteArray, r25 = .tuple #[.slice (l27.a) (l27.len) (l27.cap), .string (s28)] ∧
   Q (.string (s28)) w26)
def A_internal_strconv_FormatInt : Ann := ⟨[], [(3, [(17, .one (.bool))]), (4, []), (8, [(6, .one (.int .u64))])], []⟩
theorem F_internal_strconv_FormatInt_eq (i : Int) (base : Int) (w : World) (Q : Value → World → Prop) : vcFn Tryd.prog A_internal_strconv_FormatInt Tryd.f72 #[.int .i64 (i), .int .i64 (base)] w Q = F_internal_strconv_FormatInt i base w Q := by kernel_rfl
theorem F_internal_strconv_FormatInt_does (i : Int) (base : Int) (w : World) (Q : Value → World → Prop) (hQ : F_internal_strconv_FormatInt i base w Q) : Does Tryd.prog N_internal_strconv_FormatInt #[.int .i64 (i), .int .i64 (base)] w Q :=
  vcFn_sound noAsk mixed (A := A_internal_strconv_FormatInt) (by kernel_rfl) Tryd.func72 (Nat.le_of_ble_eq_true (by kernel_rfl)) (by kernel_rfl) ((F_internal_strconv_FormatInt_eq i base w Q).mpr hQ)

/- nacelle/sha.turn -/
def F_sha_turn (x : Int) (n : Int) (w : World) (Q : Value → World → Prop) : Prop :=
  Does Tryd.prog N_math_bits_RotateLeft32 #[.int .u32 (x), .int .i64 (IntKind.wrap .i64 (0 - n))] w fun r1 w2 => ∃ x3 : Int, r1 = .int .u32 (x3) ∧
  Q (.int .u32 (x3)) w2
def A_sha_turn : Ann := ⟨[], [], []⟩
theorem F_sha_turn_eq (x : Int) (n : Int) (w : World) (Q : Value → World → Prop) : vcFn Tryd.prog A_sha_turn Tryd.f73 #[.int .u32 (x), .int .i64 (n)] w Q = F_sha_turn x n w Q := by kernel_rfl
theorem F_sha_turn_does (x : Int) (n : Int) (w : World) (Q : Value → World → Prop) (hQ : F_sha_turn x n w Q) : Does Tryd.prog N_sha_turn #[.int .u32 (x), .int .i64 (n)] w Q :=
  vcFn_sound noAsk mixed (A := A_sha_turn) (by kernel_rfl) Tryd.func73 (Nat.le_of_ble_eq_true (by kernel_rfl)) (by kernel_rfl) ((F_sha_turn_eq x n w Q).mpr hQ)

/- internal/strconv.small -/
def F_internal_strconv_small (i : Int) (w : World) (Q : Value → World → Prop) : Prop :=
  cond (decide ((i : Int) < 10))
  (slcS ((⟨#[48, 49, 50, 51, 52, 53, 54, 55, 56, 57, 97, 98, 99, 100, 101, 102, 103, 104, 105, 106, 107, 108, 109, 110, 111, 112, 113, 114, 115, 116, 117, 118, 119, 120, 121, 122]⟩ : ByteArray)) (i) (IntKind.wrap .i64 (i + 1)) fun s1 =>
   Q (.string (s1)) w)
  (slcS ((⟨#[48, 48, 48, 49, 48, 50, 48, 51, 48, 52, 48, 53, 48, 54, 48, 55, 48, 56, 48, 57, 49, 48, 49, 49, 49, 50, 49, 51, 49, 52, 49, 53, 49, 54, 49, 55, 49, 56, 49, 57, 50, 48, 50, 49, 50, 50, 50, 51, 50, 52, 50, 53, 50, 54, 50, 55, 50, 56, 50, 57, 51, 48, 51, 49, 51, 50, 51, 51, 51, 52, 51, 53, 51, 54, 51, 55, 51, 56, 51, 57, 52, 48, 52, 49, 52, 50, 52, 51, 52, 52, 52, 53, 52, 54, 52, 55, 52, 56, 52, 57, 53, 48, 53, 49, 53, 50, 53, 51, 53, 52, 53, 53, 53, 54, 53, 55, 53, 56, 53, 57, 54, 48, 54, 49, 54, 50, 54, 51, 54, 52, 54, 53, 54, 54, 54, 55, 54, 56, 54, 57, 55, 48, 55, 49, 55, 50, 55, 51, 55, 52, 55, 53, 55, 54, 55, 55, 55, 56, 55, 57, 56, 48, 56, 49, 56, 50, 56, 51, 56, 52, 56, 53, 56, 54, 56, 55, 56, 56, 56, 57, 57, 48, 57, 49, 57, 50, 57, 51, 57, 52, 57, 53, 57, 54, 57, 55, 57, 56, 57, 57]⟩ : ByteArray)) (IntKind.wrap .i64 (i * 2)) (IntKind.wrap .i64 ((IntKind.wrap .i64 (i * 2)) + 2)) fun s2 =>
   Q (.string (s2)) w)
def A_internal_strconv_small : Ann := ⟨[], [], []⟩
theorem F_internal_strconv_small_eq (i : Int) (w : World) (Q : Value → World → Prop) : vcFn Tryd.prog A_internal_strconv_small Tryd.f74 #[.int .i64 (i)] w Q = F_internal_strconv_small i w Q := by kernel_rfl
theorem F_internal_strconv_small_does (i : Int) (w : World) (Q : Value → World → Prop) (hQ : F_internal_strconv_small i w Q) : Does Tryd.prog N_internal_strconv_small #[.int .i64 (i)] w Q :=
  vcFn_sound noAsk mixed (A := A_internal_strconv_small) (by kernel_rfl) Tryd.func74 (Nat.le_of_ble_eq_true (by kernel_rfl)) (by kernel_rfl) ((F_internal_strconv_small_eq i w Q).mpr hQ)

/- math/bits.RotateLeft32 -/
def F_math_bits_RotateLeft32 (x : Int) (k : Int) (w : World) (Q : Value → World → Prop) : Prop :=
  (0 : Int) ≤ (bits .and .u64 (IntKind.wrap .u64 k) 31) ∧
  (0 : Int) ≤ (IntKind.wrap .u64 (32 - (bits .and .u64 (IntKind.wrap .u64 k) 31))) ∧
  Q (.int .u32 (bits .or .u32 (IntKind.wrap .u32 (x * 2 ^ (min (Int.toNat ((bits .and .u64 (IntKind.wrap .u64 k) 31))) (IntKind.bits .u32)))) (Int.fdiv x (2 ^ (min (Int.toNat ((IntKind.wrap .u64 (32 - (bits .and .u64 (IntKind.wrap .u64 k) 31))))) (IntKind.bits .u32)))))) w
def A_math_bits_RotateLeft32 : Ann := ⟨[], [], []⟩
theorem F_math_bits_RotateLeft32_eq (x : Int) (k : Int) (w : World) (Q : Value → World → Prop) : vcFn Tryd.prog A_math_bits_RotateLeft32 Tryd.f78 #[.int .u32 (x), .int .i64 (k)] w Q = F_math_bits_RotateLeft32 x k w Q := by kernel_rfl
theorem F_math_bits_RotateLeft32_does (x : Int) (k : Int) (w : World) (Q : Value → World → Prop) (hQ : F_math_bits_RotateLeft32 x k w Q) : Does Tryd.prog N_math_bits_RotateLeft32 #[.int .u32 (x), .int .i64 (k)] w Q :=
  vcFn_sound noAsk mixed (A := A_math_bits_RotateLeft32) (by kernel_rfl) Tryd.func78 (Nat.le_of_ble_eq_true (by kernel_rfl)) (by kernel_rfl) ((F_math_bits_RotateLeft32_eq x k w Q).mpr hQ)

end Go.Proofs.YtlbhilhfbbocfaaDoor.G
