import Derived.Test.YtkfcmpngcanffaaDoorDf
import Derived.Test.YtkfcmpngcanffaaDoorF
set_option linter.unusedVariables false
set_option linter.unusedSimpArgs false
namespace Go.Proofs.YtkfcmpngcanffaaDoor.G
open Go Go.VC Go.RowKit Go.Proofs Go.Proofs.YtkfcmpngcanffaaDoor Nac
theorem openAct20 : OpenT Tryd.prog T_law20_Act (fun x : Act20 => x.n ≤ 9223372036854775807 ∧ x.keep.length ≤ reachBytes) := by
  intro H enc w fuel cs d ps h hw
  have ui : Tryd.prog.underlying T_int = some (.int .i64) := by kernel_rfl
  have c1 : Tryd.prog.cellsOf T_int = 1 := by kernel_rfl
  have c4 : Tryd.prog.cellsOf T_api_Entry = 4 := by kernel_rfl
  have cb : Tryd.prog.cellsOf T_l_bool = 1 := by kernel_rfl
  have c7 : Tryd.prog.cellsOf T_law20_Act = 7 := by kernel_rfl
  obtain ⟨hl, y0, r0, g0⟩ := openField h hw (i := 0) (u := T_int) (o := 0) (by kernel_rfl) (openInt ui)
  obtain ⟨_, y1, r1, g1⟩ := openField h hw (i := 1) (u := T_int) (o := 1) (by kernel_rfl) (openInt ui)
  obtain ⟨_, y2, r2, g2⟩ := openField h hw (i := 2) (u := T_api_Entry) (o := 2) (by kernel_rfl) openEntry
  obtain ⟨_, y3, r3, g3⟩ := openField h hw (i := 3) (u := T_l_bool) (o := 6) (by kernel_rfl) (openList (e := T_bool) (k := 1) (by kernel_rfl) (by kernel_rfl) (by decide) (by kernel_rfl) (openBool (by kernel_rfl)))
  rw [c7] at hl
  rw [c1] at r0 r1
  rw [c4] at r2
  rw [cb] at r3
  match cs, hl with
  | [a0, a1, a2, a3, a4, a5, a6], _ =>
    have e0 : [a0] = [Sc.enc y0] := r0
    have e1 : [a1] = [Sc.enc y1] := r1
    have e2 : [a2, a3, a4, a5] = encE y2 := r2
    obtain ⟨s, e3, hi⟩ := r3
    have e3' : [a6] = [s.v] := e3
    cases e0; cases e1; cases e2; cases e3'
    exact ⟨⟨y0, y1, y2, y3⟩, ⟨s, rfl, hi⟩, g1.2, by simpa using g3.1⟩
attribute [local irreducible] Tryd.prog
section
variable {F : Bs} {w : World} {l r : List SP} {b d p : Nat} {D : Disk} {Q : Value → World → Prop} {X : Nac.Ext}
theorem arm_has (D : Disk) (n : Int) (s : List Bool) : (D.arm n s).has = D.has ∧ (D.arm n s).waits = D.waits ∧ (D.arm n s).off = D.off := by
  unfold Disk.arm; cases h : D.off
  · exact ⟨rfl, rfl, by first | rfl | exact h⟩
  · exact ⟨rfl, rfl, by first | rfl | exact h⟩
theorem law_Keeps (H : Heap F w l) {s : Sl} {xs : List Act20} (hS : Has l (imm s xs)) (hH : Has l Half) (hg : ∀ x ∈ xs, x.n ≤ 9223372036854775807 ∧ x.keep.length ≤ reachBytes) (k : ∀ w', Heap F w' l → Q (.bool true) w') : Does Tryd.prog N_law20_AuditKeeps #[.slice s.a s.len s.cap] w Q := by
  refine F_law20_AuditKeeps_does _ _ _ ?_
  unfold F_law20_AuditKeeps
  have hsl := H.len hS
  refine law_part H (n := 9) (by decide) (by decide) fun d p w H => ⟨_, _, _, rfl, cF rfl ?_⟩
  have K0 : KI 9 (Disk.new 12) [] := KI_new (by decide)
  refine open_KI (c := 9) (d := d) K0 H fun b w H => ⟨_, _, rfl, cF rfl ?_⟩
  intro J hJ
  have out : ∀ (b : Nat) (D : Disk) (L : List Entry) (t : Sl) (w' : World), KI 9 D L → Heap F w' (LogAt b p L false :: own T_api_Entry t L :: PartAt p d ⟨2, 9⟩ :: DiskAt d D :: l) → J (some ⟨b, 0, none⟩) t w' := fun b D L t w' K H => by
    have hLn := K.len
    refine hJ _ _ _ ?_
    refine aud_Entries (L := L) H (by omega) fun s2 w H => ⟨_, rfl, ?_⟩
    refine law_same (s1 := s2) (s2 := t) (a := L) (b := L) H (.o .h) (.o (.t (.t .h))) fun w H => ⟨_, rfl, ?_⟩
    refine cT (by simp) ?_
    refine law_awake H (.t (.t (.t (.t (.t hH))))) fun w H => ⟨_, rfl, k w ?_⟩
    replace H := H.dr2 (own _ s2 _) (own _ t _)
    replace H := H.dr2 (LogAt b p _ _) (PartAt p d _)
    exact H.dr (DiskAt d _)
  refine ⟨fun lg t i w' => ∃ (m : Nat) (b : Nat) (D : Disk) (L : List Entry), lg = some ⟨b, 0, none⟩ ∧ i = m ∧ m ≤ xs.length ∧ m ≤ 20 ∧ KI 9 D L ∧ Heap F w' (LogAt b p L false :: own T_api_Entry t L :: PartAt p d ⟨2, 9⟩ :: DiskAt d D :: l), fun _ _ i _ => (20 - i).toNat,
    ⟨0, b, Disk.new 12, [], rfl, rfl, by omega, by omega, K0, ?_⟩, ?_⟩
  · exact (H.own_nil (α := Entry) T_api_Entry).take (.t .h)
  rintro lg t i w1 ⟨m, b, D, L, rfl, rfl, hm, hm20, K, H⟩
  intro J2 hJ2
  refine dBoth (fun hlt => dBoth (fun hlt2 => hJ2 _ ?_) (fun h => out b D L t w1 K H)) (fun h => out b D L t w1 K H)
  have hlt' : m < xs.length := by omega
  have hm' : m < 20 := by omega
  have hLn := K.len
  have hgm := hg xs[m] (List.getElem_mem hlt')
  intro J3 hJ3
  have next : ∀ (b' : Nat) (D' : Disk) (L' : List Entry) (t' : Sl) (w' : World), KI 9 D' L' → Heap F w' (LogAt b' p L' false :: own T_api_Entry t' L' :: PartAt p d ⟨2, 9⟩ :: DiskAt d D' :: l) → J3 (some ⟨b', 0, none⟩) t' w' := fun b' D' L' t' w' K' H' =>
    hJ3 _ _ _ ⟨⟨m + 1, b', D', L', rfl, by rw [i64_id (by omega)]; omega, by omega, by omega, K', H'⟩, by rw [i64_id (by omega)]; dsimp only; omega⟩
  refine idxI (s := s) (xs := xs) H (by omega) (by omega) (fun a cs H hA => ?_) (.t (.t (.t (.t hS))))
  simp only [Int.toNat_natCast] at H
  replace H := open_Act H
  obtain ⟨kp, rfl, H⟩ := H
  generalize xs[m] = A at *
  refine At.ld0 hA (At.ld hA (At.ld hA (At.ld hA (At.ld hA (At.ld hA (At.ld hA ?_))))))
  refine al H (cs := [.int .i64 0, .int .i64 0, .int .i64 0, .int .i64 0, .int .u32 0, .int .i64 0, (Sl.v ⟨none, 0, 0⟩)]) (fun a2 w H => ?_) zc_law20_Act
  refine st0 H fun w H => sta H fun w H => sta H fun w H => sta H fun w H => sta H fun w H => sta H fun w H => sta H fun w H => ?_
  intro J4 hJ4
  have body : ∀ (D1 : Disk) (w' : World), D1.has = D.has → D1.waits = [] → D1.off = false → Heap F w' (DiskAt d D1 :: blk a2 T_law20_Act [.int .i64 A.do_, .int .i64 A.n, .int .i64 A.entry.kind, .int .i64 A.entry.part, .int .u32 (A.entry.version.toNat : Int), .int .i64 A.entry.code, kp.v] :: imm kp A.keep :: LogAt b p L false :: own T_api_Entry t L :: PartAt p d ⟨2, 9⟩ :: l) → J4 w' := fun D1 w' e1 e2 e3 H => by
    refine hJ4 _ ?_
    refine lda H (ldaa H (ldaa H (ldaa H ?_)))
    refine aud_Add (d := d) (p := p) (X := ⟨2, 9⟩) (D := D1) (L := L) (dead := false) (x := A.entry) H (by rw [e2]; decide) (by omega) (fun w H => ⟨_, rfl, ?_⟩)
    have KS := keeps_step (x := A.entry) K e1 e2 e3
    rw [show (⟨2, ((9 : Nat) : Int)⟩ : Nac.Ext) = ⟨2, 9⟩ from rfl] at KS
    generalize aadd D1 ⟨2, 9⟩ L false A.entry = R at *
    obtain ⟨D2, L2, dd, er⟩ := R
    dsimp only at *
    replace H := H.imm_nil (α := Bool)
    refine disk_Arm (n := -1) (s := ⟨none, 0, 0⟩) (surv := []) (D := D2) H (by decide) (by decide) (fun w H => ⟨rfl, ?_⟩)
    replace H := H.dr (imm (⟨none, 0, 0⟩ : Sl) ([] : List Bool))
    generalize D2.arm (-1) [] = D3 at *
    have mid : er ≠ 0 → ∀ L', KI 9 D3.power L' → (L' = L ∨ (er = 9 ∧ L' = L ++ [A.entry])) → Does Tryd.prog N_disk_Disk_Power #[.pointer (some ⟨d, 0, none⟩)] w fun r72 w73 => r72 = .tuple #[] ∧
           Does Tryd.prog N_audit_Open #[.pointer (some ⟨p, 0, none⟩)] w73 fun r74 w75 => ∃ p76 : Option Addr, ∃ x77 : Int, r74 = .tuple #[.pointer (p76), .int .i64 (x77)] ∧
           cond ((x77 : Int) != 0)
           (Q (.bool (false)) w75)
           (Does Tryd.prog N_audit_Log_Entries #[.pointer (p76)] w75 fun r78 w79 => ∃ l80 : Sl, r78 = .slice (l80.a) (l80.len) (l80.cap) ∧
            ∀ J83 : Sl → World → Prop, (∀ noted81 : Sl, ∀ w82 : World, 
              (Does Tryd.prog N_law20_same #[.slice (l80.a) (l80.len) (l80.cap), .slice (noted81.a) (noted81.len) (noted81.cap)] w82 fun r84 w85 => ∃ b86 : Bool, r84 = .bool (b86) ∧
              cond (!b86)
              (Q (.bool (false)) w85)
              (J3 p76 ⟨noted81.a, noted81.len, noted81.cap⟩ w85)) → J83 noted81 w82) →
            ∀ J89 : Bool → World → Prop, (∀ b87 : Bool, ∀ w88 : World, 
              (cond (b87)
              (ldT (.int .i64) w88 ((⟨a2, 0, none⟩ : Addr).add 2) fun x90 => ldT (.int .i64) w88 (((⟨a2, 0, none⟩ : Addr).add 2).add 1) fun x91 => ldT (.int .u32) w88 (((⟨a2, 0, none⟩ : Addr).add 2).add 2) fun x92 => ldT (.int .i64) w88 (((⟨a2, 0, none⟩ : Addr).add 2).add 3) fun x93 =>
               allocK w88 #[.int .i64 (x90), .int .i64 (x91), .int .u32 (x92), .int .i64 (x93)] T_api_Entry fun a94 w95 =>
               runG (.sl) Tryd.prog w95 (Builtin.append_ #[T_l_api_Entry, T_l_api_Entry] T_l_api_Entry #[.slice (t.a) (t.len) (t.cap), .slice (some (a94)) (1) (1)]) fun l96 w97 =>
               J83 ⟨l96.a, l96.len, l96.cap⟩ w97)
              (J83 ⟨t.a, t.len, t.cap⟩ w88)) → J89 b87 w88) →
            cond (((((l80.len : Nat) : Int)) : Int) == (IntKind.wrap .i64 ((((t.len : Nat) : Int)) + 1)))
            (cond ((er : Int) == 9)
             (idx (l80.a) (l80.len) (((t.len : Nat) : Int)) 4 fun a98 =>
              ldT (.int .i64) w79.drew (a98) fun x99 => ldT (.int .i64) w79.drew ((a98).add 1) fun x100 => ldT (.int .u32) w79.drew ((a98).add 2) fun x101 => ldT (.int .i64) w79.drew ((a98).add 3) fun x102 =>
              ldT (.int .i64) w79.drew ((⟨a2, 0, none⟩ : Addr).add 2) fun x103 => ldT (.int .i64) w79.drew (((⟨a2, 0, none⟩ : Addr).add 2).add 1) fun x104 => ldT (.int .u32) w79.drew (((⟨a2, 0, none⟩ : Addr).add 2).add 2) fun x105 => ldT (.int .i64) w79.drew (((⟨a2, 0, none⟩ : Addr).add 2).add 3) fun x106 =>
              runG (.bool) Tryd.prog w79.drew (do eqGuard .eql T_api_Entry (.tmp 91) (.tmp 93) (.agg #[.int .i64 (x99), .int .i64 (x100), .int .u32 (x101), .int .i64 (x102)]) (.agg #[.int .i64 (x103), .int .i64 (x104), .int .u32 (x105), .int .i64 (x106)]); binOp .eql T_api_Entry (.agg #[.int .i64 (x99), .int .i64 (x100), .int .u32 (x101), .int .i64 (x102)]) (.agg #[.int .i64 (x103), .int .i64 (x104), .int .u32 (x105), .int .i64 (x106)])) fun b107 w108 =>
              J89 b107 w108)
             (J89 false w79.drew))
            (J89 false w79.drew)) := fun hne L' K' hcase => by
      have hLn' := K'.len
      refine disk_Power (D := D3) H fun w H => ⟨rfl, ?_⟩
      refine open_KI (c := 9) (d := d) K' H fun b2 w H => ⟨_, _, rfl, cF rfl ?_⟩
      refine aud_Entries (b := b2) (L := L') H (by omega) fun s2 w H => ⟨_, rfl, ?_⟩
      have hl2 := H.lenO (s := s2) (xs := L')
      have hlt := H.lenO (s := t) (xs := L)
      intro J5 hJ5 J6 hJ6
      have fin : ∀ (t' : Sl) (w' : World), Heap F w' (own T_api_Entry t' L' :: own T_api_Entry s2 L' :: LogAt b2 p L' false :: PartAt p d ⟨2, 9⟩ :: DiskAt d D3.power :: l) → J5 t' w' := fun t' w' H => by
        refine hJ5 _ _ ?_
        refine law_same (s1 := s2) (s2 := t') (a := L') (b := L') H (.o (.t .h)) (.o .h) fun w H => ⟨_, rfl, ?_⟩
        refine cF (by simp) (next b2 _ L' t' w K' ?_)
        replace H := H.dr (own _ s2 _)
        exact H.ord4
      have tidy : ∀ (w' : World) (rest : List SP), Heap F w' (own T_api_Entry s2 L' :: LogAt b2 p L' false :: PartAt p d ⟨2, 9⟩ :: DiskAt d D3.power :: rest) → True := fun _ _ _ => trivial
      rcases hcase with rfl | ⟨rfl, rfl⟩
      · refine cF (by rw [← hl2, ← hlt, i64_id (by omega)]; simp; omega) (hJ6 _ _ (cF rfl (fin t _ ?_)))
        replace H := H.drew.dr2 (blk a2 _ _) (imm kp _)
        replace H := H.dr (LogAt b p L2 dd)
        exact H.ord5
      · simp only [List.length_append, List.length_singleton] at hl2 hLn'
        refine cT (by rw [← hl2, ← hlt, i64_id (by omega)]; simp) (cT rfl ?_)
        rw [← hlt]
        refine idxO (s := s2) (xs := L ++ [A.entry]) H (by omega) (by simp; omega) fun a98 cs H1 hA98 => ?_
        have e98 : (L ++ [A.entry])[((L.length : Int)).toNat]'(by simp) = A.entry := by simp
        rw [e98] at H1
        have ecs := Heap.e4 H1
        subst ecs
        refine At.ld0 hA98.drew (At.ld hA98.drew (At.ld hA98.drew (At.ld hA98.drew ?_)))
        replace H := H.drew
        refine lda H (ldaa H (ldaa H (ldaa H ?_)))
        refine flat_eql flatE (entEq A.entry A.entry) ?_
        rw [decide_eq_true rfl]
        refine hJ6 _ _ (cT rfl ?_)
        refine lda H (ldaa H (ldaa H (ldaa H ?_)))
        refine al H (cs := encE A.entry) (fun a3 w H => ?_) rfl
        replace H := Heap.mkE H A.entry
        refine psh (s := t) (xs := L) (y := A.entry) S_l_api_Entry H (by omega) fun t' w H => ?_
        refine fin t' w ?_
        replace H := (H.dr2 (rep _ A.entry) (blk a3 _ _))
        replace H := (H.dr2 (blk a2 _ _) (imm kp _))
        replace H := H.dr (LogAt b p L2 dd)
        exact H.ord5
    rcases KS with ⟨rfl, rfl, rfl, K'⟩ | ⟨hne, K'⟩ | ⟨rfl, K'⟩
    · refine cT rfl (lda H (ldaa H (ldaa H (ldaa H ?_))))
      refine al H (cs := encE A.entry) (fun a3 w H => ?_) rfl
      replace H := Heap.mkE H A.entry
      refine psh (s := t) (xs := L) (y := A.entry) S_l_api_Entry H (by omega) fun t' w H => ?_
      refine next b D3 (L ++ [A.entry]) t' w K' ?_
      replace H := (H.dr2 (rep _ A.entry) (blk a3 _ _))
      replace H := (H.dr2 (blk a2 _ _) (imm kp _))
      exact H.ord4
    · refine cF (by simpa using hne) (mid hne L K' (.inl rfl))
    · refine cF rfl (mid (by decide) (L ++ [A.entry]) K' (.inr ⟨rfl, rfl⟩))
  refine ld0 H (dBoth (fun h3 => lda H (lda H ?_)) (fun h3 => ?_))
  · refine disk_Arm (n := A.n) (s := kp) (surv := A.keep) (D := D) H hgm.1 (by have := hgm.2; simp only [reachBytes] at this; omega) (fun w H => ⟨rfl, ?_⟩)
    obtain ⟨e1, e2, e3⟩ := arm_has D A.n A.keep
    refine body _ w e1 (e2.trans K.waits) (e3.trans K.off) ?_
    exact H
  · refine body D _ rfl K.waits K.off ?_
    exact H.take (by repeat (first | assumption | constructor))
end
end Go.Proofs.YtkfcmpngcanffaaDoor.G
