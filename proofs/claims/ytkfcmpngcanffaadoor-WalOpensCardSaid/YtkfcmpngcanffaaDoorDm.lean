import Derived.Test.YtkfcmpngcanffaaDoorDl
set_option linter.unusedVariables false
set_option linter.unusedSimpArgs false
namespace Go.VC
open Go Go.RowKit
theorem Heap.kp4 {F : Bs} {w : World} {c d e f : SP} : ∀ (n : Nat) {l : List SP}, Heap F w (c :: d :: e :: f :: l) → Heap F w (c :: d :: e :: f :: l.drop n)
  | 0, _, H => H
  | n + 1, [], H => H
  | n + 1, a :: l, H => Heap.kp4 n (H.dr a (.t (.t (.t (.t .h)))))
theorem Heap.kp7 {F : Bs} {w : World} {c d e f g i j : SP} : ∀ (n : Nat) {l : List SP}, Heap F w (c :: d :: e :: f :: g :: i :: j :: l) → Heap F w (c :: d :: e :: f :: g :: i :: j :: l.drop n)
  | 0, _, H => H
  | n + 1, [], H => H
  | n + 1, a :: l, H => Heap.kp7 n (H.dr a (.t (.t (.t (.t (.t (.t (.t .h))))))))
theorem ptr_eql {P : Program} {w : World} {t x : Nat} {p : Option Addr} {K : Bool → World → Prop} (h : P.underlying t = some (.pointer (P.pointee t))) (k : K p.isNone w) :
    runG (.bool) P w (do eqGuard .eql t (.tmp x) (.const (.pointer none)) (.pointer p) (.pointer none); binOp .eql t (.pointer p) (.pointer none)) K :=
  ⟨.bool p.isNone, w, by
    have e : eqGuard .eql t (.tmp x) (.const (.pointer none)) (.pointer p) (.pointer none) = pure () := by cases p <;> rfl
    rw [e, pure_bind]
    exact run_eql_pointer_nil w t p h, _, rfl, k⟩
theorem par_agg {P : Program} {W : World} {t : TypeId} {b0 : Nat} {v : Value} {H : Type} {enc : TypeId × Value → H} {d : DataW H} {ps : List MemPlace} {α : Type} [Rep α] {G : α → Prop} {fs : Array Field} (ht : P.underlying t = some (.struct fs)) (hO : OpenT P t G) (hv : Value.okWide P W .any b0 t v) (hd : DataW.Trod enc P W 0 (fun _ => true) true t v d ps) (hw : (d.weights P t).all (· ≤ reachBytes) = true) :
    ∃ (cs : List Value) (x : α), v = .agg cs.toArray ∧ Rep.r (PH.of W) cs x ∧ G x := by
  obtain ⟨cs, rfl, _⟩ := WideShapes.okWide_struct ht hv
  obtain ⟨fuel, hd⟩ := hd
  obtain ⟨x, hx, hg⟩ := hO hd hw
  exact ⟨cs.toList, x, by simp, by simpa [Value.cells] using hx, hg⟩
end Go.VC
namespace Nac
structure Forged where
  acts : List Act16
  at_ : Int
  sec : List UInt8
  more : List Act16
end Nac
namespace Go.Proofs.YtkfcmpngcanffaaDoor.G
open Go Go.VC Go.RowKit Go.Proofs Go.Proofs.YtkfcmpngcanffaaDoor Nac
instance : Rep Forged where
  n := 4
  r := fun ro cs x => ∃ sa ss sm : Sl, cs = [sa.v, .int .i64 x.at_, ss.v, sm.v] ∧ immL ro sa x.acts ∧ immL ro ss x.sec ∧ immL ro sm x.more
  mono := fun h ⟨a, s, m, e, h1, h2, h3⟩ => ⟨a, s, m, e, h1.mono h, h2.mono h, h3.mono h⟩
  len := fun ⟨a, s, m, e, _⟩ => by rw [e]; rfl
  one := fun ⟨a, s, m, e, _⟩ u hu => by rw [e] at hu; simp at hu; rcases hu with rfl | rfl | rfl | rfl <;> rfl
theorem openForged : OpenT Tryd.prog T_law16_Forged (fun x : Forged => (∀ y ∈ x.acts, (-9223372036854775808 ≤ y.n ∧ y.n ≤ 9223372036854775807)) ∧ (-9223372036854775808 ≤ x.at_ ∧ x.at_ ≤ 9223372036854775807) ∧ (∀ y ∈ x.more, (-9223372036854775808 ≤ y.n ∧ y.n ≤ 9223372036854775807))) := by
  intro H enc w fuel cs d ps h hw
  have ui : Tryd.prog.underlying T_int = some (.int .i64) := by kernel_rfl
  have u8 : Tryd.prog.underlying T_uint8 = some (.int .u8) := by kernel_rfl
  have c1 : Tryd.prog.cellsOf T_int = 1 := by kernel_rfl
  have ca : Tryd.prog.cellsOf 68 = 1 := by kernel_rfl
  have cb : Tryd.prog.cellsOf T_l_uint8 = 1 := by kernel_rfl
  have c7 : Tryd.prog.cellsOf T_law16_Forged = 4 := by kernel_rfl
  obtain ⟨hl, y0, r0, g0⟩ := openField h hw (i := 0) (u := 68) (o := 0) (by kernel_rfl) (openList (e := T_law16_Act) (k := 64) (by kernel_rfl) (by kernel_rfl) (by decide) (by kernel_rfl) openAct16)
  obtain ⟨_, y1, r1, g1⟩ := openField h hw (i := 1) (u := T_int) (o := 1) (by kernel_rfl) (openInt ui)
  obtain ⟨_, y2, r2, g2⟩ := openField h hw (i := 2) (u := T_l_uint8) (o := 2) (by kernel_rfl) (openList (e := T_uint8) (k := 1) (by kernel_rfl) (by kernel_rfl) (by decide) (by kernel_rfl) (openU8 u8))
  obtain ⟨_, y3, r3, g3⟩ := openField h hw (i := 3) (u := 68) (o := 3) (by kernel_rfl) (openList (e := T_law16_Act) (k := 64) (by kernel_rfl) (by kernel_rfl) (by decide) (by kernel_rfl) openAct16)
  rw [c7] at hl
  rw [ca] at r0 r3
  rw [c1] at r1
  rw [cb] at r2
  match cs, hl with
  | [a0, a1, a2, a3], _ =>
    obtain ⟨s0, e0, i0⟩ := r0
    have e0' : [a0] = [s0.v] := e0
    have e1 : [a1] = [Sc.enc y1] := r1
    obtain ⟨s2, e2, i2⟩ := r2
    have e2' : [a2] = [s2.v] := e2
    obtain ⟨s3, e3, i3⟩ := r3
    have e3' : [a3] = [s3.v] := e3
    cases e0'; cases e1; cases e2'; cases e3'
    exact ⟨⟨y0, y1, y2, y3⟩, ⟨s0, s2, s3, rfl, i0, i2, i3⟩, fun y hy => (g0.2 y hy).1, g1, fun y hy => (g3.2 y hy).1⟩
attribute [local irreducible] Tryd.prog
theorem ptr_wal : Tryd.prog.underlying T_p_wal_Log = some (.pointer (Tryd.prog.pointee T_p_wal_Log)) := by kernel_rfl
section
variable {F : Bs} {w : World} {l r : List SP} {b d p : Nat} {D : Disk} {Q : Value → World → Prop} {X : Nac.Ext} {W : Wal} {s1 s2 s5 sp : Sl} {fr : Int}
set_option maxHeartbeats 4000000 in
theorem law_Opens16 (H : Heap F w l) {sa ss sm : Sl} {x : Forged} (hA : Has l (imm sa x.acts)) (hS : Has l (imm ss x.sec)) (hM : Has l (imm sm x.more)) (hH : Has l Half)
    (hg : (∀ y ∈ x.acts, (-9223372036854775808 ≤ y.n ∧ y.n ≤ 9223372036854775807)) ∧ (-9223372036854775808 ≤ x.at_ ∧ x.at_ ≤ 9223372036854775807) ∧ (∀ y ∈ x.more, (-9223372036854775808 ≤ y.n ∧ y.n ≤ 9223372036854775807)))
    (k : ∀ w', Heap F w' l → Q (.bool true) w') : Does Tryd.prog N_law16_WalOpens #[.agg #[.slice sa.a sa.len sa.cap, .int .i64 x.at_, .slice ss.a ss.len ss.cap, .slice sm.a sm.len sm.cap]] w Q := by
  refine F_law16_WalOpens_does _ _ _ _ _ _ ?_
  unfold F_law16_WalOpens
  obtain ⟨hg1, hgat, hg3⟩ := hg
  have hal := H.len hA
  have hab := H.bndI hA
  have hml := H.len hM
  have hmb := H.bndI hM
  obtain ⟨f0, G, fl⟩ := DF_good (n := 3) (by decide) (by decide)
  have flen : (Nac.format D0 ⟨3, 52⟩).1.has.length = 60 := by rw [format_len]; simp [D0, Disk.new]
  refine al H (cs := [sa.v, .int .i64 x.at_, ss.v, sm.v]) (fun a1 w H => ?_) rfl
  replace H := H.drew
  repeat (first | refine lda H ?_ | refine ld0 H ?_ | refine ldaN H ?_ | refine ld0N H ?_ | refine sta H fun w H => ?_ | refine st0 H fun w H => ?_)
  replace H := H.dr (blk a1 _ _)
  refine law_part16 H (n := 3) (by decide) (by decide) f0 hH fun d p s1 s2 s5 w H => ⟨_, _, s1, s2, _, _, s5, _, rfl, ?_⟩
  generalize (Nac.format D0 ⟨3, 52⟩).1 = DF at *
  obtain ⟨X, hX⟩ : ∃ X : Nac.Ext, X = ⟨3, 52⟩ := ⟨_, rfl⟩
  rw [← hX] at G H
  have hX0 : X.from_ = 3 := by rw [hX]
  have hX52 : X.count = 52 := by rw [hX]
  refine al H (cs := [(Sl.v ⟨none, 0, 0⟩), (Sl.v ⟨none, 0, 0⟩), .bool false, .int .i64 0, (Sl.v ⟨none, 0, 0⟩)]) (fun a17 w H => ?_) zc_ref05_Disk
  repeat (first | refine lda H ?_ | refine ld0 H ?_ | refine ldaN H ?_ | refine ld0N H ?_ | refine sta H fun w H => ?_ | refine st0 H fun w H => ?_)
  refine cF rfl ?_
  refine open_good (D := DF) (X := X) (W := W0) H G (fun b w H => ⟨_, _, rfl, cF rfl ?_⟩) (by repeat (first | assumption | constructor)) (by repeat (first | assumption | constructor)) (by repeat (first | assumption | constructor))
  repeat (first | refine lda H ?_ | refine ld0 H ?_ | refine ldaN H ?_ | refine ld0N H ?_ | refine sta H fun w H => ?_ | refine st0 H fun w H => ?_)
  have hwo : wopen DF X = (W0, 0) := G.wopen
  refine ref_Open16 (D := DF) (X := X) (s1 := s1) (s2 := s2) (s5 := s5) (fr := 3) H (by repeat (first | assumption | constructor)) G.fits ⟨hX0, by decide⟩ (fun _ sp w H => ⟨s1, s2, _, _, s5, _, sp, _, _, _, _, _, rfl, ?_⟩) (fun h => absurd (by rw [hwo]) h)
  rw [hwo] at H ⊢
  dsimp only at H ⊢
  refine al H (cs := [(Sl.v ⟨none, 0, 0⟩), (Sl.v ⟨none, 0, 0⟩), .bool false, .int .i64 0, (Sl.v ⟨none, 0, 0⟩), .int .i64 0, (Sl.v ⟨none, 0, 0⟩), .int .u32 0, .int .i64 0, .int .i64 0, .bool false]) (fun a48 w H => ?_) zc_ref16_Log
  repeat (first | refine lda H ?_ | refine ld0 H ?_ | refine ldaN H ?_ | refine ld0N H ?_ | refine sta H fun w H => ?_ | refine st0 H fun w H => ?_)
  replace H := H.takes (cs := [WalAt b p W0, PartAt p d X, DiskAt d DF, blk a48 T_ref16_Log _, RDk s1 s2 s5 DF, imm sp (W0.pages.map bs)]) (by repeat (first | assumption | constructor))
  replace H : Heap F w (Both b p d a48 X 3 W0 DF s1 s2 s5 sp l) := Heap.kp6 1 H
  have q0 : Quiet DF := ⟨G.on, fl⟩
  have hFF : Nac.Fits DF X := G.fits
  have hW0 : DF.waits.length ≤ 100 := by rw [G.waits]; decide
  intro J63 hJ63
  -- behind the first acts
  have out : ∀ (D : Disk) (W : Wal) (s1 s2 sp : Sl) (w : World), Quiet D → Nac.Fits D X → D.has.length = 60 → D.waits.length ≤ 700 → Heap F w (Both b p d a48 X 3 W D s1 s2 s5 sp l) → J63 w := fun D W s1 s2 sp w q hF h60 hwt H => by
    refine hJ63 _ ?_
    unfold Both at H
    refine mk (d := (0 : UInt8)) Z_l_uint8 H (by decide) (by decide) (by decide) fun b64 w H => ?_
    have hcl : ((List.replicate (64 : Int).toNat (0 : UInt8)).map (Sc.enc (α := UInt8))).length = 64 := by simp
    refine copyBa (o := 0) (dl := 64) (dc := 64) (ty := T_uint8) (b := b64) (cur := (List.replicate (64 : Int).toNat (0 : UInt8)).map Sc.enc) (x := ss) (xs := x.sec) S_l_uint8 H rfl (by rw [hcl]; decide) (fun w H => ?_) .h (.t (.t (.t (.t (.t (.t (.t hS)))))))
    obtain ⟨bb, hbb, hbl⟩ : ∃ bb : List UInt8, ((List.replicate (64 : Int).toNat (0 : UInt8)).map (Sc.enc (α := UInt8))).take 0 ++ (x.sec.take 64).map Sc.enc ++ ((List.replicate (64 : Int).toNat (0 : UInt8)).map Sc.enc).drop (0 + min x.sec.length 64) = bb.map Sc.enc ∧ bb.length = 64 := by
      refine ⟨x.sec.take 64 ++ (List.replicate (64 : Int).toNat (0 : UInt8)).drop (min x.sec.length 64), ?_, ?_⟩
      · rw [List.take_zero, List.nil_append, List.map_append, List.map_drop, Nat.zero_add]
      · simp; omega
    rw [hbb] at H
    replace H := H.blk_own (b := b64) (n := 64) bb rfl (mx (by omega)) hbl
    replace H := H.share (s := ⟨some ⟨b64, 0, none⟩, 64, 64⟩) (xs := bb)
    intro J69 hJ69
    have go : ∀ (D : Disk) (s1 s2 : Sl) (w : World), Quiet D → Nac.Fits D X → D.waits.length ≤ 701 → Heap F w (DiskAt d D :: blk a48 T_ref16_Log (lwc s1 s2 s5 sp D 3 W.epoch (W.home : Int) (W.used : Int) W.dead) :: RDk s1 s2 s5 D :: PartAt p d X :: l) → J69 w := fun D s1 s2 w q hF hwt H => by
      refine hJ69 _ ?_
      by_cases hz : (wopen D X).2 = 0
      · refine wal_Open (D := D) (X := X) H hF (fun _ b w H => ⟨_, _, rfl, ?_⟩) (fun h => absurd hz h) (by repeat (first | assumption | constructor)) (by repeat (first | assumption | constructor)) (by repeat (first | assumption | constructor))
        repeat (first | refine lda H ?_ | refine ld0 H ?_ | refine ldaN H ?_ | refine ld0N H ?_ | refine sta H fun w H => ?_ | refine st0 H fun w H => ?_)
        refine ref_Open16 (D := D) (X := X) (s1 := s1) (s2 := s2) (s5 := s5) (fr := 3) H (by repeat (first | assumption | constructor)) hF ⟨hX0, by decide⟩ (fun _ spn w H => ⟨s1, s2, _, _, s5, _, spn, _, _, _, _, _, rfl, ?_⟩) (fun h => absurd hz h)
        have hdd : (wopen D X).1.dead = false := by
          unfold wopen wstate
          (repeat' split) <;> rfl
        generalize (wopen D X).1 = W1 at *
        obtain ⟨pg, ee, hh, uu, dd⟩ := W1
        obtain rfl : dd = false := hdd
        dsimp only at H ⊢
        refine al H (cs := [(Sl.v ⟨none, 0, 0⟩), (Sl.v ⟨none, 0, 0⟩), .bool false, .int .i64 0, (Sl.v ⟨none, 0, 0⟩), .int .i64 0, (Sl.v ⟨none, 0, 0⟩), .int .u32 0, .int .i64 0, .int .i64 0, .bool false]) (fun a93 w H => ?_) zc_ref16_Log
        repeat (first | refine lda H ?_ | refine ld0 H ?_ | refine ldaN H ?_ | refine ld0N H ?_ | refine sta H fun w H => ?_ | refine st0 H fun w H => ?_)
        intro J108 hJ108
        refine cF (by rfl) ?_
        refine ptr_eql ptr_wal (cF (by simp) ?_)
        replace H := H.drew
        repeat (first | refine lda H ?_ | refine ld0 H ?_ | refine ldaN H ?_ | refine ld0N H ?_ | refine sta H fun w H => ?_ | refine st0 H fun w H => ?_)
        refine disk_Image (D := D) H (fun s310 w H => ⟨_, rfl, ⟨rfl, ?_⟩, bs D.has.flatten, ?_, ?_⟩) (by repeat (first | assumption | constructor))
        · exact rowN (b := a48) (ty := T_ref16_Log) (cs := lwc s1 s2 s5 sp D 3 W.epoch (W.home : Int) (W.used : Int) W.dead) 5 H (by repeat (first | assumption | constructor))
        · exact cvO (s := s310) (xs := D.has.flatten) H und_l8 und_8 und_s .h
        refine rd_Image (D := D) (s1 := s1) (s2 := s2) (s5 := s5) H (by repeat (first | assumption | constructor)) fun w H => ⟨_, rfl, ?_, ?_⟩
        · exact cvO (s := s310) (xs := D.has.flatten) H und_l8 und_8 und_s .h
        refine cF (by simp) (hJ108 _ (cF rfl ?_))
        repeat (first | refine lda H ?_ | refine ld0 H ?_ | refine ldaN H ?_ | refine ld0N H ?_ | refine sta H fun w H => ?_ | refine st0 H fun w H => ?_)
        refine law_is (W := ⟨pg, ee, hh, uu, false⟩) (b := b) (D := D) (sp := spn) H (fun w H => ⟨_, rfl, cF rfl ?_⟩) (by repeat (first | assumption | constructor)) (by repeat (first | assumption | constructor))
        replace H := H.takes (cs := [WalAt b p _, PartAt p d X, DiskAt d D, blk a93 T_ref16_Log _, RDk s1 s2 s5 D, imm spn (pg.map bs)]) (by repeat (first | assumption | constructor))
        replace H : Heap F w (Both b p d a93 X 3 ⟨pg, ee, hh, uu, false⟩ D s1 s2 s5 spn l) := Heap.kp6 2 H
        intro J127 hJ127
        have out2 : ∀ (D : Disk) (W : Wal) (s1 s2 sp : Sl) (w : World), Heap F w (Both b p d a93 X 3 W D s1 s2 s5 sp l) → J127 w := fun D W s1 s2 sp w H => by
          refine hJ127 _ ?_
          unfold Both at H
          refine law_awake16 H (.t (.t (.t (.t (.t (.t hH)))))) fun w H => ⟨_, rfl, k w (H.tln 6)⟩
        refine ⟨fun y w' => ∃ (i : Nat) (D : Disk) (W : Wal) (s1 s2 sp : Sl), y = (i : Int) ∧ i ≤ x.more.length ∧ i ≤ 4 ∧ D.waits.length ≤ 701 + 40 * i ∧ Heap F w' (Both b p d a93 X 3 W D s1 s2 s5 sp l), fun y _ => (4 - y).toNat, ⟨0, D, ⟨pg, ee, hh, uu, false⟩, s1, s2, spn, rfl, by omega, by omega, by omega, H⟩, ?_⟩
        clear H
        rintro y w2 ⟨i, D, W, s1, s2, sp, rfl, hi, hi4, hwt, H⟩
        intro J136 hJ136
        refine dBoth (fun hlt => dBoth (fun hlt2 => hJ136 _ ?_) (fun h => out2 D W s1 s2 sp w2 H)) (fun h => out2 D W s1 s2 sp w2 H)
        have hlt' : i < x.more.length := by omega
        intro J138 hJ138 J142 hJ142
        unfold Both at H
        obtain ⟨ok, _, _⟩ := wal_opn (b := b) (p := p) (W := W) H (by repeat (first | assumption | constructor))
        have han := hg3 x.more[i] (List.getElem_mem hlt')
        have hcw := wcommit_waits (D := D) (X := X) (l := changes x.more[i]) ok.n16
        replace H := H.drew
        repeat (first | refine lda H ?_ | refine ld0 H ?_ | refine ldaN H ?_ | refine ld0N H ?_ | refine sta H fun w H => ?_ | refine st0 H fun w H => ?_)
        refine idxIc (s := sm) (xs := x.more) H (by omega) (by omega) (fun b4 o4 cs4 H => ?_) (.t (.t (.t (.t (.t (.t hM))))))
        simp only [Int.toNat_natCast] at H
        have fin3 : ∀ (z : Nat) (s1q s2q spq : Sl) (w : World), Heap F w (blk z T_ref16_Log (lwc s1q s2q s5 spq (wcommit D X W (changes x.more[i])).1 3 (wcommit D X W (changes x.more[i])).2.1.epoch ((wcommit D X W (changes x.more[i])).2.1.home : Int) ((wcommit D X W (changes x.more[i])).2.1.used : Int) (wcommit D X W (changes x.more[i])).2.1.dead) :: RDk s1q s2q s5 (wcommit D X W (changes x.more[i])).1 :: imm spq ((wcommit D X W (changes x.more[i])).2.1.pages.map bs) ::
            WalAt b p W :: PartAt p d X :: DiskAt d D :: blk a93 T_ref16_Log (lwc s1 s2 s5 sp D 3 W.epoch (W.home : Int) (W.used : Int) W.dead) :: l) → J142 ⟨z, 0, none⟩ (wcommit D X W (changes x.more[i])).2.2 w := fun z s1q s2q spq w H => by
          refine hJ142 _ _ _ ?_
          repeat (first | refine lda H ?_ | refine ld0 H ?_ | refine ldaN H ?_ | refine ld0N H ?_ | refine sta H fun w H => ?_ | refine st0 H fun w H => ?_)
          refine idxI (s := sm) (xs := x.more) H (by omega) (by omega) (fun a cs H hA4 => ?_) (.t (.t (.t (.t (.t (.t (.t hM)))))))
          simp only [Int.toNat_natCast] at H
          generalize x.more[i] = A at *
          replace H := open_Act16 H
          obtain ⟨kp, rfl, H⟩ := H
          refine At.ld0 hA4 (At.ld hA4 (At.ld hA4 (At.ld hA4 (At.ld hA4 (At.ld hA4 ?_)))))
          refine law_Changes (a := A) (sk := kp) H han fun s2c w H => ⟨_, rfl, ?_⟩
          replace H := H.share (s := s2c) (xs := changes A)
          refine wal_Commit (D := D) (X := X) (W := W) (s := s2c) (xs := changes A) H (by omega) (fun w H => ⟨_, rfl, ?_⟩) (by repeat (first | assumption | constructor)) (by repeat (first | assumption | constructor)) (by repeat (first | assumption | constructor)) (by repeat (first | assumption | constructor)) (by repeat (first | assumption | constructor))
          generalize wcommit D X W (changes A) = R at *
          obtain ⟨D3, W3, e3⟩ := R
          dsimp only at *
          refine cF (by simp) ?_
          repeat (first | refine lda H ?_ | refine ld0 H ?_ | refine ldaN H ?_ | refine ld0N H ?_ | refine sta H fun w H => ?_ | refine st0 H fun w H => ?_)
          refine law_is (W := W3) (b := b) (D := D3) (sp := spq) H (fun w H => ⟨_, rfl, cF rfl (hJ138 _ ?_)⟩) (by repeat (first | assumption | constructor)) (by repeat (first | assumption | constructor))
          replace H := H.takes (cs := [WalAt b p W3, PartAt p d X, DiskAt d D3, blk a93 T_ref16_Log _, RDk s1q s2q s5 D3, imm spq (W3.pages.map bs)]) (by repeat (first | assumption | constructor))
          exact ⟨⟨i + 1, D3, W3, s1q, s2q, spq, by rw [i64_id (by omega)]; omega, by omega, by omega, by omega, Heap.kp6 3 H⟩, by rw [i64_id (by omega)]; (try dsimp only); omega⟩
        generalize x.more[i] = A at *
        replace H := Heap.take H (c := rep cs4 A) (by repeat (first | assumption | constructor))
        replace H := open_Act16 H
        obtain ⟨kp, rfl, H⟩ := H
        have hAt := H.atc (b := b4) (o := o4) (by repeat (first | assumption | constructor))
        refine At.ld0 hAt (At.ld hAt (At.ld hAt (At.ld hAt (At.ld hAt (At.ld hAt ?_)))))
        clear hAt
        refine ⟨?_, ?_⟩
        · refine law_Changes (a := A) (sk := kp) H han fun s3c w H => ⟨_, rfl, ⟨rfl, rowB H (by repeat (first | assumption | constructor))⟩, ?_, ?_⟩
          · replace H := H.share (s := s3c) (xs := changes A)
            refine ref_Commit16 (D := D) (X := X) (W := W) (s := s3c) (xs := changes A) (sp := sp) H ok (by repeat (first | assumption | constructor)) (by repeat (first | assumption | constructor)) ⟨hX0, by decide, by decide, hX52⟩ (by omega) (by repeat (first | assumption | constructor)) fun s1q s2q spq w H => ⟨s1q, s2q, _, _, s5, _, spq, _, _, _, _, _, rfl, ?_⟩
            refine al H (cs := [(Sl.v ⟨none, 0, 0⟩), (Sl.v ⟨none, 0, 0⟩), .bool false, .int .i64 0, (Sl.v ⟨none, 0, 0⟩), .int .i64 0, (Sl.v ⟨none, 0, 0⟩), .int .u32 0, .int .i64 0, .int .i64 0, .bool false]) (fun a265 w H => ?_) zc_ref16_Log
            repeat (first | refine lda H ?_ | refine ld0 H ?_ | refine ldaN H ?_ | refine ld0N H ?_ | refine sta H fun w H => ?_ | refine st0 H fun w H => ?_)
            refine fin3 a265 s1q s2q spq w ?_
            replace H := H.takes (cs := [blk a265 T_ref16_Log _, RDk s1q s2q s5 _, imm spq _, WalAt b p W, PartAt p d X, DiskAt d D, blk a93 T_ref16_Log _]) (by repeat (first | assumption | constructor))
            exact Heap.kp7 5 H
          · replace H := H.share (s := s3c) (xs := changes A)
            refine al H (cs := [(Sl.v ⟨none, 0, 0⟩), (Sl.v ⟨none, 0, 0⟩), .bool false, .int .i64 0, (Sl.v ⟨none, 0, 0⟩), .int .i64 0, (Sl.v ⟨none, 0, 0⟩), .int .u32 0, .int .i64 0, .int .i64 0, .bool false]) (fun a265 w H => ⟨⟨rfl, rowB H (by repeat (first | assumption | constructor))⟩, ?_⟩) zc_ref16_Log
            refine ref_Commit16 (D := D) (X := X) (W := W) (s := s3c) (xs := changes A) (sp := sp) H ok (by repeat (first | assumption | constructor)) (by repeat (first | assumption | constructor)) ⟨hX0, by decide, by decide, hX52⟩ (by omega) (by repeat (first | assumption | constructor)) fun s1q s2q spq w H => ⟨s1q, s2q, _, _, s5, _, spq, _, _, _, _, _, rfl, ?_⟩
            repeat (first | refine lda H ?_ | refine ld0 H ?_ | refine ldaN H ?_ | refine ld0N H ?_ | refine sta H fun w H => ?_ | refine st0 H fun w H => ?_)
            refine fin3 a265 s1q s2q spq w ?_
            replace H := H.takes (cs := [blk a265 T_ref16_Log _, RDk s1q s2q s5 _, imm spq _, WalAt b p W, PartAt p d X, DiskAt d D, blk a93 T_ref16_Log _]) (by repeat (first | assumption | constructor))
            exact Heap.kp7 5 H
        · refine al H (cs := [(Sl.v ⟨none, 0, 0⟩), (Sl.v ⟨none, 0, 0⟩), .bool false, .int .i64 0, (Sl.v ⟨none, 0, 0⟩), .int .i64 0, (Sl.v ⟨none, 0, 0⟩), .int .u32 0, .int .i64 0, .int .i64 0, .bool false]) (fun a265 w H => ⟨⟨rfl, ?_⟩, ⟨rfl, ?_⟩, ?_⟩) zc_ref16_Log
          · exact fun j v hj => (H.atc (b := b4) (o := o4) (by repeat (first | assumption | constructor))) j v (by simpa using hj)
          · exact rowB H (by repeat (first | assumption | constructor))
          refine law_Changes (a := A) (sk := kp) H han fun s3c w H => ⟨_, rfl, ⟨rfl, rowB H (by repeat (first | assumption | constructor))⟩, ?_⟩
          replace H := H.share (s := s3c) (xs := changes A)
          refine ref_Commit16 (D := D) (X := X) (W := W) (s := s3c) (xs := changes A) (sp := sp) H ok (by repeat (first | assumption | constructor)) (by repeat (first | assumption | constructor)) ⟨hX0, by decide, by decide, hX52⟩ (by omega) (by repeat (first | assumption | constructor)) fun s1q s2q spq w H => ⟨s1q, s2q, _, _, s5, _, spq, _, _, _, _, _, rfl, ?_⟩
          repeat (first | refine lda H ?_ | refine ld0 H ?_ | refine ldaN H ?_ | refine ld0N H ?_ | refine sta H fun w H => ?_ | refine st0 H fun w H => ?_)
          refine fin3 a265 s1q s2q spq w ?_
          replace H := H.takes (cs := [blk a265 T_ref16_Log _, RDk s1q s2q s5 _, imm spq _, WalAt b p W, PartAt p d X, DiskAt d D, blk a93 T_ref16_Log _]) (by repeat (first | assumption | constructor))
          exact Heap.kp7 5 H
      · refine wal_Open (D := D) (X := X) H hF (fun h => absurd h hz) (fun _ w H => ⟨_, _, rfl, ?_⟩) (by repeat (first | assumption | constructor)) (by repeat (first | assumption | constructor)) (by repeat (first | assumption | constructor))
        repeat (first | refine lda H ?_ | refine ld0 H ?_ | refine ldaN H ?_ | refine ld0N H ?_ | refine sta H fun w H => ?_ | refine st0 H fun w H => ?_)
        refine ref_Open16 (D := D) (X := X) (s1 := s1) (s2 := s2) (s5 := s5) (fr := 3) H (by repeat (first | assumption | constructor)) hF ⟨hX0, by decide⟩ (fun h => absurd h hz) (fun _ f w H => ⟨s1, s2, _, _, s5, _, (⟨none, 0, 0⟩ : Sl), _, _, _, _, _, rfl, ?_⟩)
        refine al H (cs := [(Sl.v ⟨none, 0, 0⟩), (Sl.v ⟨none, 0, 0⟩), .bool false, .int .i64 0, (Sl.v ⟨none, 0, 0⟩), .int .i64 0, (Sl.v ⟨none, 0, 0⟩), .int .u32 0, .int .i64 0, .int .i64 0, .bool false]) (fun a93 w H => ?_) zc_ref16_Log
        repeat (first | refine lda H ?_ | refine ld0 H ?_ | refine ldaN H ?_ | refine ld0N H ?_ | refine sta H fun w H => ?_ | refine st0 H fun w H => ?_)
        intro J108 hJ108
        refine cF (by simp) ?_
        refine ptr_eql ptr_wal (cF (by simp [hz]) ?_)
        replace H := H.drew
        repeat (first | refine lda H ?_ | refine ld0 H ?_ | refine ldaN H ?_ | refine ld0N H ?_ | refine sta H fun w H => ?_ | refine st0 H fun w H => ?_)
        refine disk_Image (D := D) H (fun s310 w H => ⟨_, rfl, ⟨rfl, ?_⟩, bs D.has.flatten, ?_, ?_⟩) (by repeat (first | assumption | constructor))
        · exact rowN (b := a48) (ty := T_ref16_Log) (cs := lwc s1 s2 s5 sp D 3 W.epoch (W.home : Int) (W.used : Int) W.dead) 5 H (by repeat (first | assumption | constructor))
        · exact cvO (s := s310) (xs := D.has.flatten) H und_l8 und_8 und_s .h
        refine rd_Image (D := D) (s1 := s1) (s2 := s2) (s5 := s5) H (by repeat (first | assumption | constructor)) fun w H => ⟨_, rfl, ?_, ?_⟩
        · exact cvO (s := s310) (xs := D.has.flatten) H und_l8 und_8 und_s .h
        refine cF (by simp) (hJ108 _ (cT (by simpa using hz) ?_))
        refine law_awake16 H (by repeat (first | exact hH | apply Has.t)) fun w H => ⟨_, rfl, k w (H.tln 6)⟩
    refine part_Write (D := D) (x := X) (s := ⟨some ⟨b64, 0, none⟩, 64, 64⟩) (bb := bb) H (by omega) fun w H => ⟨_, rfl, ?_⟩
    have hwt2 := pwrite_waits D X x.at_ bb
    have q2 := pwrite_quiet (X := X) (a := x.at_) (b := bb) q
    by_cases hin : 0 ≤ x.at_ ∧ x.at_ < 52
    · have hwr : pwrite D X x.at_ bb = D.write (3 + x.at_) bb := by
        rw [pwrite, if_pos ⟨by omega, by omega⟩, hX0]
      have hz : (pwrite D X x.at_ bb).2 = 0 := by
        have := pwrite_goes hF hin.1 hin.2 hbl
        rw [goes_quiet q] at this
        rw [this]; rfl
      have hlen : (pwrite D X x.at_ bb).1.has.length = 60 := by rw [pwrite_length]; exact h60
      refine cT (by rw [hz]; rfl) ?_
      repeat (first | refine lda H ?_ | refine ld0 H ?_ | refine ldaN H ?_ | refine ld0N H ?_ | refine sta H fun w H => ?_ | refine st0 H fun w H => ?_)
      refine ⟨_, cvI (s := ⟨some ⟨b64, 0, none⟩, 64, 64⟩) (xs := bb) H und_l8 und_8 und_s (by repeat (first | assumption | constructor)), ?_⟩
      rw [i64_id (by omega)]
      refine rd_Write H (s1 := s1) (s2 := s2) (s5 := s5) (D := D) (by repeat (first | assumption | constructor)) (by omega) fun s1' s2' w H => ⟨s1', s2', _, _, s5, _, rfl, ?_⟩
      rw [← hwr] at H ⊢
      generalize pwrite D X x.at_ bb = R at *
      obtain ⟨D3, e3⟩ := R
      dsimp only at *
      refine al H (cs := [(Sl.v ⟨none, 0, 0⟩), (Sl.v ⟨none, 0, 0⟩), .bool false, .int .i64 0, (Sl.v ⟨none, 0, 0⟩)]) (fun a332 w H => ?_) zc_ref05_Disk
      repeat (first | refine lda H ?_ | refine ld0 H ?_ | refine ldaN H ?_ | refine ld0N H ?_ | refine sta H fun w H => ?_ | refine st0 H fun w H => ?_)
      refine go D3 s1' s2' w q2 ⟨hF.f0, hF.n52, by rw [hlen]; omega⟩ (by omega) ?_
      replace H := H.takes (cs := [DiskAt d D3, blk a48 T_ref16_Log _, RDk s1' s2' s5 D3, PartAt p d X]) (by repeat (first | assumption | constructor))
      exact Heap.kp4 5 H
    · have hwr : pwrite D X x.at_ bb = (D, 4) := by rw [pwrite, if_neg (by rw [hX52]; exact hin)]
      rw [hwr] at H ⊢
      refine cF rfl (go D s1 s2 _ q hF (by omega) ?_)
      replace H := H.takes (cs := [DiskAt d D, blk a48 T_ref16_Log _, RDk s1 s2 s5 D, PartAt p d X]) (by repeat (first | assumption | constructor))
      exact Heap.kp4 3 H
  refine ⟨fun y w' => ∃ (i : Nat) (D : Disk) (W : Wal) (s1 s2 sp : Sl), y = (i : Int) ∧ i ≤ x.acts.length ∧ i ≤ 12 ∧ Quiet D ∧ Nac.Fits D X ∧ D.has.length = 60 ∧ D.waits.length ≤ 100 + 40 * i ∧ Heap F w' (Both b p d a48 X 3 W D s1 s2 s5 sp l), fun y _ => (12 - y).toNat, ⟨0, DF, W0, s1, s2, sp, rfl, by omega, by omega, q0, hFF, flen, by omega, H⟩, ?_⟩
  clear H
  rintro y w2 ⟨i, D, W, s1, s2, sp, rfl, hi, hi12, q, hF, h60, hwt, H⟩
  intro J356 hJ356
  refine dBoth (fun hlt => dBoth (fun hlt2 => hJ356 _ ?_) (fun h => out D W s1 s2 sp w2 q hF h60 (by omega) H)) (fun h => out D W s1 s2 sp w2 q hF h60 (by omega) H)
  have hlt' : i < x.acts.length := by omega
  intro J358 hJ358
  unfold Both at H
  obtain ⟨ok, _, _⟩ := wal_opn (b := b) (p := p) (W := W) H (by repeat (first | assumption | constructor))
  have han := hg1 x.acts[i] (List.getElem_mem hlt')
  have hcw := wcommit_waits (D := D) (X := X) (l := changes x.acts[i]) ok.n16
  have hq := wcommit_quiet (X := X) (W := W) (l := changes x.acts[i]) q
  have hF3 := wcommit_fits2 (W := W) (l := changes x.acts[i]) hF
  have hl3 := wcommit_fits (D := D) (X := X) (W := W) (l := changes x.acts[i])
  refine idxI (s := sa) (xs := x.acts) H (by omega) (by omega) (fun a cs H hA4 => ?_) (.t (.t (.t (.t (.t (.t hA))))))
  simp only [Int.toNat_natCast] at H
  replace H := open_Act16 H
  obtain ⟨kp, rfl, H⟩ := H
  refine At.ld0 hA4 (At.ld hA4 (At.ld hA4 (At.ld hA4 (At.ld hA4 (At.ld hA4 ?_)))))
  refine law_Changes (a := x.acts[i]) (sk := kp) H han fun s2c w H => ⟨_, rfl, ?_⟩
  replace H := H.share (s := s2c) (xs := changes x.acts[i])
  refine wal_Commit (D := D) (X := X) (W := W) (s := s2c) (xs := changes x.acts[i]) H (by omega) (fun w H => ⟨_, rfl, ?_⟩) (by repeat (first | assumption | constructor)) (by repeat (first | assumption | constructor)) (by repeat (first | assumption | constructor)) (by repeat (first | assumption | constructor)) (by repeat (first | assumption | constructor))
  replace H := H.dr2 (imm s2c _) (imm kp _)
  intro J374 hJ374
  have fin3 : ∀ (z : Nat) (s1q s2q spq : Sl) (w : World), Heap F w (blk z T_ref16_Log (lwc s1q s2q s5 spq (wcommit D X W (changes x.acts[i])).1 3 (wcommit D X W (changes x.acts[i])).2.1.epoch ((wcommit D X W (changes x.acts[i])).2.1.home : Int) ((wcommit D X W (changes x.acts[i])).2.1.used : Int) (wcommit D X W (changes x.acts[i])).2.1.dead) :: RDk s1q s2q s5 (wcommit D X W (changes x.acts[i])).1 :: imm spq ((wcommit D X W (changes x.acts[i])).2.1.pages.map bs) ::
      WalAt b p (wcommit D X W (changes x.acts[i])).2.1 :: PartAt p d X :: DiskAt d (wcommit D X W (changes x.acts[i])).1 :: blk a48 T_ref16_Log (lwc s1 s2 s5 sp D 3 W.epoch (W.home : Int) (W.used : Int) W.dead) :: l) → J374 ⟨z, 0, none⟩ w := fun z s1q s2q spq w H => by
    refine hJ374 _ _ ?_
    generalize wcommit D X W (changes x.acts[i]) = R at *
    obtain ⟨D3, W3, e3⟩ := R
    dsimp only at *
    repeat (first | refine lda H ?_ | refine ld0 H ?_ | refine ldaN H ?_ | refine ld0N H ?_ | refine sta H fun w H => ?_ | refine st0 H fun w H => ?_)
    refine hJ358 _ ?_
    replace H := H.takes (cs := [WalAt b p W3, PartAt p d X, DiskAt d D3, blk a48 T_ref16_Log _, RDk s1q s2q s5 D3, imm spq (W3.pages.map bs)]) (by repeat (first | assumption | constructor))
    exact ⟨⟨i + 1, D3, W3, s1q, s2q, spq, by rw [i64_id (by omega)]; omega, by omega, by omega, hq, hF3, by omega, by omega, Heap.kp6 1 H⟩, by rw [i64_id (by omega)]; (try dsimp only); omega⟩
  replace H := H.drew
  repeat (first | refine lda H ?_ | refine ld0 H ?_ | refine ldaN H ?_ | refine ld0N H ?_ | refine sta H fun w H => ?_ | refine st0 H fun w H => ?_)
  refine idxIc (s := sa) (xs := x.acts) H (by omega) (by omega) (fun b4 o4 cs4 H => ?_) (.t (.t (.t (.t (.t (.t hA))))))
  simp only [Int.toNat_natCast] at H
  generalize x.acts[i] = A at *
  replace H := Heap.take H (c := rep cs4 A) (by repeat (first | assumption | constructor))
  replace H := open_Act16 H
  obtain ⟨kp, rfl, H⟩ := H
  have hAt := H.atc (b := b4) (o := o4) (by repeat (first | assumption | constructor))
  refine At.ld0 hAt (At.ld hAt (At.ld hAt (At.ld hAt (At.ld hAt (At.ld hAt ?_)))))
  clear hAt
  refine ⟨?_, ?_⟩
  · refine law_Changes (a := A) (sk := kp) H han fun s3c w H => ⟨_, rfl, ⟨rfl, rowB H (by repeat (first | assumption | constructor))⟩, ?_, ?_⟩
    · replace H := H.share (s := s3c) (xs := changes A)
      refine ref_Commit16 (D := D) (X := X) (W := W) (s := s3c) (xs := changes A) (sp := sp) H ok (by repeat (first | assumption | constructor)) (by repeat (first | assumption | constructor)) ⟨hX0, by decide, by decide, hX52⟩ (by omega) (by repeat (first | assumption | constructor)) fun s1q s2q spq w H => ⟨s1q, s2q, _, _, s5, _, spq, _, _, _, _, _, rfl, ?_⟩
      refine al H (cs := [(Sl.v ⟨none, 0, 0⟩), (Sl.v ⟨none, 0, 0⟩), .bool false, .int .i64 0, (Sl.v ⟨none, 0, 0⟩), .int .i64 0, (Sl.v ⟨none, 0, 0⟩), .int .u32 0, .int .i64 0, .int .i64 0, .bool false]) (fun a265 w H => ?_) zc_ref16_Log
      repeat (first | refine lda H ?_ | refine ld0 H ?_ | refine ldaN H ?_ | refine ld0N H ?_ | refine sta H fun w H => ?_ | refine st0 H fun w H => ?_)
      refine fin3 a265 s1q s2q spq w ?_
      replace H := H.takes (cs := [blk a265 T_ref16_Log _, RDk s1q s2q s5 _, imm spq _, WalAt b p (wcommit D X W (changes A)).2.1, PartAt p d X, DiskAt d (wcommit D X W (changes A)).1, blk a48 T_ref16_Log _]) (by repeat (first | assumption | constructor))
      exact Heap.kp7 5 H
    · replace H := H.share (s := s3c) (xs := changes A)
      refine al H (cs := [(Sl.v ⟨none, 0, 0⟩), (Sl.v ⟨none, 0, 0⟩), .bool false, .int .i64 0, (Sl.v ⟨none, 0, 0⟩), .int .i64 0, (Sl.v ⟨none, 0, 0⟩), .int .u32 0, .int .i64 0, .int .i64 0, .bool false]) (fun a265 w H => ⟨⟨rfl, rowB H (by repeat (first | assumption | constructor))⟩, ?_⟩) zc_ref16_Log
      refine ref_Commit16 (D := D) (X := X) (W := W) (s := s3c) (xs := changes A) (sp := sp) H ok (by repeat (first | assumption | constructor)) (by repeat (first | assumption | constructor)) ⟨hX0, by decide, by decide, hX52⟩ (by omega) (by repeat (first | assumption | constructor)) fun s1q s2q spq w H => ⟨s1q, s2q, _, _, s5, _, spq, _, _, _, _, _, rfl, ?_⟩
      repeat (first | refine lda H ?_ | refine ld0 H ?_ | refine ldaN H ?_ | refine ld0N H ?_ | refine sta H fun w H => ?_ | refine st0 H fun w H => ?_)
      refine fin3 a265 s1q s2q spq w ?_
      replace H := H.takes (cs := [blk a265 T_ref16_Log _, RDk s1q s2q s5 _, imm spq _, WalAt b p (wcommit D X W (changes A)).2.1, PartAt p d X, DiskAt d (wcommit D X W (changes A)).1, blk a48 T_ref16_Log _]) (by repeat (first | assumption | constructor))
      exact Heap.kp7 5 H
  · refine al H (cs := [(Sl.v ⟨none, 0, 0⟩), (Sl.v ⟨none, 0, 0⟩), .bool false, .int .i64 0, (Sl.v ⟨none, 0, 0⟩), .int .i64 0, (Sl.v ⟨none, 0, 0⟩), .int .u32 0, .int .i64 0, .int .i64 0, .bool false]) (fun a265 w H => ⟨⟨rfl, ?_⟩, ⟨rfl, ?_⟩, ?_⟩) zc_ref16_Log
    · exact fun j v hj => (H.atc (b := b4) (o := o4) (by repeat (first | assumption | constructor))) j v (by simpa using hj)
    · exact rowB H (by repeat (first | assumption | constructor))
    refine law_Changes (a := A) (sk := kp) H han fun s3c w H => ⟨_, rfl, ⟨rfl, rowB H (by repeat (first | assumption | constructor))⟩, ?_⟩
    replace H := H.share (s := s3c) (xs := changes A)
    refine ref_Commit16 (D := D) (X := X) (W := W) (s := s3c) (xs := changes A) (sp := sp) H ok (by repeat (first | assumption | constructor)) (by repeat (first | assumption | constructor)) ⟨hX0, by decide, by decide, hX52⟩ (by omega) (by repeat (first | assumption | constructor)) fun s1q s2q spq w H => ⟨s1q, s2q, _, _, s5, _, spq, _, _, _, _, _, rfl, ?_⟩
    repeat (first | refine lda H ?_ | refine ld0 H ?_ | refine ldaN H ?_ | refine ld0N H ?_ | refine sta H fun w H => ?_ | refine st0 H fun w H => ?_)
    refine fin3 a265 s1q s2q spq w ?_
    replace H := H.takes (cs := [blk a265 T_ref16_Log _, RDk s1q s2q s5 _, imm spq _, WalAt b p (wcommit D X W (changes A)).2.1, PartAt p d X, DiskAt d (wcommit D X W (changes A)).1, blk a48 T_ref16_Log _]) (by repeat (first | assumption | constructor))
    exact Heap.kp7 5 H
end
end Go.Proofs.YtkfcmpngcanffaaDoor.G
