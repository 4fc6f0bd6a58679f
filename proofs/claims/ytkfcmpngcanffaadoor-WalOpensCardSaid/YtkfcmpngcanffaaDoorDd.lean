import Derived.Test.YtkfcmpngcanffaaDoorDc
import Derived.Test.YtkfcmpngcanffaaDoorNw
set_option linter.unusedVariables false
set_option linter.unusedSimpArgs false
namespace Go.Proofs.YtkfcmpngcanffaaDoor.G
open Go Go.VC Go.RowKit Go.Proofs Go.Proofs.YtkfcmpngcanffaaDoor Nac
attribute [local irreducible] Tryd.prog
def pages0 : List (List UInt8) := List.replicate 16 page0
theorem pages0_ok : pages0.length = 16 ∧ ∀ x ∈ pages0, x.length = 40 := by
  refine ⟨by simp [pages0], fun x hx => ?_⟩
  have := List.eq_of_mem_replicate hx
  subst this; decide
theorem zerosW_take {i : Nat} (hi : i < 18) : zerosW.take (i + 1) = zerosW.take i ++ [(((34 + i : Nat) : Int), zeros64)] := by
  rw [List.take_succ_eq_append_getElem (by simpa [zerosW] using hi)]
  simp [zerosW]
theorem wal_zero (p : Nat) : walC p pages0.flatten 0 0 0 false = .pointer (some ⟨p, 0, none⟩) :: (List.replicate 640 (.int .u8 0) ++ [.int .u32 0, .int .i64 0, .int .i64 0, .bool false]) := by kernel_rfl
section
variable {F : Bs} {w : World} {l r : List SP} {b d p : Nat} {D : Disk} {Q : Value → World → Prop} {X : Nac.Ext} {W : Wal}
theorem wal_Format {r1 r2 : List SP} (H : Heap F w l) (h52 : X.count = 52) (hw : D.waits.length < 10000)
    (k : ∀ w', Heap F w' (PartAt p d X :: DiskAt d (Nac.format D X).1 :: r2) → Q (.int .i64 (Nac.format D X).2) w')
    (hP : Take l (PartAt p d X) r1 := by repeat (first | assumption | constructor)) (hD : Take r1 (DiskAt d D) r2 := by repeat (first | assumption | constructor)) (hH : Has r2 Half := by repeat (first | assumption | constructor)) :
    Does Tryd.prog N_wal_Format #[.pointer (some ⟨p, 0, none⟩)] w Q := by
  refine F_wal_Format_does _ _ _ ?_
  unfold F_wal_Format
  replace H : Heap F w (PartAt p d X :: DiskAt d D :: r2) := (H.take hP).take (.t hD) |>.ord2
  refine part_Size (x := X) H ⟨_, rfl, dF (by omega) ?_⟩ .h
  rw [Nac.format] at k
  refine ⟨fun x w' => ∃ (i : Nat) (D' : Disk), x = ((34 + i : Nat) : Int) ∧ i ≤ 18 ∧ pw X (zerosW.take i) D = (D', 0) ∧ Heap F w' (PartAt p d X :: DiskAt d D' :: r2), fun x _ => (52 - x).toNat, ⟨0, D, rfl, by omega, rfl, H⟩, ?_⟩
  rintro x w1 ⟨i, D', rfl, hi, hD', H⟩
  have hw' : D'.waits.length < 10020 := by
    have := pw_waits X (zerosW.take i) D
    rw [hD'] at this
    have h2 : (zerosW.take i).length ≤ 18 := by simp; omega
    dsimp only at this
    omega
  refine dBoth (fun hlt => ?_) (fun hge => ?_)
  · have hlt' : i < 18 := by omega
    refine mk (d := (0 : UInt8)) Z_l_uint8 H (by decide) (by decide) (by decide) fun b1 w H => ?_
    replace H := H.blk_own (n := 64) zeros64 rfl (mx (by decide)) rfl
    replace H := H.share (s := ⟨some ⟨b1, 0, none⟩, 64, 64⟩) (xs := zeros64)
    refine part_Write (D := D') (s := ⟨some ⟨b1, 0, none⟩, 64, 64⟩) (bb := zeros64) H (by omega) fun w H => ⟨_, rfl, ?_⟩
    have hstep : pw X (zerosW.take (i + 1)) D = pwrite D' X ((34 + i : Nat) : Int) zeros64 := by rw [zerosW_take hlt', pw_snoc, hD', if_pos rfl]
    have hall : pw X zerosW D = if (pw X (zerosW.take (i + 1)) D).2 = 0 then pw X (zerosW.drop (i + 1)) (pw X (zerosW.take (i + 1)) D).1 else pw X (zerosW.take (i + 1)) D := by
      rw [← pw_append, List.take_append_drop]
    generalize pwrite D' X ((34 + i : Nat) : Int) zeros64 = R at *
    obtain ⟨D2, e2⟩ := R
    dsimp only at *
    replace H : Heap F w (PartAt p d X :: DiskAt d D2 :: r2) := (H.dr (imm _ zeros64)).ord2
    refine cBoth (fun he => ?_) (fun he => ⟨⟨i + 1, D2, by rw [i64_id (by omega)]; omega, by omega, ?_, H⟩, by rw [i64_id (by omega)]; (try dsimp only); omega⟩)
    · have hne : ¬ e2 = 0 := by simpa using he
      have hp : pw X zerosW D = (D2, e2) := by rw [hall, hstep, if_neg hne]
      have hs := settle_bad (pre := zerosW) (by rw [hp]; exact hne) (List.replicate 16 page0) 1 0
      rw [hs, hp] at k
      exact k w H
    · rw [hstep]; have : e2 = 0 := by simpa using he
      rw [this]
  · obtain rfl : i = 18 := by omega
    rw [List.take_of_length_le (by simp [zerosW])] at hD'
    rw [settle_pre hD'] at k
    refine al H (cs := walC p pages0.flatten 0 0 0 false) (fun a w H => ?_) (by rw [wal_zero]; kernel_rfl)
    refine wal_settle (e := 1) (home := 0) (D := D') (X := X) (d := d) (p := p) (b := a) H pages0_ok.1 pages0_ok.2 (by decide) (by omega) (fun w H => ⟨_, rfl, k w ?_⟩) .h .h .h hH
    exact H.tl
theorem wal_head {r0 r1 r2 : List SP} (H : Heap F w l) (ok : D.ok) (hF : Fits D X) {pg : List UInt8} (hpg : pg.length = 640) {e : UInt32} {h u : Int} {dd : Bool}
    (k0 : D.off = true → ∀ w', Heap F w' (blk b T_wal_Log (walC p pg e h u dd) :: PartAt p d X :: DiskAt d D :: r2) → Q (.int .i64 9) w')
    (k1 : D.off = false → headOf (secOf D X) = none → ∀ w', Heap F w' (blk b T_wal_Log (walC p pg e h u dd) :: PartAt p d X :: DiskAt d D :: r2) → Q (.int .i64 6) w')
    (k2 : D.off = false → ∀ x, headOf (secOf D X) = some x → ∀ w', Heap F w' (blk b T_wal_Log (walC p pg x.1 (x.2 : Int) u dd) :: PartAt p d X :: DiskAt d D :: r2) → Q (.int .i64 0) w')
    (hT : Take l (blk b T_wal_Log (walC p pg e h u dd)) r0 := by repeat (first | assumption | constructor)) (hP : Take r0 (PartAt p d X) r1 := by repeat (first | assumption | constructor)) (hD : Take r1 (DiskAt d D) r2 := by repeat (first | assumption | constructor)) (hH : Has r2 Half := by repeat (first | assumption | constructor)) :
    Does Tryd.prog N_wal_Log_head #[.pointer (some ⟨b, 0, none⟩)] w Q := by
  refine F_wal_Log_head_does _ _ _ ?_
  unfold F_wal_Log_head
  replace H : Heap F w (blk b T_wal_Log (walC p pg e h u dd) :: PartAt p d X :: DiskAt d D :: r2) := ((H.take hT).take (.t hP)).take (.t (.t hD)) |>.ord3
  let fd : Nat → Option (UInt32 × Nat) := fun i => match i with | 0 => none | 1 => headStep none 0 (secOf D X 0) | _ => headOf (secOf D X)
  have hfd : ∀ i, i < 2 → headStep (fd i) i (secOf D X i) = fd (i + 1) := by
    intro i hi
    match i, hi with
    | 0, _ => rfl
    | 1, _ => rfl
  let ee : Nat → UInt32 := fun i => ((fd i).map (·.1)).getD e
  let hh : Nat → Int := fun i => ((fd i).map fun x => (x.2 : Int)).getD h
  refine ⟨fun f x w' => ∃ (i : Nat), x = (i : Int) ∧ i ≤ 2 ∧ (0 < i → D.off = false) ∧ f = (fd i).isSome ∧ Heap F w' (blk b T_wal_Log (walC p pg (ee i) (hh i) u dd) :: PartAt p d X :: DiskAt d D :: r2), fun _ x _ => (2 - x).toNat, ⟨0, rfl, by omega, fun h => by omega, rfl, H⟩, ?_⟩
  rintro f x w1 ⟨i, rfl, hi, hoff, rfl, H⟩
  refine dBoth (fun hlt => ?_) (fun hge => ?_)
  · have hlt' : i < 2 := by omega
    intro J hJ
    refine nn (ldn H (o := 0) rfl ?_)
    refine part_Read (D := D) (n := (i : Int)) (x := X) H fun s1 w H => ⟨⟨s1.a, s1.len, s1.cap⟩, _, rfl, ?_⟩
    cases ho : D.off with
    | true =>
      obtain rfl : i = 0 := by
        rcases Nat.eq_zero_or_pos i with h | h
        · exact h
        · have := hoff h; rw [ho] at this; cases this
      rw [pread_off hF ho (by omega)] at H ⊢
      refine cT rfl (k0 ho w ?_)
      exact (H.dr (own _ s1 _)).ord3 (a := blk b _ _) (b := PartAt p d X)
    | false =>
    rw [pread_on hF ho (by omega)] at H ⊢
    have hlen := secOf_len hF ok (i := i) (by omega)
    refine cF rfl ?_
    have hst := hfd i hlt'
    generalize hbb : secOf D X i = bb at *
    replace H := H.share (s := s1) (xs := bb)
    refine wal_hear (c := 72) (n := 1) (s := s1) (bb := bb) H hlen (by decide) (fun s2 w H => ⟨_, ⟨s2.a, s2.len, s2.cap⟩, _, rfl, ?_⟩) .h (.t (.t (.t (.t hH))))
    replace H := H.dr (imm s1 bb)
    intro J22 hJ22
    replace H : Heap F w (blk b T_wal_Log (walC p pg (ee i) (hh i) u dd) :: PartAt p d X :: DiskAt d D :: imm s2 (hear bb 72 1).2.1 :: r2) := H.ord4 (a := blk b _ _) (b := PartAt p d X) (c := DiskAt d D)
    have next : fd (i + 1) = fd i → J22 false w := fun hn => hJ22 _ _ (cF rfl (hJ _ _ ⟨⟨i + 1, by rw [i64_id (by omega)]; omega, by omega, fun _ => ho, by rw [hn], by
      have e1 : ee (i + 1) = ee i := by show ((fd (i + 1)).map _).getD e = _; rw [hn]
      have e2 : hh (i + 1) = hh i := by show ((fd (i + 1)).map _).getD h = _; rw [hn]
      rw [e1, e2]; exact H.dr (imm s2 _)⟩, by rw [i64_id (by omega)]; (try dsimp only); omega⟩))
    refine cBoth (fun hok => ?_) (fun hok => next ?_)
    · have hr := hear_rest hlen (c := 72) (m := 0) (by decide) hok
      have hhd : hear bb 72 1 = (ep bb, [bb.getD 5 0], true) := by rw [show (1 : Nat) = 0 + 1 from rfl, hr]; simp
      have hsay : bb = sayS 72 (ep bb) [bb.getD 5 0] := by
        have := (said_iff hlen (c := 72) (e := ep bb) (x := bb.getD 5 0) (m := 0) (by decide)).2 (by rw [hr]; exact ⟨rfl, rfl, rfl⟩)
        simpa using this
      rw [hhd] at H hJ22 ⊢
      have go : ∀ bv : Bool, (bv = true ↔ ((ep bb).toNat % 2 = i ∧ (bb.getD 5 0).toNat < 2) ∧ ∀ x ∈ fd i, x.1 < ep bb) → J22 bv w := fun bv hbv => by
        cases bv with
        | false => 
          refine next ?_
          rw [← hst, headStep, if_neg]
          rintro ⟨⟨_, c1, c2⟩, c3⟩
          have := hbv.2 ⟨⟨c1, c2⟩, c3⟩
          cases this
        | true =>
          obtain ⟨⟨c1, c2⟩, c3⟩ := hbv.1 rfl
          have hn : fd (i + 1) = some (ep bb, (bb.getD 5 0).toNat) := by rw [← hst, headStep, if_pos ⟨⟨hsay, c1, c2⟩, c3⟩]
          refine hJ22 _ _ (cT rfl ?_)
          refine idxI1 (s := s2) (xs := [bb.getD 5 0]) H (by simp) (by simp) (fun a ha => ⟨_, ha, ?_⟩) (by repeat (first | assumption | constructor))
          refine nn (stan (cs := walC p pg (ee i) (hh i) u dd) (ty := T_wal_Log) H (walC_se hpg (ep bb)) (by rw [walC_len hpg]; decide) fun w H => nn ?_)
          have e5 : IntKind.wrap .i64 (([bb.getD 5 0])[(0 : Int).toNat]'(by simp)).toNat = ((bb.getD 5 0).toNat : Int) := by
            show IntKind.wrap .i64 ((bb.getD 5 0).toNat : Int) = _
            rw [i64_id (by have := (bb.getD 5 0).toNat_lt; omega)]
          rw [e5]
          refine stan (cs := walC p pg (ep bb) (hh i) u dd) (ty := T_wal_Log) H (walC_sh hpg ((bb.getD 5 0).toNat : Int)) (by rw [walC_len hpg]; decide) fun w H => ?_
          refine hJ _ _ ⟨⟨i + 1, by rw [i64_id (by omega)]; omega, by omega, fun _ => ho, by rw [hn]; rfl, ?_⟩, by rw [i64_id (by omega)]; (try dsimp only); omega⟩
          have e1 : ee (i + 1) = ep bb := by show ((fd (i + 1)).map _).getD e = _; rw [hn]; rfl
          have e2 : hh (i + 1) = ((bb.getD 5 0).toNat : Int) := by show ((fd (i + 1)).map _).getD h = _; rw [hn]; rfl
          rw [e1, e2]; exact H.dr (imm s2 _)
      refine ⟨by decide, ?_⟩
      have ht : IntKind.wrap .i64 (Int.tmod ((ep bb).toNat : Int) 2) = (((ep bb).toNat % 2 : Nat) : Int) := by
        rw [show Int.tmod ((ep bb).toNat : Int) 2 = (((ep bb).toNat % 2 : Nat) : Int) from rfl, i64_id (by omega)]
      show cond (IntKind.wrap .i64 (Int.tmod ((ep bb).toNat : Int) 2) == (i : Int)) _ _
      rw [ht]
      refine cBoth (fun hp => ?_) (fun hp => go false ⟨fun h => (by cases h), fun h => ?_⟩)
      · have hp0 : (((ep bb).toNat % 2 : Nat) : Int) = (i : Int) := by simpa using hp
        have hp' : (ep bb).toNat % 2 = i := by omega
        refine idxI1 (s := s2) (xs := [bb.getD 5 0]) H (by simp) (by simp) (fun a ha => ⟨_, ha, ?_⟩) (by repeat (first | assumption | constructor))
        show cond (decide (((bb.getD 5 0).toNat : Int) ≤ 1)) _ _
        refine dBoth (fun h1 => ?_) (fun h1 => go false ⟨fun h => (by cases h), fun h => ?_⟩)
        · have h1' : (bb.getD 5 0).toNat < 2 := by omega
          cases hf : fd i with
          | none => exact go true ⟨fun _ => ⟨⟨hp', h1'⟩, fun x hx => by rw [hf] at hx; cases hx⟩, fun _ => rfl⟩
          | some y =>
            refine nn (ldan H (walC_e hpg) ?_)
            have e1 : ee i = y.1 := by show ((fd i).map _).getD e = _; rw [hf]; rfl
            rw [e1]
            refine go _ ⟨fun hd => ⟨⟨hp', h1'⟩, fun x hx => ?_⟩, fun hd => ?_⟩
            · rw [hf] at hx; cases hx
              have : ((ep bb).toNat : Int) > (y.1.toNat : Int) := of_decide_eq_true hd
              rw [UInt32.lt_iff_toNat_lt]; omega
            · have := hd.2 y (by rw [hf]; rfl)
              rw [UInt32.lt_iff_toNat_lt] at this
              exact decide_eq_true (by show ((ep bb).toNat : Int) > (y.1.toNat : Int); omega)
        · have := h.1.2; exact absurd (show ((bb.getD 5 0).toNat : Int) ≤ 1 by omega) h1
      · have h2 := h.1.1
        rw [h2] at hp; simp at hp
    · rw [← hst, headStep, if_neg]
      rintro ⟨⟨c0, _⟩, _⟩
      have := (said_iff hlen (c := 72) (e := ep bb) (x := bb.getD 5 0) (m := 0) (by decide)).1 (by simpa using c0)
      rw [show (0 + 1 : Nat) = 1 from rfl, hok] at this
      exact absurd this.1 (by decide)
  · obtain rfl : i = 2 := by omega
    have ho := hoff (by decide)
    show cond (!(headOf (secOf D X)).isSome) _ _
    cases hf : headOf (secOf D X) with
    | none =>
      refine cT rfl (k1 ho hf _ ?_)
      have e1 : ee 2 = e := by show ((headOf (secOf D X)).map _).getD e = _; rw [hf]; rfl
      have e2 : hh 2 = h := by show ((headOf (secOf D X)).map _).getD h = _; rw [hf]; rfl
      rw [e1, e2] at H; exact H
    | some x =>
      refine cF rfl (k2 ho x hf _ ?_)
      have e1 : ee 2 = x.1 := by show ((headOf (secOf D X)).map _).getD e = _; rw [hf]; rfl
      have e2 : hh 2 = (x.2 : Int) := by show ((headOf (secOf D X)).map _).getD h = _; rw [hf]; rfl
      rw [e1, e2] at H; exact H
end
end Go.Proofs.YtkfcmpngcanffaaDoor.G

set_option linter.unusedVariables false
set_option linter.unusedSimpArgs false
namespace Go.Proofs.YtkfcmpngcanffaaDoor.G
open Go Go.VC Go.RowKit Go.Proofs Go.Proofs.YtkfcmpngcanffaaDoor Nac
attribute [local irreducible] Tryd.prog
theorem getD6 {bb : List UInt8} (h : bb.length = 64) (m : Nat) : ∀ hi, (bb.getD 5 0 :: (bb.drop 6).take (m + 1))[1]'hi = bb.getD 6 0 := by
  intro hi
  rw [List.getElem_cons_succ]
  simp [List.getD_eq_getElem?_getD, List.getElem?_eq_getElem (show 6 < bb.length by omega)]
theorem ldc {w : World} {a : Addr} {t : Tag1} {x : t.T} {K : t.T → Prop} (h : w.cell? a = some (t.emb x)) (k : K x) : ldT t w a K := ⟨x, h, k⟩
theorem u8_nat {c : UInt8} {k : Nat} : (c.toNat : Int) = (k : Int) ↔ c.toNat = k := by omega
section
variable {F : Bs} {w : World} {l r : List SP} {b d p : Nat} {D : Disk} {Q : Value → World → Prop} {X : Nac.Ext} {W : Wal}
theorem wal_replay {r0 r1 r2 : List SP} (H : Heap F w l) (ok : D.ok) (hF : Fits D X) (ho : D.off = false) {L : List (List UInt8)} (hn : L.length = 16) (h40 : ∀ x ∈ L, x.length = 40) {e : UInt32} {h : Int} {dd : Bool}
    (k : ∀ w', Heap F w' (blk b T_wal_Log (walC p (replay (secOf D X) e 18 0 [] L 0).1.flatten e h ((replay (secOf D X) e 18 0 [] L 0).2 : Int) dd) :: PartAt p d X :: DiskAt d D :: r2) → Q (.int .i64 0) w')
    (hT : Take l (blk b T_wal_Log (walC p L.flatten e h 0 dd)) r0 := by repeat (first | assumption | constructor)) (hP : Take r0 (PartAt p d X) r1 := by repeat (first | assumption | constructor)) (hD : Take r1 (DiskAt d D) r2 := by repeat (first | assumption | constructor)) (hH : Has r2 Half := by repeat (first | assumption | constructor)) :
    Does Tryd.prog N_wal_Log_replay #[.pointer (some ⟨b, 0, none⟩)] w Q := by
  refine F_wal_Log_replay_does _ _ _ ?_
  unfold F_wal_Log_replay
  replace H : Heap F w (blk b T_wal_Log (walC p L.flatten e h 0 dd) :: PartAt p d X :: DiskAt d D :: r2) := ((H.take hT).take (.t hP)).take (.t (.t hD)) |>.ord3
  generalize hR : replay (secOf D X) e 18 0 [] L 0 = R at *
  refine ⟨fun s x w' => ∃ (i : Nat) (ws : List (Nat × List UInt8)) (L' : List (List UInt8)) (u : Nat), x = (i : Int) ∧ i ≤ 18 ∧ replay (secOf D X) e (18 - i) i ws L' u = R ∧ (∀ c ∈ ws, c.1 < 16 ∧ c.2.length = 40) ∧ L'.length = 16 ∧ (∀ x ∈ L', x.length = 40) ∧ ws.length ≤ i ∧
    Heap F w' (own T_api_Change s (ws.map toChg) :: blk b T_wal_Log (walC p L'.flatten e h (u : Int) dd) :: PartAt p d X :: DiskAt d D :: r2), fun _ x _ => (18 - x).toNat, ⟨0, [], L, 0, rfl, by omega, hR, fun c hc => (by cases hc), hn, h40, by simp, H.own_nil (α := Chg) _⟩, ?_⟩
  rintro s x w1 ⟨i, ws, L', u, rfl, hi, hRi, hws, hn', h40', hwl, H⟩
  have hlf : L'.flatten.length = 640 := by rw [flatK_len h40', hn']
  refine dBoth (fun hlt => ?_) (fun hge => ?_)
  · have hlt' : i < 18 := by omega
    intro J hJ
    refine nn (ldn H (o := 0) rfl ?_)
    rw [i64_id (by omega), show (34 : Int) + (i : Int) = ((34 + i : Nat) : Int) by omega]
    refine part_Read (D := D) (n := ((34 + i : Nat) : Int)) (x := X) H fun s1 w H => ⟨⟨s1.a, s1.len, s1.cap⟩, _, rfl, ?_⟩
    rw [pread_on hF ho (by omega)] at H ⊢
    have hlen := secOf_len hF ok (i := 34 + i) (by omega)
    refine cF rfl ?_
    rw [show 18 - i = (18 - (i + 1)) + 1 by omega, replay] at hRi
    generalize hbb : secOf D X (34 + i) = bb at *
    replace H := H.share (s := s1) (xs := bb)
    replace H : Heap F w (own T_api_Change s (ws.map toChg) :: blk b T_wal_Log (walC p L'.flatten e h (u : Int) dd) :: PartAt p d X :: DiskAt d D :: imm s1 bb :: r2) := H.ord5 (a := own T_api_Change s _) (b := blk b _ _) (c := PartAt p d X) (d := DiskAt d D)
    refine wal_hear (c := 82) (n := 42) (s := s1) (bb := bb) H hlen (by decide) (fun s2 w H => ⟨_, ⟨s2.a, s2.len, s2.cap⟩, _, rfl, ?_⟩) (.t (.t (.t (.t .h)))) (.t (.t (.t (.t (.t hH)))))
    intro J22 hJ22 J40 hJ40
    -- the mark
    have mark : isRec bb e i = false → ∀ w, Heap F w (own T_api_Change s (ws.map toChg) :: blk b T_wal_Log (walC p L'.flatten e h (u : Int) dd) :: PartAt p d X :: DiskAt d D :: imm s1 bb :: r2) → J22 ⟨s.a, s.len, s.cap⟩ w := fun hrec w H => by
      rw [if_neg (by rw [hrec]; decide)] at hRi
      refine hJ22 _ _ ?_
      refine wal_hear (c := 67) (n := 1) (s := s1) (bb := bb) H hlen (by decide) (fun s2 w H => ⟨_, ⟨s2.a, s2.len, s2.cap⟩, _, rfl, ?_⟩) (.t (.t (.t (.t .h)))) (.t (.t (.t (.t (.t hH)))))
      intro J29 hJ29
      have hiff := said_iff hlen (c := 67) (e := e) (x := b8 i) (m := 0) (by decide)
      rw [show (0 + 1 : Nat) = 1 from rfl, List.take_zero] at hiff
      have stop : isMark bb e i = false → Q (.int .i64 0) w := fun hm => by
        rw [if_neg (by rw [hm]; decide)] at hRi
        subst hRi
        refine k w ?_
        replace H := (H.dr (own T_api_Change s _)).dr2 (imm s2 _) (imm s1 _)
        exact H
      refine cBoth (fun hok => stop ?_) (fun hok => ?_)
      · rw [isMark, beq_eq_false_iff_ne]; intro hc
        have := (hiff.1 hc).1
        rw [this] at hok; cases hok
      have hok' : (hear bb 67 1).2.2 = true := by simpa using hok
      have hhd : hear bb 67 1 = (ep bb, [bb.getD 5 0], true) := by
        rw [show (1 : Nat) = 0 + 1 from rfl, hear_rest hlen (c := 67) (m := 0) (by decide) hok']; simp
      rw [hhd] at H hiff ⊢
      refine nn (ldan H (walC_e hlf) (cBoth (fun he => stop ?_) (fun he => ?_)))
      · rw [isMark, beq_eq_false_iff_ne]; intro hc
        have := (hiff.1 hc).2.1
        dsimp only at this
        rw [this] at he; simp at he
      have he' : ep bb = e := by
        have : ((ep bb).toNat : Int) = (e.toNat : Int) := by simpa using he
        exact UInt32.toNat.inj (by exact_mod_cast this)
      refine idxI1 (s := s2) (xs := [bb.getD 5 0]) H (by simp) (by simp) (fun a ha => ldc ha ?_) (by repeat (first | assumption | constructor))
      have e5 : IntKind.wrap .i64 (([bb.getD 5 0])[(0 : Int).toNat]'(by simp)).toNat = ((bb.getD 5 0).toNat : Int) := by
        show IntKind.wrap .i64 ((bb.getD 5 0).toNat : Int) = _
        rw [i64_id (by have := (bb.getD 5 0).toNat_lt; omega)]
      rw [e5]
      refine cBoth (fun hk => stop ?_) (fun hk => hJ29 _ ?_)
      · rw [isMark, beq_eq_false_iff_ne]; intro hc
        have := (eq_b8 (k := i) (by omega)).1 (hiff.1 hc).2.2
        rw [this] at hk; simp at hk
      have hk0 : ((bb.getD 5 0).toNat : Int) = (i : Int) := by simpa using hk
      have hk' : bb.getD 5 0 = b8 i := (eq_b8 (k := i) (by omega)).2 (by omega)
      have hm : isMark bb e i = true := by rw [isMark, beq_iff_eq]; exact hiff.2 ⟨rfl, he', hk'⟩
      rw [if_pos hm] at hRi
      replace H := (H.dr2 (imm s2 _) (imm s1 _)).share (s := s) (xs := ws.map toChg)
      refine wal_lay (L := L') (xs := ws.map toChg) (s := s) H hn' h40' (fun c hc => ?_) (fun w H => ⟨rfl, nn ?_⟩)
      · obtain ⟨y, hy, rfl⟩ := List.mem_map.1 hc
        have := hws y hy
        exact ⟨by simp [toChg], by simp only [toChg]; omega, this.2⟩
      rw [layC_map] at H
      obtain ⟨o1, o2⟩ := layP_ok hn' h40' (ws := ws) fun c hc => (hws c hc).2
      have hl2 : (layP L' ws).flatten.length = 640 := by rw [flatK_len o2, o1]
      rw [i64_id (by omega)]
      refine stan (cs := walC p (layP L' ws).flatten e h (u : Int) dd) (ty := T_wal_Log) H (walC_su hl2 ((i + 1 : Nat) : Int)) (by rw [walC_len hl2]; decide) fun w H => ?_
      refine hJ _ _ ⟨⟨i + 1, [], layP L' ws, i + 1, by rw [i64_id (by omega)]; omega, by omega, hRi, fun c hc => (by cases hc), o1, o2, by simp, ?_⟩, by rw [i64_id (by omega)]; (try dsimp only); omega⟩
      exact (H.dr (imm s _)).own_nil (α := Chg) _
    have nrec : isRec bb e i = false → J40 false w := fun hr => hJ40 _ _ (cF rfl (mark hr w (H.dr (imm s2 _))))
    have hiff := said_iff hlen (c := 82) (e := e) (x := b8 i) (m := 41) (by decide)
    rw [show (41 + 1 : Nat) = 42 from rfl] at hiff
    refine cBoth (fun hok => ?_) (fun hok => nrec ?_)
    · have hhd := hear_rest hlen (c := 82) (m := 41) (by decide) hok
      rw [show (41 + 1 : Nat) = 42 from rfl] at hhd
      rw [hhd] at H hiff ⊢
      refine nn (ldan H (walC_e hlf) (cBoth (fun he => ?_) (fun he => nrec ?_)))
      · have he' : ep bb = e := by
          have : ((ep bb).toNat : Int) = (e.toNat : Int) := by simpa using he
          exact UInt32.toNat.inj (by exact_mod_cast this)
        have hl42 : (bb.getD 5 0 :: (bb.drop 6).take 41).length = 42 := by simp [hlen]
        have hs42 := H.len (s := s2) (xs := bb.getD 5 0 :: (bb.drop 6).take 41) (by repeat (first | assumption | constructor))
        refine idxI1 (s := s2) (xs := bb.getD 5 0 :: (bb.drop 6).take 41) H (by simp) (by simp) (fun a ha => ldc ha ?_) (by repeat (first | assumption | constructor))
        have e5 : IntKind.wrap .i64 ((bb.getD 5 0 :: (bb.drop 6).take 41)[(0 : Int).toNat]'(by simp)).toNat = ((bb.getD 5 0).toNat : Int) := by
          show IntKind.wrap .i64 ((bb.getD 5 0).toNat : Int) = _
          rw [i64_id (by have := (bb.getD 5 0).toNat_lt; omega)]
        rw [e5]
        refine cBoth (fun hk => ?_) (fun hk => nrec ?_)
        · have hk0 : ((bb.getD 5 0).toNat : Int) = (i : Int) := by simpa using hk
          have hk' : bb.getD 5 0 = b8 i := (eq_b8 (k := i) (by omega)).2 (by omega)
          have hsay : bb = sayS 82 e (b8 i :: (bb.drop 6).take 41) := hiff.2 ⟨rfl, he', hk'⟩
          refine idxI1 (s := s2) (xs := bb.getD 5 0 :: (bb.drop 6).take 41) H (by decide) (by omega) (fun a ha => ldc ha ?_) (by repeat (first | assumption | constructor))
          have e6 := getD6 hlen 40 (show 1 < (bb.getD 5 0 :: (bb.drop 6).take (40 + 1)).length by rw [hl42]; decide)
          rw [show ((bb.getD 5 0 :: (bb.drop 6).take 41)[(1 : Int).toNat]'(by rw [hl42]; decide)) = bb.getD 6 0 from e6]
          by_cases h16 : (bb.getD 6 0).toNat < 16
          · rw [decide_eq_true (show ((bb.getD 6 0).toNat : Int) < 16 by omega)]
            have hrec : isRec bb e i = true := by rw [isRec, beq_iff_eq.2 hsay, decide_eq_true h16]; rfl
            rw [if_pos hrec] at hRi
            refine hJ40 _ _ (cT rfl ?_)
            replace H := H.drew
            refine idxI1 (s := s2) (xs := bb.getD 5 0 :: (bb.drop 6).take 41) H (by decide) (by omega) (fun a ha => ldc ha ?_) (by repeat (first | assumption | constructor))
            have e6' : IntKind.wrap .i64 ((bb.getD 5 0 :: (bb.drop 6).take 41)[(1 : Int).toNat]'(by rw [hl42]; decide)).toNat = ((bb.getD 6 0).toNat : Int) := by
              rw [show ((bb.getD 5 0 :: (bb.drop 6).take 41)[(1 : Int).toNat]'(by rw [hl42]; decide)) = bb.getD 6 0 from e6, i64_id (by omega)]
            rw [e6']
            refine slcI (s := s2) (xs := bb.getD 5 0 :: (bb.drop 6).take 41) H (by decide) (by dsimp only; omega) (by dsimp only; omega) (fun t H => ?_) (by repeat (first | assumption | constructor))
            have ed : ((bb.getD 5 0 :: (bb.drop 6).take 41).drop (2 : Int).toNat).take (((s2.len : Nat) : Int).toNat - (2 : Int).toNat) = (recOf bb).2 := by
              rw [← hs42, hl42]
              show (((bb.drop 6).take 41).drop 1).take 40 = (bb.drop 7).take 40
              rw [List.drop_take, List.take_take, List.drop_drop]; congr 1
            rw [ed] at H
            refine al H (cs := [.int .i64 ((bb.getD 6 0).toNat : Int), t.v]) (fun a3 w H => ?_) rfl
            replace H := close_Chg (toChg (recOf bb)) (s := t) H (by repeat (first | assumption | constructor))
            refine psh (s := s) (xs := ws.map toChg) (y := toChg (recOf bb)) (cs := [.int .i64 ((bb.getD 6 0).toNat : Int), t.v]) S_l_api_Change H (by simp; omega) (fun s' w H => ?_) (by repeat (first | assumption | constructor)) (by repeat (first | assumption | constructor)) (.h)
            refine hJ _ _ ⟨⟨i + 1, ws ++ [recOf bb], L', u, by rw [i64_id (by omega)]; omega, by omega, hRi, fun c hc => ?_, hn', h40', by simp; omega, ?_⟩, by rw [i64_id (by omega)]; (try dsimp only); omega⟩
            · rcases List.mem_append.1 hc with hc | hc
              · exact hws c hc
              · simp at hc; subst hc; exact ⟨h16, recOf_len hlen⟩
            · rw [List.map_append]
              replace H := ((H.dr2 (rep _ (toChg (recOf bb))) (blk a3 _ _)).dr2 (imm t _) (imm s2 _)).dr (imm s1 bb)
              exact H
          · rw [decide_eq_false (show ¬ ((bb.getD 6 0).toNat : Int) < 16 by omega)]
            exact nrec (by rw [isRec, decide_eq_false h16]; simp)
        · rw [isRec]
          have : ¬ bb = sayS 82 e (b8 i :: (bb.drop 6).take 41) := fun hc => by
            have := (eq_b8 (k := i) (by omega)).1 (hiff.1 hc).2.2
            rw [this] at hk; simp at hk
          rw [beq_eq_false_iff_ne.2 this]; rfl
      · rw [isRec]
        have : ¬ bb = sayS 82 e (b8 i :: (bb.drop 6).take 41) := fun hc => by
          have := (hiff.1 hc).2.1
          dsimp only at this
          rw [this] at he; simp at he
        rw [beq_eq_false_iff_ne.2 this]; rfl
    · rw [isRec]
      have : ¬ bb = sayS 82 e (b8 i :: (bb.drop 6).take 41) := fun hc => by
        have := (hiff.1 hc).1
        rw [this] at hok; cases hok
      rw [beq_eq_false_iff_ne.2 this]; rfl
  · obtain rfl : i = 18 := by omega
    rw [show 18 - 18 = 0 from rfl, replay] at hRi
    subst hRi
    exact k w1 (H.dr (own T_api_Change s _))
end
end Go.Proofs.YtkfcmpngcanffaaDoor.G
