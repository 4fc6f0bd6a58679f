import Derived.Test.YtkfcmpngcanffaaDoorDi
set_option linter.unusedVariables false
set_option linter.unusedSimpArgs false
namespace Go.Proofs.YtkfcmpngcanffaaDoor.G
open Go Go.VC Go.RowKit Go.Proofs Go.Proofs.YtkfcmpngcanffaaDoor Nac
attribute [local irreducible] Tryd.prog
def DZ : Disk := ⟨[], [], false, 0, []⟩
theorem ep_get (b : List UInt8) : (get ((b.drop 1).take 4)).toUInt32 = ep b := rfl
theorem bs_beq (a b : List UInt8) : ((bs a).toList == (bs b).toList) = (a == b) := by simp
section
variable {F : Bs} {w : World} {l r : List SP} {b d p : Nat} {D : Disk} {Q : Value → World → Prop} {X : Nac.Ext} {W : Wal}
theorem ref_State (H : Heap F w l) {at_ : Nat → List UInt8} (hs : secs at_) {sa : Sl} (hA : Has l (imm sa ((List.range 52).map fun i => bs (at_ i))))
    (k1 : (wstate at_).2 = 0 → ∀ (sp : Sl) w', Heap F w' (imm sp ((wstate at_).1.pages.map bs) :: l) → Q (.tuple #[lw (⟨none, 0, 0⟩ : Sl) (⟨none, 0, 0⟩ : Sl) (⟨none, 0, 0⟩ : Sl) sp DZ 0 (wstate at_).1.epoch ((wstate at_).1.home : Int) ((wstate at_).1.used : Int) false, .int .i64 0]) w')
    (k2 : (wstate at_).2 ≠ 0 → ∀ w', Heap F w' l → Q (.tuple #[lw (⟨none, 0, 0⟩ : Sl) (⟨none, 0, 0⟩ : Sl) (⟨none, 0, 0⟩ : Sl) (⟨none, 0, 0⟩ : Sl) DZ 0 0 0 0 false, .int .i64 (wstate at_).2]) w') :
    Does Tryd.prog N_ref16_State #[.slice sa.a sa.len sa.cap] w Q := by
  refine F_ref16_State_does _ _ _ ?_
  unfold F_ref16_State
  refine al H (cs := [(Sl.v ⟨none, 0, 0⟩), (Sl.v ⟨none, 0, 0⟩), .bool false, .int .i64 0, (Sl.v ⟨none, 0, 0⟩), .int .i64 0, (Sl.v ⟨none, 0, 0⟩), .int .u32 0, .int .i64 0, .int .i64 0, .bool false]) (fun a1 w H => ?_) zc_ref16_Log
  refine al H (cs := [(Sl.v ⟨none, 0, 0⟩), (Sl.v ⟨none, 0, 0⟩), .bool false, .int .i64 0, (Sl.v ⟨none, 0, 0⟩), .int .i64 0, (Sl.v ⟨none, 0, 0⟩), .int .u32 0, .int .i64 0, .int .i64 0, .bool false]) (fun a3 w H => ?_) zc_ref16_Log
  repeat (first | refine lda H ?_ | refine ld0 H ?_ | refine ldaN H ?_ | refine ld0N H ?_ | refine sta H fun w H => ?_ | refine st0 H fun w H => ?_)
  have hlr : ((List.range 52).map fun i => bs (at_ i)).length = 52 := by simp
  have hget : ∀ (i : Nat) (h : i < 52), ((List.range 52).map fun i => bs (at_ i))[((i : Nat) : Int).toNat]'(by simpa using h) = bs (at_ i) := fun i h => by simp
  let fd : Nat → Option (UInt32 × Nat) := fun i => match i with | 0 => none | 1 => headStep none 0 (at_ 0) | _ => headOf at_
  have hfd : ∀ i, i < 2 → headStep (fd i) i (at_ i) = fd (i + 1) := by
    intro i hi
    match i, hi with
    | 0, _ => rfl
    | 1, _ => rfl
  let ee : Nat → UInt32 := fun i => ((fd i).map (·.1)).getD 0
  let hh : Nat → Int := fun i => ((fd i).map fun x => (x.2 : Int)).getD 0
  refine ⟨fun f x w' => ∃ (i : Nat), x = (i : Int) ∧ i ≤ 2 ∧ f = (fd i).isSome ∧ Heap F w' (blk a3 T_ref16_Log (lwc (⟨none, 0, 0⟩ : Sl) (⟨none, 0, 0⟩ : Sl) (⟨none, 0, 0⟩ : Sl) (⟨none, 0, 0⟩ : Sl) DZ 0 (ee i) (hh i) 0 false) :: blk a1 T_ref16_Log [(Sl.v ⟨none, 0, 0⟩), (Sl.v ⟨none, 0, 0⟩), .bool false, .int .i64 0, (Sl.v ⟨none, 0, 0⟩), .int .i64 0, (Sl.v ⟨none, 0, 0⟩), .int .u32 0, .int .i64 0, .int .i64 0, .bool false] :: l), fun _ x _ => (2 - x).toNat, ⟨0, rfl, by omega, rfl, H⟩, ?_⟩
  rintro f x w1 ⟨i, rfl, hi, rfl, H⟩
  refine dBoth (fun hlt => ?_) (fun hge => ?_)
  · have hlt' : i < 2 := by omega
    have hlen := hs i (by omega)
    have hst := hfd i hlt'
    intro J hJ
    refine idxI1w (s := sa) (xs := (List.range 52).map fun i => bs (at_ i)) H (by omega) (by rw [hlr]; omega) (fun a h1 => ldc (h1 H (by repeat (first | assumption | constructor))) ?_) (by repeat (first | assumption | constructor))
    rw [hget i (by omega)]
    refine slcS_bs (by decide) (by decide) (by omega) ?_
    rw [show ((at_ i).drop (1 : Int).toNat).take ((5 : Int).toNat - (1 : Int).toNat) = ((at_ i).drop 1).take 4 from rfl]
    refine bytesOf H und_l8 und_8 und_s (mx (by simp; omega)) fun s28 w H => ?_
    refine ref_Number (s := s28) (bb := ((at_ i).drop 1).take 4) H ⟨_, rfl, ?_⟩
    refine idxI1w (s := sa) (xs := (List.range 52).map fun i => bs (at_ i)) H (by omega) (by rw [hlr]; omega) (fun a h1 => ldc (h1 H (by repeat (first | assumption | constructor))) ?_) (by repeat (first | assumption | constructor))
    rw [hget i (by omega)]
    refine idxS_bs (by decide) (by omega) ?_
    rw [show ((at_ i)[(5 : Int).toNat]'(by show 5 < _; omega)) = (at_ i).getD 5 0 by simp [List.getD_eq_getElem?_getD, List.getElem?_eq_getElem (show 5 < (at_ i).length by omega)]]
    rw [wrap32_64, ep_get, i64_id (by have := ((at_ i).getD 5 0).toNat_lt; omega)]
    intro J38 hJ38
    replace H := H.drew
    generalize hbb : at_ i = bb at *
    have nextF : fd (i + 1) = fd i → ∀ w, Heap F w (blk a3 T_ref16_Log (lwc (⟨none, 0, 0⟩ : Sl) (⟨none, 0, 0⟩ : Sl) (⟨none, 0, 0⟩ : Sl) (⟨none, 0, 0⟩ : Sl) DZ 0 (ee i) (hh i) 0 false) :: blk a1 T_ref16_Log [(Sl.v ⟨none, 0, 0⟩), (Sl.v ⟨none, 0, 0⟩), .bool false, .int .i64 0, (Sl.v ⟨none, 0, 0⟩), .int .i64 0, (Sl.v ⟨none, 0, 0⟩), .int .u32 0, .int .i64 0, .int .i64 0, .bool false] :: l) → J38 false w := fun hn w H => hJ38 _ _ (cF rfl (hJ _ _ ⟨⟨i + 1, by rw [i64_id (by omega)]; omega, by omega, by rw [hn], by
      have e1 : ee (i + 1) = ee i := by show ((fd (i + 1)).map _).getD _ = _; rw [hn]
      have e2 : hh (i + 1) = hh i := by show ((fd (i + 1)).map _).getD _ = _; rw [hn]
      rw [e1, e2]; exact H⟩, by rw [i64_id (by omega)]; (try dsimp only); omega⟩))
    refine idxI1w (s := sa) (xs := (List.range 52).map fun i => bs (at_ i)) H (by omega) (by rw [hlr]; omega) (fun a h1 => ldc (h1 H (by repeat (first | assumption | constructor))) ?_) (by repeat (first | assumption | constructor))
    have h1' : ∀ {F' : Bs} {w' : World} {l' : List SP}, Heap F' w' l' → Has l' (imm sa ((List.range 52).map fun i => bs (at_ i))) → w'.cell? a = some (.string (bs bb)) := fun H' hT' => by
      have := h1 H' hT'
      rw [hget i (by omega), hbb] at this; exact this
    rw [hget i (by omega), hbb]
    refine ref_one H fun w H => ⟨_, rfl, h1' H (by repeat (first | assumption | constructor)), ?_⟩
    rw [show b8 ((bb.getD 5 0).toNat : Int) = bb.getD 5 0 from ((eq_b8 (bb.getD 5 0).toNat_lt).2 rfl).symm, show (⟨#[72]⟩ : ByteArray) = bs [72] from rfl]
    refine ref_Sector16 (e := ep bb) (c := 72) (bb := [bb.getD 5 0]) H (by simp) fun w H => ⟨_, rfl, h1' H (by repeat (first | assumption | constructor)), ?_⟩
    replace H := H.dr (imm s28 _)
    rw [bs_beq]
    have go : ∀ bv : Bool, bb = sayS 72 (ep bb) [bb.getD 5 0] → (bv = true ↔ ((ep bb).toNat % 2 = i ∧ (bb.getD 5 0).toNat < 2) ∧ ∀ x ∈ fd i, x.1 < ep bb) → J38 bv w := fun bv hsay hbv => by
      cases bv with
      | false =>
        refine nextF ?_ w H
        rw [← hst, headStep, if_neg]
        rintro ⟨⟨_, c1, c2⟩, c3⟩
        have := hbv.2 ⟨⟨c1, c2⟩, c3⟩
        cases this
      | true =>
        obtain ⟨⟨c1, c2⟩, c3⟩ := hbv.1 rfl
        have hn : fd (i + 1) = some (ep bb, (bb.getD 5 0).toNat) := by rw [← hst, headStep, if_pos ⟨⟨hsay, c1, c2⟩, c3⟩]
        refine hJ38 _ _ (cT rfl (sta H fun w H => sta H fun w H => ?_))
        refine hJ _ _ ⟨⟨i + 1, by rw [i64_id (by omega)]; omega, by omega, by rw [hn]; rfl, ?_⟩, by rw [i64_id (by omega)]; (try dsimp only); omega⟩
        have e1 : ee (i + 1) = ep bb := by show ((fd (i + 1)).map _).getD _ = _; rw [hn]; rfl
        have e2 : hh (i + 1) = ((bb.getD 5 0).toNat : Int) := by show ((fd (i + 1)).map _).getD _ = _; rw [hn]; rfl
        rw [e1, e2]; exact H
    refine cBoth (fun hsay => ?_) (fun hsay => nextF ?_ w H)
    · have hsay' : bb = sayS 72 (ep bb) [bb.getD 5 0] := by simpa using hsay
      refine ⟨by decide, ?_⟩
      have ht : IntKind.wrap .i64 (Int.tmod ((ep bb).toNat : Int) 2) = (((ep bb).toNat % 2 : Nat) : Int) := by
        rw [show Int.tmod ((ep bb).toNat : Int) 2 = (((ep bb).toNat % 2 : Nat) : Int) from rfl, i64_id (by omega)]
      rw [ht]
      refine cBoth (fun hp => ?_) (fun hp => go false hsay' ⟨fun h => (by cases h), fun h => ?_⟩)
      · have hp0 : (((ep bb).toNat % 2 : Nat) : Int) = (i : Int) := by simpa using hp
        have hp' : (ep bb).toNat % 2 = i := by omega
        refine dBoth (fun h2 => ?_) (fun h2 => go false hsay' ⟨fun h => (by cases h), fun h => ?_⟩)
        · have h2' : (bb.getD 5 0).toNat < 2 := by omega
          cases hf : fd i with
          | none => exact go true hsay' ⟨fun _ => ⟨⟨hp', h2'⟩, fun x hx => by rw [hf] at hx; cases hx⟩, fun _ => rfl⟩
          | some y =>
            refine lda H ?_
            have e1 : ee i = y.1 := by show ((fd i).map _).getD _ = _; rw [hf]; rfl
            rw [e1]
            refine go _ hsay' ⟨fun hd => ⟨⟨hp', h2'⟩, fun x hx => ?_⟩, fun hd => ?_⟩
            · rw [hf] at hx; cases hx
              have : ((ep bb).toNat : Int) > (y.1.toNat : Int) := of_decide_eq_true hd
              rw [UInt32.lt_iff_toNat_lt]; omega
            · have := hd.2 y (by rw [hf]; rfl)
              rw [UInt32.lt_iff_toNat_lt] at this
              exact decide_eq_true (by show ((ep bb).toNat : Int) > (y.1.toNat : Int); omega)
        · have := h.1.2; exact absurd (show ((bb.getD 5 0).toNat : Int) < 2 by omega) h2
      · have h2 := h.1.1
        rw [h2] at hp; simp at hp
    · rw [← hst, headStep, if_neg]
      rintro ⟨⟨c0, _⟩, _⟩
      have : (bb == sayS 72 (ep bb) [bb.getD 5 0]) = true := by rw [beq_iff_eq]; exact c0
      rw [this] at hsay; cases hsay
  · obtain rfl : i = 2 := by omega
    show cond (!(headOf at_).isSome) _ _
    cases hf : headOf at_ with
    | none =>
      refine cT rfl ?_
      have hw : wstate at_ = (⟨[], 0, 0, 0, false⟩, 6) := by rw [wstate, hf]
      rw [hw] at k2
      repeat (first | refine lda H ?_ | refine ld0 H ?_ | refine ldaN H ?_ | refine ld0N H ?_ | refine sta H fun w H => ?_ | refine st0 H fun w H => ?_)
      exact k2 (by decide) _ (H.tln 2)
    | some x =>
      obtain ⟨e, hm⟩ := x
      have hlt2 := headOf_lt hf
      dsimp only at hlt2
      have e1 : ee 2 = e := by show ((headOf at_).map _).getD _ = _; rw [hf]; rfl
      have e2 : hh 2 = (hm : Int) := by show ((headOf at_).map _).getD _ = _; rw [hf]; rfl
      rw [e1, e2] at H
      have hws : wstate at_ = if (List.range 16).all (pageOk at_ e hm) = true then (⟨(replay at_ e 18 0 [] ((List.range 16).map (pageOf at_ hm)) 0).1, e, hm, (replay at_ e 18 0 [] ((List.range 16).map (pageOf at_ hm)) 0).2, false⟩, 0) else (⟨[], 0, 0, 0, false⟩, 8) := by rw [wstate, hf]
      refine cF rfl ?_
      refine ⟨fun x w' => ∃ (i : Nat) (sp : Sl), x = (i : Int) ∧ i ≤ 16 ∧ (∀ j, j < i → pageOk at_ e hm j = true) ∧ Heap F w' (own T_string sp (((List.range i).map (pageOf at_ hm)).map bs) :: blk a3 T_ref16_Log (lwc (⟨none, 0, 0⟩ : Sl) (⟨none, 0, 0⟩ : Sl) (⟨none, 0, 0⟩ : Sl) sp DZ 0 e (hm : Int) 0 false) :: blk a1 T_ref16_Log [(Sl.v ⟨none, 0, 0⟩), (Sl.v ⟨none, 0, 0⟩), .bool false, .int .i64 0, (Sl.v ⟨none, 0, 0⟩), .int .i64 0, (Sl.v ⟨none, 0, 0⟩), .int .u32 0, .int .i64 0, .int .i64 0, .bool false] :: l), fun x _ => (16 - x).toNat, ⟨0, ⟨none, 0, 0⟩, rfl, by omega, fun j hj => by omega, H.own_nil (α := ByteArray) _⟩, ?_⟩
      rintro x w2 ⟨i, sp, rfl, hi, hok, H⟩
      refine dBoth (fun hlt => ?_) (fun hge => ?_)
      · have hlt' : i < 16 := by omega
        refine lda H ?_
        rw [i64_id (n := 16 * (hm : Int)) (by omega), i64_id (n := 2 + 16 * (hm : Int)) (by omega), i64_id (by omega), show 2 + 16 * (hm : Int) + (i : Int) = ((2 + 16 * hm + i : Nat) : Int) by omega]
        refine idxI1w (s := sa) (xs := (List.range 52).map fun i => bs (at_ i)) H (by omega) (by rw [hlr]; omega) (fun a h1 => ldc (h1 H (by repeat (first | assumption | constructor))) ?_) (by repeat (first | assumption | constructor))
        have hlen := hs (2 + 16 * hm + i) (by omega)
        have hpi : pageOk at_ e hm i = (at_ (2 + 16 * hm + i) == sayS 80 e (b8 i :: ((at_ (2 + 16 * hm + i)).drop 6).take 40)) := rfl
        have hpo : pageOf at_ hm i = ((at_ (2 + 16 * hm + i)).drop 6).take 40 := rfl
        rw [hget (2 + 16 * hm + i) (by omega)]
        generalize hbb : at_ (2 + 16 * hm + i) = bb at *
        replace H := H.drew
        refine lda H ?_
        have hsl : ((bb.drop (6 : Int).toNat).take ((46 : Int).toNat - (6 : Int).toNat)) = (bb.drop 6).take 40 := rfl
        refine slcS_bs (by decide) (by decide) (by omega) ?_
        rw [hsl]
        have hp40 : ((bb.drop 6).take 40).length = 40 := by simp [hlen]
        refine ref_one H fun w H => ⟨_, rfl, ?_, ?_, ?_⟩
        · exact cella H
        · simp only [bs_size, hp40]; simp
        rw [bs_append, show (⟨#[80]⟩ : ByteArray) = bs [80] from rfl]
        refine ref_Sector16 (e := e) (c := 80) (bb := [b8 i] ++ (bb.drop 6).take 40) H (by simp; omega) fun w H => ⟨_, rfl, ?_⟩
        rw [bs_beq, show [b8 (i : Int)] ++ (bb.drop 6).take 40 = b8 i :: (bb.drop 6).take 40 from rfl]
        refine cBoth (fun hne => ?_) (fun heq => ?_)
        · have hw : wstate at_ = (⟨[], 0, 0, 0, false⟩, 8) := by
            rw [hws, if_neg]
            intro hall
            have := List.all_eq_true.1 hall i (by simpa using hlt')
            rw [hpi] at this; rw [this] at hne; cases hne
          rw [hw] at k2
          repeat (first | refine lda H ?_ | refine ld0 H ?_ | refine ldaN H ?_ | refine ld0N H ?_ | refine sta H fun w H => ?_ | refine st0 H fun w H => ?_)
          exact k2 (by decide) _ (H.tln 3)
        · have heq' : (bb == sayS 80 e (b8 i :: (bb.drop 6).take 40)) = true := by simpa using heq
          replace H := H.drew
          refine lda H ?_
          refine slcS_bs (by decide) (by decide) (by omega) ?_
          rw [hsl]
          refine al H (cs := [.string (bs ((bb.drop 6).take 40))]) (fun a113 w H => ⟨?_, ?_⟩) rfl
          · exact cella H
          refine psh1 (s := sp) (xs := ((List.range i).map (pageOf at_ hm)).map bs) (bs ((bb.drop 6).take 40)) S_l_string H (by simp; omega) (fun s115 w H => ?_) (by repeat (first | assumption | constructor)) (by repeat (first | assumption | constructor))
          refine sta H fun w H => ?_
          refine ⟨⟨i + 1, s115, by rw [i64_id (by omega)]; omega, by omega, fun j hj => ?_, ?_⟩, by rw [i64_id (by omega)]; (try dsimp only); omega⟩
          · rcases Nat.lt_succ_iff_lt_or_eq.1 hj with hj | rfl
            · exact hok j hj
            · rw [hpi]; exact heq'
          · rw [List.range_succ, List.map_append, List.map_append]
            replace H := H.dr (blk a113 _ _)
            rw [← hpo] at H
            exact H.ord3 (a := own T_string s115 _) (b := blk a3 _ _) (c := blk a1 _ _)
      · obtain rfl : i = 16 := by omega
        rw [if_pos (List.all_eq_true.2 fun j hj => hok j (by simpa using hj))] at hws
        generalize hB : (List.range 16).map (pageOf at_ hm) = B at *
        have hB2 := pages_ok hs hlt2
        rw [hB] at hB2
        refine al H (cs := []) (fun a118 w H => ?_) rfl
        refine lda H ?_
        replace H := H.blk_own0 (α := ByteArray) (b := a118)
        replace H := H.share (s := sp) (xs := B.map bs)
        refine apI (s := ⟨some ⟨a118, 0, none⟩, 0, 0⟩) (xs := ([] : List ByteArray)) (x := sp) (ys := B.map bs) S_l_string H (by simp; omega) (fun s121 w H => ?_)
        rw [List.nil_append] at H
        intro J124 hJ124
        have fin : ∀ (P : List (List UInt8)) (u : Nat) (spP : Sl) (w : World), wstate at_ = (⟨P, e, hm, u, false⟩, 0) → Heap F w (imm spP (P.map bs) :: blk a3 T_ref16_Log (lwc (⟨none, 0, 0⟩ : Sl) (⟨none, 0, 0⟩ : Sl) (⟨none, 0, 0⟩ : Sl) spP DZ 0 e (hm : Int) (u : Int) false) :: blk a1 T_ref16_Log [(Sl.v ⟨none, 0, 0⟩), (Sl.v ⟨none, 0, 0⟩), .bool false, .int .i64 0, (Sl.v ⟨none, 0, 0⟩), .int .i64 0, (Sl.v ⟨none, 0, 0⟩), .int .u32 0, .int .i64 0, .int .i64 0, .bool false] :: l) → J124 w := fun P u spP w hw H => by
          refine hJ124 _ ?_
          rw [hw] at k1
          repeat (first | refine lda H ?_ | refine ld0 H ?_ | refine ldaN H ?_ | refine ld0N H ?_ | refine sta H fun w H => ?_ | refine st0 H fun w H => ?_)
          replace H := H.take (c := imm spP (P.map bs)) (by repeat (first | assumption | constructor))
          exact k1 rfl spP _ (Heap.kp 2 H)
        generalize hR : replay at_ e 18 0 [] B 0 = R at *
        refine ⟨fun x w' => ∃ (i : Nat) (ws : List (Nat × List UInt8)) (P : List (List UInt8)) (u : Nat) (spP sq : Sl), x = (i : Int) ∧ i ≤ 18 ∧ replay at_ e (18 - i) i ws P u = R ∧ (∀ c ∈ ws, c.1 < 16 ∧ c.2.length = 40) ∧ P.length = 16 ∧ (∀ x ∈ P, x.length = 40) ∧ s121 = s121 ∧
          Heap F w' (own T_string s121 ((layP P ws).map bs) :: imm spP (P.map bs) :: blk a3 T_ref16_Log (lwc (⟨none, 0, 0⟩ : Sl) (⟨none, 0, 0⟩ : Sl) (⟨none, 0, 0⟩ : Sl) spP DZ 0 e (hm : Int) (u : Int) false) :: blk a1 T_ref16_Log [(Sl.v ⟨none, 0, 0⟩), (Sl.v ⟨none, 0, 0⟩), .bool false, .int .i64 0, (Sl.v ⟨none, 0, 0⟩), .int .i64 0, (Sl.v ⟨none, 0, 0⟩), .int .u32 0, .int .i64 0, .int .i64 0, .bool false] :: l), fun x _ => (18 - x).toNat, ⟨0, [], B, 0, sp, sp, rfl, by omega, hR, fun c hc => (by cases hc), hB2.1, hB2.2, rfl, H⟩, ?_⟩
        rintro x w3 ⟨i, ws, P, u, spP, _, rfl, hi, hRi, hws', hn', h40', _, H⟩
        have hend : R = (P, u) → J124 w3 := fun h => by
          refine fin P u spP w3 (by rw [hws, h]) ?_
          exact H.dr (own T_string s121 _)
        refine dBoth (fun hlt => ?_) (fun hge => ?_)
        · have hlt' : i < 18 := by omega
          intro J164 hJ164
          rw [i64_id (n := 34 + (i : Int)) (by omega), show (34 : Int) + (i : Int) = ((34 + i : Nat) : Int) by omega]
          refine idxI1w (s := sa) (xs := (List.range 52).map fun i => bs (at_ i)) H (by omega) (by rw [hlr]; omega) (fun a h1 => ldc (h1 H (by repeat (first | assumption | constructor))) ?_) (by repeat (first | assumption | constructor))
          have hlen := hs (34 + i) (by omega)
          rw [show 18 - i = (18 - (i + 1)) + 1 by omega, replay] at hRi
          rw [hget (34 + i) (by omega)]
          generalize hbb : at_ (34 + i) = bb at *
          refine idxS_bs (by decide) (by omega) ?_
          rw [show (bb[(6 : Int).toNat]'(by show 6 < _; omega)) = bb.getD 6 0 by simp [List.getD_eq_getElem?_getD, List.getElem?_eq_getElem (show 6 < bb.length by omega)]]
          rw [i64_id (by have := (bb.getD 6 0).toNat_lt; omega)]
          intro J170 hJ170
          have hlay := layP_ok hn' h40' (ws := ws) fun c hc => (hws' c hc).2
          have recc : isRec bb e i = true → ∀ w, Heap F w (own T_string s121 ((layP P ws).map bs) :: imm spP (P.map bs) :: blk a3 T_ref16_Log (lwc (⟨none, 0, 0⟩ : Sl) (⟨none, 0, 0⟩ : Sl) (⟨none, 0, 0⟩ : Sl) spP DZ 0 e (hm : Int) (u : Int) false) :: blk a1 T_ref16_Log [(Sl.v ⟨none, 0, 0⟩), (Sl.v ⟨none, 0, 0⟩), .bool false, .int .i64 0, (Sl.v ⟨none, 0, 0⟩), .int .i64 0, (Sl.v ⟨none, 0, 0⟩), .int .u32 0, .int .i64 0, .int .i64 0, .bool false] :: l) → J170 true w := fun hrec w H => by
            rw [if_pos hrec] at hRi
            have h16 : (bb.getD 6 0).toNat < 16 := isRec_page hrec
            refine hJ170 _ _ (cT rfl ?_)
            refine slcS_bs (by decide) (by decide) (by omega) ?_
            rw [show ((bb.drop (7 : Int).toNat).take ((47 : Int).toNat - (7 : Int).toNat)) = (recOf bb).2 from rfl]
            refine idxW (s := s121) (xs := (layP P ws).map bs) H (by omega) (by simp only [List.length_map, hlay.1]; omega) fun g hg => ?_
            rw [Int.toNat_natCast]
            refine stO (s := s121) (xs := (layP P ws).map bs) H hg (by simp only [List.length_map, hlay.1]; omega) (bs (recOf bb).2) rfl fun w H => ?_
            refine hJ164 _ ⟨⟨i + 1, ws ++ [recOf bb], P, u, spP, sp, by rw [i64_id (by omega)]; omega, by omega, hRi, fun c hc => ?_, hn', h40', rfl, ?_⟩, by rw [i64_id (by omega)]; (try dsimp only); omega⟩
            · rcases List.mem_append.1 hc with hc | hc
              · exact hws' c hc
              · simp at hc; subst hc; exact ⟨h16, recOf_len hlen⟩
            · rw [show layP P (ws ++ [recOf bb]) = (layP P ws).set (recOf bb).1 (recOf bb).2 by simp [layP], List.map_set]
              exact H
          have nrec : isRec bb e i = false → ∀ w, Heap F w (own T_string s121 ((layP P ws).map bs) :: imm spP (P.map bs) :: blk a3 T_ref16_Log (lwc (⟨none, 0, 0⟩ : Sl) (⟨none, 0, 0⟩ : Sl) (⟨none, 0, 0⟩ : Sl) spP DZ 0 e (hm : Int) (u : Int) false) :: blk a1 T_ref16_Log [(Sl.v ⟨none, 0, 0⟩), (Sl.v ⟨none, 0, 0⟩), .bool false, .int .i64 0, (Sl.v ⟨none, 0, 0⟩), .int .i64 0, (Sl.v ⟨none, 0, 0⟩), .int .u32 0, .int .i64 0, .int .i64 0, .bool false] :: l) → J170 false w := fun hrec w H => by
            rw [if_neg (by rw [hrec]; decide)] at hRi
            refine hJ170 _ _ (cF rfl ?_)
            replace H := H.drew
            refine lda H ?_
            refine ref_one H fun w H => ⟨_, rfl, ?_, ?_⟩
            · exact cella H
            rw [show (⟨#[67]⟩ : ByteArray) = bs [67] from rfl]
            refine ref_Sector16 (e := e) (c := 67) (bb := [b8 i]) H (by simp) fun w H => ⟨_, rfl, ?_⟩
            rw [bs_beq]
            refine cBoth (fun hm2 => ?_) (fun hm2 => ?_)
            · have hmark : isMark bb e i = true := hm2
              rw [if_pos hmark] at hRi
              refine al H (cs := []) (fun a181 w H => ?_) rfl
              replace H := H.blk_own0 (α := ByteArray) (b := a181)
              refine apO (s := ⟨some ⟨a181, 0, none⟩, 0, 0⟩) (xs := ([] : List ByteArray)) (x := s121) (ys := (layP P ws).map bs) S_l_string H (by simp only [List.length_map, hlay.1, List.length_nil]; omega) (fun s183 w H => ?_) .h (.t .h)
              rw [List.nil_append] at H
              replace H := H.share (s := s183) (xs := (layP P ws).map bs) .h
              refine sta H fun w H => sta H fun w H => ?_
              refine hJ164 _ ⟨⟨i + 1, [], layP P ws, i + 1, s183, sp, by rw [i64_id (by omega)]; omega, by omega, hRi, fun c hc => (by cases hc), hlay.1, hlay.2, rfl, ?_⟩, by rw [i64_id (by omega)]; (try dsimp only); omega⟩
              replace H := H.dr (imm spP (P.map bs))
              rw [i64_id (by omega)] at H
              exact H.ord4 (a := own T_string s121 _) (b := imm s183 _) (c := blk a3 _ _) (d := blk a1 _ _)
            · have hmark : isMark bb e i = false := hm2
              rw [if_neg (by rw [hmark]; decide)] at hRi
              refine fin P u spP w (by rw [hws, ← hRi]) ?_
              exact H.dr (own T_string s121 _)
          refine dBoth (fun h6 => ?_) (fun h6 => nrec ?_ _ H.drew)
          · have h6' : (bb.getD 6 0).toNat < 16 := by omega
            replace H := H.drew
            refine lda H ?_
            have hsl : ((bb.drop (6 : Int).toNat).take ((47 : Int).toNat - (6 : Int).toNat)) = (bb.drop 6).take 41 := rfl
            refine slcS_bs (by decide) (by decide) (by omega) ?_
            rw [hsl]
            have h41 : ((bb.drop 6).take 41).length = 41 := by simp [hlen]
            refine ref_one H fun w H => ⟨_, rfl, ?_, ?_, ?_⟩
            · exact cella H
            · simp only [bs_size, h41]; simp
            rw [bs_append, show (⟨#[82]⟩ : ByteArray) = bs [82] from rfl]
            refine ref_Sector16 (e := e) (c := 82) (bb := [b8 i] ++ (bb.drop 6).take 41) H (by simp; omega) fun w H => ⟨_, rfl, ?_⟩
            rw [bs_beq, show [b8 (i : Int)] ++ (bb.drop 6).take 41 = b8 i :: (bb.drop 6).take 41 from rfl]
            cases hb : (bb == sayS 82 e (b8 i :: (bb.drop 6).take 41)) with
            | true => exact recc (by rw [isRec, hb, decide_eq_true h6']; rfl) w H
            | false => exact nrec (by rw [isRec, hb]; rfl) w H
          · rw [isRec, decide_eq_false (show ¬ (bb.getD 6 0).toNat < 16 by omega)]; simp
        · obtain rfl : i = 18 := by omega
          rw [show 18 - 18 = 0 from rfl, replay] at hRi
          exact hend hRi.symm
end
end Go.Proofs.YtkfcmpngcanffaaDoor.G

set_option linter.unusedVariables false
set_option linter.unusedSimpArgs false
namespace Go.VC
open Go Go.RowKit
/-- cells that nothing writes any more -/
def atc (b o : Nat) (cs : List Value) : SP := ⟨fun ro _ => ∀ (j : Nat) (u : Value), cs[j]? = some u → roCell ro b (o + j) = some u, fun hr _ h j u hj => roCell.mono hr (h j u hj)⟩
section
variable {α : Type} [Rep α] {F : Bs} {w : World} {l : List SP} {s : Sl} {xs : List α}
/-- an element of a row that is read alone, with its cells for good -/
theorem idxIc (H : Heap F w l) {i : Int} (h0 : 0 ≤ i) (h1 : i < xs.length) {K : Addr → Prop}
    (k : ∀ (b o : Nat) (cs : List Value), Heap F w (atc b o cs :: rep cs (xs[i.toNat]'(by omega)) :: l) → K ⟨b, o, none⟩) (hT : Has l (imm s xs)) : idx s.a s.len i (Rep.n α) K := by
  have hl := H.len hT
  obtain ⟨ro2, h2, k1, k2, k3, k4, k5, k6⟩ := H
  obtain ⟨_, _, hc⟩ := sep.has hT k5
  refine ⟨h0, by omega, ?_⟩
  rcases hc.2.2.2 with h4 | ⟨b, o, ha, hx⟩
  · omega
  refine ⟨_, ha, ?_⟩
  have hg : xs[i.toNat]? = some (xs[i.toNat]'(by omega)) := by simp
  obtain ⟨cs, hr, hcs⟩ := hx _ _ hg
  rw [add_mk]
  refine k b (o + i.toNat * Rep.n α) cs ⟨ro2, h2, k1, k2, k3, k4, ⟨PH.emp, h2, fun _ => .inl rfl, PH.emp_le _, PH.le.refl _, fun j u hj => ?_, PH.emp, h2, fun _ => .inl rfl, PH.emp_le _, PH.le.refl _, hr, k5⟩, k6⟩
  exact hcs j u hj
theorem Heap.atc {b o : Nat} {cs : List Value} (H : Heap F w l) (hT : Has l (Go.VC.atc b o cs)) : At w ⟨b, o, none⟩ cs := fun j u hj => by
  obtain ⟨ro, _, hro, _, hc⟩ := H.get hT
  rw [add_mk]; exact roCell.cell hro (hc j u hj)
end
end Go.VC
namespace Go.Proofs.YtkfcmpngcanffaaDoor.G
open Go Go.VC Go.RowKit Go.Proofs Go.Proofs.YtkfcmpngcanffaaDoor Nac
attribute [local irreducible] Tryd.prog
section
variable {F : Bs} {w : World} {l r : List SP} {b d p : Nat} {D : Disk} {Q : Value → World → Prop} {X : Nac.Ext} {W : Wal} {s1 s2 s5 sp : Sl} {fr : Int}
theorem ref_Open16 (H : Heap F w l) (hR : Has l (RDk s1 s2 s5 D)) (hF : Nac.Fits D X) (hX : X.from_ = fr ∧ fr ≤ 1000)
    (k1 : (wopen D X).2 = 0 → ∀ (sp : Sl) w', Heap F w' (imm sp ((wopen D X).1.pages.map bs) :: l) → Q (.tuple #[lw s1 s2 s5 sp D fr (wopen D X).1.epoch ((wopen D X).1.home : Int) ((wopen D X).1.used : Int) false, .int .i64 0]) w')
    (k2 : (wopen D X).2 ≠ 0 → ∀ (f : Int) w', Heap F w' l → Q (.tuple #[lw s1 s2 s5 (⟨none, 0, 0⟩ : Sl) D f 0 0 0 false, .int .i64 (wopen D X).2]) w') :
    Does Tryd.prog N_ref16_Open #[dv s1 s2 s5 D, .int .i64 fr] w Q := by
  refine F_ref16_Open_does _ _ _ _ _ _ _ _ ?_
  unfold F_ref16_Open
  have h0 := hF.f0
  obtain ⟨rfl, hx⟩ := hX
  obtain ⟨ok, _⟩ := rd_open H hR
  refine al H (cs := [s1.v, s2.v, .bool D.off, .int .i64 D.left, s5.v]) (fun a1 w H => ?_) rfl
  refine al H (cs := [(Sl.v ⟨none, 0, 0⟩), (Sl.v ⟨none, 0, 0⟩), .bool false, .int .i64 0, (Sl.v ⟨none, 0, 0⟩), .int .i64 0, (Sl.v ⟨none, 0, 0⟩), .int .u32 0, .int .i64 0, .int .i64 0, .bool false]) (fun a3 w H => ?_) zc_ref16_Log
  refine ⟨fun sa x w' => ∃ (i : Nat), x = (i : Int) ∧ i ≤ 52 ∧ (0 < i → D.off = false) ∧ Heap F w' (own T_string sa ((List.range i).map fun j => bs (secOf D X j)) :: blk a3 T_ref16_Log [(Sl.v ⟨none, 0, 0⟩), (Sl.v ⟨none, 0, 0⟩), .bool false, .int .i64 0, (Sl.v ⟨none, 0, 0⟩), .int .i64 0, (Sl.v ⟨none, 0, 0⟩), .int .u32 0, .int .i64 0, .int .i64 0, .bool false] :: blk a1 T_ref05_Disk [s1.v, s2.v, .bool D.off, .int .i64 D.left, s5.v] :: l), fun _ x _ => (52 - x).toNat, ⟨0, rfl, by omega, fun h => by omega, H.own_nil (α := ByteArray) _⟩, ?_⟩
  rintro sa x w1 ⟨i, rfl, hi, hoff, H⟩
  refine dBoth (fun hlt => ?_) (fun hge => ?_)
  · have hlt' : i < 52 := by omega
    repeat (first | refine lda H ?_ | refine ld0 H ?_ | refine ldaN H ?_ | refine ld0N H ?_ | refine sta H fun w H => ?_ | refine st0 H fun w H => ?_)
    rw [i64_id (by omega)]
    refine rd_Read (D := D) (s1 := s1) (s2 := s2) (s5 := s5) H (.t (.t (.t hR))) fun w H => ⟨_, _, rfl, ?_⟩
    rcases Bool.eq_false_or_eq_true D.off with ho | ho
    · skip
      have hrd : D.read (X.from_ + i) = ([], 9) := by
        have := pread_off hF ho hlt'
        rw [pread, if_pos ⟨by omega, by have := hF.n52; omega⟩] at this; exact this
      rw [hrd]
      have hw : wopen D X = (⟨[], 0, 0, 0, false⟩, 9) := by rw [wopen, ho]; rfl
      rw [hw] at k2
      refine cT rfl ?_
      repeat (first | refine lda H ?_ | refine ld0 H ?_ | refine ldaN H ?_ | refine ld0N H ?_ | refine sta H fun w H => ?_ | refine st0 H fun w H => ?_)
      exact k2 (by decide) 0 _ (H.tln 3)
    · skip
      have hrd : D.read (X.from_ + i) = (secOf D X i, 0) := by
        have := pread_on hF ho hlt'
        rw [pread, if_pos ⟨by omega, by have := hF.n52; omega⟩] at this; exact this
      rw [hrd]
      refine cF rfl ?_
      refine al H (cs := [.string (bs (secOf D X i))]) (fun a47 w H => ?_) rfl
      refine psh1 (s := sa) (xs := (List.range i).map fun j => bs (secOf D X j)) (bs (secOf D X i)) S_l_string H (by simp; omega) (fun s49 w H => ?_) (by repeat (first | assumption | constructor)) (by repeat (first | assumption | constructor))
      refine ⟨⟨i + 1, by rw [i64_id (by omega)]; omega, by omega, fun _ => ho, ?_⟩, by rw [i64_id (by omega)]; (try dsimp only); omega⟩
      rw [List.range_succ, List.map_append]
      exact H.dr (blk a47 _ _)
  · obtain rfl : i = 52 := by omega
    have ho := hoff (by decide)
    have hs := secs_of hF ok
    have hw : wopen D X = wstate (secOf D X) := by rw [wopen, ho]; rfl
    rw [hw] at k1 k2
    replace H := H.share (s := sa) (xs := (List.range 52).map fun j => bs (secOf D X j))
    refine ref_State (at_ := secOf D X) (sa := sa) H hs .h (fun hz sp w H => ⟨(⟨none, 0, 0⟩ : Sl), (⟨none, 0, 0⟩ : Sl), _, _, (⟨none, 0, 0⟩ : Sl), _, sp, _, _, _, _, _, rfl, ?_⟩) (fun hz w H => ⟨(⟨none, 0, 0⟩ : Sl), (⟨none, 0, 0⟩ : Sl), _, _, (⟨none, 0, 0⟩ : Sl), _, (⟨none, 0, 0⟩ : Sl), _, _, _, _, _, rfl, ?_⟩)
    · refine al H (cs := [(Sl.v ⟨none, 0, 0⟩), (Sl.v ⟨none, 0, 0⟩), .bool false, .int .i64 0, (Sl.v ⟨none, 0, 0⟩), .int .i64 0, (Sl.v ⟨none, 0, 0⟩), .int .u32 0, .int .i64 0, .int .i64 0, .bool false]) (fun a65 w H => ?_) zc_ref16_Log
      repeat (first | refine lda H ?_ | refine ld0 H ?_ | refine ldaN H ?_ | refine ld0N H ?_ | refine sta H fun w H => ?_ | refine st0 H fun w H => ?_)
      replace H := H.take (c := imm sp _) (by repeat (first | assumption | constructor))
      exact k1 hz sp _ (Heap.kp 4 H)
    · refine al H (cs := [(Sl.v ⟨none, 0, 0⟩), (Sl.v ⟨none, 0, 0⟩), .bool false, .int .i64 0, (Sl.v ⟨none, 0, 0⟩), .int .i64 0, (Sl.v ⟨none, 0, 0⟩), .int .u32 0, .int .i64 0, .int .i64 0, .bool false]) (fun a65 w H => ?_) zc_ref16_Log
      repeat (first | refine lda H ?_ | refine ld0 H ?_ | refine ldaN H ?_ | refine ld0N H ?_ | refine sta H fun w H => ?_ | refine st0 H fun w H => ?_)
      exact k2 hz X.from_ _ (H.tln 4)
end
end Go.Proofs.YtkfcmpngcanffaaDoor.G
