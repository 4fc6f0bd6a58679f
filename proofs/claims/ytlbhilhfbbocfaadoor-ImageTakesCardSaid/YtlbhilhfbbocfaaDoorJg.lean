import Derived.Test.YtlbhilhfbbocfaaDoorJe
set_option linter.unusedVariables false
set_option linter.unusedSimpArgs false
namespace Nac
theorem mchk_good {m : Man} {b : List UInt8} (h1 : m.may) (h2 : (b.length : Int) = m.size) (h3 : Sha.sum b = m.sum) (h4 : dcd b = []) : mchk m b = [] := by
  unfold mchk
  rw [if_neg (by simpa using h1), if_neg (by omega), if_neg (by omega), if_neg (by simpa using h3), h4]
theorem dcd_enc {l : List Ins} (h : (cchk l).1 = 0) : dcd (cenc l) = [] := by
  unfold dcd
  rw [if_neg (by rw [cenc_length]; omega), clst_enc, if_pos h]
theorem cchk_len {l : List Ins} (h : (cchk l).1 = 0) : 1 ≤ l.length ∧ l.length ≤ 128 := by
  unfold cchk at h
  split at h
  · assumption
  · cases h
end Nac
namespace Go.Proofs.YtlbhilhfbbocfaaDoor.G
open Go Go.VC Go.RowKit Go.Proofs Go.Proofs.YtlbhilhfbbocfaaDoor Nac
attribute [local irreducible] Tryd.prog
section
variable {F : Bs} {w : World} {l r : List SP} {Q : Value → World → Prop} {s t : Sl} {is js : List Ins} {cuts : List Int}
set_option maxHeartbeats 1000000 in
theorem law_ImagePieces (H : Heap F w l) {part ver : Int} (hp : (-9223372036854775808 ≤ part ∧ part ≤ 9223372036854775807) ∧ (0 ≤ ver ∧ ver < 4294967296) ∧ ∀ y ∈ cuts, -9223372036854775808 ≤ y ∧ y ≤ 9223372036854775807) (hI : Has l (imm s is)) (hC : Has l (imm t cuts)) (hT : Has l ErrTy) (hK : Has l Key) (k : ∀ w', Heap F w' l → Q (.bool true) w') : Does Tryd.prog N_law19_ImagePieces #[.agg #[.slice s.a s.len s.cap, .int .i64 part, .int .u32 ver, .slice t.a t.len t.cap]] w Q := by
  refine F_law19_ImagePieces_does _ _ _ _ _ _ ?_
  unfold F_law19_ImagePieces
  have hlc := H.len hC
  have hbc := H.bndI hC
  refine al H (cs := [s.v, .int .i64 part, .int .u32 ver, t.v]) (fun a1 w H => ?_) rfl
  replace H := H.drew
  refine ld0 (t := .sl) (x := s) H (lda H (lda H (lda (t := .sl) (x := t) H ?_)))
  intro J8 hJ8 J87 hJ87
  have aw : ∀ w (x y : SP), Heap F w (x :: y :: l) → J87 true w := fun w x y H => hJ87 _ _ (cT rfl (law19_awake H (by repeat (first | exact hT | apply Has.t)) (by repeat (first | exact hK | apply Has.t)) fun w H => ⟨_, rfl, k w (H.tln 2)⟩))
  refine code_Check (s := s) (is := is) H (.t hI) fun v93 w H => ⟨_, rfl, ?_⟩
  have hf : flt (cchk is) = if (cchk is).1 = 0 then [] else [cchk is] := rfl
  refine err_ne H .h ?_
  by_cases hz : (cchk is).1 = 0
  case neg =>
    rw [if_neg hz] at hf
    rw [hf] at H ⊢
    exact cT rfl (aw w _ _ H)
  rw [if_pos hz] at hf
  rw [hf] at H ⊢
  refine cF rfl ?_
  refine dLt (fun e => aw w _ _ H) (fun e1 => ?_)
  by_cases e2 : part > 7
  · rw [decide_eq_true e2]; exact aw w _ _ H
  rw [decide_eq_false e2]
  refine hJ87 _ _ (cF rfl (hJ8 _ ?_))
  clear hJ87 hJ8 aw
  have hlen := cchk_len hz
  refine code_Encode (s := s) (is := is) H (by omega) (.i (.t (.t hI))) fun l11 w H => ⟨_, rfl, ?_⟩
  replace H := H.share
  have hb : (cenc is).length = 4 * is.length := cenc_length is
  have hdc := dcd_enc hz
  have hcl := clst_enc is
  generalize hbb : cenc is = bb at *
  have hl11 := H.len (s := l11) .h
  refine image_Of (s := l11) (bb := bb) (part := part) (ver := ver) H (by omega) .h (by repeat (first | exact hK | apply Has.t)) fun w H => ⟨_, rfl, ?_⟩
  have hmo : (Man.mk part ver bb.length (Sha.sum bb)).ok := ⟨hp.1, hp.2.1, ⟨by dsimp only; omega, by dsimp only; omega⟩, sum_len bb⟩
  have hmm : (Man.mk part ver bb.length (Sha.sum bb)).may := ⟨by dsimp only; omega, by dsimp only; omega, by dsimp only; omega, by dsimp only; omega, by dsimp only; omega⟩
  have hms : (Man.mk part ver bb.length (Sha.sum bb)).size = bb.length := rfl
  have hsum : Sha.sum bb = (Man.mk part ver bb.length (Sha.sum bb)).sum := rfl
  generalize hman : Man.mk part ver bb.length (Sha.sum bb) = man at *
  have hs := hmo.2.2.2
  refine image_Begin H hmo fun w H => ?_
  simp only [if_pos hmm]
  refine ⟨_, _, rfl, ?_⟩
  refine al H (cs := Stg.zero.cs ⟨none, 0, 0⟩) (fun a19 w H => ?_) zc_stg
  refine stStg (b := a19) (g := Stg.zero) (t := ⟨none, 0, 0⟩) (g' := ⟨man, []⟩) (t' := ⟨none, 0, 0⟩) H rfl hs (fun w H => ?_) .h
  refine cF rfl ?_
  replace H := Heap.imm_nil (α := UInt8) H
  replace H := H.takes (cs := [blk a19 T_api_Staging ((Stg.mk man []).cs ⟨none, 0, 0⟩), imm ⟨none, 0, 0⟩ ([] : List UInt8)]) (by repeat (first | assumption | constructor))
  refine ⟨fun x i w => ∃ (p j : Nat) (t1 : Sl), x = (p : Int) ∧ i = (j : Int) ∧ p ≤ bb.length ∧ j ≤ 61 ∧ (p < bb.length → j ≤ 60) ∧ Heap F w (blk a19 T_api_Staging ((Stg.mk man (bb.take p)).cs t1) :: imm t1 (bb.take p) :: imm l11 bb :: Err v93 [] :: blk a1 T_law19_Cut [s.v, .int .i64 part, .int .u32 ver, t.v] :: l), fun x i _ => (60 - i).toNat + (bb.length - x).toNat,
    ⟨0, 0, ⟨none, 0, 0⟩, rfl, rfl, by omega, by omega, fun _ => by omega, H⟩, ?_⟩
  clear H
  rintro x i w ⟨p, j, t1, rfl, rfl, hpl, hj, hjp, H⟩
  have hl11' := H.len (s := l11) (xs := bb) (by repeat (first | assumption | constructor))
  refine dLt (fun hlt => ?_) (fun hge => ?_)
  · have hlt' : p < bb.length := by omega
    have hj60 := hjp hlt'
    intro J29 hJ29 J32 hJ32
    have step : ∀ n : Nat, p + n ≤ bb.length → (j < 60 ∨ p + n = bb.length) → J32 (n : Int) w := fun n hn hor => by
      refine hJ32 _ _ ?_
      clear hJ32
      intro J36 hJ36
      have fin : ∀ (a : Nat) (t2 : Sl) (w : World) (c : SP), Heap F w (blk a T_api_Staging ((Stg.mk man (bb.take (p + n))).cs t2) :: imm t2 (bb.take (p + n)) :: c :: blk a19 T_api_Staging ((Stg.mk man (bb.take p)).cs t1) :: imm t1 (bb.take p) :: imm l11 bb :: Err v93 [] :: blk a1 T_law19_Cut [s.v, .int .i64 part, .int .u32 ver, t.v] :: l) → J36 ⟨a, 0, none⟩ 0 w := fun a t2 w c H => by
        refine hJ36 _ _ _ (cF rfl ?_)
        refine ldStg (b := a) (g := ⟨man, bb.take (p + n)⟩) (t := t2) H hs ?_ .h
        refine stStg (b := a19) (g := ⟨man, bb.take p⟩) (t := t1) (g' := ⟨man, bb.take (p + n)⟩) (t' := t2) H hs hs (fun w H => ?_) (by repeat (first | assumption | constructor))
        refine hJ29 _ _ ?_
        rw [i64_id (by omega), i64_id (by omega)]
        replace H := H.takes (cs := [blk a19 T_api_Staging ((Stg.mk man (bb.take (p + n))).cs t2), imm t2 (bb.take (p + n)), imm l11 bb, Err v93 [], blk a1 T_law19_Cut [s.v, .int .i64 part, .int .u32 ver, t.v]]) (by repeat (first | assumption | constructor))
        refine ⟨⟨p + n, j + 1, t2, by omega, by omega, hn, by omega, fun h => by omega, ?_⟩, by dsimp only; omega⟩
        exact ((H.dr (blk a T_api_Staging _) (by repeat (first | assumption | constructor))).dr c (by repeat (first | assumption | constructor))).dr (imm t1 (bb.take p)) (by repeat (first | assumption | constructor))
      clear hJ36
      replace H := H.drew
      refine ldStg (b := a19) (g := ⟨man, bb.take p⟩) (t := t1) H hs ?_ .h
      rw [i64_id (by omega)]
      refine slcI (s := l11) (xs := bb) H (by omega) (by omega) (by omega) (fun l40 H => ?_) (by repeat (first | assumption | constructor))
      rw [show ((p : Int) + (n : Int)).toNat - (p : Int).toNat = n by omega, Int.toNat_natCast] at H
      have hgl : (bb.take p).length = p := by rw [List.length_take]; omega
      have hdl : ((bb.drop p).take n).length = n := by rw [List.length_take, List.length_drop]; omega
      have hsc : schunk ⟨man, bb.take p⟩ (p : Int) ((bb.drop p).take n) = (⟨man, bb.take (p + n)⟩, 0) := by
        unfold schunk
        dsimp only
        rw [hgl, hdl, hms, if_neg (by simp [hmm]; omega), if_neg (by simp), if_neg (by omega), ← List.take_add]
      refine ⟨?_, ?_⟩
      · refine image_Chunk (g := ⟨man, bb.take p⟩) (t := t1) (s := l40) (bb := (bb.drop p).take n) (x := (p : Int)) H hmo (by repeat (first | assumption | constructor)) .h fun t2 w H => ?_
        rw [hsc] at H ⊢
        dsimp only at H ⊢
        refine ⟨_, _, rfl, ?_⟩
        refine al H (cs := Stg.zero.cs ⟨none, 0, 0⟩) (fun a45 w H => ?_) zc_stg
        refine stStg (b := a45) (g := Stg.zero) (t := ⟨none, 0, 0⟩) (g' := ⟨man, bb.take (p + n)⟩) (t' := t2) H rfl hs (fun w H => ?_) .h
        exact fin a45 t2 w _ H
      · refine al H (cs := Stg.zero.cs ⟨none, 0, 0⟩) (fun a48 w H => ?_) zc_stg
        refine ⟨⟨by simpa using Stg.cs_length (s := ⟨man, bb.take p⟩) hs t1, row0 (cs := (Stg.mk man (bb.take p)).cs t1) H (fun j v h => by simpa using h) (by repeat (first | assumption | constructor))⟩, ?_⟩
        refine image_Chunk (g := ⟨man, bb.take p⟩) (t := t1) (s := l40) (bb := (bb.drop p).take n) (x := (p : Int)) H hmo (by repeat (first | assumption | constructor)) (.t .h) fun t2 w H => ?_
        rw [hsc] at H ⊢
        dsimp only at H ⊢
        refine ⟨_, _, rfl, ?_⟩
        refine stStg (b := a48) (g := Stg.zero) (t := ⟨none, 0, 0⟩) (g' := ⟨man, bb.take (p + n)⟩) (t' := t2) H rfl hs (fun w H => ?_) (by repeat (first | assumption | constructor))
        replace H := H.takes (cs := [blk a48 T_api_Staging ((Stg.mk man (bb.take (p + n))).cs t2), imm t2 (bb.take (p + n))]) (by repeat (first | assumption | constructor))
        exact fin a48 t2 w _ H
    intro J57 hJ57
    have full : J57 false w := by
      refine hJ57 _ _ (cF rfl ?_)
      have := step (bb.length - p) (by omega) (.inr (by omega))
      rw [show (((l11.len : Nat) : Int)) - (p : Int) = ((bb.length - p : Nat) : Int) by omega, i64_id (by omega)]
      exact this
    refine dLt (fun g1 => ?_) (fun _ => full)
    refine dLt (fun g2 => ?_) (fun _ => full)
    have hjc : j < cuts.length := by omega
    have rdc : ∀ {K : Int → Prop}, K cuts[j] → idx t.a t.len (j : Int) 1 fun a => ldT (.int .i64) w a K := fun {K} h =>
      idxI1 (s := t) (xs := cuts) H (by omega) (by omega) (fun a ha => ldT_cell _ ha (by simpa using h)) (by repeat (first | exact hC | apply Has.t))
    have hcr := hp.2.2 cuts[j] (List.getElem_mem _)
    generalize cuts[j] = c at rdc hcr
    refine rdc (dGe (fun g3 => rdc ?_) (fun _ => full))
    rw [i64_id (by omega)]
    by_cases g4 : c < (((l11.len : Nat) : Int)) - (p : Int)
    · rw [decide_eq_true g4]
      refine hJ57 _ _ (cT rfl (rdc ?_))
      have := step c.toNat (by omega) (.inl (by omega))
      rwa [show ((c.toNat : Nat) : Int) = c by omega] at this
    · rw [decide_eq_false g4]; exact full
  · obtain rfl : p = bb.length := by omega
    rw [List.take_length] at H
    have hmc := mchk_good hmm hms.symm hsum hdc
    refine ldStg (b := a19) (g := ⟨man, bb⟩) (t := t1) H hs ?_ .h
    refine image_Finish (g := ⟨man, bb⟩) (t := t1) H hmo (by repeat (first | assumption | constructor)) (by repeat (first | exact hT | apply Has.t)) (by repeat (first | exact hK | apply Has.t)) fun l67 v68 w H => ⟨_, _, rfl, ?_⟩
    dsimp only at H
    rw [hmc, if_pos rfl, hcl] at H
    replace H := H.drew
    refine err_eq (v := v68) (fl := []) H (.t .h) (cT rfl ?_)
    refine ⟨_, cvI (s := l11) (xs := bb) H und_l8 und_8 und_s (by repeat (first | assumption | constructor)), ?_⟩
    refine code_Encode (s := l67) (is := is) H (by omega) (.i .h) fun l74 w H => ⟨_, rfl, ?_⟩
    rw [hbb] at H
    refine ⟨cvI (s := l11) (xs := bb) H und_l8 und_8 und_s (by repeat (first | assumption | constructor)), _, cvO (s := l74) (xs := bb) H und_l8 und_8 und_s .h, cT (bs_same _) ?_⟩
    refine ldMan (b := a19) (m := man) (x := [t1.v]) H hs ?_ (by repeat (first | assumption | constructor))
    refine image_Check (s := l11) (bb := bb) H hmo (by repeat (first | assumption | constructor)) (by repeat (first | exact hT | apply Has.t)) (by repeat (first | exact hK | apply Has.t)) fun v79 w H => ⟨_, rfl, ?_⟩
    rw [hmc] at H
    refine err_eq (v := v79) (fl := []) H .h (cT rfl ?_)
    exact law19_awake H (by repeat (first | exact hT | apply Has.t)) (by repeat (first | exact hK | apply Has.t)) fun w H => ⟨_, rfl, k w (H.tln 9)⟩
end
end Go.Proofs.YtlbhilhfbbocfaaDoor.G
