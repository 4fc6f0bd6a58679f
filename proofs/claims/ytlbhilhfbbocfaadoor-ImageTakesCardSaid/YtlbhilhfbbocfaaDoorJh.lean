import Derived.Test.YtlbhilhfbbocfaaDoorJg
import Derived.Test.YtlbhilhfbbocfaaDoorKa
set_option linter.unusedVariables false
set_option linter.unusedSimpArgs false
namespace Go.VC
open Go Go.RowKit
/-- what is appended may be anybody's row -/
theorem apRd {α : Type} [Rep α] {F : Bs} {w : World} {l r : List SP} {s x : Sl} {xs ys : List α} {e : TypeId} {P : Program} {t bytes ty : Nat} (hS : SlT P t e (Rep.n α) bytes) (H : Heap F w l) (hb : xs.length + ys.length ≤ 1000000000) {K : Sl → World → Prop}
    (k : ∀ (s' : Sl) (w' : World), Heap F w' (own e s' (xs ++ ys) :: r) → K s' w') (hT : Take l (own e s xs) r) (hI : Rd l x ys) (hk : bytes ≤ 1000 := by decide) :
    runG .sl P w (Builtin.append_ #[t, t] ty #[.slice s.a s.len s.cap, .slice x.a x.len x.cap]) K := by
  cases hI with
  | i h => exact apI hS H hb k hT h hk
  | o h => exact apO hS H hb k hT h hk
end Go.VC
namespace Go.Proofs.YtlbhilhfbbocfaaDoor.G
open Go Go.VC Go.RowKit Go.Proofs Go.Proofs.YtlbhilhfbbocfaaDoor Nac
attribute [local irreducible] Tryd.prog
section
variable {F : Bs} {w : World} {l r : List SP} {Q : Value → World → Prop} {s t : Sl} {is js : List Ins} {bb : List UInt8} {v : Value} {fl : List (Int × Int)} {b : Nat} {ty : TypeId} {m : Man} {g : Stg} {ps : List PieceA}
theorem image_ChunkR (H : Heap F w l) {x : Int} (hm : g.man.ok) (hG : Has l (imm t g.got)) (hI : Rd l s bb) (k : ∀ t' w', Heap F w' (imm t' (schunk g x bb).1.got :: l) → Q (.tuple #[.agg ((schunk g x bb).1.cs t').toArray, .int .i64 (schunk g x bb).2]) w') : Does Tryd.prog N_image_Chunk #[.agg (g.cs t).toArray, .int .i64 x, .slice s.a s.len s.cap] w Q := by
  refine F_image_Chunk_does _ _ _ _ _ ?_
  unfold F_image_Chunk
  have hs := hm.2.2.2
  have hl := H.lenR hI
  have hg := H.len hG
  refine al H (cs := g.cs t) (fun a1 w H => ?_) rfl
  refine al H (cs := Stg.zero.cs ⟨none, 0, 0⟩) (fun a3 w H => ?_) zc_stg
  have rdG : ∀ {w : World} {r : List SP} {K : Sl → Prop}, Heap F w r → Has r (blk a1 T_api_Staging (g.cs t)) → K t → ldT .sl w ((⟨a1, 0, none⟩ : Addr).add 35) K := fun {w r K} H hT h => ldan (t := .sl) (x := t) H (Stg.cs_at hs t) h hT
  have hcs : g.cs t = .int .i64 g.man.part :: .int .u32 g.man.ver :: .int .i64 g.man.size :: ((g.man.sum.map fun x => .int .u8 (x.toNat : Int)) ++ [t.v]) := rfl
  have rdS : ∀ {w : World} {r : List SP} {K : Int → Prop}, Heap F w r → Has r (blk a1 T_api_Staging (g.cs t)) → K g.man.size → ldT (.int .i64) w ((⟨a1, 0, none⟩ : Addr).add 2) K := fun {w r K} H hT h => ldan (t := .int .i64) H (by rw [hcs]; rfl) h hT
  have zero : ∀ (c : Int) w, schunk g x bb = (Stg.zero, c) → Heap F w (blk a3 T_api_Staging (Stg.zero.cs ⟨none, 0, 0⟩) :: blk a1 T_api_Staging (g.cs t) :: l) →
      stArr w ⟨a3, 0, none⟩ (Stg.zero.cs ⟨none, 0, 0⟩).toArray 36 fun w22 => ldArr w22 ⟨a3, 0, none⟩ 36 fun c23 => Q (.tuple #[.agg c23, .int .i64 c]) w22 := fun c w hc H => by
    refine stStg (b := a3) (g := Stg.zero) (t := ⟨none, 0, 0⟩) (g' := Stg.zero) (t' := ⟨none, 0, 0⟩) H rfl rfl fun w H => ?_
    refine ldStg (b := a3) (g := Stg.zero) (t := ⟨none, 0, 0⟩) H rfl ?_
    have := k ⟨none, 0, 0⟩ w
    rw [hc] at this
    exact this (Heap.kp 2 (Heap.imm_nil H))
  refine rdG H (by repeat (first | assumption | constructor)) ?_
  intro J7 hJ7 J21 hJ21
  have arg : ∀ w, (¬ g.man.may ∨ g.man.size < g.got.length) → Heap F w (blk a3 T_api_Staging (Stg.zero.cs ⟨none, 0, 0⟩) :: blk a1 T_api_Staging (g.cs t) :: l) → J21 true w := fun w h H => by
    refine hJ21 _ _ (cT rfl (zero 1 w ?_ H))
    rw [schunk, if_pos h]
  refine ldMan (b := a1) (x := [t.v]) H hs ?_ (by repeat (first | assumption | constructor))
  refine image_may H g.man fun w H => ⟨_, rfl, ?_⟩
  by_cases hmay : g.man.may
  case neg =>
    rw [decide_eq_false hmay]
    exact cT rfl (arg w (.inl hmay) H)
  rw [decide_eq_true hmay]
  refine cF rfl (rdS H (by repeat (first | assumption | constructor)) ?_)
  by_cases h1 : g.man.size < g.got.length
  · rw [decide_eq_true (by omega)]; exact arg w (.inr h1) H
  rw [decide_eq_false (by omega)]
  have hsz := hmay.2.2.2.1
  have hc1 : schunk g x bb = if x ≠ g.got.length then (Stg.zero, 4) else if g.man.size < g.got.length + bb.length then (Stg.zero, 7) else (⟨g.man, g.got ++ bb⟩, 0) := by
    unfold schunk; exact if_neg (by simp [hmay]; omega)
  refine hJ21 _ _ (cF rfl ?_)
  refine dNe (fun h2 => zero 4 w (by rw [hc1, if_pos (by omega)]) H) (fun h2 => rdS H (by repeat (first | assumption | constructor)) ?_)
  rw [if_neg (by omega)] at hc1
  rw [i64_id (by omega)]
  refine dGt (fun h3 => zero 7 w (by rw [hc1, if_pos (by omega)]) H) (fun h3 => hJ7 _ ?_)
  rw [if_neg (by omega)] at hc1
  clear hJ7 hJ21 arg zero
  rw [hc1] at k
  rw [i64_id (by omega)]
  refine mk0 (d := (0 : UInt8)) Z_l_uint8 H (by omega) (by omega) (by simp only [maxLen]; omega) fun b w H => ?_
  refine rdG H (by repeat (first | assumption | constructor)) ?_
  refine apI (xs := []) (s := ⟨some ⟨b, 0, none⟩, 0, _⟩) (x := t) (ys := g.got) S_l_uint8 H (by simp only [List.length_nil]; omega) (fun l11 w H => ?_) .h (by repeat (first | exact hG | apply Has.t))
  rw [List.nil_append] at H
  refine apRd (s := l11) (xs := g.got) (x := s) (ys := bb) S_l_uint8 H (by omega) (fun l13 w H => ?_) .h (by repeat (first | exact hI | apply Rd.t))
  replace H := H.share (s := l13)
  refine stan (cs' := (Stg.mk g.man (g.got ++ bb)).cs l13) H (Stg.cs_set (g := g.got) hs t l13) (by rw [Stg.cs_length hs]; decide) (fun w H => ?_) (by repeat (first | assumption | constructor))
  refine ldStg (b := a1) (g := ⟨g.man, g.got ++ bb⟩) (t := l13) H hs ?_
  refine stStg (b := a3) (g := Stg.zero) (t := ⟨none, 0, 0⟩) (g' := ⟨g.man, g.got ++ bb⟩) (t' := l13) H rfl hs (fun w H => ?_) (by repeat (first | assumption | constructor))
  refine ldStg (b := a3) (g := ⟨g.man, g.got ++ bb⟩) (t := l13) H hs (k l13 w ?_)
  replace H := H.takes (cs := [imm l13 (g.got ++ bb)]) (by repeat (first | assumption | constructor))
  exact Heap.kp 2 H
theorem ref19_ChunkR (H : Heap F w l) {x : Int} (hm : g.man.ok) (hG : Has l (imm t g.got)) (hI : Rd l s bb) (hgl : g.got.length ≤ 1000000) (hbl : bb.length ≤ 1000000) (k : ∀ t' w', Heap F w' (imm t' (schunk g x bb).1.got :: l) → Q (.tuple #[.agg ((schunk g x bb).1.cs t').toArray, .int .i64 (schunk g x bb).2]) w') : Does Tryd.prog N_ref19_Chunk #[.agg (g.cs t).toArray, .int .i64 x, .slice s.a s.len s.cap] w Q := by
  refine F_ref19_Chunk_does _ _ _ _ _ ?_
  unfold F_ref19_Chunk
  have hs := hm.2.2.2
  have hl := H.lenR hI
  have hg := H.len hG
  refine al H (cs := g.cs t) (fun a1 w H => ?_) rfl
  refine al H (cs := Stg.zero.cs ⟨none, 0, 0⟩) (fun a3 w H => ?_) zc_stg
  have rdG : ∀ {w : World} {r : List SP} {K : Sl → Prop}, Heap F w r → Has r (blk a1 T_api_Staging (g.cs t)) → K t → ldT .sl w ((⟨a1, 0, none⟩ : Addr).add 35) K := fun {w r K} H hT h => ldan (t := .sl) (x := t) H (Stg.cs_at hs t) h hT
  have hcs : g.cs t = .int .i64 g.man.part :: .int .u32 g.man.ver :: .int .i64 g.man.size :: ((g.man.sum.map fun x => .int .u8 (x.toNat : Int)) ++ [t.v]) := rfl
  have rdS : ∀ {w : World} {r : List SP} {K : Int → Prop}, Heap F w r → Has r (blk a1 T_api_Staging (g.cs t)) → K g.man.size → ldT (.int .i64) w ((⟨a1, 0, none⟩ : Addr).add 2) K := fun {w r K} H hT h => ldan (t := .int .i64) H (by rw [hcs]; rfl) h hT
  have rowG : ∀ {w : World} {r : List SP}, Heap F w r → Has r (blk a1 T_api_Staging (g.cs t)) → g.man.cs.toArray.size = 35 ∧ RowIs w ⟨a1, 0, none⟩ g.man.cs.toArray := fun {w r} H hT => ⟨by simpa using Man.cs35 hs, row0 H man_row hT⟩
  have zero : ∀ (c : Int) w, schunk g x bb = (Stg.zero, c) → Heap F w (blk a3 T_api_Staging (Stg.zero.cs ⟨none, 0, 0⟩) :: blk a1 T_api_Staging (g.cs t) :: l) →
      stArr w ⟨a3, 0, none⟩ (Stg.zero.cs ⟨none, 0, 0⟩).toArray 36 fun w22 => ldArr w22 ⟨a3, 0, none⟩ 36 fun c23 => Q (.tuple #[.agg c23, .int .i64 c]) w22 := fun c w hc H => by
    refine stStg (b := a3) (g := Stg.zero) (t := ⟨none, 0, 0⟩) (g' := Stg.zero) (t' := ⟨none, 0, 0⟩) H rfl rfl fun w H => ?_
    refine ldStg (b := a3) (g := Stg.zero) (t := ⟨none, 0, 0⟩) H rfl ?_
    have := k ⟨none, 0, 0⟩ w
    rw [hc] at this
    exact this (Heap.kp 2 (Heap.imm_nil H))
  intro J6 hJ6 J27 hJ27
  have arg : ∀ w, (¬ g.man.may ∨ g.man.size < g.got.length) → Heap F w (blk a3 T_api_Staging (Stg.zero.cs ⟨none, 0, 0⟩) :: blk a1 T_api_Staging (g.cs t) :: l) → J27 true w := fun w h H => by
    refine hJ27 _ _ (cT rfl (zero 1 w ?_ H))
    rw [schunk, if_pos h]
  refine ldMan (b := a1) (x := [t.v]) H hs ?_ (by repeat (first | assumption | constructor))
  refine ref19_May H g.man fun w H => ⟨_, rfl, ?_⟩
  by_cases hmay : g.man.may
  case neg =>
    rw [decide_eq_false hmay]
    exact cT rfl (arg w (.inl hmay) H)
  rw [decide_eq_true hmay]
  refine cF rfl (rdG H (by repeat (first | assumption | constructor)) (rdS H (by repeat (first | assumption | constructor)) ?_))
  by_cases h1 : g.man.size < g.got.length
  · rw [decide_eq_true (by omega)]; exact arg w (.inr h1) H
  rw [decide_eq_false (by omega)]
  have hsz := hmay.2.2.2.1
  have hc1 : schunk g x bb = if x ≠ g.got.length then (Stg.zero, 4) else if g.man.size < g.got.length + bb.length then (Stg.zero, 7) else (⟨g.man, g.got ++ bb⟩, 0) := by
    unfold schunk; exact if_neg (by simp [hmay]; omega)
  refine hJ27 _ _ (cF rfl (hJ6 _ (rdG H (by repeat (first | assumption | constructor)) ?_)))
  refine dNe (fun h2 => zero 4 w (by rw [hc1, if_pos (by omega)]) H) (fun h2 => rdG H (by repeat (first | assumption | constructor)) (rdS H (by repeat (first | assumption | constructor)) ?_))
  rw [if_neg (by omega)] at hc1
  rw [i64_id (by omega)]
  refine dGt (fun h3 => zero 7 w (by rw [hc1, if_pos (by omega)]) H) (fun h3 => ?_)
  rw [if_neg (by omega)] at hc1
  clear hJ6 hJ27 arg zero
  rw [hc1] at k
  replace H := H.drew
  refine ldMan (b := a1) (x := [t.v]) H hs ?_ (by repeat (first | assumption | constructor))
  refine rdG H (by repeat (first | assumption | constructor)) ?_
  refine al H (cs := []) (fun b w H => ⟨H.cell (hT := (by repeat (first | assumption | constructor))) (o := 35) (Stg.cs_at hs t), rowG H (by repeat (first | assumption | constructor)), ?_⟩) rfl
  replace H := Heap.blk_own0 (α := UInt8) H
  refine apI (xs := []) (s := ⟨some ⟨b, 0, none⟩, 0, 0⟩) (x := t) (ys := g.got) S_l_uint8 H (by simp only [List.length_nil]; omega) (fun l11 w H => ⟨rowG H (by repeat (first | assumption | constructor)), ?_⟩) .h (by repeat (first | exact hG | apply Has.t))
  rw [List.nil_append] at H
  refine apRd (s := l11) (xs := g.got) (x := s) (ys := bb) S_l_uint8 H (by omega) (fun l13 w H => ⟨rowG H (by repeat (first | assumption | constructor)), ?_⟩) .h (by repeat (first | exact hI | apply Rd.t))
  replace H := H.share (s := l13)
  refine build_stg (Man.cs35 hs) ?_
  refine stStg (b := a3) (g := Stg.zero) (t := ⟨none, 0, 0⟩) (g' := ⟨g.man, g.got ++ bb⟩) (t' := l13) H rfl hs (fun w H => ?_) (by repeat (first | assumption | constructor))
  refine ldStg (b := a3) (g := ⟨g.man, g.got ++ bb⟩) (t := l13) H hs (k l13 w ?_)
  replace H := H.takes (cs := [imm l13 (g.got ++ bb)]) (by repeat (first | assumption | constructor))
  exact Heap.kp 2 H
theorem open_Piece {F : Bs} {w : World} {l : List SP} {cs : List Value} {x : PieceA} (H : Heap F w (rep cs x :: l)) : ∃ s : Sl, cs = [.int .i64 x.x, s.v] ∧ Heap F w (imm s x.b :: l) := by
  obtain ⟨t, H⟩ := H.ex (c' := fun t : Sl => [pur (cs = [.int .i64 x.x, t.v]), imm t x.b]) fun ro h ⟨t, e, hi⟩ => ⟨t, PH.emp, PH.emp, fun _ => .inl rfl, PH.emp_le _, PH.emp_le _, e, PH.emp, PH.emp, fun _ => .inl rfl, PH.le.refl _, PH.le.refl _, hi, trivial⟩
  exact ⟨t, H.pur.1, H.pur.2⟩
theorem schunk_ok {g : Stg} {x : Int} {b : List UInt8} (hm : g.man.ok) (hg : g.got.length ≤ 600) : (schunk g x b).1.man.ok ∧ (schunk g x b).1.got.length ≤ 600 := by
  have z : Stg.zero.man.ok ∧ Stg.zero.got.length ≤ 600 := ⟨⟨by decide, by decide, by decide, rfl⟩, by decide⟩
  unfold schunk
  split
  · exact z
  · rename_i h1
    split
    · exact z
    · split
      · exact z
      · rename_i h2 h3
        refine ⟨hm, ?_⟩
        have hmay : g.man.may := by
          by_cases q : g.man.may
          · exact q
          · exact absurd (.inl q) h1
        have := hmay.2.2.2.1
        simp only [List.length_append]
        omega
theorem schunk_zero {g : Stg} {x : Int} {b : List UInt8} (h : (schunk g x b).2 ≠ 0) : (schunk g x b).1 = Stg.zero := by
  unfold schunk at h ⊢
  split
  · rfl
  · rename_i h1
    rw [if_neg h1] at h
    split
    · rfl
    · rename_i h2
      rw [if_neg h2] at h
      split
      · rfl
      · rename_i h3
        rw [if_neg h3] at h
        exact absurd rfl h
set_option maxHeartbeats 2000000 in
theorem law_ImageTakes (H : Heap F w l) (hm : g.man.ok) (hI : Has l (imm t g.got)) (hP : Has l (imm s ps)) (hT : Has l ErrTy) (hK : Has l Key) (k : ∀ w', Heap F w' l → Q (.bool true) w') : Does Tryd.prog N_law19_ImageTakes #[.agg (g.cs t).toArray, .slice s.a s.len s.cap] w Q := by
  refine F_law19_ImageTakes_does _ _ _ _ ?_
  unfold F_law19_ImageTakes
  have hs := hm.2.2.2
  have hls := H.len hP
  refine al H (cs := g.cs t) (fun a1 w H => ?_) rfl
  refine ldan (t := .sl) (x := t) H (Stg.cs_at hs t) ?_ (by repeat (first | assumption | constructor))
  refine law19_few (s := t) (bb := g.got) (n := 600) H (.t hI) fun l6 H => ⟨_, rfl, ?_⟩
  have hgl : (g.got.take 600).length ≤ 600 := by rw [List.length_take]; omega
  generalize g.got.take 600 = got at *
  obtain ⟨man, got0⟩ := g
  dsimp only at hm hs
  clear hI
  refine stan (cs' := (Stg.mk man got).cs l6) H (Stg.cs_set (g := got0) hs t l6) (by rw [Stg.cs_length hs]; decide) (fun w H => ?_) (by repeat (first | assumption | constructor))
  refine ldMan (b := a1) (m := man) (x := [l6.v]) H hs ?_ .h
  refine image_Begin H hm fun w H => ?_
  refine ⟨_, _, rfl, ?_⟩
  refine al H (cs := Stg.zero.cs ⟨none, 0, 0⟩) (fun a13 w H => ?_) zc_stg
  have hb : (if man.may then (⟨man, []⟩ : Stg) else Stg.zero).man.sum.length = 32 := by split; exact hs; rfl
  refine stStg (b := a13) (g := Stg.zero) (t := ⟨none, 0, 0⟩) (g' := if man.may then (⟨man, []⟩ : Stg) else Stg.zero) (t' := ⟨none, 0, 0⟩) H rfl hb (fun w H => ?_) .h
  intro J17 hJ17
  have rest : ∀ (w : World) (x : SP), Heap F w (x :: blk a1 T_api_Staging ((Stg.mk man got).cs l6) :: imm l6 got :: l) → J17 w := fun w x H => by
    replace H := H.tl
    refine hJ17 _ ?_
    clear hJ17
    intro J19 hJ19
    have tail : ∀ (w : World) (g : Stg) (t1 : Sl), g.man.ok → g.got.length ≤ 600 → Heap F w (blk a1 T_api_Staging (g.cs t1) :: imm t1 g.got :: l) → J19 w := fun w g t1 hm hgl H => by
      have hs := hm.2.2.2
      refine hJ19 _ ?_
      refine ldStg (b := a1) (g := g) (t := t1) H hs ?_ .h
      refine image_Finish (g := g) (t := t1) H hm (by repeat (first | assumption | constructor)) (by repeat (first | exact hT | apply Has.t)) (by repeat (first | exact hK | apply Has.t)) fun l23 v24 w H => ⟨_, _, rfl, ?_⟩
      have hl23 := H.len (s := l23) .h
      refine ldMan (b := a1) (m := g.man) (x := [t1.v]) H hs ?_ (by repeat (first | assumption | constructor))
      refine ldan (t := .sl) (x := t1) (b := a1) (cs := g.cs t1) H (Stg.cs_at hs t1) ?_ (by repeat (first | assumption | constructor))
      refine ref19_Check (s := t1) (bb := g.got) H hm (by repeat (first | assumption | constructor)) fun l30 w H => ⟨_, _, rfl, ?_⟩
      by_cases he : mchk g.man g.got = []
      case neg =>
        rw [if_neg he] at hl23
        refine dNe (fun _ => cT (by rw [← hl23]; rfl) ?_) (fun h => absurd h (mchk_fc he))
        refine law19_told (fl := mchk g.man g.got) H mchk_code.2 mchk_fc (by repeat (first | assumption | constructor)) .h (by repeat (first | exact hT | apply Has.t)) fun w H => ⟨_, rfl, cT rfl ?_⟩
        exact law19_awake H (by repeat (first | exact hT | apply Has.t)) (by repeat (first | exact hK | apply Has.t)) fun w H => ⟨_, rfl, k w (H.tln 5)⟩
      rw [he] at H hl23 ⊢
      rw [if_pos rfl] at H hl23
      refine cF rfl ?_
      refine ldan (t := .sl) (x := t1) (b := a1) (cs := g.cs t1) H (Stg.cs_at hs t1) ?_ (by repeat (first | assumption | constructor))
      refine ref07_List (s := t1) (bb := g.got) H (by omega) (by repeat (first | assumption | constructor)) fun l40 w H => ⟨_, rfl, ?_⟩
      replace H := H.share
      have hl40 := H.len (s := l40) .h
      generalize clst g.got = js at *
      intro J42 hJ42
      refine err_ne (v := v24) (fl := []) H (by repeat (first | assumption | constructor)) (cF rfl ?_)
      refine dNe (fun h => absurd h (by omega)) (fun _ => hJ42 _ ?_)
      clear hJ42 hJ19
      have hjb := H.bndI (s := l40) (xs := js) .h
      refine ⟨fun i w => ∃ n : Nat, i = (n : Int) ∧ n ≤ js.length ∧ Heap F w (imm l40 js :: imm l30 (([] : List (Int × Int)).map (·.2)) :: imm l23 js :: Err v24 [] :: blk a1 T_api_Staging (g.cs t1) :: imm t1 g.got :: l), fun i _ => js.length - i.toNat, ⟨0, rfl, Nat.zero_le _, H⟩, ?_⟩
      rintro i w ⟨n, rfl, hn, H⟩
      refine dLt (fun hlt => ?_) (fun _ => law19_awake H (by repeat (first | exact hT | apply Has.t)) (by repeat (first | exact hK | apply Has.t)) fun w H => ⟨_, rfl, k w (H.tln 6)⟩)
      have hn' : n < js.length := by omega
      replace H := H.drew
      refine rdIns (s := l23) (is := js) (n := n) H (by repeat (first | assumption | constructor)) hn' rfl fun a hA => ?_
      unfold Ins.cs at hA
      refine hA.ld0 (hA.ld (hA.ld (hA.ld ?_)))
      refine rdIns (s := l40) (is := js) (n := n) H .h hn' rfl fun a hB => ?_
      unfold Ins.cs at hB
      refine hB.ld0 (hB.ld (hB.ld (hB.ld ?_)))
      refine ins_neq js[n] js[n] ?_
      rw [decide_eq_true rfl]
      refine cF rfl ?_
      rw [i64_id (by omega)]
      exact ⟨⟨n + 1, by omega, by omega, H⟩, by dsimp only; omega⟩
    clear hJ19
    refine ⟨fun i w => ∃ (n : Nat) (g : Stg) (t1 : Sl), i = (n : Int) ∧ n ≤ 20 ∧ g.man.ok ∧ g.got.length ≤ 600 ∧ Heap F w (blk a1 T_api_Staging (g.cs t1) :: imm t1 g.got :: l), fun i _ => (20 - i).toNat, ⟨0, ⟨man, got⟩, l6, rfl, by omega, hm, hgl, H⟩, ?_⟩
    clear H
    rintro i w ⟨n, g, t1, rfl, hn, hm, hgl, H⟩
    have hs := hm.2.2.2
    intro J69 hJ69
    refine dLt (fun hlt => ?_) (fun _ => tail w g t1 hm hgl H)
    refine dLt (fun hlt2 => hJ69 _ ?_) (fun _ => tail w g t1 hm hgl H)
    clear hJ69 tail
    intro J71 hJ71
    have hn' : n < ps.length := by omega
    have rdP : ∀ {w : World} {r : List SP} {K : Addr → Prop}, Heap F w r → Has r (imm s ps) → (∀ (b o : Nat) (tb : Sl), Heap F w (imm tb ps[n].b :: atc b o [.int .i64 ps[n].x, tb.v] :: r) → K ⟨b, o, none⟩) → idx s.a s.len n 2 K := fun {w r K} H hr h => by
      refine idxIc (s := s) (xs := ps) H (by omega) (by omega) (fun b o cs H => ?_) hr
      simp only [Int.toNat_natCast] at H
      replace H := Heap.take H (c := rep cs ps[n]) (.t .h)
      replace H := open_Piece H
      obtain ⟨tb, rfl, H⟩ := H
      exact h b o tb H
    generalize ps[n] = y at rdP
    refine al H (cs := []) (fun a72 w H => ?_) rfl
    refine rdP H (by repeat (first | exact hP | apply Has.t)) fun b4 o4 tb H => ?_
    have hAt := H.atc (b := b4) (o := o4) (.t .h)
    refine hAt.ld (t := .sl) (x := tb) ?_
    clear hAt
    refine law19_few (s := tb) (bb := y.b) (n := 600) H .h fun l78 H => ⟨_, rfl, ?_⟩
    have hbl : (y.b.take 600).length ≤ 600 := by rw [List.length_take]; omega
    generalize y.b.take 600 = yb at *
    replace H := Heap.blk_own0 (α := UInt8) (b := a72) H (by repeat (first | assumption | constructor))
    refine apI (s := ⟨some ⟨a72, 0, none⟩, 0, 0⟩) (xs := []) (ys := yb) S_l_uint8 H (by simp only [List.length_nil]; omega) fun l79 w H => ?_
    rw [List.nil_append] at H
    replace H := H.takes (cs := [own T_uint8 l79 yb, blk a1 T_api_Staging (g.cs t1), imm t1 g.got]) (by repeat (first | assumption | constructor))
    replace H := Heap.kp3 3 H
    obtain ⟨hY1, hY2⟩ := schunk_ok (g := g) (x := y.x) (b := yb) hm hgl
    have hYz := schunk_zero (g := g) (x := y.x) (b := yb)
    have hCi : ∀ {w : World} {r : List SP} {Q : Value → World → Prop}, Heap F w r → Has r (imm t1 g.got) → Rd r l79 yb → (∀ t' w', Heap F w' (imm t' (schunk g y.x yb).1.got :: r) → Q (.tuple #[.agg ((schunk g y.x yb).1.cs t').toArray, .int .i64 (schunk g y.x yb).2]) w') → Does Tryd.prog N_image_Chunk #[.agg (g.cs t1).toArray, .int .i64 y.x, .slice l79.a l79.len l79.cap] w Q := fun H h1 h2 k => image_ChunkR H hm h1 h2 k
    have hCr : ∀ {w : World} {r : List SP} {Q : Value → World → Prop}, Heap F w r → Has r (imm t1 g.got) → Rd r l79 yb → (∀ t' w', Heap F w' (imm t' (schunk g y.x yb).1.got :: r) → Q (.tuple #[.agg ((schunk g y.x yb).1.cs t').toArray, .int .i64 (schunk g y.x yb).2]) w') → Does Tryd.prog N_ref19_Chunk #[.agg (g.cs t1).toArray, .int .i64 y.x, .slice l79.a l79.len l79.cap] w Q := fun H h1 h2 k => ref19_ChunkR H hm h1 h2 (by omega) (by omega) k
    generalize schunk g y.x yb = R at *
    obtain ⟨Y, e⟩ := R
    dsimp only at hY1 hY2 hYz hCi hCr
    have hYs := hY1.2.2.2
    intro J84 hJ84
    have f84 : ∀ (a : Nat) (t2 : Sl) (w : World), Heap F w (blk a T_api_Staging (Y.cs t2) :: imm t2 Y.got :: own T_uint8 l79 yb :: blk a1 T_api_Staging (g.cs t1) :: imm t1 g.got :: l) → J84 ⟨a, 0, none⟩ e w := fun a t2 w H => by
      refine hJ84 _ _ _ ?_
      clear hJ84
      intro J88 hJ88
      have f88 : ∀ (a2 : Nat) (t3 : Sl) (w : World), Heap F w (blk a2 T_api_Staging (Y.cs t3) :: imm t3 Y.got :: blk a T_api_Staging (Y.cs t2) :: imm t2 Y.got :: own T_uint8 l79 yb :: blk a1 T_api_Staging (g.cs t1) :: imm t1 g.got :: l) → J88 ⟨a2, 0, none⟩ e w := fun a2 t3 w H => by
        refine hJ88 _ _ _ ?_
        clear hJ88
        have hl79 := H.lenO (s := l79) (xs := yb) (by repeat (first | assumption | constructor))
        replace H := H.takes (cs := [own T_uint8 l79 yb]) (by repeat (first | assumption | constructor))
        refine ⟨fun x w => ∃ (j : Nat) (zs : List UInt8), x = (j : Int) ∧ j ≤ yb.length ∧ zs.length = yb.length ∧ Heap F w (own T_uint8 l79 zs :: blk a2 T_api_Staging (Y.cs t3) :: imm t3 Y.got :: blk a T_api_Staging (Y.cs t2) :: imm t2 Y.got :: blk a1 T_api_Staging (g.cs t1) :: imm t1 g.got :: l), fun x _ => yb.length - x.toNat, ⟨0, yb, rfl, Nat.zero_le _, rfl, H⟩, ?_⟩
        clear H
        rintro x w ⟨j, zs, rfl, hj, hzl, H⟩
        refine dLt (fun hlt => ?_) (fun _ => ?_)
        · refine idxW (s := l79) (xs := zs) H (by omega) (by omega) (fun gg hg => ?_) .h
          rw [Int.toNat_natCast]
          refine stO (s := l79) (xs := zs) H hg (by omega) (99 : UInt8) rfl (fun w H => ?_) .h
          rw [i64_id (by omega)]
          exact ⟨⟨j + 1, zs.set j 99, by omega, by omega, by rw [List.length_set]; exact hzl, H⟩, by dsimp only; omega⟩
        · intro J96 hJ96
          have f96 : ∀ w, Heap F w (own T_uint8 l79 zs :: blk a2 T_api_Staging (Y.cs t3) :: imm t3 Y.got :: blk a T_api_Staging (Y.cs t2) :: imm t2 Y.got :: blk a1 T_api_Staging (g.cs t1) :: imm t1 g.got :: l) → J96 w := fun w H => by
            refine hJ96 _ (dEq (fun h0 => ?_) (fun h0 => hJ71 _ ?_))
            · refine ldStg (b := a) (g := Y) (t := t2) H hYs ?_ (by repeat (first | assumption | constructor))
              refine stStg (b := a1) (g := g) (t := t1) (g' := Y) (t' := t2) H hs hYs (fun w H => hJ71 _ ?_) (by repeat (first | assumption | constructor))
              rw [i64_id (by omega)]
              replace H := H.takes (cs := [blk a1 T_api_Staging (Y.cs t2), imm t2 Y.got]) (by repeat (first | assumption | constructor))
              exact ⟨⟨n + 1, Y, t2, by omega, by omega, hY1, hY2, Heap.kp2 5 H⟩, by dsimp only; omega⟩
            · rw [i64_id (by omega)]
              replace H := H.takes (cs := [blk a1 T_api_Staging (g.cs t1), imm t1 g.got]) (by repeat (first | assumption | constructor))
              exact ⟨⟨n + 1, g, t1, by omega, by omega, hm, hgl, Heap.kp2 5 H⟩, by dsimp only; omega⟩
          clear hJ96
          refine dNe (fun h => absurd rfl h) (fun _ => ?_)
          refine dNe (fun h0 => ?_) (fun h0 => ?_)
          · refine ldStg (b := a) (g := Y) (t := t2) H hYs ?_ (by repeat (first | assumption | constructor))
            replace H := Heap.imm_nil (α := UInt8) H
            refine law19_same (g := Y) (t := t2) (g' := Stg.zero) (t' := ⟨none, 0, 0⟩) H hYs rfl (by repeat (first | assumption | constructor)) .h fun w H => ⟨_, rfl, ?_⟩
            rw [decide_eq_true (by rw [hYz h0]; exact ⟨rfl, rfl⟩)]
            refine cF rfl (dEq (fun h => absurd h h0) (fun _ => f96 _ H.tl))
          · refine dEq (fun _ => ?_) (fun h => absurd h0 h)
            refine ldStg (b := a) (g := Y) (t := t2) H hYs (ldStg (b := a2) (g := Y) (t := t3) H hYs ?_ (by repeat (first | assumption | constructor))) (by repeat (first | assumption | constructor))
            refine law19_same (g := Y) (t := t2) (g' := Y) (t' := t3) H hYs hYs (by repeat (first | assumption | constructor)) (by repeat (first | assumption | constructor)) fun w H => ⟨_, rfl, ?_⟩
            rw [decide_eq_true ⟨rfl, rfl⟩]
            exact cF rfl (f96 _ H)
      clear hJ88
      replace H := H.drew
      refine ldStg (b := a1) (g := g) (t := t1) H hs ?_ (by repeat (first | assumption | constructor))
      refine rdP H (by repeat (first | exact hP | apply Has.t)) fun b5 o5 tb5 H => ?_
      have hAt := H.atc (b := b5) (o := o5) (.t .h)
      refine hAt.ld0 ?_
      clear hAt
      refine ⟨?_, ?_⟩
      · refine hCr H (by repeat (first | assumption | constructor)) (.o (by repeat (first | assumption | constructor))) fun t3 w H => ⟨_, _, rfl, ?_⟩
        refine al H (cs := Stg.zero.cs ⟨none, 0, 0⟩) (fun a120 w H => ?_) zc_stg
        refine stStg (b := a120) (g := Stg.zero) (t := ⟨none, 0, 0⟩) (g' := Y) (t' := t3) H rfl hYs (fun w H => f88 a120 t3 w ?_) .h
        replace H := H.takes (cs := [blk a120 T_api_Staging (Y.cs t3), imm t3 Y.got, blk a T_api_Staging (Y.cs t2), imm t2 Y.got, own T_uint8 l79 yb, blk a1 T_api_Staging (g.cs t1), imm t1 g.got]) (by repeat (first | assumption | constructor))
        exact Heap.kp7 2 H
      · refine al H (cs := Stg.zero.cs ⟨none, 0, 0⟩) (fun a123 w H => ?_) zc_stg
        refine ⟨?_, ⟨by simpa using Stg.cs_length hs t1, row0 (cs := g.cs t1) H (fun j v h => by simpa using h) (by repeat (first | assumption | constructor))⟩, ?_⟩
        · have := (H.atc (b := b5) (o := o5) (by repeat (first | assumption | constructor))) 0 _ rfl
          rwa [add_zero'] at this
        refine hCr H (by repeat (first | assumption | constructor)) (.o (by repeat (first | assumption | constructor))) fun t3 w H => ⟨_, _, rfl, ?_⟩
        refine stStg (b := a123) (g := Stg.zero) (t := ⟨none, 0, 0⟩) (g' := Y) (t' := t3) H rfl hYs (fun w H => f88 a123 t3 w ?_) (by repeat (first | assumption | constructor))
        replace H := H.takes (cs := [blk a123 T_api_Staging (Y.cs t3), imm t3 Y.got, blk a T_api_Staging (Y.cs t2), imm t2 Y.got, own T_uint8 l79 yb, blk a1 T_api_Staging (g.cs t1), imm t1 g.got]) (by repeat (first | assumption | constructor))
        exact Heap.kp7 2 H
    clear hJ84
    replace H := H.drew
    refine ldStg (b := a1) (g := g) (t := t1) H hs ?_ (by repeat (first | assumption | constructor))
    refine rdP H (by repeat (first | exact hP | apply Has.t)) fun b5 o5 tb5 H => ?_
    have hAt := H.atc (b := b5) (o := o5) (.t .h)
    refine hAt.ld0 ?_
    clear hAt
    refine ⟨?_, ?_⟩
    · refine hCi H (by repeat (first | assumption | constructor)) (.o (by repeat (first | assumption | constructor))) fun t2 w H => ⟨_, _, rfl, ?_⟩
      refine al H (cs := Stg.zero.cs ⟨none, 0, 0⟩) (fun a137 w H => ?_) zc_stg
      refine stStg (b := a137) (g := Stg.zero) (t := ⟨none, 0, 0⟩) (g' := Y) (t' := t2) H rfl hYs (fun w H => f84 a137 t2 w ?_) .h
      replace H := H.takes (cs := [blk a137 T_api_Staging (Y.cs t2), imm t2 Y.got, own T_uint8 l79 yb, blk a1 T_api_Staging (g.cs t1), imm t1 g.got]) (by repeat (first | assumption | constructor))
      exact Heap.kp5 2 H
    · refine al H (cs := Stg.zero.cs ⟨none, 0, 0⟩) (fun a140 w H => ?_) zc_stg
      refine ⟨?_, ⟨by simpa using Stg.cs_length hs t1, row0 (cs := g.cs t1) H (fun j v h => by simpa using h) (by repeat (first | assumption | constructor))⟩, ?_⟩
      · have := (H.atc (b := b5) (o := o5) (by repeat (first | assumption | constructor))) 0 _ rfl
        rwa [add_zero'] at this
      refine hCi H (by repeat (first | assumption | constructor)) (.o (by repeat (first | assumption | constructor))) fun t2 w H => ⟨_, _, rfl, ?_⟩
      refine stStg (b := a140) (g := Stg.zero) (t := ⟨none, 0, 0⟩) (g' := Y) (t' := t2) H rfl hYs (fun w H => f84 a140 t2 w ?_) (by repeat (first | assumption | constructor))
      replace H := H.takes (cs := [blk a140 T_api_Staging (Y.cs t2), imm t2 Y.got, own T_uint8 l79 yb, blk a1 T_api_Staging (g.cs t1), imm t1 g.got]) (by repeat (first | assumption | constructor))
      exact Heap.kp5 2 H
  clear hJ17
  refine ldMan (b := a1) (m := man) (x := [l6.v]) H hs ?_ (by repeat (first | assumption | constructor))
  refine ref19_May H man fun w H => ⟨_, rfl, ?_⟩
  by_cases hmay : man.may
  · simp only [if_pos hmay] at H hb ⊢
    rw [decide_eq_true hmay]
    refine cF rfl (cF rfl (cT rfl ?_))
    refine ldStg (b := a13) (g := ⟨man, []⟩) (t := ⟨none, 0, 0⟩) H hs ?_ .h
    refine ldMan (b := a1) (m := man) (x := [l6.v]) H hs ?_ (by repeat (first | assumption | constructor))
    refine build_stg0 (Man.cs35 hs) ?_
    replace H := Heap.imm_nil (α := UInt8) H
    refine law19_same (g := ⟨man, []⟩) (t := ⟨none, 0, 0⟩) (g' := ⟨man, []⟩) (t' := ⟨none, 0, 0⟩) H hs hs .h .h fun w H => ⟨_, rfl, ?_⟩
    rw [decide_eq_true ⟨rfl, rfl⟩]
    exact cF rfl (cF rfl (rest w _ H.tl))
  · simp only [if_neg hmay] at H hb ⊢
    rw [decide_eq_false hmay]
    refine cF rfl (cT rfl (cF rfl (cF rfl (cT rfl ?_))))
    refine ldStg (b := a13) (g := Stg.zero) (t := ⟨none, 0, 0⟩) H rfl ?_ .h
    replace H := Heap.imm_nil (α := UInt8) H
    refine law19_same (g := Stg.zero) (t := ⟨none, 0, 0⟩) (g' := Stg.zero) (t' := ⟨none, 0, 0⟩) H rfl rfl .h .h fun w H => ⟨_, rfl, ?_⟩
    rw [decide_eq_true ⟨rfl, rfl⟩]
    exact cF rfl (rest w _ H.tl)
end
end Go.Proofs.YtlbhilhfbbocfaaDoor.G
