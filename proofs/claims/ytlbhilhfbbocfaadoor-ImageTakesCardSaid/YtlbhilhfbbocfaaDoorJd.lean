import Derived.Test.YtlbhilhfbbocfaaDoorJc
set_option linter.unusedVariables false
set_option linter.unusedSimpArgs false
namespace Go.VC
open Go Go.RowKit
theorem rowP {F : Bs} {w : World} {l : List SP} {b o : Nat} {ty : TypeId} {cs : List Value} {c : Array Value} (H : Heap F w l) (h : ∀ (j : Nat) v, c[j]? = some v → cs[o + j]? = some v) (hT : Has l (blk b ty cs) := by repeat (first | assumption | constructor)) : RowIs w ((⟨b, 0, none⟩ : Addr).add o) c := fun j v hj => by
  rw [add_mk, add_mk, Nat.zero_add]; exact H.cell hT (h j v hj)
end Go.VC
namespace Go.Proofs.YtlbhilhfbbocfaaDoor.G
open Go Go.VC Go.RowKit Go.Proofs Go.Proofs.YtlbhilhfbbocfaaDoor Nac
attribute [local irreducible] Tryd.prog
section
variable {F : Bs} {w : World} {l r : List SP} {Q : Value → World → Prop} {s t : Sl} {is js : List Ins} {bb : List UInt8} {v : Value} {fl : List (Int × Int)} {b : Nat} {ty : TypeId} {m : Man}
theorem sum_row (m : Man) : ∀ (j : Nat) v, (bytes m.sum)[j]? = some v → m.cs[3 + j]? = some v := fun j v h => by
  rw [show 3 + j = j + 1 + 1 + 1 by omega]
  unfold Man.cs
  rw [List.getElem?_cons_succ, List.getElem?_cons_succ, List.getElem?_cons_succ]
  simpa [bytes, byteV] using h
theorem bne_sum {x y : List UInt8} : (!(x == y)) = decide (¬ x = y) := by
  by_cases h : x = y <;> simp [h]
theorem image_program (H : Heap F w l) (hm : m.ok) (hI : Has l (imm s bb)) (hT : Has l ErrTy) (hK : Has l Key) (k : ∀ t v w', Heap F w' (imm t (if mchk m bb = [] then clst bb else []) :: Err v (mchk m bb) :: l) → Q (.tuple #[.slice t.a t.len t.cap, v]) w') : Does Tryd.prog N_image_program #[.agg m.cs.toArray, .slice s.a s.len s.cap] w Q := by
  refine F_image_program_does _ _ _ _ ?_
  unfold F_image_program
  have hs := hm.2.2.2
  have hl := H.len hI
  refine al H (cs := m.cs) (fun a1 w H => ?_) rfl
  refine ldMan0 H hs ?_
  refine image_may H m fun w H => ⟨_, rfl, ?_⟩
  have bad : ∀ (v : Value) (x : Int × Int) w, mchk m bb = [x] → Heap F w (Err v [x] :: blk a1 T_api_Manifest m.cs :: l) → Q (.tuple #[.slice none 0 0, v]) w := fun v x w h H => by
    refine k ⟨none, 0, 0⟩ v w ?_
    rw [h, if_neg (by simp)]
    exact Heap.kp2 1 (Heap.imm_nil H)
  by_cases hmay : m.may
  case neg =>
    rw [decide_eq_false hmay]
    refine cT rfl (fault_New H fun v w H => ⟨_, rfl, bad v (1, 0) w ?_ H⟩)
    rw [mchk, if_pos hmay]
  rw [decide_eq_true hmay]
  have hc1 : mchk m bb = if (bb.length : Int) < m.size then [(2, (bb.length : Int))] else if (bb.length : Int) > m.size then [(7, m.size)] else if ¬ (Sha.sum bb = m.sum) then [(8, 0)]
    else match dcd bb with
    | [] => []
    | x :: t => (x.1, m.ver) :: x :: t := by unfold mchk; exact if_neg (by simpa using hmay)
  have hcs : m.cs = .int .i64 m.part :: .int .u32 m.ver :: .int .i64 m.size :: m.sum.map fun x => .int .u8 (x.toNat : Int) := rfl
  refine cF rfl ?_
  have rdS : ∀ {w} {K : Int → Prop}, Heap F w (blk a1 T_api_Manifest m.cs :: l) → K m.size → ldT (.int .i64) w ((⟨a1, 0, none⟩ : Addr).add 2) K := fun {w K} H h => by
    rw [hcs] at H; exact lda H h
  refine rdS H ?_
  have hl' : (s.len : Int) = (bb.length : Int) := by omega
  refine dLt (fun e => ?_) (fun e => rdS H ?_)
  · rw [hl'] at e ⊢
    refine fault_New H fun v w H => ⟨_, rfl, bad v _ w ?_ H⟩
    rw [hc1, if_pos e]
  rw [if_neg (by omega)] at hc1
  refine dGt (fun e2 => rdS H ?_) (fun e2 => ?_)
  · refine fault_New H fun v w H => ⟨_, rfl, ?_⟩
    have : m.size ≠ 0 := by have := hmay.2.2.1; omega
    rw [if_neg (by decide)] at H
    refine bad v _ w ?_ H
    rw [hc1, if_pos (by omega)]
  rw [if_neg (by omega)] at hc1
  have hsz := hmay.2.2.2.1
  have h4 := hmay.2.2.2.2
  replace H := H.drew
  refine ldSum0 H hs ?_
  refine sha_Sum (s := s) (bb := bb) H (by omega) (.t hI) (.t hK) fun w H => ⟨_, rfl, ⟨by simpa [bytes] using hs, rowP H (sum_row m)⟩, ?_⟩
  refine nqArr _ _ (sum_len bb) hs ?_
  rw [bne_sum]
  by_cases hsum : Sha.sum bb = m.sum
  case neg =>
    rw [decide_eq_true hsum]
    refine cT rfl (fault_New H fun v w H => ⟨_, rfl, bad v (8, 0) w ?_ H⟩)
    rw [hc1, if_pos hsum]
  rw [decide_eq_false (by simpa using hsum)]
  rw [if_neg (by simpa using hsum)] at hc1
  refine cF rfl ?_
  refine code_Decode (s := s) (bb := bb) H (by omega) (.t hI) (by repeat (first | exact hT | apply Has.t)) fun l30 v31 w H => ⟨l30, _, rfl, ?_⟩
  have rdV : ∀ {K : Int → Prop}, K m.ver → ldT (.int .u32) w ((⟨a1, 0, none⟩ : Addr).add 1) K := fun {K} h => by
    rw [hcs] at H; exact lda H h
  refine rdV ?_
  have hv := hm.2.1
  rw [i64_id (by omega)]
  refine fault_In' H (.t .h) (by repeat (first | exact hT | apply Has.t)) fun v35 w H => ⟨_, rfl, k l30 v35 w ?_⟩
  have e1 : mchk m bb = if dcd bb = [] then [] else (fcode (dcd bb), m.ver) :: dcd bb := by
    rw [hc1]
    cases h : dcd bb with
    | nil => rfl
    | cons x t => rfl
  have e2 : (mchk m bb = []) = (dcd bb = []) := by
    rw [e1]; by_cases h : dcd bb = [] <;> simp [h]
  simp only [e2]
  rw [e1]
  replace H := H.takes (cs := [imm l30 (if dcd bb = [] then clst bb else []), Err v35 _]) (by repeat (first | assumption | constructor))
  exact Heap.kp2 2 H
theorem image_Check (H : Heap F w l) (hm : m.ok) (hI : Has l (imm s bb)) (hT : Has l ErrTy) (hK : Has l Key) (k : ∀ v w', Heap F w' (Err v (mchk m bb) :: l) → Q v w') : Does Tryd.prog N_image_Check #[.agg m.cs.toArray, .slice s.a s.len s.cap] w Q := by
  refine F_image_Check_does _ _ _ _ ?_
  unfold F_image_Check
  refine al H (cs := m.cs) (fun a1 w H => ?_) rfl
  refine ldMan0 H hm.2.2.2 ?_
  refine image_program (s := s) (bb := bb) H hm (.t hI) (by repeat (first | exact hT | apply Has.t)) (by repeat (first | exact hK | apply Has.t)) fun t v w H => ⟨_, _, rfl, k v w ?_⟩
  exact Heap.kp 1 H.tl
end
end Go.Proofs.YtlbhilhfbbocfaaDoor.G

set_option linter.unusedVariables false
set_option linter.unusedSimpArgs false
namespace Go.VC
open Go Go.RowKit
section
variable {α : Type} [Sc α] {F : Bs} {w w' : World} {l r : List SP} {e : TypeId}
/-- a slice that is made with room and nothing in it -/
theorem mk0 {P : Program} {t bytes : Nat} {d : α} (hS : SlZ P t e (Sc.enc d) bytes) (H : Heap F w l) {n : Int} (h0 : 0 ≤ n) (hb : (bytes : Int) * n ≤ 281474976710656) (hm : n ≤ maxLen) {K : Sl → World → Prop}
    (k : ∀ (b : Nat) (w' : World), Heap F w' (own e ⟨some ⟨b, 0, none⟩, 0, n.toNat⟩ ([] : List α) :: l) → K ⟨some ⟨b, 0, none⟩, 0, n.toNat⟩ w') :
    runG .sl P w (Instr.makeSlice t (.int .i64 0) (.int .i64 n)) K := by
  obtain ⟨i, z, hi, hz, hsz, hby, hzc⟩ := hS.ex
  have hr := run_make (P := P) w t e i z hS.ht hi hz .i64 .i64 0 n (by omega) (by omega) (by rw [hby]; exact hb) (by simp only [maxLen] at hm; omega)
  have e1 : madeCells z.cells (n.toNat * i.size) = ((List.replicate n.toNat d).map Sc.enc).toArray := by
    rw [hsz, Nat.mul_one, hzc]
    apply Array.ext'
    simp only [madeCells, Array.toList_map, Array.toList_range]
    apply List.ext_getElem?
    intro j
    by_cases hj : j < n.toNat
    · simp [hj, List.getElem?_range hj, Nat.mod_one]
    · simp [hj]
  rw [e1] at hr
  refine ⟨_, _, hr, ⟨some ⟨w.heap.size, 0, none⟩, 0, n.toNat⟩, rfl, ?_⟩
  refine al H (K := fun a w' => K ⟨some a, 0, n.toNat⟩ w') (fun b w' H' => k b w' ?_) rfl
  exact H'.ent1 fun ro h hb => ⟨rfl, .inr ⟨b, _, rfl, hb, Nat.zero_le _, by show n.toNat ≤ maxLen; omega, by simp [Rep.n], fun i x hi => by simp at hi⟩⟩
end
end Go.VC
namespace Nac
namespace Stg
theorem cs_length {s : Stg} (h : s.man.sum.length = 32) (t : Go.VC.Sl) : (s.cs t).length = 36 := by unfold cs; rw [List.length_append, Man.cs35 h]; rfl
theorem cs_at {s : Stg} (h : s.man.sum.length = 32) (t : Go.VC.Sl) : (s.cs t)[35]? = some t.v := by
  unfold cs; rw [List.getElem?_append_right (by rw [Man.cs35 h]; exact Nat.le_refl _), Man.cs35 h]; rfl
theorem cs_set {m : Man} {g g' : List UInt8} (h : m.sum.length = 32) (t t' : Go.VC.Sl) : (Stg.mk m g').cs t' = ((Stg.mk m g).cs t).set 35 t'.v := by
  unfold cs; rw [List.set_append_right _ _ (by rw [Man.cs35 h]; exact Nat.le_refl _), Man.cs35 h]; rfl
theorem cs_one {s : Stg} (t : Go.VC.Sl) : ∀ v ∈ (s.cs t).toArray.toList, Go.VC.oneC v = true := by
  intro v hv
  simp only [cs, Man.cs, List.mem_append, List.mem_cons, List.mem_map, List.not_mem_nil, or_false] at hv
  rcases hv with (rfl | rfl | rfl | ⟨x, _, rfl⟩) | rfl <;> rfl
end Stg
end Nac
namespace Go.Proofs.YtlbhilhfbbocfaaDoor.G
open Go Go.VC Go.RowKit Go.Proofs Go.Proofs.YtlbhilhfbbocfaaDoor Nac
attribute [local irreducible] Tryd.prog
section
variable {F : Bs} {w : World} {l r : List SP} {Q : Value → World → Prop} {s t : Sl} {is js : List Ins} {bb : List UInt8} {v : Value} {fl : List (Int × Int)} {b : Nat} {ty : TypeId} {m : Man} {g : Stg}
theorem ldStg (H : Heap F w l) {K : Array Value → Prop} (h : g.man.sum.length = 32) (k : K (g.cs t).toArray) (hT : Has l (blk b ty (g.cs t)) := by repeat (first | assumption | constructor)) : ldArr w ⟨b, 0, none⟩ 36 K := by
  refine ldArr0 H (by rw [Stg.cs_length h]; omega) ?_ hT
  rw [List.take_of_length_le (by rw [Stg.cs_length h]; omega)]; exact k
theorem stStg (H : Heap F w l) {g' : Stg} {t' : Sl} {K : World → Prop} (h : g.man.sum.length = 32) (h' : g'.man.sum.length = 32) (k : ∀ w', Heap F w' (blk b ty (g'.cs t') :: r) → K w') (hT : Take l (blk b ty (g.cs t)) r := by repeat (first | assumption | constructor)) : stArr w ⟨b, 0, none⟩ (g'.cs t').toArray 36 K :=
  stArr0 H (by simpa using Stg.cs_length h' t') (Stg.cs_length h t) (Stg.cs_one t') (fun w' H => k w' (by simpa using H)) hT
theorem image_Begin (H : Heap F w l) (hm : m.ok) (k : ∀ w', Heap F w' l → Q (.tuple #[.agg ((if m.may then (⟨m, []⟩ : Stg) else Stg.zero).cs ⟨none, 0, 0⟩).toArray, .int .i64 (if m.may then 0 else 1)]) w') : Does Tryd.prog N_image_Begin #[.agg m.cs.toArray] w Q := by
  refine F_image_Begin_does _ _ _ ?_
  unfold F_image_Begin
  have hs := hm.2.2.2
  refine al H (cs := m.cs) (fun a1 w H => ?_) rfl
  refine al H (cs := Stg.zero.cs ⟨none, 0, 0⟩) (fun a3 w H => ?_) zc_stg
  refine ldMan0 (b := a1) H hs ?_
  refine image_may H m fun w H => ⟨_, rfl, ?_⟩
  by_cases hmay : m.may
  · rw [decide_eq_true hmay]
    simp only [if_pos hmay] at k
    refine cF rfl (ldMan0 (b := a1) H hs ?_)
    refine build_stg0 (Man.cs35 hs) ?_
    refine stStg (b := a3) (g := Stg.zero) (t := ⟨none, 0, 0⟩) (g' := ⟨m, []⟩) (t' := ⟨none, 0, 0⟩) H rfl hs fun w H => ?_
    exact ldStg (b := a3) (g := ⟨m, []⟩) (t := ⟨none, 0, 0⟩) H hs (k w (Heap.tln 2 H))
  · rw [decide_eq_false hmay]
    simp only [if_neg hmay] at k
    refine cT rfl ?_
    refine stStg (b := a3) (g := Stg.zero) (t := ⟨none, 0, 0⟩) (g' := Stg.zero) (t' := ⟨none, 0, 0⟩) H rfl rfl fun w H => ?_
    exact ldStg (b := a3) (g := Stg.zero) (t := ⟨none, 0, 0⟩) H rfl (k w (Heap.tln 2 H))
theorem image_Chunk (H : Heap F w l) {x : Int} (hm : g.man.ok) (hG : Has l (imm t g.got)) (hI : Has l (imm s bb)) (k : ∀ t' w', Heap F w' (imm t' (schunk g x bb).1.got :: l) → Q (.tuple #[.agg ((schunk g x bb).1.cs t').toArray, .int .i64 (schunk g x bb).2]) w') : Does Tryd.prog N_image_Chunk #[.agg (g.cs t).toArray, .int .i64 x, .slice s.a s.len s.cap] w Q := by
  refine F_image_Chunk_does _ _ _ _ _ ?_
  unfold F_image_Chunk
  have hs := hm.2.2.2
  have hl := H.len hI
  have hg := H.len hG
  refine al H (cs := g.cs t) (fun a1 w H => ?_) rfl
  refine al H (cs := Stg.zero.cs ⟨none, 0, 0⟩) (fun a3 w H => ?_) zc_stg
  have rdG : ∀ {w : World} {r : List SP} {K : Sl → Prop}, Heap F w r → Has r (blk a1 T_api_Staging (g.cs t)) → K t → ldT .sl w ((⟨a1, 0, none⟩ : Addr).add 35) K := fun {w r K} H hT h => ldan (t := .sl) (x := t) H (Stg.cs_at hs t) h hT
  have hcs : g.cs t = .int .i64 g.man.part :: .int .u32 g.man.ver :: .int .i64 g.man.size :: ((g.man.sum.map fun x => .int .u8 (x.toNat : Int)) ++ [t.v]) := rfl
  have rdS : ∀ {w : World} {r : List SP} {K : Int → Prop}, Heap F w r → Has r (blk a1 T_api_Staging (g.cs t)) → K g.man.size → ldT (.int .i64) w ((⟨a1, 0, none⟩ : Addr).add 2) K := fun {w r K} H hT h => ldan (t := .int .i64) H (by rw [hcs]; rfl) h hT
  have zero : ∀ (c : Int) w, schunk g x bb = (Stg.zero, c) → Heap F w (blk a3 T_api_Staging (Stg.zero.cs ⟨none, 0, 0⟩) :: blk a1 T_api_Staging (g.cs t) :: l) →
      stArr w ⟨a3, 0, none⟩ (Stg.zero.cs ⟨none, 0, 0⟩).toArray 36 fun w22 => ldArr w22 ⟨a3, 0, none⟩ 36 fun c23 => Q (.tuple #[.agg c23, .int .i64 c]) w22 := fun c w hc H => by
    refine stStg (b := a3) (g := Stg.zero) (t := ⟨none, 0, 0⟩) (g' := Stg.zero) (t' := ⟨none, 0, 0⟩) H rfl rfl fun w H => ?_
    refine ldStg (b := a3) (g := Stg.zero) (t := ⟨none, 0, 0⟩) H rfl ?_
    have := k ⟨none, 0, 0⟩ w
    rw [hc] at this
    exact this (Heap.kp 2 (Heap.imm_nil H))
  refine rdG H (by repeat (first | assumption | constructor)) ?_
  intro J7 hJ7 J21 hJ21
  have arg : ∀ w, (¬ g.man.may ∨ g.man.size < g.got.length) → Heap F w (blk a3 T_api_Staging (Stg.zero.cs ⟨none, 0, 0⟩) :: blk a1 T_api_Staging (g.cs t) :: l) → J21 true w := fun w h H => by
    refine hJ21 _ _ (cT rfl (zero 1 w ?_ H))
    rw [schunk, if_pos h]
  refine ldMan (b := a1) (x := [t.v]) H hs ?_ (by repeat (first | assumption | constructor))
  refine image_may H g.man fun w H => ⟨_, rfl, ?_⟩
  by_cases hmay : g.man.may
  case neg =>
    rw [decide_eq_false hmay]
    exact cT rfl (arg w (.inl hmay) H)
  rw [decide_eq_true hmay]
  refine cF rfl (rdS H (by repeat (first | assumption | constructor)) ?_)
  by_cases h1 : g.man.size < g.got.length
  · rw [decide_eq_true (by omega)]; exact arg w (.inr h1) H
  rw [decide_eq_false (by omega)]
  have hsz := hmay.2.2.2.1
  have hc1 : schunk g x bb = if x ≠ g.got.length then (Stg.zero, 4) else if g.man.size < g.got.length + bb.length then (Stg.zero, 7) else (⟨g.man, g.got ++ bb⟩, 0) := by
    unfold schunk; exact if_neg (by simp [hmay]; omega)
  refine hJ21 _ _ (cF rfl ?_)
  refine dNe (fun h2 => zero 4 w (by rw [hc1, if_pos (by omega)]) H) (fun h2 => rdS H (by repeat (first | assumption | constructor)) ?_)
  rw [if_neg (by omega)] at hc1
  rw [i64_id (by omega)]
  refine dGt (fun h3 => zero 7 w (by rw [hc1, if_pos (by omega)]) H) (fun h3 => hJ7 _ ?_)
  rw [if_neg (by omega)] at hc1
  clear hJ7 hJ21 arg zero
  rw [hc1] at k
  rw [i64_id (by omega)]
  refine mk0 (d := (0 : UInt8)) Z_l_uint8 H (by omega) (by omega) (by simp only [maxLen]; omega) fun b w H => ?_
  refine rdG H (by repeat (first | assumption | constructor)) ?_
  refine apI (xs := []) (s := ⟨some ⟨b, 0, none⟩, 0, _⟩) (x := t) (ys := g.got) S_l_uint8 H (by simp only [List.length_nil]; omega) (fun l11 w H => ?_) .h (by repeat (first | exact hG | apply Has.t))
  rw [List.nil_append] at H
  refine apI (s := l11) (xs := g.got) (x := s) (ys := bb) S_l_uint8 H (by omega) (fun l13 w H => ?_) .h (by repeat (first | exact hI | apply Has.t))
  replace H := H.share (s := l13)
  refine stan (cs' := (Stg.mk g.man (g.got ++ bb)).cs l13) H (Stg.cs_set (g := g.got) hs t l13) (by rw [Stg.cs_length hs]; decide) (fun w H => ?_) (by repeat (first | assumption | constructor))
  refine ldStg (b := a1) (g := ⟨g.man, g.got ++ bb⟩) (t := l13) H hs ?_
  refine stStg (b := a3) (g := Stg.zero) (t := ⟨none, 0, 0⟩) (g' := ⟨g.man, g.got ++ bb⟩) (t' := l13) H rfl hs (fun w H => ?_) (by repeat (first | assumption | constructor))
  refine ldStg (b := a3) (g := ⟨g.man, g.got ++ bb⟩) (t := l13) H hs (k l13 w ?_)
  replace H := H.takes (cs := [imm l13 (g.got ++ bb)]) (by repeat (first | assumption | constructor))
  exact Heap.kp 2 H
theorem image_Finish (H : Heap F w l) (hm : g.man.ok) (hG : Has l (imm t g.got)) (hT : Has l ErrTy) (hK : Has l Key) (k : ∀ t v w', Heap F w' (imm t (if mchk g.man g.got = [] then clst g.got else []) :: Err v (mchk g.man g.got) :: l) → Q (.tuple #[.slice t.a t.len t.cap, v]) w') : Does Tryd.prog N_image_Finish #[.agg (g.cs t).toArray] w Q := by
  refine F_image_Finish_does _ _ _ ?_
  unfold F_image_Finish
  have hs := hm.2.2.2
  refine al H (cs := g.cs t) (fun a1 w H => ?_) rfl
  refine ldMan (b := a1) (x := [t.v]) H hs ?_ (by repeat (first | assumption | constructor))
  refine ldan (t := .sl) (x := t) H (Stg.cs_at hs t) ?_ (by repeat (first | assumption | constructor))
  refine image_program (s := t) (bb := g.got) H hm (.t hG) (by repeat (first | exact hT | apply Has.t)) (by repeat (first | exact hK | apply Has.t)) fun t v w H => ⟨_, _, rfl, k t v w ?_⟩
  exact Heap.kp2 1 H
end
end Go.Proofs.YtlbhilhfbbocfaaDoor.G

set_option linter.unusedVariables false
set_option linter.unusedSimpArgs false
namespace Go.VC
open Go Go.RowKit
section
variable {P : Program} {w : World} {xs ys : Array Value} {f : Field} {fs : List Field} {d : Nat} {q : Bool}
theorem eqf_int {k : IntKind} {a b : Int} (hn : (f.name == "_") = false) (hg : isAgg? P f.type = some false) (hu : P.underlying f.type = some (.int k)) (hx : xs[f.offset]? = some (.int k a)) (hy : ys[f.offset]? = some (.int k b)) (rest : (Op.eqFields (d + 2) xs ys fs).run P w = .ok q w) :
    (Op.eqFields (d + 2) xs ys (f :: fs)).run P w = .ok (cond (a == b) q false) w := by
  have hn' : f.name ≠ "_" := by simpa using hn
  simp only [Op.eqFields, if_pos hn', Sem.run_bind]
  rw [run_part hg hx, Result.andThen_ok, run_part hg hy, Result.andThen_ok]
  rw [run_equalIn_int w (d + 1) f.type k k a b hu, Result.andThen_ok]
  cases a == b
  · rfl
  · simp only [Bool.not_true, Bool.false_eq_true, if_false]; exact rest
theorem run_partA {t n o : Nat} {cs : Array Value} (ha : isAgg? P t = some true) (hs : sizeOf? P t = some n) : (part t cs o).run P w = .ok (.agg (cs.extract o (o + n))) w := by
  simp [part, run_isAgg? ha, run_sizeOf? hs]
theorem eqf_bytes {n e o : Nat} {x y : List UInt8} (hn : (f.name == "_") = false) (hg : isAgg? P f.type = some true) (hz : sizeOf? P f.type = some n) (ht : P.underlying f.type = some (.array n e)) (he : P.underlying e = some (.int .u8)) (hsz : ∀ w, (sizeOf e).run P w = .ok 1 w)
    (ho : f.offset = o) (hx : xs.extract o (o + n) = (x.map fun c => Value.int .u8 (c.toNat : Int)).toArray) (hy : ys.extract o (o + n) = (y.map fun c => Value.int .u8 (c.toNat : Int)).toArray) (lx : x.length = n) (ly : y.length = n) (rest : (Op.eqFields (d + 2) xs ys fs).run P w = .ok q w) :
    (Op.eqFields (d + 2) xs ys (f :: fs)).run P w = .ok (cond (x == y) q false) w := by
  have hn' : f.name ≠ "_" := by simpa using hn
  simp only [Op.eqFields, if_pos hn', Sem.run_bind, ho]
  rw [run_partA hg hz, Result.andThen_ok, run_partA hg hz, Result.andThen_ok, hx, hy]
  rw [show (Op.equalIn (d + 2) f.type (.agg (x.map fun c => Value.int .u8 (c.toNat : Int)).toArray) (.agg (y.map fun c => Value.int .u8 (c.toNat : Int)).toArray)).run P w = .ok (x == y) w from run_equalIn_bytes w d f.type e n ht he hsz x y lx ly, Result.andThen_ok]
  cases x == y
  · rfl
  · simp only [Bool.not_true, Bool.false_eq_true, if_false]; exact rest
end
end Go.VC
namespace Go.Proofs.YtlbhilhfbbocfaaDoor.G
open Go Go.VC Go.RowKit Go.Proofs Go.Proofs.YtlbhilhfbbocfaaDoor Nac
theorem flatM : FlatT Tryd.prog T_api_Manifest := ⟨by kernel_rfl, by kernel_rfl, by kernel_rfl⟩
theorem size8 : ∀ w, (sizeOf 5).run Tryd.prog w = .ok 1 w := fun w => by
  have : (Tryd.prog.info? 5).map (·.size) = some 1 := by kernel_rfl
  cases h : Tryd.prog.info? 5 with
  | none => simp [h] at this
  | some i => simp [h] at this; simp [sizeOf, typeInfo, h, this]
theorem man_ext {m : Man} (h : m.sum.length = 32) : m.cs.toArray.extract 3 (3 + 32) = (m.sum.map fun c => Value.int .u8 (c.toNat : Int)).toArray := by
  have e := Man.cs_drop h (r := [])
  rw [List.append_nil] at e
  rw [← e]
  simp [List.extract_toArray, List.extract_eq_take_drop]
theorem eqf_nil {P : Program} {w : World} {xs ys : Array Value} {d : Nat} : (Op.eqFields (d + 2) xs ys []).run P w = .ok true w := rfl
theorem eqMan_fields {w : World} {m n : Man} (d : Nat) (hm : m.sum.length = 32) (hn : n.sum.length = 32) : (Op.eqFields (d + 2) m.cs.toArray n.cs.toArray [((Tryd.prog.fieldsOf T_api_Manifest)[0]!), ((Tryd.prog.fieldsOf T_api_Manifest)[1]!), ((Tryd.prog.fieldsOf T_api_Manifest)[2]!), ((Tryd.prog.fieldsOf T_api_Manifest)[3]!)]).run Tryd.prog w = .ok (decide (m = n)) w := by
  have e3 := eqf_bytes (P := Tryd.prog) (w := w) (f := ((Tryd.prog.fieldsOf T_api_Manifest)[3]!)) (fs := []) (d := d) (q := true) (n := 32) (e := 5) (xs := m.cs.toArray) (ys := n.cs.toArray) (x := m.sum) (y := n.sum) (by kernel_rfl) (by kernel_rfl) (by kernel_rfl) (by kernel_rfl) (by kernel_rfl) size8 (o := 3) (by kernel_rfl) (man_ext hm) (man_ext hn) hm hn eqf_nil
  have e2 := eqf_int (P := Tryd.prog) (w := w) (f := ((Tryd.prog.fieldsOf T_api_Manifest)[2]!)) (d := d) (k := .i64) (a := m.size) (b := n.size) (xs := m.cs.toArray) (ys := n.cs.toArray) (by kernel_rfl) (by kernel_rfl) (by kernel_rfl) (by kernel_rfl) (by kernel_rfl) e3
  have e1 := eqf_int (P := Tryd.prog) (w := w) (f := ((Tryd.prog.fieldsOf T_api_Manifest)[1]!)) (d := d) (k := .u32) (a := m.ver) (b := n.ver) (xs := m.cs.toArray) (ys := n.cs.toArray) (by kernel_rfl) (by kernel_rfl) (by kernel_rfl) (by kernel_rfl) (by kernel_rfl) e2
  have e0 := eqf_int (P := Tryd.prog) (w := w) (f := ((Tryd.prog.fieldsOf T_api_Manifest)[0]!)) (d := d) (k := .i64) (a := m.part) (b := n.part) (xs := m.cs.toArray) (ys := n.cs.toArray) (by kernel_rfl) (by kernel_rfl) (by kernel_rfl) (by kernel_rfl) (by kernel_rfl) e1
  clear e1 e2 e3
  rw [e0]
  clear e0
  congr 1
  obtain ⟨a1, a2, a3, a4⟩ := m
  obtain ⟨b1, b2, b3, b4⟩ := n
  simp only [Man.mk.injEq]
  by_cases h1 : a1 = b1 <;> by_cases h2 : a2 = b2 <;> by_cases h3 : a3 = b3 <;> by_cases h4 : a4 = b4 <;> simp [h1, h2, h3, h4]
theorem eqMan_run {w : World} {m n : Man} (hm : m.sum.length = 32) (hn : n.sum.length = 32) : (Op.equalIn 10000 T_api_Manifest (.agg m.cs.toArray) (.agg n.cs.toArray)).run Tryd.prog w = .ok (decide (m = n)) w := by
  refine (run_equalIn_struct w 9999 T_api_Manifest _ _ flatM.ht flatM.hp).trans ?_
  rw [show (Tryd.prog.fieldsOf T_api_Manifest).toList = [((Tryd.prog.fieldsOf T_api_Manifest)[0]!), ((Tryd.prog.fieldsOf T_api_Manifest)[1]!), ((Tryd.prog.fieldsOf T_api_Manifest)[2]!), ((Tryd.prog.fieldsOf T_api_Manifest)[3]!)] by kernel_rfl]
  exact eqMan_fields 9997 hm hn
theorem man_eql {w : World} {m n : Man} (hm : m.sum.length = 32) (hn : n.sum.length = 32) {x y : Operand} {K : Bool → World → Prop} (k : K (decide (m = n)) w) :
    runG (.bool) Tryd.prog w (do eqGuard .eql T_api_Manifest x y (.agg m.cs.toArray) (.agg n.cs.toArray); binOp .eql T_api_Manifest (.agg m.cs.toArray) (.agg n.cs.toArray)) K := by
  refine ⟨.bool (decide (m = n)), w, ?_, _, rfl, k⟩
  rw [Sem.run_bind, run_eqGuard_agg w .eql T_api_Manifest x y _ _ flatM.hm, Result.andThen_ok, run_eql_struct, eqMan_run hm hn]
  rfl
theorem man_neq {w : World} {m n : Man} (hm : m.sum.length = 32) (hn : n.sum.length = 32) {x y : Operand} {K : Bool → World → Prop} (k : K (!decide (m = n)) w) :
    runG (.bool) Tryd.prog w (do eqGuard .neq T_api_Manifest x y (.agg m.cs.toArray) (.agg n.cs.toArray); binOp .neq T_api_Manifest (.agg m.cs.toArray) (.agg n.cs.toArray)) K := by
  refine ⟨.bool (!decide (m = n)), w, ?_, _, rfl, k⟩
  rw [Sem.run_bind, run_eqGuard_agg w .neq T_api_Manifest x y _ _ flatM.hm, Result.andThen_ok, run_neq_struct, eqMan_run hm hn]
  rfl
end Go.Proofs.YtlbhilhfbbocfaaDoor.G

set_option linter.unusedVariables false
set_option linter.unusedSimpArgs false
namespace Nac
theorem mchk_zero {m : Man} {b : List UInt8} : mchk m b ≠ [] → (mchk m b).map (·.1) ≠ [] := by simp
end Nac
namespace Go.Proofs.YtlbhilhfbbocfaaDoor.G
open Go Go.VC Go.RowKit Go.Proofs Go.Proofs.YtlbhilhfbbocfaaDoor Nac
attribute [local irreducible] Tryd.prog
section
variable {F : Bs} {w : World} {l r : List SP} {Q : Value → World → Prop} {s t : Sl} {is js : List Ins} {bb : List UInt8} {v : Value} {fl : List (Int × Int)} {b : Nat} {ty : TypeId} {m : Man} {g : Stg}
theorem ref19_Check (H : Heap F w l) (hm : m.ok) (hI : Has l (imm s bb)) (k : ∀ t w', Heap F w' (imm t ((mchk m bb).map (·.2)) :: l) → Q (.tuple #[.int .i64 (fcode (mchk m bb)), .slice t.a t.len t.cap]) w') : Does Tryd.prog N_ref19_Check #[.agg m.cs.toArray, .slice s.a s.len s.cap] w Q := by
  refine F_ref19_Check_does _ _ _ _ ?_
  unfold F_ref19_Check
  have hs := hm.2.2.2
  have hl := H.len hI
  refine al H (cs := m.cs) (fun a1 w H => ?_) rfl
  refine ldMan0 H hs ?_
  refine ref19_May H m fun w H => ⟨_, rfl, ?_⟩
  have bad : ∀ (a : Nat) (c x : Int) w, mchk m bb = [(c, x)] → Heap F w (blk a T_int [.int .i64 x] :: blk a1 T_api_Manifest m.cs :: l) → Q (.tuple #[.int .i64 c, .slice (some ⟨a, 0, none⟩) 1 1]) w := fun a c x w h H => by
    have := k ⟨some ⟨a, 0, none⟩, 1, 1⟩ w
    rw [h] at this
    refine this ?_
    replace H := (H.blk_own (n := 1) ([x] : List Int) rfl (by simp [maxLen]) rfl).share
    exact Heap.kp 1 H
  by_cases hmay : m.may
  case neg =>
    rw [decide_eq_false hmay]
    refine cT rfl (al H (cs := [.int .i64 0]) (fun a w H => bad a 1 0 w ?_ H) rfl)
    rw [mchk, if_pos hmay]
  rw [decide_eq_true hmay]
  have hc1 : mchk m bb = if (bb.length : Int) < m.size then [(2, (bb.length : Int))] else if (bb.length : Int) > m.size then [(7, m.size)] else if ¬ (Sha.sum bb = m.sum) then [(8, 0)]
    else match dcd bb with
    | [] => []
    | x :: t => (x.1, m.ver) :: x :: t := by unfold mchk; exact if_neg (by simpa using hmay)
  have hcs : m.cs = .int .i64 m.part :: .int .u32 m.ver :: .int .i64 m.size :: m.sum.map fun x => .int .u8 (x.toNat : Int) := rfl
  refine cF rfl ?_
  have rdS : ∀ {w} {K : Int → Prop}, Heap F w (blk a1 T_api_Manifest m.cs :: l) → K m.size → ldT (.int .i64) w ((⟨a1, 0, none⟩ : Addr).add 2) K := fun {w K} H h => by
    rw [hcs] at H; exact lda H h
  refine rdS H ?_
  have hl' : (s.len : Int) = (bb.length : Int) := by omega
  refine dLt (fun e => ?_) (fun e => rdS H ?_)
  · rw [hl'] at e ⊢
    refine al H (cs := [.int .i64 (bb.length : Int)]) (fun a w H => bad a 2 _ w ?_ H) rfl
    rw [hc1, if_pos e]
  rw [if_neg (by omega)] at hc1
  refine dGt (fun e2 => ?_) (fun e2 => ?_)
  · replace H := H.drew
    refine rdS H (al H (cs := [.int .i64 m.size]) (fun a w H => bad a 7 _ w ?_ H) rfl)
    rw [hc1, if_pos (by omega)]
  rw [if_neg (by omega)] at hc1
  have hsz := hmay.2.2.2.1
  have h4 := hmay.2.2.2.2
  replace H := H.drew
  refine ldSum0 H hs ?_
  refine ref04_Sum (s := s) (bb := bb) H (by omega) (.t hI) fun w H => ⟨_, rfl, ⟨by simpa [bytes] using hs, rowP H (sum_row m)⟩, ?_⟩
  refine nqArr _ _ (sum_len bb) hs ?_
  rw [bne_sum]
  by_cases hsum : Sha.sum bb = m.sum
  case neg =>
    rw [decide_eq_true hsum]
    refine cT rfl (al H (cs := [.int .i64 0]) (fun a w H => bad a 8 0 w ?_ H) rfl)
    rw [hc1, if_pos hsum]
  rw [decide_eq_false (by simpa using hsum)]
  rw [if_neg (by simpa using hsum)] at hc1
  refine cF rfl ?_
  refine ref07_List (s := s) (bb := bb) H (by omega) (.t hI) fun l26 w H => ⟨_, rfl, ?_⟩
  replace H := H.share
  refine ref07_Check (s := l26) (is := clst bb) H .h fun w H => ⟨_, _, rfl, ?_⟩
  have hd : dcd bb = if (cchk (clst bb)).1 = 0 then [] else [((cchk (clst bb)).1, 4 * (cchk (clst bb)).2), cchk (clst bb)] := if_neg (by omega)
  have hr := cchk_rng (clst bb)
  refine dNe (fun h0 => ?_) (fun h0 => ?_)
  · rw [if_neg h0] at hd
    rw [hd] at hc1
    replace H := H.drew
    have rdV : ∀ {w : World} {r : List SP} {K : Int → Prop}, Heap F w r → Has r (blk a1 T_api_Manifest m.cs) → K m.ver → ldT (.int .u32) w ((⟨a1, 0, none⟩ : Addr).add 1) K := fun {w r K} H hT h => ldan (t := .int .u32) H (by rw [hcs]; rfl) h hT
    refine rdV H (by repeat (first | assumption | constructor)) ?_
    have hv := hm.2.1
    rw [i64_id (by omega), i64_id (by omega)]
    refine al H (cs := [.int .i64 m.ver, .int .i64 (4 * (cchk (clst bb)).2), .int .i64 (cchk (clst bb)).2]) (fun a w H => ?_) rfl
    have := k ⟨some ⟨a, 0, none⟩, 3, 3⟩ w
    rw [hc1] at this
    refine this ?_
    replace H := (H.blk_own (n := 3) ([m.ver, 4 * (cchk (clst bb)).2, (cchk (clst bb)).2] : List Int) rfl (by simp [maxLen]) rfl).share
    exact Heap.kp 2 H
  · rw [if_pos h0] at hd
    rw [hd] at hc1
    have := k ⟨none, 0, 0⟩ w
    rw [hc1] at this
    exact this (Heap.kp 2 (Heap.imm_nil H))
theorem row0 {F : Bs} {w : World} {l : List SP} {b : Nat} {ty : TypeId} {cs : List Value} {c : Array Value} (H : Heap F w l) (h : ∀ (j : Nat) v, c[j]? = some v → cs[j]? = some v) (hT : Has l (blk b ty cs)) : RowIs w ⟨b, 0, none⟩ c := fun j v hj => by
  rw [add_mk, Nat.zero_add]; exact H.cell hT (h j v hj)
theorem man_row {m : Man} {x : List Value} (j : Nat) (v : Value) (h : m.cs.toArray[j]? = some v) : (m.cs ++ x)[j]? = some v := by
  have h' : m.cs[j]? = some v := by simpa using h
  rw [List.getElem?_append_left (List.getElem?_eq_some_iff.1 h').1]; exact h'
theorem ref19_Chunk (H : Heap F w l) {x : Int} (hm : g.man.ok) (hG : Has l (imm t g.got)) (hI : Has l (imm s bb)) (hgl : g.got.length ≤ 1000000) (hbl : bb.length ≤ 1000000) (k : ∀ t' w', Heap F w' (imm t' (schunk g x bb).1.got :: l) → Q (.tuple #[.agg ((schunk g x bb).1.cs t').toArray, .int .i64 (schunk g x bb).2]) w') : Does Tryd.prog N_ref19_Chunk #[.agg (g.cs t).toArray, .int .i64 x, .slice s.a s.len s.cap] w Q := by
  refine F_ref19_Chunk_does _ _ _ _ _ ?_
  unfold F_ref19_Chunk
  have hs := hm.2.2.2
  have hl := H.len hI
  have hg := H.len hG
  refine al H (cs := g.cs t) (fun a1 w H => ?_) rfl
  refine al H (cs := Stg.zero.cs ⟨none, 0, 0⟩) (fun a3 w H => ?_) zc_stg
  have rdG : ∀ {w : World} {r : List SP} {K : Sl → Prop}, Heap F w r → Has r (blk a1 T_api_Staging (g.cs t)) → K t → ldT .sl w ((⟨a1, 0, none⟩ : Addr).add 35) K := fun {w r K} H hT h => ldan (t := .sl) (x := t) H (Stg.cs_at hs t) h hT
  have hcs : g.cs t = .int .i64 g.man.part :: .int .u32 g.man.ver :: .int .i64 g.man.size :: ((g.man.sum.map fun x => .int .u8 (x.toNat : Int)) ++ [t.v]) := rfl
  have rdS : ∀ {w : World} {r : List SP} {K : Int → Prop}, Heap F w r → Has r (blk a1 T_api_Staging (g.cs t)) → K g.man.size → ldT (.int .i64) w ((⟨a1, 0, none⟩ : Addr).add 2) K := fun {w r K} H hT h => ldan (t := .int .i64) H (by rw [hcs]; rfl) h hT
  have rowG : ∀ {w : World} {r : List SP}, Heap F w r → Has r (blk a1 T_api_Staging (g.cs t)) → g.man.cs.toArray.size = 35 ∧ RowIs w ⟨a1, 0, none⟩ g.man.cs.toArray := fun {w r} H hT => ⟨by simpa using Man.cs35 hs, row0 H man_row hT⟩
  have zero : ∀ (c : Int) w, schunk g x bb = (Stg.zero, c) → Heap F w (blk a3 T_api_Staging (Stg.zero.cs ⟨none, 0, 0⟩) :: blk a1 T_api_Staging (g.cs t) :: l) →
      stArr w ⟨a3, 0, none⟩ (Stg.zero.cs ⟨none, 0, 0⟩).toArray 36 fun w22 => ldArr w22 ⟨a3, 0, none⟩ 36 fun c23 => Q (.tuple #[.agg c23, .int .i64 c]) w22 := fun c w hc H => by
    refine stStg (b := a3) (g := Stg.zero) (t := ⟨none, 0, 0⟩) (g' := Stg.zero) (t' := ⟨none, 0, 0⟩) H rfl rfl fun w H => ?_
    refine ldStg (b := a3) (g := Stg.zero) (t := ⟨none, 0, 0⟩) H rfl ?_
    have := k ⟨none, 0, 0⟩ w
    rw [hc] at this
    exact this (Heap.kp 2 (Heap.imm_nil H))
  intro J6 hJ6 J27 hJ27
  have arg : ∀ w, (¬ g.man.may ∨ g.man.size < g.got.length) → Heap F w (blk a3 T_api_Staging (Stg.zero.cs ⟨none, 0, 0⟩) :: blk a1 T_api_Staging (g.cs t) :: l) → J27 true w := fun w h H => by
    refine hJ27 _ _ (cT rfl (zero 1 w ?_ H))
    rw [schunk, if_pos h]
  refine ldMan (b := a1) (x := [t.v]) H hs ?_ (by repeat (first | assumption | constructor))
  refine ref19_May H g.man fun w H => ⟨_, rfl, ?_⟩
  by_cases hmay : g.man.may
  case neg =>
    rw [decide_eq_false hmay]
    exact cT rfl (arg w (.inl hmay) H)
  rw [decide_eq_true hmay]
  refine cF rfl (rdG H (by repeat (first | assumption | constructor)) (rdS H (by repeat (first | assumption | constructor)) ?_))
  by_cases h1 : g.man.size < g.got.length
  · rw [decide_eq_true (by omega)]; exact arg w (.inr h1) H
  rw [decide_eq_false (by omega)]
  have hsz := hmay.2.2.2.1
  have hc1 : schunk g x bb = if x ≠ g.got.length then (Stg.zero, 4) else if g.man.size < g.got.length + bb.length then (Stg.zero, 7) else (⟨g.man, g.got ++ bb⟩, 0) := by
    unfold schunk; exact if_neg (by simp [hmay]; omega)
  refine hJ27 _ _ (cF rfl (hJ6 _ (rdG H (by repeat (first | assumption | constructor)) ?_)))
  refine dNe (fun h2 => zero 4 w (by rw [hc1, if_pos (by omega)]) H) (fun h2 => rdG H (by repeat (first | assumption | constructor)) (rdS H (by repeat (first | assumption | constructor)) ?_))
  rw [if_neg (by omega)] at hc1
  rw [i64_id (by omega)]
  refine dGt (fun h3 => zero 7 w (by rw [hc1, if_pos (by omega)]) H) (fun h3 => ?_)
  rw [if_neg (by omega)] at hc1
  clear hJ6 hJ27 arg zero
  rw [hc1] at k
  replace H := H.drew
  refine ldMan (b := a1) (x := [t.v]) H hs ?_ (by repeat (first | assumption | constructor))
  refine rdG H (by repeat (first | assumption | constructor)) ?_
  refine al H (cs := []) (fun b w H => ⟨H.cell (hT := (by repeat (first | assumption | constructor))) (o := 35) (Stg.cs_at hs t), rowG H (by repeat (first | assumption | constructor)), ?_⟩) rfl
  replace H := Heap.blk_own0 (α := UInt8) H
  refine apI (xs := []) (s := ⟨some ⟨b, 0, none⟩, 0, 0⟩) (x := t) (ys := g.got) S_l_uint8 H (by simp only [List.length_nil]; omega) (fun l11 w H => ⟨rowG H (by repeat (first | assumption | constructor)), ?_⟩) .h (by repeat (first | exact hG | apply Has.t))
  rw [List.nil_append] at H
  refine apI (s := l11) (xs := g.got) (x := s) (ys := bb) S_l_uint8 H (by omega) (fun l13 w H => ⟨rowG H (by repeat (first | assumption | constructor)), ?_⟩) .h (by repeat (first | exact hI | apply Has.t))
  replace H := H.share (s := l13)
  refine build_stg (Man.cs35 hs) ?_
  refine stStg (b := a3) (g := Stg.zero) (t := ⟨none, 0, 0⟩) (g' := ⟨g.man, g.got ++ bb⟩) (t' := l13) H rfl hs (fun w H => ?_) (by repeat (first | assumption | constructor))
  refine ldStg (b := a3) (g := ⟨g.man, g.got ++ bb⟩) (t := l13) H hs (k l13 w ?_)
  replace H := H.takes (cs := [imm l13 (g.got ++ bb)]) (by repeat (first | assumption | constructor))
  exact Heap.kp 2 H
end
end Go.Proofs.YtlbhilhfbbocfaaDoor.G
