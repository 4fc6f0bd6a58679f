import Derived.Test.YtaaegmmcnfeiaaaDoorSb
import Derived.Laws.IdiomStrings
import Derived.Lib.ConvBytes
import Derived.Laws.MakeOwn
set_option linter.unusedVariables false
set_option linter.unusedSimpArgs false
namespace Go.VC
open Go Go.RowKit
/-! ### Chunks with something hidden -/
def SP.of {α : Type} (f : α → List SP) : SP := ⟨fun ro h => ∃ x, sep (f x) ro h, fun hr hh ⟨x, hx⟩ => ⟨x, hx.mono hr hh⟩⟩
def pur (φ : Prop) : SP := ⟨fun _ _ => φ, fun _ _ h => h⟩
section
variable {F : Bs} {w w' : World} {l l' r cs : List SP} {c c' : SP} {φ : Prop}
theorem Heap.opn {α : Type} {f : α → List SP} (H : Heap F w (SP.of f :: l)) : ∃ x, Heap F w (f x ++ l) := H.ex fun _ _ h => h
theorem Heap.pur (H : Heap F w (pur φ :: l)) : φ ∧ Heap F w l := ⟨H.pure .h fun _ _ h => h, H.tl⟩
theorem Heap.addp (H : Heap F w l) (h : φ) : Heap F w (Go.VC.pur φ :: l) := H.add0 fun _ => h
theorem sep.split : ∀ {a b : List SP} {ro h : PH}, sep (a ++ b) ro h → ∃ h1 h2, PH.disj h1 h2 ∧ PH.le h1 h ∧ PH.le h2 h ∧ sep a ro h1 ∧ sep b ro h2
  | [], b, ro, h, hs => ⟨PH.emp, h, fun _ => .inl rfl, PH.emp_le _, PH.le.refl _, trivial, hs⟩
  | c :: a, b, ro, h, ⟨h1, h2, d, l1, l2, hc, hs⟩ => by
    obtain ⟨h3, h4, d', l3, l4, ha, hb⟩ := sep.split hs
    refine ⟨PH.join h1 h3, h4, PH.disj_join (d.sub (PH.le.refl _) l4) d', PH.join_le l1 (l3.trans l2), l4.trans l2, ⟨h1, h3, d.sub (PH.le.refl _) l3, PH.le_join_left _ _, PH.le_join_right (d.sub (PH.le.refl _) l3), hc, ha⟩, hb⟩
theorem Heap.cls {α : Type} {f : α → List SP} (H : Heap F w l) (x : α) (hT : Takes l (f x) r := by repeat (first | assumption | constructor)) : Heap F w (SP.of f :: r) :=
  H.imp fun ro h hs => by
    obtain ⟨h1, h2, d, l1, l2, ha, hb⟩ := sep.split (sep.takes hT hs)
    exact ⟨h1, h2, d, l1, l2, ⟨x, ha⟩, hb⟩
theorem Heap.dup (H : Heap F w l) (hT : Has l c) (hc : ∀ {ro h}, c.p ro h → c.p ro PH.emp) : Heap F w (c :: l) := H.add hT fun _ _ h => hc h
end
theorem nn {b o : Nat} {K : Addr → Prop} (k : K ⟨b, o, none⟩) : nnil (some ⟨b, o, none⟩) K := ⟨_, rfl, k⟩
theorem nns {a : Addr} {K : Addr → Prop} (k : K a) : nnil (some a) K := ⟨_, rfl, k⟩

/-! ### Rows of the call's own: made, written -/
/-- a slice type whose elements are of one cell, and its zero -/
structure SlZ (P : Program) (t e : TypeId) (v : Value) (bytes : Nat) : Prop where
  ht : P.underlying t = some (.slice e)
  info : (P.info? e).map (fun i => (i.zero.map (·.cells), i.size, i.bytes)) = some (some #[v], 1, bytes)
theorem SlZ.ex {P : Program} {t e bytes : Nat} {v : Value} (h : SlZ P t e v bytes) : ∃ i z, P.info? e = some i ∧ i.zero = some z ∧ i.size = 1 ∧ i.bytes = bytes ∧ z.cells = #[v] := by
  have := h.info
  cases hi : P.info? e with
  | none => simp [hi] at this
  | some i =>
    simp only [hi, Option.map_some, Option.some.injEq, Prod.mk.injEq] at this
    obtain ⟨h1, h2, h3⟩ := this
    cases hz : i.zero with
    | none => simp [hz] at h1
    | some z => simp [hz] at h1; exact ⟨i, z, rfl, hz, h2, h3, h1⟩
section
variable {α : Type} [Sc α] {F : Bs} {w w' : World} {l l' r : List SP} {s : Sl} {xs : List α} {e : TypeId}
theorem own_of_row {b n : Nat} {ro h : PH} {cs : List Value} {xs : List α} (hb : h b = some (.cells cs.toArray e (0, 0))) (hx : cs = xs.map Sc.enc) (hm : xs.length ≤ maxLen) (hn : xs.length = n) : (own e ⟨some ⟨b, 0, none⟩, n, n⟩ xs).p ro h := by
  subst hx; subst hn
  exact ⟨rfl, .inr ⟨b, _, rfl, hb, Nat.le_refl _, hm, by simp [Rep.n], fun i x hi => ⟨[Sc.enc x], rfl, fun j u hj => by
    cases j with
    | zero => simp at hj; subst hj; simp [Rep.n, hi]
    | succ j => simp at hj⟩⟩⟩
/-- a block as a slice of the call's own -/
theorem Heap.blk_own {b n : Nat} {cs : List Value} (H : Heap F w l) (xs : List α) (hx : cs = xs.map Sc.enc) (hm : xs.length ≤ maxLen) (hn : xs.length = n) (hT : Take l (blk b e cs) r := by repeat (first | assumption | constructor)) : Heap F w (own e ⟨some ⟨b, 0, none⟩, n, n⟩ xs :: r) :=
  (H.take hT).ent1 fun ro h hb => own_of_row hb hx hm hn
theorem mk {P : Program} {t bytes : Nat} {d : α} (hS : SlZ P t e (Sc.enc d) bytes) (H : Heap F w l) {n : Int} (h0 : 0 ≤ n) (hb : (bytes : Int) * n ≤ 281474976710656) (hm : n ≤ maxLen) {K : Sl → World → Prop}
    (k : ∀ (b : Nat) (w' : World), Heap F w' (blk b e ((List.replicate n.toNat d).map Sc.enc) :: l) → K ⟨some ⟨b, 0, none⟩, n.toNat, n.toNat⟩ w') :
    runG .sl P w (Instr.makeSlice t (.int .i64 n) (.int .i64 n)) K := by
  obtain ⟨i, z, hi, hz, hsz, hby, hzc⟩ := hS.ex
  have hr := run_make (P := P) w t e i z hS.ht hi hz .i64 .i64 n n h0 (by omega) (by rw [hby]; exact hb) (by simp only [maxLen] at hm; omega)
  have e1 : madeCells z.cells (n.toNat * i.size) = ((List.replicate n.toNat d).map Sc.enc).toArray := by
    rw [hsz, Nat.mul_one, hzc]
    apply Array.ext'
    simp only [madeCells, Array.toList_map, Array.toList_range]
    apply List.ext_getElem?
    intro j
    by_cases hj : j < n.toNat
    · simp [hj, List.getElem?_range hj, Nat.mod_one]
    · simp [hj]
  rw [e1] at hr
  refine ⟨_, _, hr, ⟨some ⟨w.heap.size, 0, none⟩, n.toNat, n.toNat⟩, rfl, ?_⟩
  exact al H (K := fun a w' => K ⟨some a, n.toNat, n.toNat⟩ w') (fun b w' H' => k b w' H') rfl
/-- an element's place in a row of the call's own -/
theorem idxW (H : Heap F w l) {i : Int} (h0 : 0 ≤ i) (h1 : i < xs.length) {K : Addr → Prop} (k : ∀ g, s.a = some ⟨g, 0, none⟩ → K ⟨g, i.toNat, none⟩) (hT : Has l (own e s xs) := by repeat (first | assumption | constructor)) : idx s.a s.len i 1 K := by
  have hl := H.lenO hT
  obtain ⟨ro, g, _, _, hc⟩ := H.get hT
  refine ⟨h0, by omega, ?_⟩
  rcases hc.2 with h4 | ⟨g, cur, ha, _⟩
  · rw [h4] at hl; simp at hl; subst hl; simp at h1; omega
  · exact ⟨_, ha, by simp only [add_mk, Nat.zero_add, Nat.mul_one]; exact k g ha⟩
theorem stO (H : Heap F w l) {g i : Nat} (hs : s.a = some ⟨g, 0, none⟩) (hi : i < xs.length) {v : Value} {K : World → Prop} (x : α) (hv : v = Sc.enc x) (k : ∀ w', Heap F w' (own e s (xs.set i x) :: r) → K w') (hT : Take l (own e s xs) r := by repeat (first | assumption | constructor)) : stC w ⟨g, i, none⟩ v K := by
  subst hv
  have hl := H.lenO hT.has
  obtain ⟨ro, gg, _, hg, hc⟩ := H.get hT.has
  rcases hc.2 with h4 | ⟨g', cur, ha, hb, hle, hm, hsz, hx⟩
  · rw [h4] at hs; cases hs
  rw [hs] at ha
  obtain rfl : g = g' := by simpa using ha
  have hgb : w.heap[g]? = some (.cells cur e (0, 0)) := hg _ _ hb
  have hlt : i < cur.size := by simp only [Rep.n, Nat.mul_one] at hsz; omega
  refine ⟨Sc.one x, by rw [cell_of_row w g _ cur e (0, 0) hgb]; simp [hlt], frozen_of_row w g i cur e hgb, k _ ?_⟩
  refine (H.take hT).upd rfl rfl rfl fun ro h1 _ hle1 _ hc1 => ?_
  obtain ⟨k1, k2⟩ := hc1
  rcases k2 with h4 | ⟨g', cur', ha', hb', hle', hm', hsz', hx'⟩
  · rw [h4] at hs; cases hs
  rw [hs] at ha'
  obtain rfl : g = g' := by simpa using ha'
  have : cur' = cur := by have := hle1 _ _ hb'; rw [show PH.of w g = some (.cells cur e (0, 0)) from hgb] at this; simpa using this.symm
  subst this
  refine ⟨PH.one g (.cells (cur'.setIfInBounds i (Sc.enc x)) e (0, 0)), ⟨by simpa using k1, .inr ⟨g, cur'.setIfInBounds i (Sc.enc x), hs, by simp [PH.one], hle', hm', by simpa using hsz', fun j y hj => ?_⟩⟩, fun j o hj => ?_, fun j hj => ?_, fun j hj hn => ?_⟩
  · refine ⟨[Sc.enc y], rfl, fun m u hm => ?_⟩
    cases m with
    | succ m => simp at hm
    | zero =>
      simp only [List.getElem?_cons_zero, Option.some.injEq] at hm
      subst hm
      simp only [Rep.n, Nat.mul_one, Nat.add_zero]
      by_cases hji : j = i
      · subst hji
        rw [List.getElem?_set_self hi] at hj
        cases hj
        simp [hlt]
      · rw [List.getElem?_set_ne (by omega)] at hj
        obtain ⟨cs, c1, c2⟩ := hx' j y hj
        have c1' : cs = [Sc.enc y] := c1
        subst c1'
        have := c2 0 _ rfl
        simp only [Rep.n, Nat.mul_one, Nat.add_zero] at this
        rw [Array.getElem?_setIfInBounds_ne (by omega)]
        exact this
  · simp only [PH.one] at hj
    split at hj
    · rename_i e'; subst e'; cases hj
      exact heap_setCell_same w j i cur' e (Sc.enc x) hgb
    · cases hj
  · left
    simp only [PH.one] at hj
    split at hj
    · rename_i e'; subst e'; rw [hb']; simp
    · exact absurd rfl hj
  · refine heap_setCell_other w ⟨g, i, none⟩ j _ ?_
    intro e'
    rw [show j = g from e', hb'] at hn; cases hn
end
/-! ### noughts are appended -/
theorem run_append_zero {P : Program} (w : World) (t u ty e : TypeId) (i : TypeInfo) (z : Value) (d : Value) (bytes : Nat) (ht : P.underlying t = some (.slice e)) (hu : P.underlying u = some (.int .i64)) (hi : P.info? e = some i) (hz : i.zero = some z)
    (hsize : i.size = 1) (hby : i.bytes = bytes) (hzc : z.cells = #[d]) (hd : oneC d = true)
    (v : Value) (n : Nat) (xs : List Value) (hown : w.ownsRow 0 e 1 v n xs) (m : Nat) (h63 : n + m ≤ maxLen) (hbytes : (n + m) * bytes ≤ 140737488355328) :
    ∃ v' w', (Builtin.append_ #[t, u] ty #[v, .int .i64 (m : Int)]).run P w = .ok v' w' ∧ w'.ownsRow 0 e 1 v' (n + m) (xs ++ List.replicate m d) ∧ w.grownBy w' v.ownBlock ∧ (v'.ownBlock = v.ownBlock ∨ v'.ownBlock = some w.heap.size) := by
  subst hby
  have hsmall : n + m ≤ 9223372036854775807 := by simp only [maxLen] at h63; omega
  have hmx : n + m ≤ 9223372036854775807 := hsmall
  have wm : IntKind.i64.wrap (m : Int) = m := by rw [IntKind.wrap_i64]; omega
  have n1 : ¬ ((m : Int) < 0) := by omega
  have w0 : IntKind.i64.wrap 0 = 0 := by rw [IntKind.wrap_i64]; rfl
  have hmb : m * i.bytes ≤ 140737488355328 := Nat.le_trans (Nat.mul_le_mul_right _ (by omega)) hbytes
  have n2 : ¬ (281474976710656 < (m : Int) * (i.bytes : Int)) := by rw [← Int.natCast_mul]; omega
  have zc : ∀ k, Builtin.zeroCells z.cells k = (List.replicate k d).toArray := fun k => by
    rw [hzc]; apply Array.ext'
    simp only [Builtin.zeroCells, Array.toList_map, Array.toList_range]
    apply List.ext_getElem?
    intro j
    by_cases hj : j < k
    · simp [hj, List.getElem?_range hj, Nat.mod_one]
    · simp [hj]
  have one : ∀ u ∈ List.replicate m d, u.oneCell' = true := fun u hu => by
    have := List.eq_of_mem_replicate hu
    subst this
    cases u <;> first | rfl | cases hd
  have hlen : (xs ++ List.replicate m d).length = (n + m) * 1 := by rw [List.length_append, hown.1]; simp
  have grown : ∀ (old : Nat), ∀ (row : Option Nat),
      (w.drew.alloc (.cells ((xs.toArray ++ (List.replicate m d).toArray) ++ (List.replicate (grownCap w (n + m) old e - (n + m)) d).toArray) e)).ownsRow 0 e 1
        (.slice (some ⟨w.heap.size, 0, none⟩) (n + m) (grownCap w (n + m) old e)) (n + m) (xs ++ List.replicate m d) ∧
      w.grownBy (w.drew.alloc (.cells ((xs.toArray ++ (List.replicate m d).toArray) ++ (List.replicate (grownCap w (n + m) old e - (n + m)) d).toArray) e)) row := by
    intro old row
    have hge := grownCap_ge w (n + m) old e
    have hcm : grownCap w (n + m) old e ≤ maxLen := grownCap_le_maxLen w (n + m) old e h63
    refine ⟨⟨hlen, .inr ⟨w.heap.size, _, _, rfl, Nat.zero_le _, heap_alloc_new w.drew _, hge, hcm, ?_, ?_⟩⟩, ⟨rfl, rfl, rfl, by simp, fun k hk _ => Go.heap_alloc_old w.drew _ hk⟩⟩
    · have h1 := hown.1
      simp only [Array.size_append, List.size_toArray, List.length_replicate] at *
      omega
    · simp only [Array.toList_append]
      rw [← hlen, show xs ++ List.replicate m d = xs.toArray.toList ++ (List.replicate m d).toArray.toList by simp]
      exact List.take_left
  rcases hown.2 with ⟨rfl, rfl⟩ | ⟨g, cap, cur, rfl, hbg, hg, hnc, hcm, hcs, htake⟩
  · have hx : xs = [] := List.eq_nil_of_length_eq_zero (by simpa using hown.1)
    subst hx
    by_cases hm : m = 0
    · subst hm
      refine ⟨.slice none 0 0, w, ?_, World.ownsRow_nil w 0 e 1, ⟨rfl, rfl, rfl, Nat.le_refl _, fun _ _ _ => rfl⟩, Or.inl rfl⟩
      have n2' : ¬ ((281474976710656 : Int) < 0) := by omega
      simp [Builtin.append_, run_underlying ht, run_underlying hu, sizeOf, typeInfo, hi, asInt, asIntOf, w0]
    · have hgr := grown 0 (Value.ownBlock (.slice none 0 0))
      refine ⟨_, _, ?_, hgr.1, hgr.2, Or.inr rfl⟩
      have h63' : ¬ (9223372036854775807 < (m : Int)) := by omega
      have h48' : ¬ (281474976710656 < Builtin.nextslicecap m 0 * i.bytes) := by rw [nextslicecap_zero (by omega)]; omega
      simp [Builtin.append_, run_underlying ht, run_underlying hu, sizeOf, typeInfo, zeroValue, hi, hz, asInt, asIntOf, wm, n1, n2, hm, hsize, h63', h48', Question.forced, newRow, grownCap, zc, Builtin.firstCells, loadCells, loadCellsFrom]
  · by_cases hroom : n + m ≤ cap
    · have hfit : n + (List.replicate m d).length ≤ cur.size := by rw [hcs]; simp; omega
      have hst := run_storeCells_at P g n e (List.replicate m d) 0 cur w hg (by simpa using hfit) one
      simp only [Nat.add_zero] at hst
      refine ⟨_, _, ?_, ⟨hlen, .inr ⟨g, cap, _, rfl, hbg, setRow_heap w g cur (cur.toList.take n ++ List.replicate m d ++ cur.toList.drop (n + (List.replicate m d).length)).toArray e _ hg, hroom, hcm, ?_, ?_⟩⟩, ⟨rfl, rfl, rfl, by simp, fun k _ hk => setRow_other w g k _ (fun e => hk (by simp [Value.ownBlock, e]))⟩, Or.inl rfl⟩
      · by_cases hm : m = 0
        · subst hm
          have e1 : w.setRow g (cur.toList.take n ++ List.replicate 0 d ++ cur.toList.drop (n + (List.replicate 0 d).length)).toArray = w := by
            simp only [List.replicate_zero, List.append_nil, List.length_nil, Nat.add_zero, List.take_append_drop, Array.toArray_toList]
            exact setRow_self w g cur e (0, 0) hg
          rw [e1]
          simp [Builtin.append_, run_underlying ht, run_underlying hu, sizeOf, typeInfo, hi, asInt, asIntOf, hnc, storeCells, Addr.add_lit, w0]
        · simp [Builtin.append_, run_underlying ht, run_underlying hu, sizeOf, typeInfo, zeroValue, hi, hz, asInt, asIntOf, wm, n1, n2, hm, hsize, hroom, Addr.add_lit, zc, hst]
      · simp only [List.size_toArray, List.length_append, List.length_take, List.length_drop, Array.length_toList]
        simp at hfit ⊢
        omega
      · rw [show n = n * 1 by omega, htake, show xs ++ List.replicate m d ++ _ = (xs ++ List.replicate m d) ++ _ from rfl, show n * 1 + m = (n + m) by omega, ← hlen]
        exact List.take_left
    · have hgr := grown cap (Value.ownBlock (.slice (some ⟨g, 0, none⟩) n cap))
      refine ⟨_, _, ?_, hgr.1, hgr.2, Or.inr rfl⟩
      have h63' : ¬ (9223372036854775807 < ((n : Int) + (m : Int))) := by omega
      have h48' : ¬ (281474976710656 < Builtin.nextslicecap (n + m) cap * i.bytes) := by have := growslice_fits (by omega : cap < n + m) hbytes; omega
      have holds : ∀ j u, xs[j]? = some u → w.cell? ((⟨g, 0, none⟩ : Addr).add j) = some u := hown.cells (g := g) rfl
      have hfo := run_firstCells_some (P := P) w.drew 1 n ⟨g, 0, none⟩ n cap xs hown.1 (by simpa using holds)
      have hm : m ≠ 0 := by omega
      simp [Builtin.append_, run_underlying ht, run_underlying hu, sizeOf, typeInfo, zeroValue, hi, hz, asInt, asIntOf, wm, n1, n2, hm, hsize, hroom, h63', h48', Question.forced, newRow, grownCap, zc, hfo]
end Go.VC
