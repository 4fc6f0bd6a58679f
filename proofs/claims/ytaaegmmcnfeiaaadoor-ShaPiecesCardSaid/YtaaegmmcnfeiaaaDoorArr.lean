import Derived.Test.YtaaegmmcnfeiaaaDoorWb
import Derived.Laws.CopyRow
set_option linter.unusedVariables false
set_option linter.unusedSimpArgs false
namespace Go.VC
open Go Go.RowKit
theorem slcA_intro {a : Addr} {n : Nat} {lo hi : Int} {sz : Nat} {K : Sl → Prop} (h1 : 0 ≤ lo) (h2 : lo ≤ hi) (h3 : hi ≤ n) (k : K ⟨some (if n = lo.toNat then a else a.add (lo.toNat * sz)), hi.toNat - lo.toNat, n - lo.toNat⟩) : slcA a n lo hi sz K :=
  ⟨by omega, h3, h1, h2, k⟩
theorem ldArr_part {w : World} {b o n : Nat} {ty : TypeId} {cs : Array Value} {K : Array Value → Prop} (hb : Blk w b ty cs) (xs : List Value) (hn : xs.length = n) (hx : ∀ j, j < n → cs[o + j]? = xs[j]?) (k : K xs.toArray) : ldArr w ⟨b, o, none⟩ n K :=
  ⟨xs.toArray, by simpa using hn, fun j v hj => by
    simp only [List.getElem?_toArray] at hj
    have hl : j < n := by have := List.getElem?_eq_some_iff.1 hj; obtain ⟨h, _⟩ := this; omega
    rw [add_mk, hb.cell, hx j hl, hj], k⟩
theorem ldArr_blk {w : World} {b n : Nat} {ty : TypeId} {cs : Array Value} {K : Array Value → Prop} (hb : Blk w b ty cs) (hn : cs.size = n) (k : K cs) : ldArr w ⟨b, 0, none⟩ n K :=
  ⟨cs, hn, fun j v hj => by rw [add_mk, hb.cell, Nat.zero_add]; exact hj, k⟩
theorem stArr_all {w : World} {b n : Nat} {ty : TypeId} {cs vs : Array Value} {K : World → Prop} (hb : Blk w b ty cs) (hn : cs.size = n) (hv : vs.size = n) (h1 : ∀ v ∈ vs.toList, oneC v = true)
    (k : ∀ w', Blk w' b ty vs → Ch (· = b) w w' → w'.heap.size = w.heap.size → K w') : stArr w ⟨b, 0, none⟩ vs n K := by
  refine ⟨hv, h1, fun j hj => ⟨by rw [add_mk, hb.cell, Nat.zero_add]; simp [hn, hj], by rw [add_mk]; exact hb.free _⟩, ?_⟩
  have key : ∀ (l : List Value) (i : Nat) (w1 : World) (cs1 : Array Value), Blk w1 b ty cs1 → i + l.length = cs1.size → ∃ cs2, Blk (setL ⟨b, 0, none⟩ i l w1) b ty cs2 ∧ cs2.size = cs1.size ∧ (∀ j, cs2[j]? = if i ≤ j ∧ j < i + l.length then l[j - i]? else cs1[j]?) ∧
      Ch (· = b) w1 (setL ⟨b, 0, none⟩ i l w1) ∧ (setL ⟨b, 0, none⟩ i l w1).heap.size = w1.heap.size := by
    intro l
    induction l with
    | nil => exact fun i w1 cs1 hb1 hl => ⟨cs1, hb1, rfl, fun j => by rw [if_neg (by simp)], Ch.refl _ w1, rfl⟩
    | cons v r ih =>
      intro i w1 cs1 hb1 hl
      simp only [setL, add_mk, Nat.zero_add]
      have hl' : i + (r.length + 1) = cs1.size := by simpa using hl
      obtain ⟨cs2, h2, h3, h4, h5, h6⟩ := ih (i + 1) _ _ (hb1.set i v) (by simp; omega)
      refine ⟨cs2, h2, by simpa using h3, fun j => ?_, ((Ch.refl (· = b) w1).setCell (p := ⟨b, i, none⟩) v fun _ => rfl).trans h5, by simpa using h6⟩
      rw [h4]
      by_cases hj : j = i
      · subst hj
        rw [if_neg (by omega), if_pos (by simp)]
        simp [show j < cs1.size by omega]
      · simp only [List.length_cons]
        rw [Array.getElem?_setIfInBounds_ne (by omega)]
        by_cases hin : i + 1 ≤ j ∧ j < i + 1 + r.length
        · rw [if_pos hin, if_pos (by omega), show j - i = (j - (i + 1)) + 1 by omega]; simp
        · rw [if_neg hin, if_neg (by omega)]
  obtain ⟨cs2, h2, h3, h4, h5, h6⟩ := key vs.toList 0 w cs hb (by simp; omega)
  have e : cs2 = vs := by
    apply Array.ext_getElem?
    intro j
    rw [h4]
    by_cases hj : j < vs.size
    · rw [if_pos (by simpa using hj)]; simp
    · rw [if_neg (by simpa using hj)]; simp [Array.getElem?_eq_none (by omega : cs.size ≤ j), Array.getElem?_eq_none (by omega : vs.size ≤ j)]
  exact k _ (e ▸ h2) h5 h6
theorem Ch.setRow (w : World) (g : Nat) (cs : Array Value) : Ch (· = g) w (w.setRow g cs) ∧ (w.setRow g cs).heap.size = w.heap.size := by
  exact ⟨⟨rfl, rfl, rfl, by simp, fun k _ hs => setRow_other w g k cs hs⟩, by simp⟩
/-- copy into a part of a block -/
theorem copy_blk {P : Program} {t e bytes g o dLen dCap rt : Nat} (hT : SlT P t e 1 bytes) {w : World} {x : Sl} {cur : Array Value} {ty : TypeId} {news : List Value} (hb : Blk w g ty cur) (hx : Sees w x 1 news)
    (hfit : o + dLen ≤ cur.size) (h1 : ∀ u ∈ news, oneC u = true) {K : Int → World → Prop}
    (k : ∀ w', Blk w' g ty (cur.toList.take o ++ news.take dLen ++ cur.toList.drop (o + Nat.min x.len dLen)).toArray → Ch (· = g) w w' → w'.heap.size = w.heap.size → K ((Nat.min x.len dLen : Nat) : Int) w') :
    runG (.int .i64) P w (Builtin.copy_ #[t, t] rt #[.slice (some ⟨g, o, none⟩) dLen dCap, .slice x.a x.len x.cap]) K := by
  obtain ⟨i, z, hi, hz, hsz, hby, hzs⟩ := hT.ex
  have hlen := hx.len
  rw [Nat.mul_one] at hlen
  rcases hx.cells with h0 | ⟨b, o', ha, hc⟩
  · have hn : news = [] := List.eq_nil_of_length_eq_zero (by omega)
    subst hn
    have hm : Nat.min x.len dLen = 0 := by rw [h0]; exact Nat.zero_min _
    rw [hm] at k
    refine ⟨_, w, ?_, 0, rfl, by simpa using k w (by simpa using hb) (Ch.refl _ w) rfl⟩
    have hfc : (Builtin.firstCells i.size 0 (.slice x.a 0 x.cap)).run P w = .ok #[] w := by
      cases x.a <;> simp [Builtin.firstCells, loadCells, loadCellsFrom]
    rw [h0]
    simp [Builtin.copy_, run_underlying hT.ht, sizeOf, typeInfo, hi, Builtin.lenOf, hfc, storeCells]
    rfl
  · have hl : (news.take dLen).length = Nat.min x.len dLen := by simp [hlen, Nat.min_comm]
    have h1' : ∀ u ∈ news.take dLen, u.oneCell' = true := fun u hu => by have := h1 u (List.mem_of_mem_take hu); cases u <;> first | rfl | cases this
    have hr := run_copy_row (P := P) w t t rt e g o dLen dCap ⟨b, o', none⟩ x.len x.cap cur ty (news.take dLen) hT.ht (by simp [hi, hsz]) hb hl
      (fun j v hj => by
        rw [add_mk]; refine hc j v ?_
        rw [List.getElem?_take] at hj; split at hj
        · exact hj
        · cases hj) (by have : Nat.min x.len dLen ≤ dLen := Nat.min_le_right _ _; omega) h1'
    rw [← ha] at hr
    have hs := Ch.setRow w g (cur.toList.take o ++ news.take dLen ++ cur.toList.drop (o + (news.take dLen).length)).toArray
    rw [hl] at hr hs
    exact ⟨_, _, hr, _, rfl, k _ (setRow_heap w g cur _ ty _ hb) hs.1 hs.2⟩
end Go.VC
