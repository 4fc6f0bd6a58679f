import Derived.Test.YtaaegmmcnfeiaaaDoorSf
import Derived.Deep.Slices
set_option linter.unusedVariables false
set_option linter.unusedSimpArgs false
namespace Go.VC
open Go Go.RowKit
/-! ### A slice that is read, whoever has its row -/
inductive Rd {α : Type} [Rep α] : List SP → Sl → List α → Prop
  | i {l : List SP} {s : Sl} {xs : List α} : Has l (imm s xs) → Rd l s xs
  | o {l : List SP} {s : Sl} {xs : List α} {e : TypeId} : Has l (own e s xs) → Rd l s xs
section
variable {α : Type} [Rep α] {F : Bs} {w w' : World} {l l' r : List SP} {s : Sl} {xs : List α} {e : TypeId} {c : SP}
theorem Rd.t (h : Rd l s xs) : Rd (c :: l) s xs := by
  cases h with
  | i h => exact .i (.t h)
  | o h => exact .o (.t h)
theorem Heap.lenR (H : Heap F w l) (hT : Rd l s xs) : xs.length = s.len := by
  cases hT with
  | i h => exact H.len h
  | o h => exact H.lenO h
theorem Heap.bndR (H : Heap F w l) (hT : Rd l s xs) : xs.length ≤ 9223372036854775807 := by
  cases hT with
  | i h => exact H.bndI h
  | o h => exact H.bndO h
theorem idxR_ (H : Heap F w l) {i : Int} (h0 : 0 ≤ i) (h1 : i < xs.length) {K : Addr → Prop}
    (k : ∀ (a : Addr) (cs : List Value), Heap F w (rep cs (xs[i.toNat]'(by omega)) :: l) → At w a cs → K a) (hT : Rd l s xs) : idx s.a s.len i (Rep.n α) K := by
  cases hT with
  | i h => exact idxI H h0 h1 k h
  | o h => exact idxO H h0 h1 k h
end
/-! ### What came in -/
def OpenT (P : Program) (t : TypeId) {α : Type} [Rep α] (G : α → Prop) : Prop :=
  ∀ {H : Type} {enc : TypeId × Value → H} {w : World} {fuel : Nat} {cs : List Value} {d : DataW H} {ps : List MemPlace}, DataW.trod enc P w 0 (fun _ => true) true fuel t cs = some (d, ps) → (d.weights P t).all (· ≤ reachBytes) = true →
    ∃ y : α, Rep.r (PH.of w) cs y ∧ G y
section
variable {P : Program} {t e : TypeId}
theorem openInt (ht : P.underlying t = some (.int .i64)) : OpenT P t (fun n : Int => -9223372036854775808 ≤ n ∧ n ≤ 9223372036854775807) := by
  intro H enc w fuel cs d ps h hwt
  clear hwt
  cases fuel with
  | zero => cases h
  | succ fuel =>
    simp only [DataW.trod, ht] at h
    split at h <;> simp_all
    rename_i k k' n hk
    subst hk
    obtain ⟨⟨rfl, hw⟩, _⟩ := h
    exact ⟨n, rfl, by simp [Lit.wf, IntKind.min, IntKind.max, IntKind.bits, IntKind.signed] at hw; omega⟩
theorem openBool (ht : P.underlying t = some .bool) : OpenT P t (fun _ : Bool => True) := by
  intro H enc w fuel cs d ps h hwt
  clear hwt
  cases fuel with
  | zero => cases h
  | succ fuel =>
    simp only [DataW.trod, ht] at h
    split at h <;> simp_all
    rename_i b
    cases b
    · exact .inl rfl
    · exact .inr rfl
theorem openU8 (ht : P.underlying t = some (.int .u8)) : OpenT P t (fun _ : UInt8 => True) := by
  intro H enc w fuel cs d ps h hwt
  clear hwt
  cases fuel with
  | zero => cases h
  | succ fuel =>
    simp only [DataW.trod, ht] at h
    split at h <;> simp_all
    rename_i k k' n hk
    subst hk
    obtain ⟨⟨rfl, hw⟩, _⟩ := h
    simp [Lit.wf, IntKind.min, IntKind.max, IntKind.bits, IntKind.signed] at hw
    refine ⟨UInt8.ofNat n.toNat, ?_⟩
    show [Value.int .u8 n] = [.int .u8 ((UInt8.ofNat n.toNat).toNat : Int)]
    simp; omega
theorem openU32 (ht : P.underlying t = some (.int .u32)) : OpenT P t (fun _ : UInt32 => True) := by
  intro H enc w fuel cs d ps h hwt
  clear hwt
  cases fuel with
  | zero => cases h
  | succ fuel =>
    simp only [DataW.trod, ht] at h
    split at h <;> simp_all
    rename_i k k' n hk
    subst hk
    obtain ⟨⟨rfl, hw⟩, _⟩ := h
    simp [Lit.wf, IntKind.min, IntKind.max, IntKind.bits, IntKind.signed] at hw
    refine ⟨UInt32.ofNat n.toNat, ?_⟩
    show [Value.int .u32 n] = [.int .u32 ((UInt32.ofNat n.toNat).toNat : Int)]
    simp; omega
theorem mapM_some {α β : Type} {f : α → Option β} : ∀ {l : List α} {ys : List β}, l.mapM f = some ys → ys.length = l.length ∧ ∀ (i : Nat) (x : α), l[i]? = some x → ∃ y, ys[i]? = some y ∧ f x = some y
  | [], ys, h => by simp at h; subst h; exact ⟨rfl, fun i x hx => by simp at hx⟩
  | x :: l, ys, h => by
    rw [List.mapM_cons] at h
    cases hx : f x with
    | none => simp [hx] at h
    | some y =>
      cases hl : l.mapM f with
      | none => simp [hx, hl] at h
      | some zs =>
        simp [hx, hl] at h
        subst h
        obtain ⟨h1, h2⟩ := mapM_some hl
        refine ⟨by simp [h1], fun i x' hi => ?_⟩
        cases i with
        | zero => simp at hi; subst hi; exact ⟨y, rfl, hx⟩
        | succ i => simp at hi; simpa using h2 i x' hi
theorem cells_at {w : World} {a : Addr} {n : Nat} {cs : List Value} (h : w.cells? 0 a n = some cs) : cs.length = n ∧ ∀ (j : Nat) (u : Value), cs[j]? = some u → w.cell? (a.add j) = some u := by
  simp only [World.cells?, Nat.zero_le, if_true] at h
  obtain ⟨h1, h2⟩ := mapM_some h
  have hl : cs.length = n := by rw [h1]; simp
  refine ⟨hl, fun j u hj => ?_⟩
  have hjn : j < n := by rw [← hl]; exact (List.getElem?_eq_some_iff.1 hj).1
  obtain ⟨y, hy, hf⟩ := h2 j j (by simp [hjn])
  rw [hj] at hy; cases hy
  exact hf
theorem roCell_of {w : World} {a : Addr} {u : Value} (h : w.cell? a = some u) : a.spot = none ∧ roCell (PH.of w) a.block a.off = some u := by
  simp only [World.cell?] at h
  simp only [roCell, PH.of]
  cases hb : w.heap[a.block]? with
  | none => rw [hb] at h; cases h
  | some o =>
    rw [hb] at h
    cases o with
    | cells c el fr =>
      simp only at h ⊢
      split at h
      · cases h
      · rename_i hs
        exact ⟨by simpa using hs, h⟩
    | _ => simp at h
theorem weightsAll_mem {H : Type} {l : List (DataW H)} {d : DataW H} (hd : d ∈ l) : ∀ n ∈ d.weights P e, n ∈ DataW.weightsAll P e l := by
  induction l with
  | nil => cases hd
  | cons x l ih =>
    intro n hn
    rw [DataW.weightsAll]
    rcases List.mem_cons.1 hd with rfl | h
    · exact List.mem_append_left _ hn
    · exact List.mem_append_right _ (ih h n hn)
theorem weightsEach_mem {H : Type} : ∀ {ts : List TypeId} {l : List (DataW H)} {i : Nat} {u : TypeId} {d : DataW H}, ts[i]? = some u → l[i]? = some d → ∀ {n : Nat}, n ∈ d.weights P u → n ∈ DataW.weightsEach P ts l
  | [], l, i, u, d, h, _, _, _ => by simp at h
  | t :: ts, [], i, u, d, _, h, _, _ => by simp at h
  | t :: ts, x :: l, 0, u, d, h1, h2, n, hn => by
    simp at h1 h2; subst h1; subst h2
    rw [DataW.weightsEach]; exact List.mem_append_left _ hn
  | t :: ts, x :: l, i + 1, u, d, h1, h2, n, hn => by
    simp at h1 h2
    rw [DataW.weightsEach]; exact List.mem_append_right _ (weightsEach_mem h1 h2 hn)
theorem exists_list {α : Type} {P : Nat → α → Prop} : ∀ {n : Nat}, (∀ i, i < n → ∃ y, P i y) → ∃ ys : List α, ys.length = n ∧ ∀ (i : Nat) (y : α), ys[i]? = some y → P i y
  | 0, _ => ⟨[], rfl, fun i y h => by simp at h⟩
  | n + 1, h => by
    obtain ⟨ys, h1, h2⟩ := exists_list (n := n) fun i hi => h i (by omega)
    obtain ⟨y, hy⟩ := h n (by omega)
    refine ⟨ys ++ [y], by simp [h1], fun i z hz => ?_⟩
    by_cases hi : i < n
    · rw [List.getElem?_append_left (by omega)] at hz; exact h2 i z hz
    · have hlt := (List.getElem?_eq_some_iff.1 hz).1
      simp [h1] at hlt
      obtain rfl : i = n := by omega
      rw [List.getElem?_append_right (by omega), h1, Nat.sub_self] at hz
      simp at hz; subst hz; exact hy
theorem openList {α : Type} [Rep α] {G : α → Prop} {k : Nat} (ht : P.underlying t = some (.slice e)) (hc : P.cellsOf e = Rep.n α) (hn : 0 < Rep.n α) (hb : P.bytesOf e = k) (he : OpenT P e G) : OpenT P t (fun xs : List α => xs.length * k ≤ reachBytes ∧ ∀ x ∈ xs, G x) := by
  intro H enc w fuel cs d ps h hw
  rcases Go.Deep.open_slice ht h with ⟨rfl, h2⟩ | ⟨a, len, cap, m, n, D, Pl, rfl, _, hle, hm, hmm, hx, hel⟩
  · exact ⟨[], ⟨⟨none, 0, 0⟩, rfl, rfl, Nat.le_refl _, by simp, .inl rfl⟩, by simp, by simp⟩
  · simp only [if_true] at hmm
    subst hmm
    obtain ⟨rfl, -⟩ := Prod.mk.inj hx
    simp only [DataW.weights, ht, List.all_cons, Bool.and_eq_true, decide_eq_true_eq, List.length_map, List.length_range, hb] at hw
    obtain ⟨hw1, hw2⟩ := hw
    have hel' : ∀ i, i < len → ∃ (y : α) (cs' : List Value), w.cells? 0 (a.add (i * P.cellsOf e)) (P.cellsOf e) = some cs' ∧ Rep.r (PH.of w) cs' y ∧ G y := fun i hi => by
      obtain ⟨cs', h1, h2⟩ := hel i (by omega)
      obtain ⟨y, h3, h4⟩ := he h2 (by
        rw [List.all_eq_true] at hw2 ⊢
        exact fun n hn => hw2 n (List.mem_append_left _ (weightsAll_mem (List.mem_map.2 ⟨i, by simpa using hi, rfl⟩) n hn)))
      exact ⟨y, cs', h1, h3, h4⟩
    obtain ⟨ys, hyl, hys⟩ := exists_list (P := fun i y => ∃ cs' : List Value, w.cells? 0 (a.add (i * P.cellsOf e)) (P.cellsOf e) = some cs' ∧ Rep.r (PH.of w) cs' y ∧ G y) (n := len) fun i hi => by
      obtain ⟨y, cs', h1⟩ := hel' i hi
      exact ⟨y, cs', h1⟩
    refine ⟨ys, ⟨⟨some a, len, _⟩, rfl, hyl, hle, hm, ?_⟩, ?_, fun x hx => ?_⟩
    · by_cases h0 : len = 0
      · exact .inl h0
      · right
        obtain ⟨y0, cs0, h1, h2, _⟩ := hel' 0 (by omega)
        rw [Nat.zero_mul] at h1
        obtain ⟨g1, g2⟩ := cells_at h1
        have hlt : 0 < cs0.length := by rw [g1, hc]; exact hn
        have hsp := (roCell_of (g2 0 _ (List.getElem?_eq_getElem hlt))).1
        rw [add_zero', add_zero'] at hsp
        obtain ⟨b, o, sp⟩ := a
        simp only at hsp
        subst hsp
        refine ⟨b, o, rfl, fun i x hi => ?_⟩
        obtain ⟨cs', h1, h2, _⟩ := hys i x hi
        obtain ⟨g1, g2⟩ := cells_at h1
        refine ⟨cs', h2, fun j u hj => ?_⟩
        have := (roCell_of (g2 j u hj)).2
        rw [add_mk, add_mk, hc] at this
        exact this
    · rw [hyl]
      exact Nat.le_trans (Nat.mul_le_mul_right _ (by omega)) hw1
    · obtain ⟨i, hi, rfl⟩ := List.getElem_of_mem hx
      obtain ⟨_, _, _, hg⟩ := hys i _ (List.getElem?_eq_getElem hi)
      exact hg
/-- the field i of a struct: its type, its place -/
def fieldAt (P : Program) (t : TypeId) (i : Nat) : Option (TypeId × Nat) := match P.underlying t with
  | some (.struct fs) => fs[i]?.map fun f => (f.type, f.offset)
  | _ => none
theorem openField {H : Type} {enc : TypeId × Value → H} {w : World} {fuel : Nat} {cs : List Value} {d : DataW H} {ps : List MemPlace} (h : DataW.trod enc P w 0 (fun _ => true) true fuel t cs = some (d, ps)) (hw : (d.weights P t).all (· ≤ reachBytes) = true)
    {i : Nat} {u : TypeId} {o : Nat} (hf : fieldAt P t i = some (u, o)) {α : Type} [Rep α] {G : α → Prop} (hu : OpenT P u G) : cs.length = P.cellsOf t ∧ ∃ y : α, Rep.r (PH.of w) ((cs.drop o).take (P.cellsOf u)) y ∧ G y := by
  cases fuel with
  | zero => cases h
  | succ fuel =>
    simp only [fieldAt] at hf
    split at hf
    · rename_i fs ht
      simp only [DataW.trod, ht] at h
      split at h
      · rename_i hl
        cases hm : (fs.toList.mapM fun f => DataW.trod enc P w 0 (fun _ => true) true fuel f.type ((cs.drop f.offset).take (P.cellsOf f.type))) with
        | none => rw [hm] at h; cases h
        | some xs =>
          rw [hm] at h
          simp only [Option.map_some, Option.some.injEq, Prod.mk.injEq] at h
          obtain ⟨rfl, -⟩ := h
          obtain ⟨h1, h2⟩ := mapM_some hm
          cases hfi : fs[i]? with
          | none => rw [hfi] at hf; cases hf
          | some f =>
            rw [hfi] at hf
            simp only [Option.map_some, Option.some.injEq, Prod.mk.injEq] at hf
            obtain ⟨rfl, rfl⟩ := hf
            obtain ⟨⟨d', p'⟩, h3, h4⟩ := h2 i f (by simpa using hfi)
            refine ⟨hl, hu h4 ?_⟩
            simp only [DataW.weights, ht] at hw
            rw [List.all_eq_true] at hw ⊢
            intro n hn
            refine hw n (weightsEach_mem (i := i) ?_ ?_ hn)
            · simp [hfi]
            · simp [h3]
      · cases h
    · cases hf
end
end Go.VC
namespace Go.VC
open Go Go.RowKit
theorem Heap.blk_own1 {α : Type} [Rep α] {F : Bs} {w : World} {l r : List SP} {b : Nat} {e : TypeId} {cs : List Value} (H : Heap F w l) (y : α) (hr : ∀ ro, Rep.r ro cs y) (hT : Take l (blk b e cs) r := by repeat (first | assumption | constructor)) : Heap F w (own e ⟨some ⟨b, 0, none⟩, 1, 1⟩ [y] :: r) :=
  (H.take hT).ent1 fun ro h hb => ⟨rfl, .inr ⟨b, _, rfl, hb, Nat.le_refl _, mx (show 1 ≤ 4000000000000 by decide), by rw [List.size_toArray, Rep.len (hr ro)]; exact (Nat.one_mul _).symm, fun i x hi => by
    cases i with
    | zero => simp at hi; subst hi; exact ⟨cs, hr ro, fun j u hj => by rw [Nat.zero_mul, Nat.zero_add]; simpa using hj⟩
    | succ i => simp at hi⟩⟩
end Go.VC
namespace Go.VC
open Go Go.RowKit
section
variable {F : Bs} {w : World} {l r : List SP} {a b c d e : SP}
theorem Heap.ord2 (H : Heap F w l) (hT : Takes l [a, b] r := by repeat (first | assumption | constructor)) : Heap F w (a :: b :: r) := H.takes hT
theorem Heap.ord3 (H : Heap F w l) (hT : Takes l [a, b, c] r := by repeat (first | assumption | constructor)) : Heap F w (a :: b :: c :: r) := H.takes hT
theorem Heap.ord4 (H : Heap F w l) (hT : Takes l [a, b, c, d] r := by repeat (first | assumption | constructor)) : Heap F w (a :: b :: c :: d :: r) := H.takes hT
theorem Heap.ord5 (H : Heap F w l) (hT : Takes l [a, b, c, d, e] r := by repeat (first | assumption | constructor)) : Heap F w (a :: b :: c :: d :: e :: r) := H.takes hT
end
end Go.VC
namespace Go.VC
open Go Go.RowKit
section
variable {α : Type} [Rep α] {F : Bs} {w w' : World} {l r : List SP} {x : Sl} {ys : List α} {e : TypeId}
/-- a copy of what came in, however long -/
theorem cpIb {P : Program} {t bytes ty : Nat} (hS : SlT P t e (Rep.n α) bytes) (H : Heap F w l) (hb : ys.length * bytes ≤ 140737488355328) {K : Sl → World → Prop}
    (k : ∀ (s' : Sl) (w' : World), Heap F w' (own e s' ys :: l) → K s' w') (hI : Has l (imm x ys) := by repeat (first | assumption | constructor)) :
    runG .sl P w (Builtin.append_ #[t, t] ty #[.slice none 0 0, .slice x.a x.len x.cap]) K :=
  appI (s := ⟨none, 0, 0⟩) (xs := []) (ys := ys) hS (H.own_nil (α := α) e) (by simpa using hb) (by have := H.bndI hI; simp only [List.length_nil, Nat.zero_add, maxLen]; omega) k .h (.t hI)
end
end Go.VC
namespace Go.VC
open Go Go.RowKit
section
variable {F : Bs} {w w' : World} {l : List SP} {b n : Nat} {ty : TypeId} {cs : List Value}
/-- a slice that is nil is read -/
theorem ldaN (H : Heap F w l) {K : Sl → Prop} (k : K ⟨none, 0, 0⟩) (hT : Has l (blk b ty cs) := by repeat (first | assumption | constructor)) (hc : CellIs cs n (.slice none 0 0) := by repeat constructor) : ldT .sl w ((⟨b, 0, none⟩ : Addr).add n) K := lda (t := .sl) (x := ⟨none, 0, 0⟩) H k hT hc
theorem ld0N (H : Heap F w l) {K : Sl → Prop} (k : K ⟨none, 0, 0⟩) (hT : Has l (blk b ty cs) := by repeat (first | assumption | constructor)) (hc : CellIs cs 0 (.slice none 0 0) := by repeat constructor) : ldT .sl w ⟨b, 0, none⟩ K := ld0 (t := .sl) (x := ⟨none, 0, 0⟩) H k hT hc
end
end Go.VC
