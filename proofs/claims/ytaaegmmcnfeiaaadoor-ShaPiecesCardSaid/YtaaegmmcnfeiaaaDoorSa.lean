import Derived.Test.YtaaegmmcnfeiaaaDoorNum
import Derived.Maps.AppendAt
import Derived.Laws.CopyRow
set_option linter.unusedVariables false
set_option linter.unusedSimpArgs false
namespace Go.VC
open Go Go.RowKit

/-! ### Partial heaps, assertions -/
abbrev PH := Nat → Option Obj
def PH.le (a b : PH) : Prop := ∀ k o, a k = some o → b k = some o
def PH.disj (a b : PH) : Prop := ∀ k, a k = none ∨ b k = none
def PH.of (w : World) : PH := fun k => w.heap[k]?
def PH.emp : PH := fun _ => none
def PH.one (b : Nat) (o : Obj) : PH := fun k => if k = b then some o else none
def PH.join (a b : PH) : PH := fun k => (a k).or (b k)
theorem PH.le.refl (a : PH) : PH.le a a := fun _ _ h => h
theorem PH.le.trans {a b c : PH} (h : PH.le a b) (k : PH.le b c) : PH.le a c := fun i o e => k i o (h i o e)
theorem PH.emp_le (a : PH) : PH.le PH.emp a := fun _ _ h => by cases h
theorem PH.le_join_left (a b : PH) : PH.le a (PH.join a b) := fun k o h => by simp [PH.join, h]
theorem PH.le_join_right {a b : PH} (h : PH.disj a b) : PH.le b (PH.join a b) := fun k o e => by
  rcases h k with h | h
  · simp [PH.join, h, e]
  · rw [h] at e; cases e
theorem PH.join_le {a b c : PH} (h : PH.le a c) (k : PH.le b c) : PH.le (PH.join a b) c := fun i o e => by
  simp only [PH.join] at e
  cases ha : a i with
  | none => rw [ha] at e; exact k i o (by simpa using e)
  | some x => rw [ha] at e; simp at e; subst e; exact h i x ha
theorem PH.disj.symm {a b : PH} (h : PH.disj a b) : PH.disj b a := fun k => (h k).symm
theorem PH.disj.sub {a b a' b' : PH} (h : PH.disj a b) (ha : PH.le a' a) (hb : PH.le b' b) : PH.disj a' b' := fun k => by
  rcases h k with h | h
  · left; cases e : a' k with
    | none => rfl
    | some o => have := ha k o e; rw [h] at this; cases this
  · right; cases e : b' k with
    | none => rfl
    | some o => have := hb k o e; rw [h] at this; cases this
theorem PH.disj_emp (a : PH) : PH.disj a PH.emp := fun _ => .inr rfl
theorem PH.disj_join {a b c : PH} (h : PH.disj a c) (k : PH.disj b c) : PH.disj (PH.join a b) c := fun i => by
  rcases h i with h | h
  · rcases k i with k | k
    · left; simp [PH.join, h, k]
    · right; exact k
  · right; exact h
theorem PH.of_lt {w : World} {k : Nat} {o : Obj} (h : PH.of w k = some o) : k < w.heap.size := by
  rcases Nat.lt_or_ge k w.heap.size with h' | h'
  · exact h'
  · simp [PH.of, Array.getElem?_eq_none h'] at h

structure SP where
  p : PH → PH → Prop
  mono : ∀ {ro ro' h h' : PH}, PH.le ro ro' → PH.le h h' → p ro h → p ro' h'
def sep : List SP → PH → PH → Prop
  | [], _, _ => True
  | c :: l, ro, h => ∃ h1 h2, PH.disj h1 h2 ∧ PH.le h1 h ∧ PH.le h2 h ∧ c.p ro h1 ∧ sep l ro h2
theorem sep.mono : ∀ {l : List SP} {ro ro' h h' : PH}, PH.le ro ro' → PH.le h h' → sep l ro h → sep l ro' h'
  | [], _, _, _, _, _, _, _ => trivial
  | _ :: _, _, _, _, _, hr, hh, ⟨h1, h2, d, l1, l2, hc, hs⟩ => ⟨h1, h2, d, l1.trans hh, l2.trans hh, SP.mono _ hr (PH.le.refl _) hc, sep.mono hr (PH.le.refl _) hs⟩
inductive Take : List SP → SP → List SP → Prop
  | h {c : SP} {l : List SP} : Take (c :: l) c l
  | t {c d : SP} {l l' : List SP} : Take l c l' → Take (d :: l) c (d :: l')
inductive Has : List SP → SP → Prop
  | h {c : SP} {l : List SP} : Has (c :: l) c
  | t {c d : SP} {l : List SP} : Has l c → Has (d :: l) c
inductive Takes : List SP → List SP → List SP → Prop
  | n {l : List SP} : Takes l [] l
  | c {l l' r cs : List SP} {c : SP} : Take l c l' → Takes l' cs r → Takes l (c :: cs) r
theorem sep.take {l l' : List SP} {c : SP} (hT : Take l c l') : ∀ {ro h : PH}, sep l ro h → sep (c :: l') ro h := by
  induction hT with
  | h => exact fun h => h
  | t _ ih =>
    rintro ro h ⟨h1, h2, d, l1, l2, hc, hs⟩
    obtain ⟨h3, h4, d', l3, l4, hc', hs'⟩ := ih hs
    have dd : PH.disj h3 (PH.join h1 h4) := fun k => by
      rcases d' k with e | e
      · exact .inl e
      · rcases d k with e1 | e1
        · right; simp [PH.join, e, e1]
        · left
          cases e3 : h3 k with
          | none => rfl
          | some o => have := l3 k o e3; rw [e1] at this; cases this
    exact ⟨h3, PH.join h1 h4, dd, l3.trans l2, PH.join_le l1 (l4.trans l2), hc', h1, h4, d.sub (PH.le.refl _) l4, PH.le_join_left _ _, PH.le_join_right (d.sub (PH.le.refl _) l4), hc, hs'⟩
theorem sep.takes {l cs r : List SP} (hT : Takes l cs r) : ∀ {ro h : PH}, sep l ro h → sep (cs ++ r) ro h := by
  induction hT with
  | n => exact fun h => h
  | c h1 _ ih =>
    intro ro h hh
    obtain ⟨a, b, d, l1, l2, hc, hs⟩ := sep.take h1 hh
    exact ⟨a, b, d, l1, l2, hc, ih hs⟩
theorem sep.has {l : List SP} {c : SP} (hT : Has l c) : ∀ {ro h : PH}, sep l ro h → ∃ h1, PH.le h1 h ∧ c.p ro h1 := by
  induction hT with
  | h => exact fun ⟨h1, _, _, l1, _, hc, _⟩ => ⟨h1, l1, hc⟩
  | t _ ih => exact fun ⟨_, h2, _, _, l2, _, hs⟩ => by obtain ⟨h1, l1, hc⟩ := ih hs; exact ⟨h1, l1.trans l2, hc⟩
theorem sep.app {a b : List SP} {ro h : PH} : (∃ h1 h2, PH.disj h1 h2 ∧ PH.le h1 h ∧ PH.le h2 h ∧ sep a ro h1 ∧ sep b ro h2) → sep (a ++ b) ro h := by
  induction a generalizing h with
  | nil => exact fun ⟨_, _, _, _, l2, _, hb⟩ => hb.mono (PH.le.refl _) l2
  | cons c l ih =>
    rintro ⟨h1, h2, d, l1, l2, ⟨h3, h4, d', l3, l4, hc, hs⟩, hb⟩
    refine ⟨h3, PH.join h4 h2, ?_, l3.trans l1, PH.join_le (l4.trans l1) l2, hc, ih ⟨h4, h2, d.sub l4 (PH.le.refl _), PH.le_join_left _ _, PH.le_join_right (d.sub l4 (PH.le.refl _)), hs, hb⟩⟩
    exact (PH.disj_join d'.symm (d.sub l3 (PH.le.refl _)).symm).symm
/-- what stays of a world, whatever is done -/
structure Bs where
  h : PH
  os : Os
  tape : Nat → Question → Nat
  output : Array (Nat × ByteArray)
def Heap (F : Bs) (w : World) (l : List SP) : Prop :=
  ∃ ro h, PH.le F.h ro ∧ PH.disj ro h ∧ PH.le ro (PH.of w) ∧ PH.le h (PH.of w) ∧ sep l ro h ∧ w.os = F.os ∧ w.tape = F.tape ∧ w.output = F.output
section
variable {F : Bs} {w w' : World} {l l' r cs : List SP} {c c' : SP}
theorem Heap.drew (H : Heap F w l) : Heap F w.drew l := H
theorem Heap.imp (H : Heap F w l) (hi : ∀ ro h, sep l ro h → sep l' ro h) : Heap F w l' := by
  obtain ⟨ro, h, h1, h2, h3, h4, h5, h6⟩ := H
  exact ⟨ro, h, h1, h2, h3, h4, hi _ _ h5, h6⟩
theorem Heap.take (H : Heap F w l) (hT : Take l c l') : Heap F w (c :: l') := H.imp fun _ _ => sep.take hT
theorem Heap.takes (H : Heap F w l) (hT : Takes l cs r) : Heap F w (cs ++ r) := H.imp fun _ _ => sep.takes hT
theorem Heap.tl (H : Heap F w (c :: l)) : Heap F w l := H.imp fun _ _ ⟨_, _, _, _, l2, _, hs⟩ => hs.mono (PH.le.refl _) l2
/-- a chunk as others -/
theorem Heap.ent (H : Heap F w (c :: l)) (hi : ∀ ro h, c.p ro h → sep l' ro h) : Heap F w (l' ++ l) :=
  H.imp fun ro h ⟨h1, h2, d, l1, l2, hc, hs⟩ => sep.app ⟨h1, h2, d, l1, l2, hi _ _ hc, hs⟩
theorem Heap.ent1 (H : Heap F w (c :: l)) (hi : ∀ ro h, c.p ro h → c'.p ro h) : Heap F w (c' :: l) :=
  H.imp fun ro h ⟨h1, h2, d, l1, l2, hc, hs⟩ => ⟨h1, h2, d, l1, l2, hi _ _ hc, hs⟩
theorem Heap.ex {α : Type} {c' : α → List SP} (H : Heap F w (c :: l)) (hi : ∀ ro h, c.p ro h → ∃ x, sep (c' x) ro h) : ∃ x, Heap F w (c' x ++ l) := by
  obtain ⟨ro, h, h1, h2, h3, h4, ⟨g1, g2, d, l1, l2, hc, hs⟩, h6⟩ := H
  obtain ⟨x, hx⟩ := hi _ _ hc
  exact ⟨x, ro, h, h1, h2, h3, h4, sep.app ⟨g1, g2, d, l1, l2, hx, hs⟩, h6⟩
theorem Heap.pure (H : Heap F w l) (hT : Has l c) {φ : Prop} (hi : ∀ ro h, c.p ro h → φ) : φ := by
  obtain ⟨ro, h, h1, h2, h3, h4, h5, h6⟩ := H
  obtain ⟨g, _, hc⟩ := sep.has hT h5
  exact hi _ _ hc
theorem Heap.get (H : Heap F w l) (hT : Has l c) : ∃ ro g, PH.le ro (PH.of w) ∧ PH.le g (PH.of w) ∧ c.p ro g := by
  obtain ⟨ro, h, h1, h2, h3, h4, h5, h6⟩ := H
  obtain ⟨g, hg, hc⟩ := sep.has hT h5
  exact ⟨ro, g, h3, hg.trans h4, hc⟩
/-- a chunk that owns nothing, out of one that is there -/
theorem Heap.add (H : Heap F w l) (hT : Has l c) (hi : ∀ ro h, c.p ro h → c'.p ro PH.emp) : Heap F w (c' :: l) :=
  H.imp fun ro h hs => by
    obtain ⟨g, _, hc⟩ := sep.has hT hs
    exact ⟨PH.emp, h, fun _ => .inl rfl, PH.emp_le _, PH.le.refl _, hi _ _ hc, hs⟩
theorem Heap.add0 (H : Heap F w l) (hi : ∀ ro, c'.p ro PH.emp) : Heap F w (c' :: l) :=
  H.imp fun ro h hs => ⟨PH.emp, h, fun _ => .inl rfl, PH.emp_le _, PH.le.refl _, hi _, hs⟩
theorem Heap.upd1 {ro g1 g2 g : PH} (h1 : PH.le F.h ro) (dro : PH.disj ro g1) (dro2 : PH.disj ro g2) (d : PH.disj g1 g2) (lro : PH.le ro (PH.of w)) (lg2 : PH.le g2 (PH.of w)) (hs : sep l ro g2)
    (h6 : w.os = F.os ∧ w.tape = F.tape ∧ w.output = F.output) (ho : w'.os = w.os) (ht : w'.tape = w.tape) (hu : w'.output = w.output)
    (k1 : c'.p ro g) (k2 : PH.le g (PH.of w')) (k3 : ∀ k, g k ≠ none → g1 k ≠ none ∨ w.heap.size ≤ k) (k4 : ∀ k, k < w.heap.size → g1 k = none → w'.heap[k]? = w.heap[k]?) : Heap F w' (c' :: l) := by
  have keep : ∀ (x : PH), PH.le x (PH.of w) → PH.disj x g1 → PH.le x (PH.of w') := fun x hx hd i o e => by
    have hi := hx i o e
    have hlt := PH.of_lt hi
    rcases hd i with e' | e'
    · rw [e] at e'; cases e'
    · show w'.heap[i]? = _
      rw [k4 i hlt e']; exact hi
  have dis : ∀ (x : PH), PH.le x (PH.of w) → PH.disj x g1 → PH.disj x g := fun x hx hd i => by
    cases e : x i with
    | none => exact .inl rfl
    | some o =>
      right
      have hlt := PH.of_lt (hx i o e)
      rcases hd i with e' | e'
      · rw [e] at e'; cases e'
      · cases e2 : g i with
        | none => rfl
        | some o2 =>
          rcases k3 i (by rw [e2]; simp) with h | h
          · exact absurd e' h
          · omega
  refine ⟨ro, PH.join g g2, h1, (PH.disj_join (dis ro lro dro).symm dro2.symm).symm, keep ro lro dro, PH.join_le k2 (keep g2 lg2 d.symm), ⟨g, g2, (dis g2 lg2 d.symm).symm, PH.le_join_left _ _, PH.le_join_right (dis g2 lg2 d.symm).symm, k1, hs⟩, ho.trans h6.1, ht.trans h6.2.1, hu.trans h6.2.2⟩
/-- the world turns in what a chunk owns, and in new blocks -/
theorem Heap.upd (H : Heap F w (c :: l)) (ho : w'.os = w.os) (ht : w'.tape = w.tape) (hu : w'.output = w.output)
    (hw : ∀ ro h1, PH.le ro (PH.of w) → PH.le h1 (PH.of w) → PH.disj ro h1 → c.p ro h1 → ∃ h1', c'.p ro h1' ∧ PH.le h1' (PH.of w') ∧ (∀ k, h1' k ≠ none → h1 k ≠ none ∨ w.heap.size ≤ k) ∧ (∀ k, k < w.heap.size → h1 k = none → w'.heap[k]? = w.heap[k]?)) :
    Heap F w' (c' :: l) := by
  obtain ⟨ro, h, h1, h2, h3, h4, ⟨g1, g2, d, l1, l2, hc, hs⟩, h6⟩ := H
  have dro : PH.disj ro g1 := h2.sub (PH.le.refl _) l1
  obtain ⟨g, k1, k2, k3, k4⟩ := hw ro g1 h3 (l1.trans h4) dro hc
  exact Heap.upd1 h1 dro (h2.sub (PH.le.refl _) l2) d h3 (l2.trans h4) hs h6 ho ht hu k1 k2 k3 k4
/-- what is owned is not written any more -/
theorem Heap.freeze (H : Heap F w (c :: l)) (hi : ∀ ro h, PH.disj ro h → c.p ro h → c'.p (PH.join ro h) PH.emp) : Heap F w (c' :: l) := by
  obtain ⟨ro, h, h1, h2, h3, h4, ⟨g1, g2, d, l1, l2, hc, hs⟩, h6⟩ := H
  have dro : PH.disj ro g1 := h2.sub (PH.le.refl _) l1
  exact ⟨PH.join ro g1, g2, h1.trans (PH.le_join_left _ _), PH.disj_join (h2.sub (PH.le.refl _) l2) d, PH.join_le h3 (l1.trans h4), l2.trans h4,
    ⟨PH.emp, g2, fun _ => .inl rfl, PH.emp_le _, PH.le.refl _, hi _ _ dro hc, hs.mono (PH.le_join_left _ _) (PH.le.refl _)⟩, h6⟩
theorem Heap.ext (H : Heap F w l) (X : Ext w w') : Heap F w' l := by
  obtain ⟨ro, h, h1, h2, h3, h4, h5, h6, h7, h8⟩ := H
  have keep : ∀ (x : PH), PH.le x (PH.of w) → PH.le x (PH.of w') := fun x hx i o e => by
    have hi := hx i o e
    show w'.heap[i]? = _
    rw [X.block i (PH.of_lt hi) fun h => h]; exact hi
  exact ⟨ro, h, h1, h2, keep _ h3, keep _ h4, h5, X.os.trans h6, X.tape.trans h7, X.output.trans h8⟩
end
/-- all that was stays -/
def Bs.of (w : World) : Bs := ⟨PH.of w, w.os, w.tape, w.output⟩
theorem Heap.start (w : World) : Heap (Bs.of w) w [] := ⟨PH.of w, PH.emp, PH.le.refl _, PH.disj_emp _, PH.le.refl _, PH.emp_le _, trivial, rfl, rfl, rfl⟩
theorem Heap.below {w w' : World} {l : List SP} (H : Heap (Bs.of w) w' l) : Below w.heap.size w w' := by
  obtain ⟨ro, h, h1, h2, h3, h4, h5, h6, h7, h8⟩ := H
  have hb : ∀ k, k < w.heap.size → w'.heap[k]? = w.heap[k]? := fun k hk => by
    have e : (Bs.of w).h k = some (w.heap[k]) := by show w.heap[k]? = _; simp [hk]
    have := h3 k _ (h1 k _ e)
    show w'.heap[k]? = _
    rw [show w'.heap[k]? = some w.heap[k] from this]; simp [hk]
  refine ⟨h6, h7, h8, ?_, hb⟩
  rcases Nat.eq_zero_or_pos w.heap.size with h0 | h0
  · omega
  · have := hb (w.heap.size - 1) (by omega)
    rw [show w.heap[w.heap.size - 1]? = some (w.heap[w.heap.size - 1]'(by omega)) by simp [h0]] at this
    have := (Array.getElem?_eq_some_iff.1 this).1
    omega

/-! ### Blocks -/
/-- a block of the call's own, whole -/
def blk (b : Nat) (ty : TypeId) (cs : List Value) : SP := ⟨fun _ h => h b = some (.cells cs.toArray ty (0, 0)), fun _ hh e => hh _ _ e⟩
section
variable {F : Bs} {w w' : World} {l l' r : List SP} {b o : Nat} {ty : TypeId} {cs cs' : List Value}
theorem Heap.Blk (H : Heap F w l) (hT : Has l (blk b ty cs)) : Go.VC.Blk w b ty cs.toArray := by
  obtain ⟨ro, g, _, hg, hc⟩ := H.get hT
  exact hg _ _ hc
theorem Take.has {l l' : List SP} {c : SP} (h : Take l c l') : Has l c := by
  induction h with
  | h => exact .h
  | t _ ih => exact .t ih
/-- a block is made -/
theorem al (H : Heap F w l) {z : Array Value} {K : Addr → World → Prop} (k : ∀ (b : Nat) (w' : World), Heap F w' (blk b ty cs :: l) → K ⟨b, 0, none⟩ w') (hz : z = cs.toArray := by rfl) : allocK w z ty K := by
  subst hz
  refine k _ _ ?_
  obtain ⟨ro, h, h1, h2, h3, h4, h5, h6, h7, h8⟩ := H
  have X : Ext w (w.alloc (.cells cs.toArray ty)) := (Ch.refl _ w).alloc _
  have keep : ∀ (x : PH), PH.le x (PH.of w) → PH.le x (PH.of (w.alloc (.cells cs.toArray ty))) := fun x hx i o e => by
    have hi := hx i o e
    show (w.alloc _).heap[i]? = _
    rw [X.block i (PH.of_lt hi) fun h => h]; exact hi
  have dn : ∀ (x : PH), PH.le x (PH.of w) → x w.heap.size = none := fun x hx => by
    cases e : x w.heap.size with
    | none => rfl
    | some o => have := PH.of_lt (hx _ _ e); omega
  have d1 : ∀ (x : PH), PH.le x (PH.of w) → PH.disj x (PH.one w.heap.size (.cells cs.toArray ty (0, 0))) := fun x hx i => by
    by_cases e : i = w.heap.size
    · left; rw [e]; exact dn x hx
    · right; simp [PH.one, e]
  refine ⟨ro, PH.join (PH.one w.heap.size (.cells cs.toArray ty (0, 0))) h, h1, (PH.disj_join (d1 ro h3).symm h2.symm).symm, keep _ h3, PH.join_le (fun i o e => ?_) (keep _ h4), ⟨PH.one w.heap.size (.cells cs.toArray ty (0, 0)), h, (d1 h h4).symm, PH.le_join_left _ _, PH.le_join_right (d1 h h4).symm, ?_, h5⟩, h6, h7, h8⟩
  · simp only [PH.one] at e
    split at e
    · rename_i hi; subst hi; cases e; exact heap_alloc_new w _
    · cases e
  · simp [blk, PH.one]
theorem Heap.setCell (H : Heap F w (blk b ty cs :: l)) (o : Nat) (v : Value) : Heap F (w.setCell ⟨b, o, none⟩ v) (blk b ty (cs.set o v) :: l) := by
  refine H.upd rfl rfl rfl fun ro h1 _ hle _ hc => ⟨PH.one b (.cells (cs.set o v).toArray ty (0, 0)), by simp [blk, PH.one], fun i x e => ?_, fun k hk => ?_, fun k hk hn => ?_⟩
  · simp only [PH.one] at e
    split at e
    · rename_i hi; subst hi; cases e
      have := heap_setCell_same w i o cs.toArray ty v (hle _ _ hc)
      show (w.setCell _ v).heap[i]? = _
      rw [this]; simp
    · cases e
  · left
    simp only [PH.one] at hk
    split at hk
    · rename_i hi; subst hi
      have : h1 k = some (.cells cs.toArray ty (0, 0)) := hc
      rw [this]; simp
    · exact absurd rfl hk
  · refine heap_setCell_other w ⟨b, o, none⟩ k v ?_
    intro e
    have hc' : h1 b = some (.cells cs.toArray ty (0, 0)) := hc
    rw [show k = b from e, hc'] at hn; cases hn
/-- the cell o of the row is v -/
inductive CellIs : List Value → Nat → Value → Prop
  | h {v : Value} {l : List Value} : CellIs (v :: l) 0 v
  | t {v u : Value} {l : List Value} {o : Nat} : CellIs l o v → CellIs (u :: l) (o + 1) v
inductive SetIs : List Value → Nat → Value → List Value → Prop
  | h {v u : Value} {l : List Value} : SetIs (u :: l) 0 v (v :: l)
  | t {v u : Value} {l l' : List Value} {o : Nat} : SetIs l o v l' → SetIs (u :: l) (o + 1) v (u :: l')
theorem CellIs.get {v : Value} (h : CellIs cs o v) : cs[o]? = some v := by
  induction h with
  | h => rfl
  | t _ ih => simpa using ih
theorem SetIs.set {v : Value} (h : SetIs cs o v cs') : cs' = cs.set o v ∧ o < cs.length := by
  induction h with
  | h => exact ⟨rfl, by simp⟩
  | t _ ih => obtain ⟨e, h⟩ := ih; subst e; exact ⟨rfl, by simpa using h⟩
theorem Heap.cell (H : Heap F w l) {v : Value} (hT : Has l (blk b ty cs)) (hc : cs[o]? = some v) : w.cell? ⟨b, o, none⟩ = some v := by
  rw [(H.Blk hT).cell]; simpa using hc
theorem ld (H : Heap F w l) {t : Tag1} {x : t.T} {K : t.T → Prop} (k : K x) (hT : Has l (blk b ty cs) := by repeat (first | assumption | constructor)) (hc : CellIs cs o (t.emb x) := by repeat (first | assumption | constructor)) : ldT t w ⟨b, o, none⟩ K :=
  ⟨x, H.cell hT hc.get, k⟩
theorem ldn (H : Heap F w l) {t : Tag1} {x : t.T} {K : t.T → Prop} (hc : cs[o]? = some (t.emb x)) (k : K x) (hT : Has l (blk b ty cs) := by repeat (first | assumption | constructor)) : ldT t w ⟨b, o, none⟩ K :=
  ⟨x, H.cell hT hc, k⟩
theorem stn (H : Heap F w l) {v : Value} {K : World → Prop} (ho : o < cs.length) (k : ∀ w', Heap F w' (blk b ty (cs.set o v) :: l') → K w') (hT : Take l (blk b ty cs) l' := by repeat (first | assumption | constructor)) (hv : oneC v = true := by rfl) : stC w ⟨b, o, none⟩ v K := by
  have hb := H.Blk hT.has
  exact ⟨hv, by rw [hb.cell]; simp [ho], hb.free o, k _ ((H.take hT).setCell o v)⟩
theorem st (H : Heap F w l) {v : Value} {K : World → Prop} (k : ∀ w', Heap F w' (blk b ty cs' :: l') → K w') (hT : Take l (blk b ty cs) l' := by repeat (first | assumption | constructor)) (hs : SetIs cs o v cs' := by repeat (first | assumption | constructor)) (hv : oneC v = true := by rfl) : stC w ⟨b, o, none⟩ v K := by
  obtain ⟨rfl, ho⟩ := hs.set
  exact stn H ho k hT hv
end
end Go.VC
