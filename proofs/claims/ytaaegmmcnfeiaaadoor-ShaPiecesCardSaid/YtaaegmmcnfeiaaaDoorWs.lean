import Derived.Test.YtaaegmmcnfeiaaaDoorWr
set_option linter.unusedVariables false
set_option linter.unusedSimpArgs false
namespace Go.Proofs.YtaaegmmcnfeiaaaDoor.G
open Go Go.VC Go.RowKit Go.Proofs Go.Proofs.YtaaegmmcnfeiaaaDoor
attribute [local irreducible] Tryd.prog
def Key : SP := ⟨fun ro _ => ∀ j, j < 64 → roCell ro 0 j = some (.int .u32 ((Sha.K.getD j 0).toNat : Int)), fun hr _ h j hj => roCell.mono hr (h j hj)⟩
def HashAt (b : Nat) (x : Sha.Hs) : SP := blk b 49 (hashV x).toList
section
variable {F : Bs} {w w' : World} {l r : List SP} {s : Sl} {xs : List UInt8} {Q : Value → World → Prop} {hb : Nat} {x : Sha.Hs}
theorem sl_key (H : Heap F w l) (hK : Has l Key) : KeyOk w := by
  obtain ⟨ro, g, lro, lg, h⟩ := H.get hK
  exact fun j hj => roCell.cell lro (h j hj)
theorem cell_ro {b o : Nat} {v : Value} (h : w.cell? ⟨b, o, none⟩ = some v) : roCell (PH.of w) b o = some v := by
  simp only [World.cell?] at h
  simp only [roCell, PH.of]
  cases e : w.heap[b]? with
  | none => rw [e] at h; cases h
  | some O => rw [e] at h; cases O <;> simp_all
theorem key_start (hk : KeyOk w) : Key.p (PH.of w) PH.emp := fun j hj => cell_ro (hk j hj)
theorem _root_.Go.VC.Heap.adoptB {b ty : Nat} {cs : List Value} (H : Heap F w l) (X : Go.VC.Ext w w') (B : Go.VC.Blk w' b ty cs.toArray) (hb : w.heap.size ≤ b) : Heap F w' (blk b ty cs :: l) := by
  have H' : Heap F w (pur True :: l) := H.add0 fun _ => trivial
  refine H'.upd X.os X.tape X.output fun ro h1 lro lh d hc => ?_
  refine ⟨PH.one b (.cells cs.toArray ty (0, 0)), ?_, ?_, ?_, ?_⟩
  · show PH.one b _ b = _
    simp [PH.one]
  · intro k o e
    simp only [PH.one] at e
    split at e
    · rename_i hk; subst hk; cases e; exact B
    · cases e
  · intro k hk
    right
    simp only [PH.one] at hk
    split at hk
    · rename_i hk'; omega
    · exact absurd rfl hk
  · intro k hk hn
    exact X.block k hk fun h => h
theorem ne_imm {b ty : Nat} {cs : List Value} (H : Heap F w (blk b ty cs :: r)) (hI : Has r (imm s xs)) (h0 : xs ≠ []) : s.blk ≠ some b := by
  intro e
  obtain ⟨ro, h, h1, h2, h3, h4, ⟨g1, g2, d, l1, l2, hc, hs⟩, h6⟩ := H
  obtain ⟨g3, l3, i1, i2, i3, i4⟩ := sep.has hI hs
  have hc' : g1 b = some (.cells cs.toArray ty (0, 0)) := hc
  have hlen : 0 < xs.length := List.length_pos_iff.2 h0
  rcases i4 with h | ⟨b', o, ha, hx⟩
  · omega
  · obtain ⟨c1, hr, hcc⟩ := hx 0 xs[0] (by simp [hlen])
    have hr' : c1 = [Sc.enc xs[0]] := hr
    subst hr'
    have := hcc 0 _ rfl
    obtain rfl : b' = b := by simpa [Sl.blk, ha] using e
    rcases h2 b' with h | h
    · simp [roCell, h] at this
    · rw [l1 _ _ hc'] at h; cases h
theorem ne_key {b ty : Nat} {cs : List Value} (H : Heap F w (blk b ty cs :: r)) (hK : Has r Key) : b ≠ 0 := by
  rintro rfl
  obtain ⟨ro, h, h1, h2, h3, h4, ⟨g1, g2, d, l1, l2, hc, hs⟩, h6⟩ := H
  obtain ⟨g3, l3, i⟩ := sep.has hK hs
  have hc' : g1 0 = some (.cells cs.toArray ty (0, 0)) := hc
  have := i 0 (by decide)
  rcases h2 0 with h | h
  · simp [roCell, h] at this
  · rw [l1 _ _ hc'] at h; cases h
theorem hashB (H : Heap F w l) (hT : Has l (HashAt hb x)) : Go.VC.Blk w hb 49 (hashV x) := by have := H.Blk hT; simpa using this
theorem sl_new (H : Heap F w l) (k : ∀ b w', Heap F w' (HashAt b Sha.Hs.new :: l) → Q (.pointer (some ⟨b, 0, none⟩)) w') : Does Tryd.prog 12 #[] w Q :=
  new_does w fun b w' hb X B => k b w' (H.adoptB X (by simpa using B) hb)
theorem sl_write (H : Heap F w l) {t : Sl} {ys : List UInt8} (hT : Take l (HashAt hb x) r) (hI : Has r (imm t ys)) (hK : Has r Key) (hr : x.rest.length = 64) (hn : x.n + ys.length < 9223372036854775807)
    (k : ∀ w', Heap F w' (HashAt hb (x.write ys) :: r) → Q (.tuple #[]) w') : Does Tryd.prog 13 #[.pointer (some ⟨hb, 0, none⟩), .slice t.a t.len t.cap] w Q := by
  replace H := H.take hT
  by_cases e : ys = []
  · subst e
    have hl := H.len (s := t) (xs := ([] : List UInt8)) (.t hI)
    refine F13_does _ _ _ _ ?_
    unfold F13
    refine ⟨fun b1 w' => b1 = t ∧ w' = w, fun _ _ => 0, ⟨rfl, rfl⟩, ?_⟩
    rintro b1 w1 ⟨rfl, rfl⟩
    refine dF (by rw [← hl]; decide) ?_
    exact k w1 H
  · refine (write_does x ys w hb t (hashB H .h) hr (sees_imm H (.t hI)) (ne_imm H hI e) hn (sl_key H (.t hK)) (ne_key H hK)).mono ?_
    rintro _ w' ⟨rfl, C, B⟩
    exact k w' (H.turn C (by simpa using B) .h)
theorem sl_few (H : Heap F w l) {b : Sl} (hI : Has l (imm b xs)) (k : ∀ t : Sl, Heap F w (imm t (xs.take 2000) :: l) → Q (.slice t.a t.len t.cap) w) : Does Tryd.prog 8 #[.slice b.a b.len b.cap] w Q := by
  refine F8_does _ _ _ ?_
  unfold F8
  have hl := H.len hI
  refine dBoth (fun h => ?_) (fun h => ?_)
  · have h' : (b.len : Int) > 2000 := h
    refine slcI (xs := xs) H (by decide) (by decide) (by omega) (fun t H => k t ?_) hI
    simpa using H
  · have h' : ¬ (b.len : Int) > 2000 := h
    refine k b ?_
    rw [List.take_of_length_le (by omega)]
    exact H.immDup hI
theorem sl_sum (H : Heap F w l) (hT : Has l (HashAt hb x)) (hK : Has l Key) (hr : x.rest.length = 64) (hn : x.n + 1000 < 9223372036854775807) (k : ∀ w', Heap F w' l → Q (.agg (bytes x.sum)) w') : Does Tryd.prog 15 #[.pointer (some ⟨hb, 0, none⟩)] w Q :=
  sum_does x w hb (hashB H hT) hr hn (sl_key H hK) fun w' X => k w' (H.ext X)
theorem open_L {α : Type} [Rep α] {cs : List Value} {ys : List α} (H : Heap F w (rep cs ys :: l)) : ∃ t : Sl, cs = [t.v] ∧ Heap F w (imm t ys :: l) := by
  obtain ⟨t, H⟩ := H.ex (c' := fun t : Sl => [pur (cs = [t.v]), imm t ys]) fun ro h ⟨t, e, hi⟩ => ⟨t, PH.emp, PH.emp, fun _ => .inl rfl, PH.emp_le _, PH.emp_le _, e, PH.emp, PH.emp, fun _ => .inl rfl, PH.le.refl _, PH.le.refl _, hi, trivial⟩
  exact ⟨t, H.pur.1, H.pur.2⟩
theorem law_Pieces (H : Heap F w l) {xss : List (List UInt8)} (hS : Has l (imm s xss)) (hK : Has l Key) (k : ∀ w', Heap F w' l → Q (.bool true) w') : Does Tryd.prog 4 #[.slice s.a s.len s.cap] w Q := by
  refine F4_does _ _ _ ?_
  unfold F4
  have hsl := H.len hS
  refine sl_new H fun hb w H => ⟨_, rfl, ?_⟩
  intro J hJ
  have hrest : ∀ d : List UInt8, (Sha.Hs.new.write d).rest.length = 64 := fun d => by rw [Sha.Hs.write_rest]; rfl
  have hnn : ∀ d : List UInt8, (Sha.Hs.new.write d).n = d.length := fun d => by rw [Sha.Hs.write_n]; show 0 + _ = _; omega
  have hsum : ∀ d : List UInt8, (Sha.Hs.new.write d).sum = Sha.sum d := fun d => rfl
  have out : ∀ (all : Sl) (d : List UInt8) w', d.length ≤ 24000 → Heap F w' (HashAt hb (Sha.Hs.new.write d) :: own 5 all d :: l) → J all w' := by
    intro all d w' hd H
    refine hJ _ _ ?_
    refine sl_sum H .h (.t (.t hK)) (hrest d) (by rw [hnn]; omega) fun w H => ⟨_, rfl, ?_⟩
    refine refSum H (.o (.t .h)) (by omega) fun w H => ⟨_, rfl, ?_⟩
    refine eqArr _ _ (sum_length _) (sumL _) ?_
    rw [hsum, beq_self_eq_true, cond_true]
    refine sl_sum H .h (.t (.t hK)) (hrest d) (by rw [hnn]; omega) fun w H => ⟨_, rfl, ?_⟩
    have so := sees_own H (s := all) (xs := d) (.t .h)
    refine sumF_does d all w so.1 so.2 (by omega) (sl_key H (.t (.t hK))) fun w2 X => ⟨_, rfl, ?_⟩
    replace H := H.ext X
    refine eqArr _ _ (sum_length _) (sumL _) ?_
    rw [hsum, beq_self_eq_true, cond_true]
    refine awake_does w2 (sl_key H (.t (.t hK))) fun w3 X => ⟨_, rfl, k w3 ?_⟩
    exact (H.ext X).tl.tl
  replace H := H.own_nil (α := UInt8) 5
  have H0 : Heap F w (HashAt hb (Sha.Hs.new.write []) :: own 5 ⟨none, 0, 0⟩ [] :: l) := H.take (.t .h)
  clear H
  refine ⟨fun all i w' => ∃ (m : Nat) (d : List UInt8), i = m ∧ m ≤ xss.length ∧ m ≤ 12 ∧ d.length ≤ 2000 * m ∧ Heap F w' (HashAt hb (Sha.Hs.new.write d) :: own 5 all d :: l), fun _ i _ => (12 - i).toNat,
    ⟨0, [], rfl, by omega, by omega, by simp, H0⟩, ?_⟩
  clear H0
  rintro all i w1 ⟨m, d, rfl, hm, hm12, hd, H⟩
  intro J2 hJ2
  refine dBoth (fun hlt => dBoth (fun hlt2 => hJ2 _ ?_) (fun h => out all d w1 (by omega) H)) (fun h => out all d w1 (by omega) H)
  have hlt' : m < xss.length := by omega
  have hm' : m < 12 := by omega
  intro J3 hJ3
  refine idxI (s := s) (xs := xss) H (by omega) (by omega) (fun a cs H hA => ?_) (.t (.t hS))
  simp only [Int.toNat_natCast] at H
  replace H := open_L H
  obtain ⟨t, rfl, H⟩ := H
  generalize xss[m] = A at *
  refine At.ld0 hA ?_
  refine sl_few H .h fun t2 H => ⟨_, rfl, ?_⟩
  have hA2 : (A.take 2000).length ≤ 2000 := by simp; omega
  generalize A.take 2000 = A at *
  refine sl_write H (x := Sha.Hs.new.write d) (.t (.t .h)) .h (.t (.t (.t hK))) (hrest d) (by rw [hnn]; omega) fun w H => ⟨rfl, ?_⟩
  rw [← Sha.Hs.write_append] at H
  refine apI (s := all) (xs := d) (ys := A) S22 H (by omega) (fun s4 w H => ?_)
  refine len_does (Sha.Hs.new.write (d ++ A)) w hb (hashB H (.t .h)) (hrest _) ⟨_, rfl, ?_⟩
  have h4 := H.lenO (s := s4) (xs := d ++ A)
  have hdA : (d ++ A).length ≤ 2000 * (m + 1) := by simp; omega
  refine cF (by rw [hnn, h4]; simp) ?_
  have hl4 : (d ++ A).length ≤ 24000 := by omega
  replace H : Heap F w (HashAt hb (Sha.Hs.new.write (d ++ A)) :: own 5 s4 (d ++ A) :: imm t2 A :: imm t _ :: l) := H.take (.t .h)
  replace H := (H.dr (imm t2 A)).dr (imm t _)
  have nx : ∀ w', Heap F w' (HashAt hb (Sha.Hs.new.write (d ++ A)) :: own 5 s4 (d ++ A) :: l) → J3 s4 w' := fun w' H =>
    hJ3 _ _ ⟨⟨m + 1, d ++ A, by rw [i64_id (by omega)]; omega, by omega, by omega, hdA, H⟩, by rw [i64_id (by omega)]; dsimp only; omega⟩
  refine ⟨by decide, ?_⟩
  refine cBoth (fun _ => ?_) (fun _ => nx w H)
  refine sl_sum H .h (.t (.t hK)) (hrest _) (by rw [hnn]; omega) fun w H => ⟨_, rfl, ?_⟩
  refine refSum H (.o (.t .h)) (by omega) fun w H => ⟨_, rfl, ?_⟩
  refine nqArr _ _ (sum_length _) (sumL _) ?_
  rw [hsum, beq_self_eq_true]
  exact cF rfl (nx w H)
end
end Go.Proofs.YtaaegmmcnfeiaaaDoor.G
