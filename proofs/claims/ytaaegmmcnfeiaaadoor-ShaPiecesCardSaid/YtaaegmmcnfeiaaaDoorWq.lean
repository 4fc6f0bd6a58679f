import Derived.Test.YtaaegmmcnfeiaaaDoorWo
import Derived.Test.YtaaegmmcnfeiaaaDoorWp
import Derived.Test.YtaaegmmcnfeiaaaDoorSh
set_option linter.unusedVariables false
set_option linter.unusedSimpArgs false
namespace Go.Proofs.YtaaegmmcnfeiaaaDoor.G
open Go Go.VC Go.RowKit Go.Proofs Go.Proofs.YtaaegmmcnfeiaaaDoor
attribute [local irreducible] Tryd.prog
section
variable {F : Bs} {w w' : World} {l r : List SP} {s : Sl} {xs : List UInt8} {Q : Value → World → Prop}
theorem imm_sees (hs : Sees w s 1 (xs.map byteV)) : immL (PH.of w) s xs :=
  ⟨by have := hs.len; simpa using this, hs.cap, hs.max, hs.cells.imp id fun ⟨b, o, ha, hx⟩ => ⟨b, o, ha, fun i x hi => ⟨[Sc.enc x], rfl, fun j u hj => by
    cases j with
    | succ j => simp at hj
    | zero =>
      simp at hj; subst hj
      have := hx i (byteV x) (by simp [hi])
      simp only [World.cell?] at this
      simp only [roCell, PH.of, Rep.n, Nat.mul_one, Nat.add_zero]
      cases e : w.heap[b]? with
      | none => rw [e] at this; cases this
      | some O => rw [e] at this; cases O <;> simp_all [byteV, Sc.enc]⟩⟩⟩
theorem sees_imm (H : Heap F w l) (hT : Has l (imm s xs)) : Sees w s 1 (xs.map byteV) := by
  obtain ⟨ro, g, lro, _, h1, h2, h3, h4⟩ := H.get hT
  refine ⟨by simp [h1], h2, h3, h4.imp id fun ⟨b, o, ha, hx⟩ => ⟨b, o, ha, fun j u hj => ?_⟩⟩
  rw [List.getElem?_map] at hj
  cases e : xs[j]? with
  | none => rw [e] at hj; cases hj
  | some x =>
    rw [e] at hj
    obtain rfl : byteV x = u := by simpa using hj
    obtain ⟨cs, hr, hc⟩ := hx j x e
    have hr' : cs = [Sc.enc x] := hr
    subst hr'
    have := roCell.cell lro (hc 0 _ rfl)
    simpa [Rep.n, byteV, Sc.enc] using this
theorem sees_own {e : TypeId} (H : Heap F w l) (hT : Has l (own e s xs)) : Sees w s 1 (xs.map byteV) ∧ ∀ k, s.blk = some k → k < w.heap.size := by
  obtain ⟨ro, g, lro, lg, h1, h2⟩ := H.get hT
  rcases h2 with rfl | ⟨b, cur, ha, hb, h3, h4, h5, hx⟩
  · have : xs = [] := List.length_eq_zero_iff.1 h1
    subst this
    exact ⟨Sees.nil w 1, by simp [Sl.blk]⟩
  · have hw : w.heap[b]? = some (.cells cur e (0, 0)) := lg _ _ hb
    refine ⟨⟨by simp [h1], h3, h4, .inr ⟨b, 0, ha, fun j u hj => ?_⟩⟩, fun k hk => ?_⟩
    · rw [List.getElem?_map] at hj
      cases e1 : xs[j]? with
      | none => rw [e1] at hj; cases hj
      | some x =>
        rw [e1] at hj
        obtain rfl : byteV x = u := by simpa using hj
        obtain ⟨cs, hr, hc⟩ := hx j x e1
        have hr' : cs = [Sc.enc x] := hr
        subst hr'
        have := hc 0 _ rfl
        simp only [Rep.n, Nat.mul_one, Nat.add_zero] at this
        rw [cell_of_row w b _ cur e (0, 0) hw, Nat.zero_add]
        exact this
    · simp only [Sl.blk, ha, Option.map_some, Option.some.injEq] at hk
      subst hk
      exact PH.of_lt hw
theorem sees_rd (H : Heap F w l) (hR : Rd l s xs) : Sees w s 1 (xs.map byteV) := by
  cases hR with
  | i h => exact sees_imm H h
  | o h => exact (sees_own H h).1
theorem _root_.Go.VC.Heap.adopt (H : Heap F w l) (X : Go.VC.Ext w w') (hs : Sees w' s 1 (xs.map byteV)) (hb : ∀ k, s.blk = some k → w.heap.size ≤ k) : Heap F w' (imm s xs :: l) := by
  have hl : xs.length = s.len := by have := hs.len; simpa using this
  have hi := imm_sees hs
  rcases hs.cells with h0 | ⟨b, o, ha, hx⟩
  · exact (H.ext X).add0 fun ro => ⟨hl, hs.cap, hs.max, .inl h0⟩
  · have hbw := hb b (by simp [Sl.blk, ha])
    obtain ⟨ro, h, h1, h2, h3, h4, h5, h6, h7, h8⟩ := H
    have keep : ∀ (x : PH), PH.le x (PH.of w) → PH.le x (PH.of w') := fun x hx i o e => by
      have hi := hx i o e
      show w'.heap[i]? = _
      rw [X.block i (PH.of_lt hi) fun h => h]; exact hi
    have hz : ∀ (x : PH), PH.le x (PH.of w) → x b = none := fun x hx => by
      cases e : x b with
      | none => rfl
      | some o => have := PH.of_lt (hx b o e); omega
    let one : PH := fun k => if k = b then w'.heap[b]? else none
    have lo : PH.le one (PH.of w') := fun k o e => by
      simp only [one] at e
      split at e
      · rename_i hk; subst hk; exact e
      · cases e
    have d1 : PH.disj one h := fun k => by
      by_cases hk : k = b
      · right; rw [hk]; exact hz h h4
      · left; simp [one, hk]
    refine ⟨PH.join ro one, h, h1.trans (PH.le_join_left _ _), PH.disj_join h2 d1, PH.join_le (keep ro h3) lo, keep h h4, ⟨PH.emp, h, fun _ => .inl rfl, PH.emp_le _, PH.le.refl _, ?_, h5.mono (PH.le_join_left _ _) (PH.le.refl _)⟩, X.os.trans h6, X.tape.trans h7, X.output.trans h8⟩
    refine ⟨hl, hs.cap, hs.max, .inr ⟨b, o, ha, fun i x hi => ⟨[Sc.enc x], rfl, fun j u hj => ?_⟩⟩⟩
    cases j with
    | succ j => simp at hj
    | zero =>
      simp at hj; subst hj
      have := hx i (byteV x) (by simp [hi])
      simp only [World.cell?] at this
      simp only [roCell, PH.join, hz ro h3, one, if_pos rfl, Option.none_or, Rep.n, Nat.mul_one, Nat.add_zero]
      cases e : w'.heap[b]? with
      | none => rw [e] at this; cases this
      | some O => rw [e] at this; cases O <;> simp_all [byteV, Sc.enc]
theorem _root_.Go.VC.Heap.turn {b ty ty' : Nat} {cs cs' : List Value} (H : Heap F w l) (C : Ch (· = b) w w') (B : Go.VC.Blk w' b ty' cs'.toArray) (hT : Take l (blk b ty cs) r) : Heap F w' (blk b ty' cs' :: r) := by
  refine (H.take hT).upd C.os C.tape C.output fun ro h1 lro lh d hc => ?_
  have hc' : h1 b = some (.cells cs.toArray ty (0, 0)) := hc
  refine ⟨PH.one b (.cells cs'.toArray ty' (0, 0)), ?_, ?_, ?_, ?_⟩
  · show PH.one b _ b = _
    simp [PH.one]
  · intro k o e
    simp only [PH.one] at e
    split at e
    · rename_i hk; subst hk; cases e; exact B
    · cases e
  · intro k hk
    left
    simp only [PH.one] at hk
    split at hk
    · rename_i hk'; rw [hk', hc']; simp
    · exact absurd rfl hk
  · intro k hk hn
    refine C.block k hk fun e => ?_
    rw [show k = b from e, hc'] at hn; cases hn
@[reducible] def stc (s : Sha.St) : List Value := [.int .u32 (s.a.toNat : Int), .int .u32 (s.b.toNat : Int), .int .u32 (s.c.toNat : Int), .int .u32 (s.d.toNat : Int), .int .u32 (s.e.toNat : Int), .int .u32 (s.f.toNat : Int), .int .u32 (s.g.toNat : Int), .int .u32 (s.h.toNat : Int)]
theorem stA {b ty n : Nat} {cs : List Value} {arr : Array Value} {K : World → Prop} (H : Heap F w l) (hn : cs.length = n) (hv : arr.size = n) (h1 : ∀ v ∈ arr.toList, oneC v = true) (k : ∀ w', Heap F w' (blk b ty arr.toList :: r) → K w') (hT : Take l (blk b ty cs) r := by repeat (first | assumption | constructor)) : stArr w ⟨b, 0, none⟩ arr n K := by
  refine stArr_all (H.Blk hT.has) (by simpa using hn) hv h1 fun w2 B2 C2 z2 => k w2 (H.turn C2 (by simpa using B2) hT)
theorem out_eq' (s : Sha.St) (i : Nat) (hi : i < 32) :
    IntKind.wrap .u8 (Int.fdiv ((s.list.getD (i / 4) 0).toNat : Int) (2 ^ (min (Int.toNat ((IntKind.wrap .u64 (IntKind.wrap .i64 (24 - (IntKind.wrap .i64 (8 * (Int.tmod (i : Int) 4)))))))) (IntKind.bits .u32)))) = ((Sha.outB s i).toNat : Int) := by
  rw [← out_eq s i hi, show Int.tmod (i : Int) 4 = ((i % 4 : Nat) : Int) from tmod_nat i 4, IntWalk.i64_in (8 * ((i % 4 : Nat) : Int)) (by omega), IntWalk.i64_in (24 - 8 * ((i % 4 : Nat) : Int)) (by omega), IntWalk.u64_in _ (by omega)]
def outC (s : Sha.St) (m : Nat) : List UInt8 := (Sha.out s).take m ++ List.replicate (32 - m) 0
theorem outC_set (s : Sha.St) {m : Nat} (h : m < 32) : (outC s m).set m (Sha.outB s m) = outC s (m + 1) := by
  have hl : (Sha.out s).length = 32 := by simp [Sha.out]
  have hm : ((Sha.out s).take m).length = m := by rw [List.length_take]; omega
  rw [outC, outC, List.set_append_right _ _ (by omega), hm, Nat.sub_self, show 32 - m = (32 - (m + 1)) + 1 by omega, List.replicate_succ, List.set_cons_zero, List.take_succ_eq_append_getElem (by omega)]
  simp [Sha.out]
theorem refSum (H : Heap F w l) {b : Sl} (hI : Rd l b xs) (hl : xs.length ≤ 30000) (k : ∀ w', Heap F w' l → Q (.agg (bytes (Sha.sum xs))) w') : Does Tryd.prog 10 #[.slice b.a b.len b.cap] w Q := by
  refine F10_does _ _ _ ?_
  unfold F10
  refine al H (cs := List.replicate 32 (.int .u8 0)) (fun a1 w H => ?_) (by rw [zc24]; rfl)
  refine al H (cs := [.int .u32 0, .int .u32 0, .int .u32 0, .int .u32 0, .int .u32 0, .int .u32 0, .int .u32 0, .int .u32 0]) (fun a3 w H => ?_) (by rw [zc44]; rfl)
  refine st0 H fun w H => sta H fun w H => sta H fun w H => sta H fun w H => sta H fun w H => sta H fun w H => sta H fun w H => sta H fun w H => ?_
  refine padded_does xs b w (sees_rd H hI.t.t) hl fun s w' O => ⟨_, rfl, ?_⟩
  replace H := H.adopt O.1 (s := s) (xs := xs ++ Sha.pad xs.length) O.sees (fun k hk => (O.blk k hk).1)
  clear O
  have hp := Sha.pad_length xs
  have hsum := Sha.sum_fold xs
  have hplen : (xs ++ Sha.pad xs.length).length < 100000 := by simp [Sha.pad, Sha.size8, Sha.zeros]; omega
  generalize xs ++ Sha.pad xs.length = p at *
  have hsl := H.len (s := s) (xs := p)
  have H0 : Heap F w' (blk a3 44 (stc (Sha.fold Sha.init p 0)) :: imm s p :: blk a1 24 (List.replicate 32 (.int .u8 0)) :: l) := H.takes (cs := [blk a3 44 _]) (by repeat constructor)
  refine ⟨fun i w' => ∃ n : Nat, i = ((64 * n : Nat) : Int) ∧ n ≤ p.length / 64 ∧ Heap F w' (blk a3 44 (stc (Sha.fold Sha.init p n)) :: imm s p :: blk a1 24 (List.replicate 32 (.int .u8 0)) :: l), fun i _ => (100000 - i).toNat, ⟨0, rfl, by omega, H0⟩, ?_⟩
  clear H H0
  rintro i w1 ⟨n, rfl, hn, H⟩
  refine dBoth (fun hlt => ?_) (fun hge => ?_)
  · have hlt' : 64 * n < s.len := by omega
    have hfold : Sha.fold Sha.init p (n + 1) = Sha.block (Sha.fold Sha.init p n) ((p.drop (64 * n)).take 64) := rfl
    generalize Sha.fold Sha.init p n = st at *
    replace H := H.drew
    refine ld0 H (lda H (lda H (lda H (lda H (lda H (lda H (lda H ?_)))))))
    rw [i64_id (by omega)]
    refine slcI (xs := p) H (by omega) (by omega) (by omega) fun t H => ?_
    have e64 : (p.drop ((64 * n : Nat) : Int).toNat).take ((((64 * n : Nat) : Int) + 64).toNat - ((64 * n : Nat) : Int).toNat) = (p.drop (64 * n)).take 64 := by
      rw [show (((64 * n : Nat) : Int) + 64).toNat - ((64 * n : Nat) : Int).toNat = 64 by omega, Int.toNat_natCast]
    rw [e64] at H
    refine refBlock_does st _ (by rw [List.length_take, List.length_drop]; omega) t _ (sees_imm H .h) fun w2 X => ⟨_, _, _, _, _, _, _, _, rfl, ?_⟩
    replace H := (H.ext X).tl
    rw [← hfold]
    obtain ⟨st2, e2⟩ : ∃ z, z = Sha.fold Sha.init p (n + 1) := ⟨_, rfl⟩
    rw [← e2]
    refine st0 H fun w H => sta H fun w H => sta H fun w H => sta H fun w H => sta H fun w H => sta H fun w H => sta H fun w H => sta H fun w H => ?_
    refine ⟨⟨n + 1, by omega, by omega, ?_⟩, by dsimp only; omega⟩
    rw [← e2]
    exact H
  · obtain rfl : n = p.length / 64 := by omega
    generalize Sha.fold Sha.init p (p.length / 64) = st at *
    have hl32 : (Sha.out st).length = 32 := by simp [Sha.out]
    refine al H (cs := (outC st 0).map byteV) (fun a4 w H => ?_) (by rw [zc24]; rfl)
    refine ⟨fun i w' => ∃ m : Nat, i = (m : Int) ∧ m ≤ 32 ∧ Heap F w' (blk a4 24 ((outC st m).map byteV) :: blk a3 44 (stc st) :: imm s p :: blk a1 24 (List.replicate 32 (.int .u8 0)) :: l), fun i _ => (32 - i).toNat, ⟨0, rfl, by omega, H⟩, ?_⟩
    clear H
    rintro i w1 ⟨m, rfl, hm, H⟩
    refine dBoth (fun hlt => ?_) (fun hge => ?_)
    · have hm' : m < 32 := by omega
      have eD : IntKind.wrap .i64 (Int.tdiv (m : Int) 4) = ((m / 4 : Nat) : Int) := by
        rw [Int.tdiv_eq_ediv_of_nonneg (by omega), i64_id (by omega)]; omega
      rw [eD]
      refine ⟨by decide, by omega, by omega, ?_⟩
      simp only [Int.toNat_natCast, Nat.mul_one, add_mk, Nat.zero_add]
      refine ldn H (b := a3) (cs := stc st) (x := ((st.list.getD (m / 4) 0).toNat : Int)) ?_ ?_
      · have h8 : m / 4 < st.list.length := by show m / 4 < 8; omega
        show (st.list.map wordV)[m / 4]? = some (wordV (st.list.getD (m / 4) 0))
        rw [List.getElem?_map, List.getD_eq_getElem?_getD, List.getElem?_eq_getElem h8]; rfl
      refine ⟨by decide, by rw [IntKind.wrap_u64]; omega, by omega, by omega, ?_⟩
      rw [out_eq' st m hm']
      refine stn H (b := a4) (cs := (outC st m).map byteV) (by simp [outC, hl32]; omega) fun w H => ?_
      rw [show Value.int .u8 ((Sha.outB st m).toNat : Int) = byteV (Sha.outB st m) from rfl, ← List.map_set, outC_set st hm'] at H
      exact ⟨⟨m + 1, by rw [i64_id (by omega)]; omega, by omega, H⟩, by rw [i64_id (by omega)]; (try dsimp only); omega⟩
    · obtain rfl : m = 32 := by omega
      have e32 : outC st 32 = Sha.out st := by rw [outC, List.take_of_length_le (by omega)]; simp
      rw [e32] at H
      have eb : ((Sha.out st).map byteV).toArray = bytes (Sha.out st) := rfl
      refine ldArr_blk (H.Blk .h) (by simp [hl32]) ?_
      refine stA (b := a1) (cs := List.replicate 32 (.int .u8 0)) H (by simp) (by simp [hl32]) (fun v hv => ?_) fun w H => ?_
      · simp at hv; obtain ⟨x, _, rfl⟩ := hv; rfl
      refine ldArr_blk (H.Blk .h) (by simp [hl32]) ?_
      have := k w (H.tl.tl.tl.tl)
      rw [hsum] at this
      simpa [bytes] using this
theorem refSum_does (xs : List UInt8) (b : Sl) (w : World) (hs : Sees w b 1 (xs.map byteV)) (hl : xs.length ≤ 30000) {Q : Value → World → Prop} (k : ∀ w', Go.VC.Ext w w' → Q (.agg (bytes (Sha.sum xs))) w') : Does Tryd.prog 10 #[.slice b.a b.len b.cap] w Q := by
  have H : Heap (Bs.of w) w [imm b xs] := ⟨PH.of w, PH.emp, PH.le.refl _, PH.disj_emp _, PH.le.refl _, PH.emp_le _, ⟨PH.emp, PH.emp, PH.disj_emp _, PH.le.refl _, PH.le.refl _, imm_sees hs, trivial⟩, rfl, rfl, rfl⟩
  refine refSum H (.i .h) hl fun w' H => k w' ?_
  have B := H.below
  exact ⟨B.os, B.tape, B.output, B.size, fun k hk _ => B.block k hk⟩
end
end Go.Proofs.YtaaegmmcnfeiaaaDoor.G
