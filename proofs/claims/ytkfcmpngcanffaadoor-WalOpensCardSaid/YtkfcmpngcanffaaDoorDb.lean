import Derived.Test.YtkfcmpngcanffaaDoorDa
import Derived.Test.YtkfcmpngcanffaaDoorSm
import Derived.Test.YtkfcmpngcanffaaDoorRows
import Derived.ProofKit
import Derived.OpenShut
import Derived.ShutString
import Derived.ChangeOld
import Derived.Below
import Derived.LaidMore
import Derived.SevenTiedAt
import Derived.Stop.Joined
import Derived.Lay
import Derived.Test.YtkfcmpngcanffaaDoorNa
set_option linter.unusedVariables false
set_option linter.unusedSimpArgs false
namespace Go.Proofs.YtkfcmpngcanffaaDoor.G
open Go Go.VC Go.RowKit Go.Proofs Go.Proofs.YtkfcmpngcanffaaDoor Nac
open Go.Proofs.YtkfcmpngcanffaaDoor
open Go.ChangeShapes Go.WideShapes Go.ChangeAt Go.RowKit
theorem ownK : ownKnob Tryd.prog.godebug = none := by kernel_rfl
theorem laidOut : laidOutB Tryd.prog = true := by kernel_rfl
def halfZ : List Int := half.map fun x => (x.toNat : Int)
abbrev laidL : List (String × DataW Unit) := [("nacelle/crc.half", Rows.laid_nacelle_crc_half)]
theorem half_ok {W : World} (h : laidMet Tryd.prog laidL W) : Half.p (Bs.of W).h PH.emp := by
  intro r x hx
  obtain ⟨hr, rfl⟩ := List.getElem?_eq_some_iff.1 hx
  obtain ⟨ps, ⟨g, t, cs, fuel, p, q, hg, ht, hv, hd, _, _⟩, _, _⟩ := h
  obtain rfl := Option.some.inj ((show Tryd.prog.globalNamed "nacelle/crc.half" = some 0 by kernel_rfl).symm.trans hg)
  obtain rfl := Option.some.inj ((show (Tryd.prog.globals[0]?).map (·.type) = some 179 by kernel_rfl).symm.trans ht)
  obtain ⟨xs, m, _, ex, _, hl, hel⟩ := DataW.trod_array (show Tryd.prog.underlying 179 = some (.array 16 T_uint32) by kernel_rfl) hd
  have c5 : Tryd.prog.cellsOf T_uint32 = 1 := by kernel_rfl
  have hr' : r < 16 := hr
  have hE := hel r hr'
  rw [c5, Nat.mul_one, List.getElem?_eq_getElem (by omega)] at hE
  obtain ⟨z, e1, e2, _⟩ := DataW.trod_int (show Tryd.prog.underlying T_uint32 = some (.int .u32) by kernel_rfl) hE
  have hlen : halfZ.length = 16 := by kernel_rfl
  have hlaid : (Rows.laid_nacelle_crc_half : DataW Unit) = .agg (halfZ.map fun n => .lit (.int .u32 n)) := by kernel_rfl
  have e3 : (xs.map (·.1)) = halfZ.map fun n => .lit (.int .u32 n) := (DataW.agg.inj (hlaid.symm.trans (Prod.mk.inj ex).1)).symm
  have e4 : (xs.map (·.1))[r]? = (halfZ.map fun n => (DataW.lit (.int .u32 n) : DataW Unit))[r]? := by rw [e3]
  rw [List.getElem?_map, List.getElem?_map, List.getElem?_eq_getElem (by omega : r < xs.length), List.getElem?_eq_getElem (by omega : r < halfZ.length), e2] at e4
  have hz : z = ((half[r]'hr).toNat : Int) := by
    simp only [Option.map_some, Option.some.injEq, DataW.lit.injEq, Lit.int.injEq, true_and] at e4
    rw [e4]
    simp [halfZ]
  have hc : W.cell? ⟨0, r, none⟩ = some (.int .u32 z) := by
    rw [World.var?_cell hg hv r]
    have : cs.toList[r]? = some (.int .u32 z) := by
      have h0 : ((cs.toList.drop r).take 1)[0]? = some (.int .u32 z) := by rw [e1]; rfl
      simpa using h0
    simpa using this
  rw [← hz]
  exact (roCell_of hc).2
theorem openEntry : OpenT Tryd.prog T_api_Entry (fun x : Entry => -9223372036854775808 ≤ x.kind ∧ x.kind ≤ 9223372036854775807 ∧ -9223372036854775808 ≤ x.part ∧ x.part ≤ 9223372036854775807 ∧ -9223372036854775808 ≤ x.code ∧ x.code ≤ 9223372036854775807) := by
  intro H enc w fuel cs d ps h hw
  have ui : Tryd.prog.underlying T_int = some (.int .i64) := by kernel_rfl
  have c1 : Tryd.prog.cellsOf T_int = 1 := by kernel_rfl
  have c2 : Tryd.prog.cellsOf T_uint32 = 1 := by kernel_rfl
  have c4 : Tryd.prog.cellsOf T_api_Entry = 4 := by kernel_rfl
  obtain ⟨hl, y0, r0, g0⟩ := openField h hw (i := 0) (u := T_int) (o := 0) (by kernel_rfl) (openInt ui)
  obtain ⟨_, y1, r1, g1⟩ := openField h hw (i := 1) (u := T_int) (o := 1) (by kernel_rfl) (openInt ui)
  obtain ⟨_, y2, r2, g2⟩ := openField h hw (i := 2) (u := T_uint32) (o := 2) (by kernel_rfl) (openU32 (by kernel_rfl))
  obtain ⟨_, y3, r3, g3⟩ := openField h hw (i := 3) (u := T_int) (o := 3) (by kernel_rfl) (openInt ui)
  rw [c4] at hl
  rw [c1] at r0 r1 r3
  rw [c2] at r2
  match cs, hl with
  | [a0, a1, a2, a3], _ =>
    have e0 : [a0] = [Sc.enc y0] := r0
    have e1 : [a1] = [Sc.enc y1] := r1
    have e2 : [a2] = [Sc.enc y2] := r2
    have e3 : [a3] = [Sc.enc y3] := r3
    cases e0; cases e1; cases e2; cases e3
    exact ⟨⟨y0, y1, y2, y3⟩, rfl, g0.1, g0.2, g1.1, g1.2, g3.1, g3.2⟩
end Go.Proofs.YtkfcmpngcanffaaDoor.G

set_option linter.unusedVariables false
set_option linter.unusedSimpArgs false
namespace Go.Proofs.YtkfcmpngcanffaaDoor.G
open Go Go.VC Go.RowKit Go.Proofs Go.Proofs.YtkfcmpngcanffaaDoor Nac
attribute [local irreducible] Tryd.prog
structure Act20 where
  do_ : Int
  n : Int
  entry : Entry
  keep : List Bool
instance : Rep Act20 where
  n := 7
  r := fun ro cs x => ∃ s : Sl, cs = [.int .i64 x.do_, .int .i64 x.n, .int .i64 x.entry.kind, .int .i64 x.entry.part, .int .u32 (x.entry.version.toNat : Int), .int .i64 x.entry.code, s.v] ∧ immL ro s x.keep
  mono := fun h ⟨s, e, hi⟩ => ⟨s, e, hi.mono h⟩
  len := fun ⟨s, e, _⟩ => by rw [e]; rfl
  one := fun ⟨s, e, _⟩ u hu => by rw [e] at hu; simp at hu; rcases hu with rfl | rfl | rfl | rfl | rfl | rfl | rfl <;> rfl
theorem open_Act {F : Bs} {w : World} {l : List SP} {cs : List Value} {x : Act20} (H : Heap F w (rep cs x :: l)) : ∃ s : Sl, cs = [.int .i64 x.do_, .int .i64 x.n, .int .i64 x.entry.kind, .int .i64 x.entry.part, .int .u32 (x.entry.version.toNat : Int), .int .i64 x.entry.code, s.v] ∧ Heap F w (imm s x.keep :: l) := by
  obtain ⟨t, H⟩ := H.ex (c' := fun s : Sl => [pur (cs = [.int .i64 x.do_, .int .i64 x.n, .int .i64 x.entry.kind, .int .i64 x.entry.part, .int .u32 (x.entry.version.toNat : Int), .int .i64 x.entry.code, s.v]), imm s x.keep]) fun ro h ⟨t, e, hi⟩ => ⟨t, PH.emp, PH.emp, fun _ => .inl rfl, PH.emp_le _, PH.emp_le _, e, PH.emp, PH.emp, fun _ => .inl rfl, PH.le.refl _, PH.le.refl _, hi, trivial⟩
  exact ⟨t, H.pur.1, H.pur.2⟩
section
variable {F : Bs} {w : World} {l r : List SP} {b d p : Nat} {D : Disk} {Q : Value → World → Prop} {X : Nac.Ext}
theorem ref_Noughts (H : Heap F w l) (k : Heap F w l → Q (.string (bs zeros64)) w) : Does Tryd.prog N_ref05_Noughts #[] w Q := by
  refine F_ref05_Noughts_does _ _ ?_
  unfold F_ref05_Noughts
  refine ⟨fun s i w' => ∃ n : Nat, i = n ∧ n ≤ 64 ∧ s = bs (List.replicate n 0) ∧ w' = w, fun _ i _ => (64 - i).toNat, ⟨0, rfl, by omega, rfl, rfl⟩, ?_⟩
  rintro s i w1 ⟨n, rfl, hn, rfl, rfl⟩
  refine dBoth (fun hlt => ?_) (fun hge => ?_)
  · have e : bs (List.replicate n 0) ++ (⟨#[0]⟩ : ByteArray) = bs (List.replicate (n + 1) 0) := by
      rw [show (⟨#[0]⟩ : ByteArray) = bs [0] from rfl, bs_append, List.replicate_succ']
    rw [e]
    refine ⟨by rw [show (⟨#[0]⟩ : ByteArray) = bs [0] from rfl, bs_size, bs_size, List.length_replicate]; simp; omega, ⟨n + 1, by rw [i64_id (by omega)]; omega, by omega, rfl, by first | rfl | trivial⟩, by rw [i64_id (by omega)]; (try dsimp only); omega⟩
  · obtain rfl : n = 64 := by omega
    exact k H
theorem law_count (n : Int) (k : Q (.int .i64 (if n < 1 ∨ n > 9 then 6 else n)) w) : Does Tryd.prog N_law20_count #[.int .i64 n] w Q := by
  refine F_law20_count_does _ _ _ ?_
  unfold F_law20_count
  refine dBoth (fun h => ?_) (fun h => dBoth (fun h2 => ?_) (fun h2 => ?_))
  · rwa [if_pos (.inl h)] at k
  · rwa [if_pos (.inr h2)] at k
  · rwa [if_neg (by omega)] at k
theorem law_part (H : Heap F w l) {n : Int} (h1 : 1 ≤ n) (h2 : n ≤ 10) (k : ∀ (d p : Nat) w', Heap F w' (PartAt p d ⟨2, n⟩ :: DiskAt d (Disk.new 12) :: l) → Q (.tuple #[.pointer (some ⟨d, 0, none⟩), .pointer (some ⟨p, 0, none⟩), .bool true]) w') :
    Does Tryd.prog N_law20_part #[.int .i64 n] w Q := by
  refine F_law20_part_does _ _ _ ?_
  unfold F_law20_part
  refine disk_New H (n := 12) (by decide) (by decide) fun d w H => ⟨_, _, rfl, cF rfl ?_⟩
  refine ext_New (x := ⟨2, n⟩) (D := Disk.new 12) H ⟨by dsimp only; decide, by dsimp only; decide, by dsimp only; omega⟩ (fun _ p w H => ⟨_, _, rfl, k d p w H⟩) (fun hl w H => ?_)
  have : lies ⟨2, n⟩ (Disk.new 12).has.length = true := by simp [lies, Disk.new]; omega
  rw [this] at hl; cases hl
theorem law_same (H : Heap F w l) {s1 s2 : Sl} {a b : List Entry} (h1 : Rd l s1 a) (h2 : Rd l s2 b) (k : ∀ w', Heap F w' l → Q (.bool (decide (a = b))) w') : Does Tryd.prog N_law20_same #[.slice s1.a s1.len s1.cap, .slice s2.a s2.len s2.cap] w Q := by
  refine F_law20_same_does _ _ _ _ ?_
  unfold F_law20_same
  have l1 := H.lenR h1
  have l2 := H.lenR h2
  have b1 := H.bndR h1
  refine cBoth (fun hne => ?_) (fun he => ?_)
  · have : a ≠ b := fun e => by subst e; simp at hne; omega
    have := k w H
    rwa [decide_eq_false ‹a ≠ b›] at this
  have hlen : a.length = b.length := by simp at he; omega
  refine ⟨fun x w' => ∃ i : Nat, x = i ∧ i ≤ a.length ∧ (∀ j, j < i → a[j]? = b[j]?) ∧ Heap F w' l, fun x _ => (a.length - x).toNat, ⟨0, rfl, by omega, fun j hj => by omega, H⟩, ?_⟩
  rintro x w1 ⟨i, rfl, hi, hj, H⟩
  refine dBoth (fun hlt => ?_) (fun hge => ?_)
  · have hlt' : i < a.length := by omega
    refine idxR_ (xs := a) H.drew (by omega) (by omega) (fun a1 cs H1 hA => ?_) h1
    simp only [Int.toNat_natCast] at H1
    have e1 := Heap.e4 H1
    subst e1
    refine At.ld0 hA (At.ld hA (At.ld hA (At.ld hA ?_)))
    refine idxR_ (xs := b) H.drew (by omega) (by omega) (fun a2 cs H2 hA2 => ?_) h2
    simp only [Int.toNat_natCast] at H2
    have e2 := Heap.e4 H2
    subst e2
    refine At.ld0 hA2 (At.ld hA2 (At.ld hA2 (At.ld hA2 ?_)))
    refine flat_neq flatE (entEq a[i] b[i]) ?_
    by_cases e : a[i] = b[i]
    · rw [decide_eq_true e]
      refine cF rfl ⟨⟨i + 1, by rw [i64_id (by omega)]; omega, by omega, fun j hj' => ?_, H.drew⟩, by rw [i64_id (by omega)]; dsimp only; omega⟩
      by_cases hji : j = i
      · subst hji; rw [List.getElem?_eq_getElem hlt', List.getElem?_eq_getElem (by omega), e]
      · exact hj j (by omega)
    · rw [decide_eq_false e]
      refine cT rfl ?_
      have hne : a ≠ b := fun e' => by subst e'; exact e rfl
      have := k _ H.drew
      rwa [decide_eq_false hne] at this
  · obtain rfl : i = a.length := by omega
    have : a = b := by
      apply List.ext_getElem?
      intro j
      by_cases hjl : j < a.length
      · exact hj j hjl
      · rw [List.getElem?_eq_none (by omega), List.getElem?_eq_none (by omega)]
    have k := k w1 H
    rwa [decide_eq_true this] at k
theorem ref_May (H : Heap F w l) (x : Entry) (k : ∀ w', Heap F w' l → Q (.bool (may x)) w') : Does Tryd.prog N_ref20_May #[.agg #[.int .i64 x.kind, .int .i64 x.part, .int .u32 (x.version.toNat : Int), .int .i64 x.code]] w Q := by
  refine F_ref20_May_does _ _ _ _ _ _ ?_
  unfold F_ref20_May
  refine al H (cs := encE x) (fun a w H => ?_) rfl
  have tail : 1 ≤ x.kind ∧ x.kind ≤ 4 → ldT (.int .i64) w ((⟨a, 0, none⟩ : Addr).add 1) fun x4 => cond (decide ((0 : Int) ≤ x4)) (ldT (.int .i64) w ((⟨a, 0, none⟩ : Addr).add 1) fun x5 => cond (decide ((x5 : Int) ≤ 7)) (ldT (.int .i64) w ((⟨a, 0, none⟩ : Addr).add 3) fun x6 => cond (decide ((0 : Int) ≤ x6)) (ldT (.int .i64) w ((⟨a, 0, none⟩ : Addr).add 3) fun x7 =>
      Q (.bool (decide ((x7 : Int) ≤ 255))) w) (Q (.bool (false)) w)) (Q (.bool (false)) w)) (Q (.bool (false)) w) := fun hk => by
    refine lda H (dBoth (fun c3 => lda H (dBoth (fun c4 => lda H (dBoth (fun c5 => lda H ?_) (fun c5 => ?_))) (fun c4 => ?_))) (fun c3 => ?_))
    · have c3' : (0 : Int) ≤ x.part := c3
      have c4' : x.part < 8 := by have : x.part ≤ 7 := c4; omega
      have c5' : (0 : Int) ≤ x.code := c5
      rw [show decide (x.code ≤ 255) = may x by simp [may, hk.1, hk.2, c3', c4', c5']]
      exact k _ H.tl
    all_goals
      rw [show false = may x by
        simp only [may]
        first
          | rw [decide_eq_false (show ¬ 0 ≤ x.part from c3)]; simp
          | rw [decide_eq_false (show ¬ x.part < 8 from fun h => c4 (by show x.part ≤ 7; omega))]; simp
          | rw [decide_eq_false (show ¬ 0 ≤ x.code from c5)]; simp]
      exact k _ H.tl
  refine ld0 H (cBoth (fun h => tail ?_) (fun h1 => ld0 H (cBoth (fun h => tail ?_) (fun h2 => ld0 H (cBoth (fun h => tail ?_) (fun h3 => ld0 H (cBoth (fun h => tail ?_) (fun h4 => ?_))))))))
  · have : x.kind = 1 := by simpa using h
    omega
  · have : x.kind = 2 := by simpa using h
    omega
  · have : x.kind = 3 := by simpa using h
    omega
  · have : x.kind = 4 := by simpa using h
    omega
  · have e1 : ¬ x.kind = 1 := by simpa using h1
    have e2 : ¬ x.kind = 2 := by simpa using h2
    have e3 : ¬ x.kind = 3 := by simpa using h3
    have e4 : ¬ x.kind = 4 := by simpa using h4
    rw [show false = may x by
      simp only [may]
      by_cases h : 1 ≤ x.kind
      · rw [decide_eq_false (show ¬ x.kind ≤ 4 by omega)]; simp
      · rw [decide_eq_false h]; simp]
    exact k _ H.tl
end
end Go.Proofs.YtkfcmpngcanffaaDoor.G

set_option linter.unusedVariables false
set_option linter.unusedSimpArgs false
namespace Go.Proofs.YtkfcmpngcanffaaDoor.G
open Go Go.VC Go.RowKit Go.Proofs Go.Proofs.YtkfcmpngcanffaaDoor Nac
attribute [local irreducible] Tryd.prog
structure RW where
  w : Wr
instance : Rep RW where
  n := 2
  r := fun _ cs x => cs = [.int .i64 x.w.at_, .string (bs x.w.b)]
  mono := fun _ h => h
  len := fun h => by rw [h]; rfl
  one := fun h u hu => by rw [h] at hu; simp at hu; rcases hu with rfl | rfl <;> rfl
def RDk (s1 s2 s5 : Sl) (D : Disk) : SP := ⟨fun ro _ => immL ro s1 (D.has.map bs) ∧ immL ro s2 (D.waits.map RW.mk) ∧ immL ro s5 D.surv ∧ D.ok, fun hr _ ⟨a, b, c, d⟩ => ⟨a.mono hr, b.mono hr, c.mono hr, d⟩⟩
@[reducible] def dv (s1 s2 s5 : Sl) (D : Disk) : Value := .agg #[.slice s1.a s1.len s1.cap, .slice s2.a s2.len s2.cap, .bool D.off, .int .i64 D.left, .slice s5.a s5.len s5.cap]
section
variable {F : Bs} {w : World} {l r : List SP} {b d p : Nat} {D : Disk} {Q : Value → World → Prop} {X : Nac.Ext} {s1 s2 s5 : Sl}
theorem rd_open (H : Heap F w l) (hR : Has l (RDk s1 s2 s5 D)) : D.ok ∧ Heap F w (imm s1 (D.has.map bs) :: imm s2 (D.waits.map RW.mk) :: imm s5 D.surv :: l) := by
  refine ⟨H.pure hR fun _ _ h => h.2.2.2, ?_⟩
  have H := H.add (c' := imm s5 D.surv) hR fun _ _ h => h.2.2.1
  have H := H.add (c' := imm s2 (D.waits.map RW.mk)) (.t hR) fun _ _ h => h.2.1
  exact H.add (c' := imm s1 (D.has.map bs)) (.t (.t hR)) fun _ _ h => h.1
theorem rd_close (H : Heap F w l) {L1 : List ByteArray} {L2 : List RW} {L5 : List Bool} (h1 : Has l (imm s1 L1)) (h2 : Has l (imm s2 L2)) (h5 : Has l (imm s5 L5)) (D : Disk) (ok : D.ok) (e1 : L1 = D.has.map bs) (e2 : L2 = D.waits.map RW.mk) (e5 : L5 = D.surv) : Heap F w (RDk s1 s2 s5 D :: l) := by
  subst e1; subst e2; subst e5
  exact H.imp fun ro h hs => by
    obtain ⟨_, _, g1⟩ := sep.has h1 hs
    obtain ⟨_, _, g2⟩ := sep.has h2 hs
    obtain ⟨_, _, g5⟩ := sep.has h5 hs
    exact ⟨PH.emp, h, fun _ => .inl rfl, PH.emp_le _, PH.le.refl _, ⟨g1, g2, g5, ok⟩, hs⟩
theorem rd_with (H : Heap F w l) {s : Sl} {L : List (List UInt8)} (hI : Has l (imm s (L.map bs))) {at_ : Int} {c : List UInt8} (h0 : 0 ≤ at_) (h1 : at_ < L.length) (hn : L.length ≤ 100000)
    (k : ∀ (s' : Sl) w', Heap F w' (imm s' ((L.set at_.toNat c).map bs) :: l) → Q (.slice s'.a s'.len s'.cap) w') : Does Tryd.prog N_ref05_with #[.slice s.a s.len s.cap, .int .i64 at_, .string (bs c)] w Q := by
  refine F_ref05_with_does _ _ _ _ _ ?_
  unfold F_ref05_with
  refine al H (cs := []) (fun a w H => ?_) rfl
  replace H := H.blk_own (α := ByteArray) (n := 0) (cs := []) (e := T_string) [] rfl (mx (by decide)) rfl
  refine apI (s := ⟨some ⟨a, 0, none⟩, 0, 0⟩) (xs := ([] : List ByteArray)) (ys := L.map bs) S_l_string H (by simp; omega) (fun s3 w H => ?_) (hI := .t hI)
  rw [List.nil_append] at H
  refine idxW (s := s3) (xs := L.map bs) H h0 (by simpa using h1) fun g hg => ?_
  refine stO (s := s3) (xs := L.map bs) H hg (by simp; omega) (bs c) rfl fun w H => k s3 w ?_
  rw [← List.map_set] at H
  exact H.share
theorem rd_laid (H : Heap F w l) (hR : Has l (RDk s1 s2 s5 D)) {all : Bool} {sv : Sl} {surv : List Bool} (hS : Has l (imm sv surv))
    (k : ∀ (s' : Sl) w', Heap F w' (RDk s' ⟨none, 0, 0⟩ s5 { D with has := cond all (Disk.layAll D.has D.waits) (Disk.layS D.has D.waits surv), waits := [] } :: l) → Q (.agg #[.slice s'.a s'.len s'.cap, .slice none 0 0, .bool D.off, .int .i64 D.left, .slice s5.a s5.len s5.cap]) w') :
    Does Tryd.prog N_ref05_Disk_laid #[dv s1 s2 s5 D, .bool all, .slice sv.a sv.len sv.cap] w Q := by
  refine F_ref05_Disk_laid_does _ _ _ _ _ _ _ _ _ ?_
  unfold F_ref05_Disk_laid
  obtain ⟨ok, H⟩ := rd_open H hR
  have hsz := ok.size
  have l2 := H.len (s := s2) (xs := D.waits.map RW.mk)
  have lv := H.len (.t (.t (.t hS)))
  have b2 := H.bndI (s := s2) (xs := D.waits.map RW.mk)
  simp only [List.length_map] at l2 b2
  refine al H (cs := [s1.v, s2.v, .bool D.off, .int .i64 D.left, s5.v]) (fun a1 w H => ?_) rfl
  refine al H (cs := [(Sl.v ⟨none, 0, 0⟩), (Sl.v ⟨none, 0, 0⟩), .bool false, .int .i64 0, (Sl.v ⟨none, 0, 0⟩)]) (fun a3 w H => ?_) zc_ref05_Disk
  refine ⟨fun x w' => ∃ (i : Nat) (cur : List (List UInt8)) (s : Sl), x = i ∧ i ≤ D.waits.length ∧ cur.length = D.has.length ∧ (∀ s ∈ cur, s.length = 64) ∧ (all = true → Disk.layAll cur (D.waits.drop i) = Disk.layAll D.has D.waits) ∧ (all = false → Disk.layS cur (D.waits.drop i) (surv.drop i) = Disk.layS D.has D.waits surv) ∧
      Heap F w' (blk a1 T_ref05_Disk [s.v, s2.v, .bool D.off, .int .i64 D.left, s5.v] :: imm s (cur.map bs) :: blk a3 T_ref05_Disk [(Sl.v ⟨none, 0, 0⟩), (Sl.v ⟨none, 0, 0⟩), .bool false, .int .i64 0, (Sl.v ⟨none, 0, 0⟩)] :: imm s2 (D.waits.map RW.mk) :: imm s5 D.surv :: l), fun x _ => (D.waits.length - x).toNat,
    ⟨0, D.has, s1, rfl, by omega, rfl, ok.has, fun _ => rfl, fun _ => rfl, ?_⟩, ?_⟩
  · have H := H.ord5 (a := blk a1 _ _) (b := imm s1 _) (c := blk a3 _ _) (d := imm s2 _) (e := imm s5 _)
    exact H
  rintro x w1 ⟨i, cur, s, rfl, hi, hcl, hc64, hA, hB, H⟩
  refine lda H (dBoth (fun hlt => ?_) (fun hge => ?_))
  · have hlt' : i < D.waits.length := by omega
    have hw := ok.waits _ (List.getElem_mem hlt')
    intro J hJ J2 hJ2
    have yes : (all = true ∨ (i < surv.length ∧ surv.getD i false = true)) → J2 true w1 := fun hc => by
      refine hJ2 _ _ (cT rfl ?_)
      replace H := H.drew
      refine ld0 H (lda H ?_)
      have e : (D.waits.map RW.mk)[i]'(by simpa using hlt') = RW.mk D.waits[i] := by simp
      refine idxI (s := s2) (xs := D.waits.map RW.mk) H (by omega) (by simp; omega) fun a cs H1 hAt => ?_
      simp only [Int.toNat_natCast, e] at H1
      have ecs : cs = [.int .i64 D.waits[i].at_, .string (bs D.waits[i].b)] := H1.pure .h fun _ _ h => h
      subst ecs
      refine At.ld0 hAt (lda H ?_)
      refine idxI (s := s2) (xs := D.waits.map RW.mk) H (by omega) (by simp; omega) fun a cs H1 hAt => ?_
      simp only [Int.toNat_natCast, e] at H1
      have ecs : cs = [.int .i64 D.waits[i].at_, .string (bs D.waits[i].b)] := H1.pure .h fun _ _ h => h
      subst ecs
      refine At.ld hAt ?_
      refine rd_with (L := cur) (c := D.waits[i].b) H (.t .h) (by omega) (by omega) (by omega) fun s' w H => ⟨_, rfl, ?_⟩
      refine st0 H fun w H => hJ _ ⟨⟨i + 1, Disk.lay cur D.waits[i], s', by rw [i64_id (by omega)]; omega, by omega, by rw [Disk.lay_length]; exact hcl, Disk.lay_all64 hc64 hw.2.2, fun ha => ?_, fun ha => ?_, ?_⟩, by rw [i64_id (by omega)]; dsimp only; omega⟩
      · rw [← hA ha, List.drop_eq_getElem_cons hlt']; rfl
      · rw [← hB ha, layS_drop hlt', if_pos]
        rcases hc with h | h
        · rw [ha] at h; cases h
        · exact h
      · exact H.dr (imm s (cur.map bs))
    have no : all = false → ¬ (i < surv.length ∧ surv.getD i false = true) → J2 false w1 := fun ha hc => by
      refine hJ2 _ _ (cF rfl (hJ _ ⟨⟨i + 1, cur, s, by rw [i64_id (by omega)]; omega, by omega, hcl, hc64, fun h => (by rw [ha] at h; cases h), fun _ => ?_, H⟩, by rw [i64_id (by omega)]; dsimp only; omega⟩))
      rw [← hB ha, layS_drop hlt', if_neg hc]
    refine cBoth (fun h => yes (.inl h)) (fun ha => ?_)
    refine dBoth (fun hs => ?_) (fun hs => no ha fun h => by omega)
    have hs' : i < surv.length := by omega
    refine idxI1 (s := sv) (xs := surv) H (by omega) (by omega) (fun a hc => ldT_cell _ hc ?_) (.t (.t (.t (.t (.t hS)))))
    simp only [Int.toNat_natCast]
    have e : surv.getD i false = surv[i] := by simp [List.getD_eq_getElem?_getD, hs']
    cases hb : surv[i]
    · exact no ha (by rw [e, hb]; simp)
    · exact yes (.inr ⟨hs', by rw [e, hb]⟩)
  · obtain rfl : i = D.waits.length := by omega
    have e1 : cond all (Disk.layAll D.has D.waits) (Disk.layS D.has D.waits surv) = cur := by
      cases all
      · rw [cond_false, ← hB rfl, List.drop_of_length_le (Nat.le_refl _)]; cases List.drop D.waits.length surv <;> rfl
      · rw [cond_true, ← hA rfl, List.drop_of_length_le (Nat.le_refl _)]; rfl
    rw [e1] at k
    repeat (first | refine lda H ?_ | refine ld0 H ?_ | refine ldaN H ?_ | refine ld0N H ?_ | refine sta H fun w H => ?_ | refine st0 H fun w H => ?_)
    refine k s _ ?_
    replace H := H.dr2 (blk a1 _ _) (blk a3 _ _)
    replace H := H.imm_nil (α := RW)
    replace H := rd_close H (s1 := s) (s2 := ⟨none, 0, 0⟩) (s5 := s5) (.t .h) .h (.t (.t (.t .h))) { D with has := cur, waits := [] } ⟨hc64, by show cur.length ≤ 256; omega, fun w hw => by simp at hw, ok.left⟩ rfl rfl rfl
    replace H := H.dr2 (imm (⟨none, 0, 0⟩ : Sl) ([] : List RW)) (imm s _)
    exact H.dr2 (imm s2 _) (imm s5 _)
end
end Go.Proofs.YtkfcmpngcanffaaDoor.G

set_option linter.unusedVariables false
set_option linter.unusedSimpArgs false
namespace Go.VC
open Go Go.RowKit
theorem Heap.blk_own0 {α : Type} [Rep α] {F : Bs} {w : World} {l r : List SP} {b : Nat} {e : TypeId} (H : Heap F w l) (hT : Take l (blk b e []) r := by repeat (first | assumption | constructor)) : Heap F w (own e ⟨some ⟨b, 0, none⟩, 0, 0⟩ ([] : List α) :: r) :=
  (H.take hT).ent1 fun ro h hb => ⟨rfl, .inr ⟨b, _, rfl, hb, Nat.le_refl _, mx (show 0 ≤ 4000000000000 by decide), by simp, fun i x hi => by simp at hi⟩⟩
theorem Heap.tln {F : Bs} {w : World} : ∀ (n : Nat) {l : List SP}, Heap F w l → Heap F w (l.drop n)
  | 0, _, H => H
  | n + 1, [], H => H
  | n + 1, _ :: l, H => Heap.tln n H.tl
theorem Heap.kp {F : Bs} {w : World} {c : SP} : ∀ (n : Nat) {l : List SP}, Heap F w (c :: l) → Heap F w (c :: l.drop n)
  | 0, _, H => H
  | n + 1, [], H => H
  | n + 1, a :: l, H => Heap.kp n (H.dr a (.t .h))
end Go.VC
namespace Go.Proofs.YtkfcmpngcanffaaDoor.G
open Go Go.VC Go.RowKit Go.Proofs Go.Proofs.YtkfcmpngcanffaaDoor Nac
attribute [local irreducible] Tryd.prog
section
variable {F : Bs} {w : World} {l r : List SP} {b d p : Nat} {D : Disk} {Q : Value → World → Prop} {s1 s2 s5 : Sl}
theorem rd_re (H : Heap F w l) (hR : Has l (RDk s1 s2 s5 D)) : Heap F w (RDk s1 s2 s5 D :: l) := H.add hR fun _ _ h => h
theorem rd_Crash (H : Heap F w l) (hR : Has l (RDk s1 s2 s5 D)) {sv : Sl} {surv : List Bool} (hS : Has l (imm sv surv))
    (k : ∀ (s1' s2' : Sl) w', Heap F w' (RDk s1' s2' s5 (D.crash surv) :: l) → Q (dv s1' s2' s5 (D.crash surv)) w') : Does Tryd.prog N_ref05_Disk_Crash #[dv s1 s2 s5 D, .slice sv.a sv.len sv.cap] w Q := by
  refine F_ref05_Disk_Crash_does _ _ _ _ _ _ _ _ ?_
  unfold F_ref05_Disk_Crash
  refine al H (cs := [s1.v, s2.v, .bool D.off, .int .i64 D.left, s5.v]) (fun a1 w H => ?_) rfl
  refine al H (cs := [(Sl.v ⟨none, 0, 0⟩), (Sl.v ⟨none, 0, 0⟩), .bool false, .int .i64 0, (Sl.v ⟨none, 0, 0⟩)]) (fun a3 w H => ?_) zc_ref05_Disk
  refine lda H (cBoth (fun hoff => ?_) (fun hoff => ?_))
  · have e : D.crash surv = D := by simp [Disk.crash, hoff]
    rw [e] at k
    repeat (first | refine lda H ?_ | refine ld0 H ?_ | refine ldaN H ?_ | refine ld0N H ?_ | refine sta H fun w H => ?_ | refine st0 H fun w H => ?_)
    refine k s1 s2 _ ?_
    replace H := H.dr2 (blk a1 _ _) (blk a3 _ _)
    exact rd_re H hR
  · have e : D.crash surv = { D with has := Disk.layS D.has D.waits surv, waits := [], off := true, left := -1 } := by simp [Disk.crash, hoff]
    rw [e] at k
    repeat (first | refine lda H ?_ | refine ld0 H ?_ | refine ldaN H ?_ | refine ld0N H ?_ | refine sta H fun w H => ?_ | refine st0 H fun w H => ?_)
    refine rd_laid (all := false) H (.t (.t hR)) (.t (.t hS)) fun s' w H => ⟨s', ⟨none, 0, 0⟩, _, _, s5, rfl, ?_⟩
    rw [cond_false] at H
    repeat (first | refine lda H ?_ | refine ld0 H ?_ | refine ldaN H ?_ | refine ld0N H ?_ | refine sta H fun w H => ?_ | refine st0 H fun w H => ?_)
    refine k s' ⟨none, 0, 0⟩ _ ?_
    replace H := H.dr2 (blk a1 _ _) (blk a3 _ _)
    have ok := H.pure (.h) fun _ _ h => h.2.2.2
    replace H := (rd_open H .h).2
    replace H := rd_close H (s1 := s') (s2 := ⟨none, 0, 0⟩) (s5 := s5) .h (.t .h) (.t (.t .h)) { D with has := Disk.layS D.has D.waits surv, waits := [], off := true, left := -1 } ⟨ok.has, ok.size, ok.waits, by simp⟩ rfl rfl rfl
    exact H.kp 4
theorem rd_step (H : Heap F w l) (hR : Has l (RDk s1 s2 s5 D))
    (k : ∀ (s1' s2' : Sl) w', Heap F w' (RDk s1' s2' s5 D.goes.1 :: l) → Q (.tuple #[dv s1' s2' s5 D.goes.1, .bool D.goes.2]) w') : Does Tryd.prog N_ref05_Disk_step #[dv s1 s2 s5 D] w Q := by
  refine F_ref05_Disk_step_does _ _ _ _ _ _ _ ?_
  unfold F_ref05_Disk_step
  refine al H (cs := [s1.v, s2.v, .bool D.off, .int .i64 D.left, s5.v]) (fun a1 w H => ?_) rfl
  refine al H (cs := [(Sl.v ⟨none, 0, 0⟩), (Sl.v ⟨none, 0, 0⟩), .bool false, .int .i64 0, (Sl.v ⟨none, 0, 0⟩)]) (fun a3 w H => ?_) zc_ref05_Disk
  obtain ⟨ok, H⟩ := rd_open H (.t (.t hR))
  have hb := ok.left
  refine lda H (cBoth (fun hoff => ?_) (fun hoff => lda H (cBoth (fun h0 => ?_) (fun h0 => ?_))))
  · have e : D.goes = (D, false) := by simp [Disk.goes, hoff]
    rw [e] at k
    replace H := H.dr2 (imm s1 _) (imm s2 _)
    replace H := H.dr (imm s5 _)
    repeat (first | refine lda H ?_ | refine ld0 H ?_ | refine ldaN H ?_ | refine ld0N H ?_ | refine sta H fun w H => ?_ | refine st0 H fun w H => ?_)
    refine k s1 s2 _ ?_
    replace H := H.dr2 (blk a1 _ _) (blk a3 _ _)
    exact rd_re H hR
  · have h0' : D.left = 0 := by simpa using h0
    have e : D.goes = (D.crash D.surv, false) := by rw [Disk.goes, hoff, cond_false, if_pos h0']
    rw [e] at k
    repeat (first | refine lda H ?_ | refine ld0 H ?_ | refine ldaN H ?_ | refine ld0N H ?_ | refine sta H fun w H => ?_ | refine st0 H fun w H => ?_)
    refine rd_Crash H (.t (.t (.t (.t (.t hR))))) (sv := s5) (surv := D.surv) (.t (.t .h)) fun s1' s2' w H => ⟨s1', s2', _, _, s5, rfl, ?_⟩
    repeat (first | refine lda H ?_ | refine ld0 H ?_ | refine ldaN H ?_ | refine ld0N H ?_ | refine sta H fun w H => ?_ | refine st0 H fun w H => ?_)
    refine k s1' s2' _ ?_
    replace H := H.dr2 (imm s1 _) (imm s2 _)
    replace H := H.dr (imm s5 _)
    exact H.dr2 (blk a1 _ _) (blk a3 _ _)
  · have h0' : D.left ≠ 0 := by simpa using h0
    intro J hJ
    refine lda H (dBoth (fun h1 => ?_) (fun h1 => ?_))
    · have h1' : 0 < D.left := h1
      have e : D.goes = ({ D with left := D.left - 1 }, true) := by rw [Disk.goes, hoff, cond_false, if_neg h0', if_pos h1']
      rw [e] at k
      refine lda H (sta H fun w H => hJ _ ?_)
      rw [i64_id (by omega)] at H
      repeat (first | refine lda H ?_ | refine ld0 H ?_ | refine ldaN H ?_ | refine ld0N H ?_ | refine sta H fun w H => ?_ | refine st0 H fun w H => ?_)
      refine k s1 s2 _ ?_
      replace H := H.dr2 (blk a1 _ _) (blk a3 _ _)
      replace H := rd_close H (s1 := s1) (s2 := s2) (s5 := s5) .h (.t .h) (.t (.t .h)) { D with left := D.left - 1 } ⟨ok.has, ok.size, ok.waits, by dsimp only; omega⟩ rfl rfl rfl
      exact H.kp 3
    · have h1' : ¬ 0 < D.left := h1
      have e : D.goes = (D, true) := by rw [Disk.goes, hoff, cond_false, if_neg h0', if_neg h1']
      rw [e] at k
      refine hJ _ ?_
      replace H := H.dr2 (imm s1 _) (imm s2 _)
      replace H := H.dr (imm s5 _)
      repeat (first | refine lda H ?_ | refine ld0 H ?_ | refine ldaN H ?_ | refine ld0N H ?_ | refine sta H fun w H => ?_ | refine st0 H fun w H => ?_)
      refine k s1 s2 _ ?_
      replace H := H.dr2 (blk a1 _ _) (blk a3 _ _)
      exact rd_re H hR
theorem rd_Read (H : Heap F w l) (hR : Has l (RDk s1 s2 s5 D)) {at_ : Int}
    (k : ∀ w', Heap F w' l → Q (.tuple #[.string (bs (D.read at_).1), .int .i64 (D.read at_).2]) w') : Does Tryd.prog N_ref05_Disk_Read #[dv s1 s2 s5 D, .int .i64 at_] w Q := by
  refine F_ref05_Disk_Read_does _ _ _ _ _ _ _ _ ?_
  unfold F_ref05_Disk_Read
  refine al H (cs := [s1.v, s2.v, .bool D.off, .int .i64 D.left, s5.v]) (fun a1 w H => ?_) rfl
  obtain ⟨ok, H⟩ := rd_open H (.t hR)
  have hsz := ok.size
  have l1 := H.len (s := s1) (xs := D.has.map bs)
  have l2 := H.len (s := s2) (xs := D.waits.map RW.mk)
  have b2 := H.bndI (s := s2) (xs := D.waits.map RW.mk)
  simp only [List.length_map] at l1 l2 b2
  intro J hJ
  have cl : ∀ {w' : World}, Heap F w' (imm s1 (D.has.map bs) :: imm s2 (D.waits.map RW.mk) :: imm s5 D.surv :: blk a1 T_ref05_Disk [s1.v, s2.v, .bool D.off, .int .i64 D.left, s5.v] :: l) → Heap F w' l := fun H =>
    ((H.dr2 (imm s1 _) (imm s2 _)).dr (imm s5 _)).dr (blk a1 _ _)
  refine dBoth (fun h0 => ?_) (fun h0 => ld0 H (dBoth (fun h1 => ?_) (fun h1 => hJ _ ?_)))
  · have h0' : at_ < 0 := h0
    have hin : D.inB at_ = false := by simp [Disk.inB]; omega
    have e : D.read at_ = ([], 4) := by simp [Disk.read, hin]
    rw [e] at k
    exact k _ (cl H)
  · have h1' : at_ ≥ s1.len := h1
    have hin : D.inB at_ = false := by simp [Disk.inB]; omega
    have e : D.read at_ = ([], 4) := by simp [Disk.read, hin]
    rw [e] at k
    exact k _ (cl H)
  have h0' : ¬ at_ < 0 := h0
  have h1' : ¬ at_ ≥ s1.len := h1
  have hin : D.inB at_ = true := by simp [Disk.inB]; omega
  refine lda H (cBoth (fun hoff => ?_) (fun hoff => lda H ?_))
  · have e : D.read at_ = ([], 9) := by simp [Disk.read, hin, hoff]
    rw [e] at k
    exact k _ (cl H)
  have e : D.read at_ = (Disk.last D.waits at_ (D.has.getD at_.toNat []), 0) := by simp [Disk.read, hin, hoff]
  rw [e] at k
  refine ⟨fun x w' => ∃ i : Nat, x = (i : Int) - 1 ∧ i ≤ D.waits.length ∧ (∀ j (hj : j < D.waits.length), i ≤ j → D.waits[j].at_ ≠ at_) ∧ Heap F w' (imm s1 (D.has.map bs) :: imm s2 (D.waits.map RW.mk) :: imm s5 D.surv :: blk a1 T_ref05_Disk [s1.v, s2.v, .bool D.off, .int .i64 D.left, s5.v] :: l), fun x _ => (x + 1).toNat,
    ⟨D.waits.length, by rw [i64_id (by omega)]; omega, Nat.le_refl _, fun j hj hi => by omega, H⟩, ?_⟩
  rintro x w1 ⟨i, rfl, hi, hno, H⟩
  refine dBoth (fun hge => ?_) (fun hlt => ?_)
  · have hge' : (i : Int) - 1 ≥ 0 := hge
    obtain ⟨i, rfl⟩ : ∃ n, i = n + 1 := ⟨i - 1, by omega⟩
    have hlt' : i < D.waits.length := by omega
    have en : (((i + 1 : Nat) : Int) - 1).toNat = i := by omega
    have e2 : (D.waits.map RW.mk)[i]'(by simpa using hlt') = RW.mk D.waits[i] := by simp
    refine lda H ?_
    refine idxI (s := s2) (xs := D.waits.map RW.mk) H (by omega) (by simp; omega) fun a cs H1 hAt => ?_
    simp only [en, e2] at H1
    have ecs : cs = [.int .i64 D.waits[i].at_, .string (bs D.waits[i].b)] := H1.pure .h fun _ _ h => h
    subst ecs
    refine At.ld0 hAt (cBoth (fun heq => ?_) (fun hne => ?_))
    · refine lda H ?_
      refine idxI (s := s2) (xs := D.waits.map RW.mk) H (by omega) (by simp; omega) fun a cs H1 hAt => ?_
      simp only [en, e2] at H1
      have ecs : cs = [.int .i64 D.waits[i].at_, .string (bs D.waits[i].b)] := H1.pure .h fun _ _ h => h
      subst ecs
      refine At.ld hAt ?_
      have e3 : Disk.last D.waits at_ (D.has.getD at_.toNat []) = D.waits[i].b := last_at hlt' (by simpa using heq) fun j hj hij => hno j hj (by omega)
      rw [e3] at k
      exact k _ (cl H)
    · refine ⟨⟨i, by rw [i64_id (by omega)]; omega, by omega, fun j hj hij => ?_, H⟩, by rw [i64_id (by omega)]; dsimp only; omega⟩
      by_cases hji : j = i
      · subst hji; simpa using hne
      · exact hno j hj (by omega)
  · have hlt' : ¬ (i : Int) - 1 ≥ 0 := hlt
    obtain rfl : i = 0 := by omega
    have e3 : Disk.last D.waits at_ (D.has.getD at_.toNat []) = D.has.getD at_.toNat [] := last_none fun x hx => by
      obtain ⟨j, hj, rfl⟩ := List.getElem_of_mem hx
      exact hno j hj (by omega)
    rw [e3] at k
    have hh : D.has.getD at_.toNat [] = D.has[at_.toNat]'(by omega) := by simp [List.getD_eq_getElem?_getD, List.getElem?_eq_getElem (show at_.toNat < D.has.length by omega)]
    rw [hh] at k
    refine ld0 H ?_
    refine idxI1 (s := s1) (xs := D.has.map bs) H (by omega) (by simp; omega) (fun a hc => ldT_cell _ hc ?_)
    simp only [List.getElem_map]
    exact k _ (cl H)
theorem rd_Write (H : Heap F w l) (hR : Has l (RDk s1 s2 s5 D)) {at_ : Int} {b : List UInt8} (hn : D.waits.length < 1000000)
    (k : ∀ (s1' s2' : Sl) w', Heap F w' (RDk s1' s2' s5 (D.write at_ b).1 :: l) → Q (.tuple #[dv s1' s2' s5 (D.write at_ b).1, .int .i64 (D.write at_ b).2]) w') : Does Tryd.prog N_ref05_Disk_Write #[dv s1 s2 s5 D, .int .i64 at_, .string (bs b)] w Q := by
  refine F_ref05_Disk_Write_does _ _ _ _ _ _ _ _ _ ?_
  unfold F_ref05_Disk_Write
  have l1 : (D.has.map bs).length = s1.len := H.pure hR fun _ _ h => h.1.1
  rw [List.length_map] at l1
  refine al H (cs := [s1.v, s2.v, .bool D.off, .int .i64 D.left, s5.v]) (fun a1 w H => ?_) rfl
  refine al H (cs := [(Sl.v ⟨none, 0, 0⟩), (Sl.v ⟨none, 0, 0⟩), .bool false, .int .i64 0, (Sl.v ⟨none, 0, 0⟩)]) (fun a3 w H => ?_) zc_ref05_Disk
  intro J hJ J2 hJ2
  have out : D.inB at_ = false → J2 true w := fun hin => by
    refine hJ2 _ _ (cT rfl ?_)
    have e : D.write at_ b = (D, 4) := by simp [Disk.write, hin]
    rw [e] at k
    repeat (first | refine lda H ?_ | refine ld0 H ?_ | refine ldaN H ?_ | refine ld0N H ?_ | refine sta H fun w H => ?_ | refine st0 H fun w H => ?_)
    refine k s1 s2 _ ?_
    exact (rd_re H (.t (.t hR))).kp 2
  refine dBoth (fun h0 => out ?_) (fun h0 => ld0 H ?_)
  · have h0' : at_ < 0 := h0
    simp [Disk.inB]; omega
  have h0' : ¬ at_ < 0 := h0
  by_cases h1 : at_ ≥ s1.len
  · rw [decide_eq_true h1]
    exact out (by simp [Disk.inB]; omega)
  rw [decide_eq_false h1]
  have hin : D.inB at_ = true := by simp [Disk.inB]; omega
  refine hJ2 _ _ (cF rfl (hJ _ ?_))
  refine cBoth (fun h64 => ?_) (fun h64 => ?_)
  · have : b.length ≠ 64 := by simp at h64; omega
    have e : D.write at_ b = (D, 1) := by simp [Disk.write, hin, this]
    rw [e] at k
    repeat (first | refine lda H ?_ | refine ld0 H ?_ | refine ldaN H ?_ | refine ld0N H ?_ | refine sta H fun w H => ?_ | refine st0 H fun w H => ?_)
    refine k s1 s2 _ ?_
    exact (rd_re H (.t (.t hR))).kp 2
  have h64' : b.length = 64 := by simp at h64; omega
  have e : D.write at_ b = cond D.goes.2 ({ D.goes.1 with waits := D.goes.1.waits ++ [⟨at_, b⟩] }, 0) (D.goes.1, 9) := by simp [Disk.write, hin, h64']
  rw [e] at k
  have hgl := Disk.goes_length D
  have hgw := Disk.goes_waits D
  repeat (first | refine lda H ?_ | refine ld0 H ?_ | refine ldaN H ?_ | refine ld0N H ?_ | refine sta H fun w H => ?_ | refine st0 H fun w H => ?_)
  refine rd_step H (.t (.t hR)) fun s1' s2' w H => ⟨s1', s2', _, _, s5, _, rfl, ?_⟩
  generalize D.goes = DE at *
  obtain ⟨E, g⟩ := DE
  dsimp only at *
  repeat (first | refine lda H ?_ | refine ld0 H ?_ | refine ldaN H ?_ | refine ld0N H ?_ | refine sta H fun w H => ?_ | refine st0 H fun w H => ?_)
  cases g
  · refine cT rfl ?_
    rw [cond_false] at k
    repeat (first | refine lda H ?_ | refine ld0 H ?_ | refine ldaN H ?_ | refine ld0N H ?_ | refine sta H fun w H => ?_ | refine st0 H fun w H => ?_)
    refine k s1' s2' _ ?_
    exact H.tln 2
  · refine cF rfl ?_
    rw [cond_true] at k
    dsimp only at k
    refine al H (cs := []) (fun a4 w H => ?_) rfl
    obtain ⟨ok, H⟩ := rd_open H (s1 := s1') (s2 := s2') (s5 := s5) (D := E) (by repeat (first | assumption | constructor))
    replace H := H.blk_own0 (α := RW) (b := a4)
    refine lda H ?_
    refine apI (s := ⟨some ⟨a4, 0, none⟩, 0, 0⟩) (xs := ([] : List RW)) (ys := E.waits.map RW.mk) S_l_ref05_Write H (by simp; omega) (fun s3 w H => ?_)
    rw [List.nil_append] at H
    refine al H (cs := [.int .i64 at_, .string (bs b)]) (fun a6 w H => ?_) rfl
    replace H : Heap F w (rep [.int .i64 at_, .string (bs b)] (RW.mk ⟨at_, b⟩) :: _) := H.add0 fun _ => rfl
    refine psh (xs := E.waits.map RW.mk) (y := RW.mk ⟨at_, b⟩) (s := s3) (b := a6) S_l_ref05_Write H (by simp; omega) fun s4 w H => ?_
    replace H := H.share (α := RW) (s := s4)
    repeat (first | refine lda H ?_ | refine ld0 H ?_ | refine ldaN H ?_ | refine ld0N H ?_ | refine sta H fun w H => ?_ | refine st0 H fun w H => ?_)
    refine k s1' s4 _ ?_
    replace H := rd_close H (s1 := s1') (s2 := s4) (s5 := s5) (L1 := E.has.map bs) (L2 := E.waits.map RW.mk ++ [RW.mk ⟨at_, b⟩]) (L5 := E.surv) (by repeat (first | assumption | constructor)) (by repeat (first | assumption | constructor)) (by repeat (first | assumption | constructor)) { E with waits := E.waits ++ [⟨at_, b⟩] } ⟨ok.has, ok.size, fun x hx => by
      rcases List.mem_append.1 hx with h | h
      · exact ok.waits x h
      · simp at h; subst h; exact ⟨by dsimp only; omega, by dsimp only; omega, h64'⟩, ok.left⟩ rfl (by simp) rfl
    exact H.kp 9
theorem rd_Flush (H : Heap F w l) (hR : Has l (RDk s1 s2 s5 D))
    (k : ∀ (s1' s2' : Sl) w', Heap F w' (RDk s1' s2' s5 D.flush.1 :: l) → Q (.tuple #[dv s1' s2' s5 D.flush.1, .int .i64 D.flush.2]) w') : Does Tryd.prog N_ref05_Disk_Flush #[dv s1 s2 s5 D] w Q := by
  refine F_ref05_Disk_Flush_does _ _ _ _ _ _ _ ?_
  unfold F_ref05_Disk_Flush
  refine al H (cs := [s1.v, s2.v, .bool D.off, .int .i64 D.left, s5.v]) (fun a1 w H => ?_) rfl
  refine al H (cs := [(Sl.v ⟨none, 0, 0⟩), (Sl.v ⟨none, 0, 0⟩), .bool false, .int .i64 0, (Sl.v ⟨none, 0, 0⟩)]) (fun a3 w H => ?_) zc_ref05_Disk
  unfold Disk.flush at k
  repeat (first | refine lda H ?_ | refine ld0 H ?_ | refine ldaN H ?_ | refine ld0N H ?_ | refine sta H fun w H => ?_ | refine st0 H fun w H => ?_)
  refine rd_step H (.t (.t hR)) fun s1' s2' w H => ⟨s1', s2', _, _, s5, _, rfl, ?_⟩
  generalize D.goes = DE at *
  obtain ⟨E, g⟩ := DE
  dsimp only at *
  repeat (first | refine lda H ?_ | refine ld0 H ?_ | refine ldaN H ?_ | refine ld0N H ?_ | refine sta H fun w H => ?_ | refine st0 H fun w H => ?_)
  cases g
  · refine cT rfl ?_
    rw [cond_false] at k
    repeat (first | refine lda H ?_ | refine ld0 H ?_ | refine ldaN H ?_ | refine ld0N H ?_ | refine sta H fun w H => ?_ | refine st0 H fun w H => ?_)
    refine k s1' s2' _ ?_
    exact H.tln 2
  · refine cF rfl ?_
    rw [cond_true] at k
    dsimp only at k
    repeat (first | refine lda H ?_ | refine ld0 H ?_ | refine ldaN H ?_ | refine ld0N H ?_ | refine sta H fun w H => ?_ | refine st0 H fun w H => ?_)
    replace H := H.imm_nil (α := Bool)
    refine rd_laid (s1 := s1') (s2 := s2') (s5 := s5) (D := E) (all := true) (sv := ⟨none, 0, 0⟩) (surv := []) H (by repeat (first | assumption | constructor)) .h fun s' w H => ⟨s', ⟨none, 0, 0⟩, _, _, s5, rfl, ?_⟩
    rw [cond_true] at H
    repeat (first | refine lda H ?_ | refine ld0 H ?_ | refine ldaN H ?_ | refine ld0N H ?_ | refine sta H fun w H => ?_ | refine st0 H fun w H => ?_)
    refine k s' ⟨none, 0, 0⟩ _ ?_
    exact (H.dr (blk a3 _ _)).kp 3
theorem rd_Arm (H : Heap F w l) (hR : Has l (RDk s1 s2 s5 D)) {n : Int} {sv : Sl} {surv : List Bool} (hn : n ≤ 9223372036854775807) (hS : Has l (imm sv surv))
    (k : ∀ (s5' : Sl) w', Heap F w' (RDk s1 s2 s5' (D.arm n surv) :: l) → Q (dv s1 s2 s5' (D.arm n surv)) w') : Does Tryd.prog N_ref05_Disk_Arm #[dv s1 s2 s5 D, .int .i64 n, .slice sv.a sv.len sv.cap] w Q := by
  refine F_ref05_Disk_Arm_does _ _ _ _ _ _ _ _ _ ?_
  unfold F_ref05_Disk_Arm
  refine al H (cs := [s1.v, s2.v, .bool D.off, .int .i64 D.left, s5.v]) (fun a1 w H => ?_) rfl
  refine al H (cs := [(Sl.v ⟨none, 0, 0⟩), (Sl.v ⟨none, 0, 0⟩), .bool false, .int .i64 0, (Sl.v ⟨none, 0, 0⟩)]) (fun a3 w H => ?_) zc_ref05_Disk
  unfold Disk.arm at k
  refine lda H (cBoth (fun hoff => ?_) (fun hoff => ?_))
  · rw [hoff, cond_true] at k
    repeat (first | refine lda H ?_ | refine ld0 H ?_ | refine ldaN H ?_ | refine ld0N H ?_ | refine sta H fun w H => ?_ | refine st0 H fun w H => ?_)
    refine k s5 _ ?_
    exact (rd_re H (by repeat (first | assumption | constructor))).kp 2
  rw [show D.off = false by simpa using hoff, cond_false] at k
  obtain ⟨ok, H⟩ := rd_open H (s1 := s1) (s2 := s2) (s5 := s5) (D := D) (by repeat (first | assumption | constructor))
  repeat (first | refine lda H ?_ | refine ld0 H ?_ | refine ldaN H ?_ | refine ld0N H ?_ | refine sta H fun w H => ?_ | refine st0 H fun w H => ?_)
  have hoff' : D.off = false := by simpa using hoff
  intro J hJ
  refine dBoth (fun h0 => ?_) (fun h0 => hJ _ ?_)
  · have h0' : n < 0 := h0
    refine sta H fun w H => hJ _ ?_
    rw [if_neg (show ¬ 0 ≤ n by omega)] at k
    repeat (first | refine lda H ?_ | refine ld0 H ?_ | refine ldaN H ?_ | refine ld0N H ?_ | refine sta H fun w H => ?_ | refine st0 H fun w H => ?_)
    rw [hoff'] at H ⊢
    refine k sv _ ?_
    replace H := rd_close H (s1 := s1) (s2 := s2) (s5 := sv) (L1 := D.has.map bs) (L2 := D.waits.map RW.mk) (L5 := surv) (by repeat (first | assumption | constructor)) (by repeat (first | assumption | constructor)) (by repeat (first | assumption | constructor)) { D with left := -1, surv := surv } ⟨ok.has, ok.size, ok.waits, by simp⟩ rfl rfl rfl
    rw [hoff'] at H
    exact H.kp 5
  · have h0' : ¬ n < 0 := h0
    rw [if_pos (show 0 ≤ n by omega)] at k
    repeat (first | refine lda H ?_ | refine ld0 H ?_ | refine ldaN H ?_ | refine ld0N H ?_ | refine sta H fun w H => ?_ | refine st0 H fun w H => ?_)
    rw [hoff'] at H ⊢
    refine k sv _ ?_
    replace H := rd_close H (s1 := s1) (s2 := s2) (s5 := sv) (L1 := D.has.map bs) (L2 := D.waits.map RW.mk) (L5 := surv) (by repeat (first | assumption | constructor)) (by repeat (first | assumption | constructor)) (by repeat (first | assumption | constructor)) { D with left := n, surv := surv } ⟨ok.has, ok.size, ok.waits, by dsimp only; omega⟩ rfl rfl rfl
    rw [hoff'] at H
    exact H.kp 5
theorem rd_Power (H : Heap F w l) (hR : Has l (RDk s1 s2 s5 D))
    (k : ∀ w', Heap F w' (RDk s1 ⟨none, 0, 0⟩ s5 D.power :: l) → Q (dv s1 ⟨none, 0, 0⟩ s5 D.power) w') : Does Tryd.prog N_ref05_Disk_Power #[dv s1 s2 s5 D] w Q := by
  refine F_ref05_Disk_Power_does _ _ _ _ _ _ _ ?_
  unfold F_ref05_Disk_Power
  refine al H (cs := [s1.v, s2.v, .bool D.off, .int .i64 D.left, s5.v]) (fun a1 w H => ?_) rfl
  refine al H (cs := [(Sl.v ⟨none, 0, 0⟩), (Sl.v ⟨none, 0, 0⟩), .bool false, .int .i64 0, (Sl.v ⟨none, 0, 0⟩)]) (fun a3 w H => ?_) zc_ref05_Disk
  unfold Disk.power at k
  obtain ⟨ok, H⟩ := rd_open H (s1 := s1) (s2 := s2) (s5 := s5) (D := D) (by repeat (first | assumption | constructor))
  repeat (first | refine lda H ?_ | refine ld0 H ?_ | refine ldaN H ?_ | refine ld0N H ?_ | refine sta H fun w H => ?_ | refine st0 H fun w H => ?_)
  refine k _ ?_
  replace H := H.imm_nil (α := RW)
  replace H := rd_close H (s1 := s1) (s2 := ⟨none, 0, 0⟩) (s5 := s5) (L1 := D.has.map bs) (L2 := []) (L5 := D.surv) (by repeat (first | assumption | constructor)) .h (by repeat (first | assumption | constructor)) { D with waits := [], off := false, left := -1 } ⟨ok.has, ok.size, fun w hw => by simp at hw, by simp⟩ rfl rfl rfl
  exact H.kp 6
theorem rd_Image (H : Heap F w l) (hR : Has l (RDk s1 s2 s5 D)) (k : ∀ w', Heap F w' l → Q (.string (bs D.has.flatten)) w') : Does Tryd.prog N_ref05_Disk_Image #[dv s1 s2 s5 D] w Q := by
  refine F_ref05_Disk_Image_does _ _ _ _ _ _ _ ?_
  unfold F_ref05_Disk_Image
  refine al H (cs := [s1.v, s2.v, .bool D.off, .int .i64 D.left, s5.v]) (fun a1 w H => ?_) rfl
  obtain ⟨ok, H⟩ := rd_open H (.t hR)
  have hsz := ok.size
  have l1 := H.len (s := s1) (xs := D.has.map bs)
  simp only [List.length_map] at l1
  refine ⟨fun s x w' => ∃ i : Nat, x = (i : Int) ∧ s = bs (D.has.take i).flatten ∧ i ≤ D.has.length ∧ Heap F w' (imm s1 (D.has.map bs) :: imm s2 (D.waits.map RW.mk) :: imm s5 D.surv :: blk a1 T_ref05_Disk [s1.v, s2.v, .bool D.off, .int .i64 D.left, s5.v] :: l), fun _ x _ => (D.has.length - x).toNat,
    ⟨0, rfl, rfl, by omega, H⟩, ?_⟩
  rintro _ x w1 ⟨i, rfl, rfl, hi, H⟩
  refine ld0 H (dBoth (fun hlt => ?_) (fun hge => ?_))
  · have hlt' : i < D.has.length := by omega
    refine ld0 H ?_
    refine idxI1 (s := s1) (xs := D.has.map bs) H (by omega) (by simp; omega) (fun a hc => ldT_cell _ hc ?_)
    simp only [Int.toNat_natCast, List.getElem_map]
    have hl : (D.has.take i).flatten.length = 64 * i := by rw [flat_len64 _ fun s hs => ok.has s (List.mem_of_mem_take hs), List.length_take]; omega
    have h64 := ok.has _ (List.getElem_mem hlt')
    refine ⟨by simp only [bs_size, hl, h64]; omega, ⟨i + 1, by rw [i64_id (by omega)]; omega, ?_, by omega, H⟩, by rw [i64_id (by omega)]; omega⟩
    rw [bs_append, List.take_succ_eq_append_getElem hlt', List.flatten_append]
    simp
  · obtain rfl : i = D.has.length := by omega
    rw [List.take_length]
    exact k _ (H.tln 4)
theorem ref_New (H : Heap F w l) {n : Nat} (h1 : 1 ≤ n) (h2 : n ≤ 256) (k : ∀ (s1 : Sl) w', Heap F w' (RDk s1 ⟨none, 0, 0⟩ ⟨none, 0, 0⟩ (Disk.new n) :: l) → Q (.tuple #[dv s1 ⟨none, 0, 0⟩ ⟨none, 0, 0⟩ (Disk.new n), .bool true]) w') : Does Tryd.prog N_ref05_New #[.int .i64 (n : Int)] w Q := by
  refine F_ref05_New_does _ _ _ ?_
  unfold F_ref05_New
  refine al H (cs := [(Sl.v ⟨none, 0, 0⟩), (Sl.v ⟨none, 0, 0⟩), .bool false, .int .i64 0, (Sl.v ⟨none, 0, 0⟩)]) (fun a1 w H => ?_) zc_ref05_Disk
  refine al H (cs := [(Sl.v ⟨none, 0, 0⟩), (Sl.v ⟨none, 0, 0⟩), .bool false, .int .i64 0, (Sl.v ⟨none, 0, 0⟩)]) (fun a3 w H => ?_) zc_ref05_Disk
  repeat (first | refine lda H ?_ | refine ld0 H ?_ | refine ldaN H ?_ | refine ld0N H ?_ | refine sta H fun w H => ?_ | refine st0 H fun w H => ?_)
  intro J hJ J2 hJ2
  refine dF (by omega) ?_
  rw [decide_eq_false (show ¬ ((n : Int) > 256) by omega)]
  refine hJ2 _ _ (cF rfl (hJ _ ?_))
  replace H := H.own_nil (α := ByteArray) T_string
  refine ⟨fun x w' => ∃ (i : Nat) (s : Sl), x = (i : Int) ∧ i ≤ n ∧ Heap F w' (own T_string s (List.replicate i (bs zeros64)) :: blk a3 T_ref05_Disk [s.v, (Sl.v ⟨none, 0, 0⟩), .bool false, .int .i64 (-1), (Sl.v ⟨none, 0, 0⟩)] :: blk a1 T_ref05_Disk [(Sl.v ⟨none, 0, 0⟩), (Sl.v ⟨none, 0, 0⟩), .bool false, .int .i64 0, (Sl.v ⟨none, 0, 0⟩)] :: l), fun x _ => (n - x).toNat,
    ⟨0, ⟨none, 0, 0⟩, rfl, by omega, H⟩, ?_⟩
  rintro x w1 ⟨i, s, rfl, hi, H⟩
  refine dBoth (fun hlt => ?_) (fun hge => ?_)
  · replace H := H.drew
    refine ld0 H ?_
    refine ref_Noughts H fun H => ⟨_, rfl, cell0 H, ?_⟩
    refine al H (cs := [.string (bs zeros64)]) (fun a w H => ⟨cell0 H, ?_⟩) rfl
    refine psh1 (s := s) (xs := List.replicate i (bs zeros64)) (bs zeros64) S_l_string H (by simp; omega) fun s' w H => ?_
    refine st0 H fun w H => ⟨⟨i + 1, s', by rw [i64_id (by omega)]; omega, by omega, ?_⟩, by rw [i64_id (by omega)]; dsimp only; omega⟩
    rw [← List.replicate_succ'] at H
    replace H := H.dr (blk a _ _)
    exact H.ord2 (a := own T_string s' _) (b := blk a3 _ _)
  · obtain rfl : i = n := by omega
    refine ld0 H ?_
    refine ldaN H ?_
    repeat (first | refine lda H ?_ | refine ld0 H ?_ | refine ldaN H ?_ | refine ld0N H ?_ | refine sta H fun w H => ?_ | refine st0 H fun w H => ?_)
    refine k s _ ?_
    replace H := ((H.share (s := s)).imm_nil (α := RW)).imm_nil (α := Bool)
    replace H := rd_close H (s1 := s) (s2 := ⟨none, 0, 0⟩) (s5 := ⟨none, 0, 0⟩) (L1 := List.replicate i (bs zeros64)) (L2 := ([] : List RW)) (L5 := ([] : List Bool)) (by repeat (first | assumption | constructor)) (.t .h) .h (Disk.new i) ⟨fun s hs => by simp [Disk.new] at hs; simp [hs.2], by simp [Disk.new]; omega, fun w hw => by simp [Disk.new] at hw, by simp [Disk.new]⟩ (by simp [Disk.new, zeros64]) rfl rfl
    exact H.kp 5
end
end Go.Proofs.YtkfcmpngcanffaaDoor.G

set_option linter.unusedVariables false
set_option linter.unusedSimpArgs false
namespace Nac
theorem get_cons (c : UInt8) (l : List UInt8) : get (c :: l) = get l * 256 + c.toUInt64 := by
  apply UInt64.toNat_inj.1
  have hc := c.toNat_lt
  have hg := (get l).toNat_lt
  show ((get l <<< 8) ||| c.toUInt64).toNat = _
  rw [UInt64.toNat_or, UInt64.toNat_shiftLeft, UInt64.toNat_add, UInt64.toNat_mul, UInt8.toNat_toUInt64, show (8 : UInt64).toNat % 64 = 8 from rfl, show (256 : UInt64).toNat = 256 from rfl, Nat.shiftLeft_eq, show (2 : Nat) ^ 64 = 18446744073709551616 from rfl]
  have e : (get l).toNat * 2 ^ 8 % 18446744073709551616 = 2 ^ 8 * ((get l).toNat % 2 ^ 56) := by omega
  rw [e, ← Nat.two_pow_add_eq_or_of_lt (by omega)]
  omega
theorem get_step (n u g : UInt64) (c : UInt64) : (n + c * u) + u * 256 * g = n + u * (g * 256 + c) := by
  rw [UInt64.mul_add, UInt64.mul_comm c u, UInt64.add_assoc, UInt64.add_comm (u * c), UInt64.mul_assoc, UInt64.mul_comm 256 g]
end Nac
namespace Go.VC
open Go Go.RowKit
theorem mul64 (a b : UInt64) : IntKind.wrap .u64 ((a.toNat : Int) * (b.toNat : Int)) = ((a * b).toNat : Int) := by
  rw [IntKind.wrap_u64, UInt64.toNat_mul]
  rw [← Int.natCast_mul, Int.natCast_emod]; rfl
theorem add64 (a b : UInt64) : IntKind.wrap .u64 ((a.toNat : Int) + (b.toNat : Int)) = ((a + b).toNat : Int) := by
  rw [IntKind.wrap_u64, UInt64.toNat_add]
  rw [← Int.natCast_add, Int.natCast_emod]; rfl
theorem mod256 (a : UInt64) : IntKind.wrap .u8 (Int.tmod (a.toNat : Int) 256) = (a.toUInt8.toNat : Int) := by
  rw [IntKind.wrap_u8, UInt64.toNat_toUInt8, Int.tmod_eq_emod_of_nonneg (by omega)]
  show ((a.toNat : Int) % 256) % 256 = ((a.toNat % 256 : Nat) : Int)
  omega
theorem div256 (a : UInt64) : IntKind.wrap .u64 (Int.tdiv (a.toNat : Int) 256) = ((a >>> 8).toNat : Int) := by
  have := a.toNat_lt
  rw [IntKind.wrap_u64, UInt64.toNat_shiftRight, show (8 : UInt64).toNat % 64 = 8 from rfl, Nat.shiftRight_eq_div_pow, Int.tdiv_eq_ediv_of_nonneg (by omega)]
  show ((a.toNat : Int) / 256) % 18446744073709551616 = ((a.toNat / 256 : Nat) : Int)
  omega
end Go.VC
namespace Go.Proofs.YtkfcmpngcanffaaDoor.G
open Go Go.VC Go.RowKit Go.Proofs Go.Proofs.YtkfcmpngcanffaaDoor Nac
attribute [local irreducible] Tryd.prog
section
variable {F : Bs} {w : World} {l r : List SP} {b d p : Nat} {D : Disk} {Q : Value → World → Prop} {X : Nac.Ext}
theorem ref_Number (H : Heap F w l) {s : Sl} {bb : List UInt8} (k : Q (.int .u64 ((Nac.get bb).toNat : Int)) w) (hI : Has l (imm s bb) := by repeat (first | assumption | constructor)) : Does Tryd.prog N_ref02_Number #[.slice s.a s.len s.cap] w Q := by
  refine F_ref02_Number_does _ _ _ ?_
  unfold F_ref02_Number
  have hl := H.len hI
  have hb := H.bndI hI
  refine ⟨fun m u x w' => ∃ (i : Nat) (q v : UInt64), x = i ∧ m = (q.toNat : Int) ∧ u = (v.toNat : Int) ∧ i ≤ bb.length ∧ q + v * Nac.get (bb.drop i) = Nac.get bb ∧ w' = w, fun _ _ x _ => (bb.length - x).toNat, ⟨0, 0, 1, rfl, rfl, rfl, by omega, by simp, rfl⟩, ?_⟩
  rintro m u x w1 ⟨i, q, v, rfl, rfl, rfl, hi, hq, rfl⟩
  refine dBoth (fun hlt => ?_) (fun hge => ?_)
  · have hlt' : i < bb.length := by omega
    refine idxI1 (xs := bb) H (by omega) (by omega) (fun a ha => ldT_cell _ ha ?_) hI
    simp only [Int.toNat_natCast]
    rw [wrap64_8, mul64, add64, show (256 : Int) = ((256 : UInt64).toNat : Int) by decide, mul64]
    refine ⟨⟨i + 1, q + bb[i].toUInt64 * v, v * 256, by rw [i64_id (by omega)]; omega, rfl, rfl, by omega, ?_, (by first | rfl | trivial)⟩, by rw [i64_id (by omega)]; (try dsimp only); omega⟩
    rw [← hq, List.drop_eq_getElem_cons hlt', get_cons, get_step]
  · obtain rfl : i = bb.length := by omega
    rw [List.drop_of_length_le (Nat.le_refl _)] at hq
    have : q = Nac.get bb := by rw [← hq]; simp [Nac.get]
    rw [this]
    exact k
theorem ref_Put (H : Heap F w l) {n : UInt64} {k : Nat} (h8 : k ≤ 8) {K : Value → World → Prop} (kk : ∀ (s : Sl) w', Heap F w' (own T_uint8 s (put n k) :: l) → K (.slice s.a s.len s.cap) w') :
    Does Tryd.prog N_ref02_Put #[.int .u64 (n.toNat : Int), .int .i64 (k : Int)] w K := by
  refine F_ref02_Put_does _ _ _ _ ?_
  unfold F_ref02_Put
  refine dF (by omega) ?_
  replace H := H.own_nil (α := UInt8) T_uint8
  refine ⟨fun m s x w' => ∃ (i : Nat) (q : UInt64) (done : List UInt8), x = i ∧ m = (q.toNat : Int) ∧ i ≤ k ∧ done.length = i ∧ done ++ put q (k - i) = put n k ∧ Heap F w' (own T_uint8 s done :: l), fun _ _ x _ => (k - x).toNat,
    ⟨0, n, [], rfl, rfl, by omega, rfl, rfl, H⟩, ?_⟩
  rintro m s x w1 ⟨i, q, done, rfl, rfl, hi, hdl, hd, H⟩
  refine dBoth (fun hlt => ?_) (fun hge => ?_)
  · have hlt' : i < k := by omega
    refine ⟨by decide, ?_⟩
    rw [mod256, div256]
    refine al H (cs := [.int .u8 (q.toUInt8.toNat : Int)]) (fun a w H => ?_) rfl
    refine psh1 (s := s) (xs := done) q.toUInt8 S_l_uint8 H (by omega) fun s' w H => ⟨by decide, ⟨i + 1, q >>> 8, done ++ [q.toUInt8], by rw [i64_id (by omega)]; omega, rfl, by omega, by simp [hdl], ?_, H.dr (blk a _ _)⟩, by rw [i64_id (by omega)]; dsimp only; omega⟩
    rw [← hd, show k - i = (k - (i + 1)) + 1 by omega, put]; simp
  · obtain rfl : i = k := by omega
    rw [Nat.sub_self] at hd
    simp only [put, List.append_nil] at hd
    subst hd
    exact kk s _ H
theorem bit_ref (q : UInt32) (c : UInt8) (k : Nat) (hk : k < 8) : (Int.tmod (IntKind.wrap .u32 ((Int.tmod (q.toNat : Int) 2) + (Int.tmod (IntKind.wrap .u32 (Int.fdiv (c.toNat : Int) (2 ^ (min (Int.toNat ((IntKind.wrap .u64 (k : Int)))) (IntKind.bits .u8))))) 2))) 2) = (((q.toNat % 2 + c.toNat / 2 ^ k % 2) % 2 : Nat) : Int) := by
  have hc := c.toNat_lt
  have hm : min (Int.toNat (IntKind.wrap .u64 (k : Int))) (IntKind.bits .u8) = k := by
    rw [wrap_u64n _ (by omega)]; show min (Int.toNat (k : Int)) 8 = k; omega
  rw [hm, Int.fdiv_eq_ediv_of_nonneg _ (Int.le_of_lt (Int.pow_pos (by decide)))]
  have e : ((c.toNat : Int) / 2 ^ k) = ((c.toNat / 2 ^ k : Nat) : Int) := by simp
  have hq : c.toNat / 2 ^ k ≤ c.toNat := Nat.div_le_self _ _
  rw [e]
  generalize c.toNat / 2 ^ k = z at *
  rw [Int.tmod_eq_emod_of_nonneg (a := (q.toNat : Int)) (by omega), IntKind.wrap_u32 (z : Int), Int.tmod_eq_emod_of_nonneg (a := (z : Int) % 4294967296) (by omega), IntKind.wrap_u32 (_ + _), Int.tmod_eq_emod_of_nonneg (by omega)]
  omega
theorem half32 (q : UInt32) : IntKind.wrap .u32 (Int.tdiv (q.toNat : Int) 2) = ((q >>> 1).toNat : Int) := by
  have := q.toNat_lt
  rw [IntKind.wrap_u32, UInt32.toNat_shiftRight, show (1 : UInt32).toNat % 32 = 1 from rfl, Nat.shiftRight_eq_div_pow, Int.tdiv_eq_ediv_of_nonneg (by omega)]
  show ((q.toNat : Int) / 2) % 4294967296 = ((q.toNat / 2 : Nat) : Int)
  omega
theorem compl32 (q : UInt32) : IntKind.wrap .u32 (4294967295 - (q.toNat : Int)) = ((~~~ q).toNat : Int) := by
  have := q.toNat_lt
  have h : (~~~ q).toNat = 4294967295 - q.toNat := by rw [UInt32.toNat_not]; rfl
  rw [IntKind.wrap_u32, h]
  omega
theorem ref_On (H : Heap F w l) {s : Sl} {bb : List UInt8} {s0 : UInt32} (k : Q (.int .u32 ((crcOn s0 bb).toNat : Int)) w) (hI : Has l (imm s bb) := by repeat (first | assumption | constructor)) :
    Does Tryd.prog N_ref03_On #[.int .u32 (s0.toNat : Int), .slice s.a s.len s.cap] w Q := by
  refine F_ref03_On_does _ _ _ _ ?_
  unfold F_ref03_On
  have hl := H.len hI
  have hb := H.bndI hI
  rw [compl32]
  refine ⟨fun m x w' => ∃ (i : Nat) (q : UInt32), x = i ∧ m = (q.toNat : Int) ∧ i ≤ bb.length ∧ (bb.drop i).foldl crcB q = bb.foldl crcB (~~~ s0) ∧ w' = w, fun _ x _ => (bb.length - x).toNat, ⟨0, ~~~ s0, rfl, rfl, by omega, rfl, rfl⟩, ?_⟩
  rintro m x w1 ⟨i, q, rfl, rfl, hi, hq, rfl⟩
  refine dBoth (fun hlt => ?_) (fun hge => ?_)
  · have hlt' : i < bb.length := by omega
    refine ⟨fun m x w' => ∃ (j : Nat), x = j ∧ m = ((refBits q bb[i] j).toNat : Int) ∧ j ≤ 8 ∧ w' = w1, fun _ x _ => (8 - x).toNat, ⟨0, rfl, rfl, by omega, rfl⟩, ?_⟩
    rintro m x w2 ⟨j, rfl, rfl, hj, rfl⟩
    refine dBoth (fun hlt => ?_) (fun hge => ?_)
    · intro J hJ
      refine idxI1 (xs := bb) H (by omega) (by omega) (fun a ha => ldT_cell _ ha ?_) hI
      simp only [Int.toNat_natCast]
      refine ⟨by rw [wrap_u64n _ (by omega)]; omega, by decide, by decide, by decide, by decide, ?_⟩
      have e1 := bit_ref (refBits q bb[i] j) bb[i] j (by omega)
      rw [half32]
      rw [e1]
      have st : refBits q bb[i] (j + 1) = ((refBits q bb[i] j) >>> 1) ^^^ (if ((refBits q bb[i] j).toNat % 2 + bb[i].toNat / 2 ^ j % 2) % 2 = 1 then poly else 0) := rfl
      have nx : ∀ w', w' = w2 → J ((refBits q bb[i] (j + 1)).toNat : Int) w' := by
        rintro w' rfl
        exact hJ _ _ ⟨⟨j + 1, by rw [i64_id (by omega)]; omega, rfl, by omega, rfl⟩, by rw [i64_id (by omega)]; dsimp only; omega⟩
      refine cBoth (fun h => ?_) (fun h => ?_)
      · rw [show (2197175160 : Int) = ((poly).toNat : Int) by decide, xor32]
        rw [if_pos (by have : ((((refBits q bb[i] j).toNat % 2 + bb[i].toNat / 2 ^ j % 2) % 2 : Nat) : Int) = 1 := by simpa using h
                       omega)] at st
        rw [← st]; exact nx _ rfl
      · rw [if_neg (by have : ¬ ((((refBits q bb[i] j).toNat % 2 + bb[i].toNat / 2 ^ j % 2) % 2 : Nat) : Int) = 1 := by simpa using h
                       omega), UInt32.xor_zero] at st
        rw [← st]; exact nx _ rfl
    · obtain rfl : j = 8 := by omega
      rw [refByte]
      exact ⟨⟨i + 1, crcB q bb[i], by rw [i64_id (by omega)]; omega, rfl, by omega, by rw [← hq, List.drop_eq_getElem_cons hlt']; rfl, (by first | rfl | trivial)⟩, by rw [i64_id (by omega)]; (try dsimp only); omega⟩
  · obtain rfl : i = bb.length := by omega
    rw [List.drop_of_length_le (Nat.le_refl _)] at hq
    rw [compl32, show q = bb.foldl crcB (~~~ s0) from hq]
    exact k
theorem ref_Of (H : Heap F w l) {s : Sl} {bb : List UInt8} (k : Q (.int .u32 ((crc bb).toNat : Int)) w) (hI : Has l (imm s bb) := by repeat (first | assumption | constructor)) :
    Does Tryd.prog N_ref03_Of #[.slice s.a s.len s.cap] w Q := by
  refine F_ref03_Of_does _ _ _ ?_
  unfold F_ref03_Of
  exact ref_On (s0 := 0) H ⟨_, rfl, k⟩ hI
theorem ref_Seal (H : Heap F w l) {s : Sl} {bb : List UInt8} (hn : bb.length ≤ 1000000) (k : ∀ (s' : Sl) w', Heap F w' (own T_uint8 s' (seal_ bb) :: l) → Q (.slice s'.a s'.len s'.cap) w') (hI : Has l (imm s bb) := by repeat (first | assumption | constructor)) :
    Does Tryd.prog N_ref03_Seal #[.slice s.a s.len s.cap] w Q := by
  refine F_ref03_Seal_does _ _ _ ?_
  unfold F_ref03_Seal
  refine al H (cs := []) (fun a w H => ?_) rfl
  replace H := H.blk_own0 (α := UInt8) (b := a)
  refine apI (s := ⟨some ⟨a, 0, none⟩, 0, 0⟩) (xs := ([] : List UInt8)) (ys := bb) S_l_uint8 H (by simp; omega) (fun s1 w H => ?_) (hI := .t hI)
  rw [List.nil_append] at H
  refine ref_Of (s := s) (bb := bb) H ⟨_, rfl, ?_⟩ (.t hI)
  rw [wrap64_32]
  refine ref_Put H (k := 4) (by decide) fun s2 w H => ⟨_, rfl, ?_⟩
  replace H := H.share (s := s2) (xs := put (crc bb).toUInt64 4)
  refine apI (s := s1) (xs := bb) (ys := put (crc bb).toUInt64 4) S_l_uint8 H (by simp; omega) fun s3 w H => k s3 w (H.dr (imm s2 _))
theorem ref_Noughts16 (H : Heap F w l) {n : Nat} (hn : n ≤ 1000000) (k : Heap F w l → Q (.string (bs (List.replicate n 0))) w) : Does Tryd.prog N_ref16_Noughts #[.int .i64 (n : Int)] w Q := by
  refine F_ref16_Noughts_does _ _ _ ?_
  unfold F_ref16_Noughts
  refine ⟨fun s x w' => ∃ i : Nat, x = (i : Int) ∧ s = bs (List.replicate i 0) ∧ i ≤ n ∧ w' = w, fun _ x _ => (n - x).toNat, ⟨0, rfl, rfl, by omega, rfl⟩, ?_⟩
  rintro _ x w1 ⟨i, rfl, rfl, hi, rfl⟩
  refine dBoth (fun hlt => ?_) (fun hge => ?_)
  · have e : bs (List.replicate i 0) ++ (⟨#[0]⟩ : ByteArray) = bs (List.replicate (i + 1) 0) := by
      rw [show (⟨#[0]⟩ : ByteArray) = bs [0] from rfl, bs_append, ← List.replicate_succ']
    rw [e]
    refine ⟨?_, ⟨i + 1, by rw [i64_id (by omega)]; omega, rfl, by omega, (by first | rfl | trivial)⟩, by rw [i64_id (by omega)]; dsimp only; omega⟩
    rw [show (⟨#[0]⟩ : ByteArray) = bs [0] from rfl]
    simp only [bs_size, List.length_replicate, List.length_cons, List.length_nil]; omega
  · obtain rfl : i = n := by omega
    exact k H
theorem aud_Dead {L : List Entry} {dead : Bool} (H : Heap F w l) (k : Q (.bool dead) w) (hT : Take l (LogAt b p L dead) r := by repeat (first | assumption | constructor)) : Does Tryd.prog N_audit_Log_Dead #[.pointer (some ⟨b, 0, none⟩)] w Q := by
  refine F_audit_Log_Dead_does _ _ _ ?_
  unfold F_audit_Log_Dead
  obtain ⟨s, H⟩ := (H.take hT).opn
  dsimp only [List.cons_append, List.nil_append] at H
  exact nn (lda H k)
theorem disk_Image (H : Heap F w l) (k : ∀ (s : Sl) w', Heap F w' (own T_uint8 s D.has.flatten :: DiskAt b D :: r) → Q (.slice s.a s.len s.cap) w') (hT : Take l (DiskAt b D) r := by repeat (first | assumption | constructor)) :
    Does Tryd.prog N_disk_Disk_Image #[.pointer (some ⟨b, 0, none⟩)] w Q := by
  refine F_disk_Disk_Image_does _ _ _ ?_
  unfold F_disk_Disk_Image
  obtain ⟨⟨g, ws, sv, left⟩, H⟩ := (H.take hT).opn
  dsimp only [List.cons_append, List.nil_append] at H
  obtain ⟨⟨ok, hl⟩, H⟩ := H.pur
  have hsz := ok.size
  have hfl := flat_len64 D.has ok.has
  refine nn (ld0 H ?_)
  refine apB (s := ⟨none, 0, 0⟩) (xs := ([] : List UInt8)) D.has.flatten S_l_uint8 (H.own_nil (α := UInt8) T_uint8) (by simp only [List.length_nil]; omega) rfl hfl (fun s w H => k s w ?_)
  rw [List.nil_append] at H
  exact (disk_cls (r := own T_uint8 s D.has.flatten :: r) H D ok rfl rfl rfl rfl hl rfl rfl (hT := .c (.t .h) (.c (.t .h) (.c (.t .h) (.c (.t .h) .n))))).take (.t .h)
end
end Go.Proofs.YtkfcmpngcanffaaDoor.G
