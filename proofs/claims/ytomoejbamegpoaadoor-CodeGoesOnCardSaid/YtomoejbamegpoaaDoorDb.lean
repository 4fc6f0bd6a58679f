import Derived.Test.YtomoejbamegpoaaDoorDa
import Derived.Test.YtomoejbamegpoaaDoorGenz
import Derived.Test.YtomoejbamegpoaaDoorSm
import Derived.Test.YtomoejbamegpoaaDoorNa
set_option linter.unusedVariables false
set_option linter.unusedSimpArgs false
namespace Go.VC
open Go Go.RowKit
/-- a block that nothing writes any more -/
theorem Heap.blk_atc {F : Bs} {w : World} {l r : List SP} {b : Nat} {ty : TypeId} {cs : List Value} (H : Heap F w l) (hT : Take l (blk b ty cs) r) : Heap F w (Go.VC.atc b 0 cs :: r) :=
  (H.take hT).freeze fun ro h d hb j u hj => by
    have hb' : h b = some (.cells cs.toArray ty (0, 0)) := hb
    simp only [roCell, PH.le_join_right d _ _ hb', Nat.zero_add]
    simpa using hj
end Go.VC
namespace Go.Proofs.YtomoejbamegpoaaDoor.G
open Go Go.VC Go.RowKit Go.Proofs Go.Proofs.YtomoejbamegpoaaDoor
theorem und_l8 : Tryd.prog.underlying T_l_uint8 = some (.slice T_uint8) := by kernel_rfl
theorem und_8 : Tryd.prog.underlying T_uint8 = some (.int .u8) := by kernel_rfl
theorem und_s : Tryd.prog.underlying T_string = some .string := by kernel_rfl
theorem und_i : Tryd.prog.underlying T_int = some (.int .i64) := by kernel_rfl
def isIf (P : Program) (t : TypeId) : Bool := match P.underlying t with
  | some (.interface _) => true
  | _ => false
theorem isIf_ex {P : Program} {t : TypeId} (h : isIf P t = true) : ∃ ms, P.underlying t = some (.interface ms) := by
  unfold isIf at h
  split at h
  · exact ⟨_, by assumption⟩
  · cases h
theorem if_err : isIf Tryd.prog T_error = true := by kernel_rfl
theorem if_eqIn {P : Program} {w : World} {t s : Nat} {u : Value} (d : Nat) (h : isIf P t = true) : (Op.equalIn (d + 1) t (.iface s u) .nilIface).run P w = .ok false w := by
  obtain ⟨ms, hm⟩ := isIf_ex h
  simp [Op.equalIn, run_underlying hm]
theorem if_run {P : Program} {w : World} {t x s : Nat} {u : Value} (h : isIf P t = true) : (do eqGuard .eql t (.tmp x) (.const (.nilIface)) (.iface s u) (.nilIface); binOp .eql t (.iface s u) (.nilIface) : Sem Value).run P w = .ok (.bool false) w := by
  rw [eqGuard_at_iface]
  have e := if_eqIn (P := P) (w := w) (s := s) (u := u) 9999 h
  simp only [pure_bind, binOp]
  show ((Op.equalIn 10000 t (.iface s u) .nilIface) >>= fun a => pure (Value.bool a) : Sem Value).run P w = _
  rw [Sem.run_bind, e]; rfl
theorem nil_eqIn {P : Program} {w : World} {t : Nat} (d : Nat) (h : isIf P t = true) : (Op.equalIn (d + 1) t .nilIface .nilIface).run P w = .ok true w := by
  obtain ⟨ms, hm⟩ := isIf_ex h
  simp [Op.equalIn, run_underlying hm]
theorem nil_run {P : Program} {w : World} {t x : Nat} (h : isIf P t = true) : (do eqGuard .eql t (.tmp x) (.const (.nilIface)) (.nilIface) (.nilIface); binOp .eql t (.nilIface) (.nilIface) : Sem Value).run P w = .ok (.bool true) w := by
  rw [eqGuard_nil_constR]
  have e := nil_eqIn (P := P) (w := w) 9999 h
  simp only [pure_bind, binOp]
  show ((Op.equalIn 10000 t .nilIface .nilIface) >>= fun a => pure (Value.bool a) : Sem Value).run P w = _
  rw [Sem.run_bind, e]; rfl
theorem nil_eq {w : World} {K : Bool → World → Prop} {x : Nat} (k : K true w) : runG (.bool) Tryd.prog w (do eqGuard .eql T_error (.tmp x) (.const (.nilIface)) (.nilIface) (.nilIface); binOp .eql T_error (.nilIface) (.nilIface)) K :=
  ⟨.bool true, w, nil_run if_err, _, rfl, k⟩
theorem iface_ne {w : World} {t : Nat} {u : Value} {K : Bool → World → Prop} {x : Nat} (k : K false w) : runG (.bool) Tryd.prog w (do eqGuard .eql T_error (.tmp x) (.const (.nilIface)) (.iface t u) (.nilIface); binOp .eql T_error (.iface t u) (.nilIface)) K :=
  ⟨.bool false, w, if_run if_err, _, rfl, k⟩
attribute [local irreducible] Tryd.prog
/-- what the library's variable holds: the handle of the type error -/
def ErrTy : SP := ⟨fun ro _ => roCell ro 0 0 = some (.iface 110 (.agg #[.pointer (some ⟨4, 31, none⟩)])), fun hr _ h => roCell.mono hr h⟩
/-- an error: the faults from the outermost one on -/
def errR (ro : PH) : List (Int × Int) → Value → Prop
  | [], v => v = .nilIface
  | (c, a) :: l, v => ∃ (b : Nat) (u : Value), v = .iface T_p_fault_Fault (.pointer (some ⟨b, 0, none⟩)) ∧ roCell ro b 0 = some (.int .i64 c) ∧ roCell ro b 1 = some (.int .i64 a) ∧ roCell ro b 2 = some u ∧ errR ro l u
theorem errR.mono {ro ro' : PH} (h : PH.le ro ro') : ∀ {l : List (Int × Int)} {v : Value}, errR ro l v → errR ro' l v
  | [], _, e => e
  | _ :: _, _, ⟨b, u, e, h0, h1, h2, hr⟩ => ⟨b, u, e, roCell.mono h h0, roCell.mono h h1, roCell.mono h h2, hr.mono h⟩
def Err (v : Value) (fl : List (Int × Int)) : SP := ⟨fun ro _ => errR ro fl v, fun hr _ h => h.mono hr⟩
section
variable {F : Bs} {w : World} {l r : List SP} {Q : Value → World → Prop} {v : Value} {fl : List (Int × Int)}
theorem err_nil (H : Heap F w l) : Heap F w (Err .nilIface [] :: l) := H.add0 fun _ => rfl
theorem err_val (H : Heap F w l) (hE : Has l (Err v fl)) : (fl = [] ∧ v = .nilIface) ∨ ∃ (c a : Int) (t : List (Int × Int)) (b : Nat) (u : Value), fl = (c, a) :: t ∧ v = .iface T_p_fault_Fault (.pointer (some ⟨b, 0, none⟩)) ∧ Heap F w (atc b 0 [.int .i64 c, .int .i64 a, u] :: Err u t :: l) := by
  cases fl with
  | nil => exact .inl ⟨rfl, H.pure hE fun _ _ h => h⟩
  | cons x t =>
    obtain ⟨c, a⟩ := x
    right
    obtain ⟨ro, h, h1, h2, h3, h4, h5, h6⟩ := H
    obtain ⟨g, _, b, u, e, k0, k1, k2, kr⟩ := sep.has hE h5
    refine ⟨c, a, t, b, u, rfl, e, ro, h, h1, h2, h3, h4, ⟨PH.emp, h, fun _ => .inl rfl, PH.emp_le _, PH.le.refl _, ?_, PH.emp, h, fun _ => .inl rfl, PH.emp_le _, PH.le.refl _, kr, h5⟩, h6⟩
    intro j u' hj
    rw [Nat.zero_add]
    match j, hj with
    | 0, hj => simp at hj; subst hj; exact k0
    | 1, hj => simp at hj; subst hj; exact k1
    | 2, hj => simp at hj; subst hj; exact k2
theorem err_cons (H : Heap F w l) {b : Nat} {c a : Int} (hA : Has l (atc b 0 [.int .i64 c, .int .i64 a, v])) (hE : Has l (Err v fl)) : Heap F w (Err (.iface T_p_fault_Fault (.pointer (some ⟨b, 0, none⟩))) ((c, a) :: fl) :: l) :=
  H.imp fun ro h hs => by
    obtain ⟨g1, _, k1⟩ := sep.has hA hs
    obtain ⟨g2, _, k2⟩ := sep.has hE hs
    refine ⟨PH.emp, h, fun _ => .inl rfl, PH.emp_le _, PH.le.refl _, ⟨b, v, rfl, ?_, ?_, ?_, k2⟩, hs⟩
    · simpa using k1 0 _ rfl
    · simpa using k1 1 _ rfl
    · simpa using k1 2 _ rfl
theorem fault_New (H : Heap F w l) {c a : Int} (k : ∀ (v : Value) w', Heap F w' (Err v (if c = 0 then [] else [(c, a)]) :: l) → Q v w') : Does Tryd.prog N_fault_New #[.int .i64 c, .int .i64 a] w Q := by
  refine F_fault_New_does _ _ _ _ ?_
  unfold F_fault_New
  refine cBoth (fun h => ?_) (fun h => ?_)
  · have h0 : c = 0 := by simpa using h
    rw [if_pos h0] at k; exact k _ w (err_nil H)
  · have h0 : ¬ c = 0 := by simpa using h
    rw [if_neg h0] at k
    refine al H (cs := [.int .i64 c, .int .i64 a, .nilIface]) (fun b w H => k _ w ?_) rfl
    replace H := H.blk_atc .h
    have H2 := err_cons (err_nil H) (b := b) (c := c) (a := a) (v := .nilIface) (fl := []) (.t .h) .h
    exact Heap.kp 2 H2
theorem as_does (H : Heap F w l) {b ft : Nat} {old : Value} (hT : Has l ErrTy) (hB : Take l (blk ft T_p_fault_Fault [old]) r) (k : ∀ w', Heap F w' (blk ft T_p_fault_Fault [.pointer (some ⟨b, 0, none⟩)] :: r) → Q (.bool true) w') :
    Does Tryd.prog N_errors_As #[.iface T_p_fault_Fault (.pointer (some ⟨b, 0, none⟩)), .iface T_p_p_fault_Fault (.pointer (some ⟨ft, 0, none⟩))] w Q := by
  have hg : w.cell? ⟨0, 0, none⟩ = some (.iface 110 (.agg #[.pointer (some ⟨4, 31, none⟩)])) := by
    obtain ⟨ro, _, hro, _, h⟩ := H.get hT
    exact roCell.cell hro h
  have hb := H.Blk hB.has
  refine Calls.mono (as_hit ⟨b, 0, none⟩ ⟨ft, 0, none⟩ old w hg (by rw [hb.cell]; rfl) (hb.free 0)) fun e w' ⟨he, hw⟩ => ?_
  subst he; subst hw
  refine ⟨_, rfl, k _ ?_⟩
  replace H := H.take hB
  have X1 := H.ext ((Ch.refl _ w).alloc (.cells #[.pointer (some ⟨ft, 0, none⟩)] 86))
  have X2 := X1.ext ((Ch.refl _ _).alloc (.cells #[.pointer (some ⟨4, 86, none⟩), .pointer (some ⟨w.heap.size, 0, none⟩), .int .u64 150] 97))
  have X3 := X2.ext ((Ch.refl _ _).alloc (.cells #[.pointer (some ⟨4, 86, none⟩), .pointer (some ⟨w.heap.size, 0, none⟩), .int .u64 150] 97))
  have X4 := X3.ext ((Ch.refl _ _).alloc (.cells #[.pointer (some ⟨b, 0, none⟩)] 82))
  exact X4.setCell 0 _
theorem as_does0 (H : Heap F w l) {t : Value} (k : Heap F w l → Q (.bool false) w) : Does Tryd.prog N_errors_As #[.nilIface, t] w Q :=
  Calls.mono (as_nil t w) fun e w' ⟨he, hw⟩ => by subst he; subst hw; exact ⟨_, rfl, k H⟩
def fcode : List (Int × Int) → Int
  | [] => 0
  | (c, _) :: _ => c
theorem fault_Code (H : Heap F w l) (hE : Has l (Err v fl)) (hT : Has l ErrTy) (k : ∀ w', Heap F w' l → Q (.int .i64 (fcode fl)) w') : Does Tryd.prog N_fault_Code #[v] w Q := by
  refine F_fault_Code_does _ _ _ ?_
  unfold F_fault_Code
  refine al H (cs := [.pointer none]) (fun a1 w H => ?_) zc_p_fault_Fault
  rcases err_val H (.t hE) with ⟨rfl, rfl⟩ | ⟨c, a, t, b, u, rfl, rfl, H⟩
  · exact as_does0 H fun H => ⟨_, rfl, cF rfl (k w H.tl)⟩
  · refine as_does H (.t (.t (.t hT))) (.t (.t .h)) fun w H => ⟨_, rfl, cT rfl (ld0 H (nn ?_))⟩
    refine At.ld0 (H.atc (b := b) (o := 0) (.t .h)) (k w (H.tln 3))
theorem fault_In (H : Heap F w l) {et : Nat} {ev : Value} {a : Int} (hE : Has l (Err (.iface et ev) fl)) (hT : Has l ErrTy) (k : ∀ (v : Value) w', Heap F w' (Err v ((fcode fl, a) :: fl) :: l) → Q v w') : Does Tryd.prog N_fault_In #[.iface et ev, .int .i64 a] w Q := by
  refine F_fault_In_does _ _ _ _ _ ?_
  unfold F_fault_In
  refine iface_ne (cF rfl ?_)
  refine fault_Code H hE hT fun w H => ⟨_, rfl, ?_⟩
  refine al H (cs := [.int .i64 (fcode fl), .int .i64 a, .iface et ev]) (fun b w H => k _ w ?_) rfl
  replace H := H.blk_atc .h
  exact Heap.kp 1 (err_cons H (b := b) (c := fcode fl) (a := a) (v := .iface et ev) (fl := fl) .h (.t hE))
/-- the faults of an error, as pointers -/
def FR (ps : List (Option Addr)) (fl : List (Int × Int)) : SP := ⟨fun ro _ => ps.length = fl.length ∧ ∀ (i : Nat) (x : Int × Int), fl[i]? = some x → ∃ b : Nat, ps[i]? = some (some ⟨b, 0, none⟩) ∧ roCell ro b 0 = some (.int .i64 x.1) ∧ roCell ro b 1 = some (.int .i64 x.2),
  fun hr _ ⟨h, k⟩ => ⟨h, fun i x hx => by obtain ⟨b, a, c, d⟩ := k i x hx; exact ⟨b, a, roCell.mono hr c, roCell.mono hr d⟩⟩⟩
theorem FR_get (H : Heap F w l) {ps : List (Option Addr)} (hF : Has l (FR ps fl)) {i : Nat} (hi : i < fl.length) : ∃ (b : Nat), ps[i]? = some (some ⟨b, 0, none⟩) ∧ Heap F w (atc b 0 [.int .i64 fl[i].1, .int .i64 fl[i].2] :: l) := by
  obtain ⟨ro, h, h1, h2, h3, h4, h5, h6⟩ := H
  obtain ⟨g, _, _, hk⟩ := sep.has hF h5
  obtain ⟨b, a, c, d⟩ := hk i fl[i] (List.getElem?_eq_getElem hi)
  refine ⟨b, a, ro, h, h1, h2, h3, h4, ⟨PH.emp, h, fun _ => .inl rfl, PH.emp_le _, PH.le.refl _, ?_, h5⟩, h6⟩
  intro j u' hj
  rw [Nat.zero_add]
  match j, hj with
  | 0, hj => simp at hj; subst hj; exact c
  | 1, hj => simp at hj; subst hj; exact d
theorem FR_len (H : Heap F w l) {ps : List (Option Addr)} (hF : Has l (FR ps fl)) : ps.length = fl.length := H.pure hF fun _ _ h => h.1
theorem FR_push (H : Heap F w l) {ps : List (Option Addr)} {b : Nat} {c a : Int} {u : Value} (hF : Has l (FR ps fl)) (hA : Has l (atc b 0 [.int .i64 c, .int .i64 a, u])) : Heap F w (FR (ps ++ [some ⟨b, 0, none⟩]) (fl ++ [(c, a)]) :: l) :=
  H.imp fun ro h hs => by
    obtain ⟨g1, _, k1⟩ := sep.has hA hs
    obtain ⟨g2, _, k2⟩ := sep.has hF hs
    refine ⟨PH.emp, h, fun _ => .inl rfl, PH.emp_le _, PH.le.refl _, ⟨by simp [k2.1], fun i x hx => ?_⟩, hs⟩
    rcases Nat.lt_or_ge i fl.length with h | h
    · rw [List.getElem?_append_left h] at hx
      rw [List.getElem?_append_left (by rw [k2.1]; exact h)]
      exact k2.2 i x hx
    · rw [List.getElem?_append_right h] at hx
      rw [List.getElem?_append_right (by rw [k2.1]; exact h)]
      have hi : i - fl.length = 0 := by
        rcases Nat.eq_zero_or_pos (i - fl.length) with h | h
        · exact h
        · rw [List.getElem?_eq_none (by simp; omega)] at hx; cases hx
      rw [hi] at hx
      rw [k2.1, hi]
      simp at hx; subst hx
      exact ⟨b, rfl, by simpa using k1 0 _ rfl, by simpa using k1 1 _ rfl⟩
theorem fault_row (H : Heap F w l) (hn : fl.length ≤ 1000) (hE : Has l (Err v fl)) (hT : Has l ErrTy) (k : ∀ (s : Sl) (ps : List (Option Addr)) w', Heap F w' (own T_p_fault_Fault s ps :: FR ps fl :: l) → Q (.slice s.a s.len s.cap) w') : Does Tryd.prog N_fault_row #[v] w Q := by
  refine F_fault_row_does _ _ _ ?_
  unfold F_fault_row
  refine al H (cs := [.pointer none]) (fun a1 w H => ?_) zc_p_fault_Fault
  refine ⟨fun e s w' => ∃ (old : Value) (f1 f2 : List (Int × Int)) (ps : List (Option Addr)), fl = f1 ++ f2 ∧ Heap F w' (own T_p_fault_Fault s ps :: FR ps f1 :: Err e f2 :: blk a1 T_p_fault_Fault [old] :: l), fun _ s _ => fl.length + 1 - s.len, ?_, ?_⟩
  · refine ⟨.pointer none, [], fl, [], rfl, ?_⟩
    replace H := H.dup (c := Err v fl) (.t hE) fun h => h
    have H2 : Heap F w (FR [] [] :: Err v fl :: blk a1 T_p_fault_Fault [.pointer none] :: l) := H.add0 fun _ => ⟨rfl, by simp⟩
    exact H2.own_nil _
  rintro e s w ⟨old, f1, f2, ps, hf, H⟩
  have hl : s.len = f1.length := by rw [← FR_len H (.t .h)]; exact (H.lenO .h).symm
  rcases err_val H (.t (.t .h)) with ⟨rfl, rfl⟩ | ⟨c, a, t, b, u, rfl, rfl, H⟩
  · refine as_does0 H fun H => ⟨_, rfl, cF rfl (k s ps _ ?_)⟩
    have e : f1 = fl := by rw [hf, List.append_nil]
    subst e
    exact Heap.kp2 2 H
  · refine as_does H (.t (.t (.t (.t (.t (.t hT)))))) (.t (.t (.t (.t (.t .h))))) fun w H => ⟨_, rfl, cT rfl (ld0 H (t := .ptr) (x := some ⟨b, 0, none⟩) ?_)⟩
    refine al H (cs := [.pointer (some ⟨b, 0, none⟩)]) (fun a2 w H => ?_) rfl
    have hlf : fl.length = f1.length + (t.length + 1) := by rw [hf]; simp
    have hp := FR_len H (.t (.t (.t (.t (.t .h)))))
    refine psh1 (b := a2) (xs := ps) (some (⟨b, 0, none⟩ : Addr)) S_l_p_fault_Fault H (by omega) fun s2 w H => ?_
    refine ld0 H (t := .ptr) (x := some ⟨b, 0, none⟩) (nn ?_)
    refine At.ld (t := .raw) (x := u) (H.atc (b := b) (o := 0) (.t (.t (.t .h)))) ⟨⟨.pointer (some ⟨b, 0, none⟩), f1 ++ [(c, a)], t, ps ++ [some ⟨b, 0, none⟩], by rw [hf]; simp, ?_⟩, ?_⟩
    · replace H := H.dup (c := Err u t) (.t (.t (.t (.t .h)))) fun h => h
      replace H := FR_push H (ps := ps) (fl := f1) (b := b) (c := c) (a := a) (u := u) (by repeat (first | assumption | constructor)) (by repeat (first | assumption | constructor))
      replace H := H.take (.t (.t .h))
      replace H := H.dr (blk a2 _ _) (.t (.t (.t .h)))
      exact Heap.kp4 4 H
    · have := H.lenO .h
      simp at this
      show fl.length + 1 - s2.len < fl.length + 1 - s.len
      omega
theorem FR_ptr (H : Heap F w l) {ps : List (Option Addr)} (hF : Has l (FR ps fl)) {i : Nat} (hi : i < fl.length) (hp : i < ps.length) : ∃ (b : Nat), ps[i] = some ⟨b, 0, none⟩ ∧ Heap F w (atc b 0 [.int .i64 fl[i].1, .int .i64 fl[i].2] :: l) := by
  obtain ⟨b, e, H⟩ := FR_get H hF hi
  rw [List.getElem?_eq_getElem hp] at e
  exact ⟨b, by simpa using e, H⟩
theorem fault_Path (H : Heap F w l) (hn : fl.length ≤ 1000) (hE : Has l (Err v fl)) (hT : Has l ErrTy) (k : ∀ (s : Sl) w', Heap F w' (own T_int s (fl.map (·.2)) :: l) → Q (.slice s.a s.len s.cap) w') : Does Tryd.prog N_fault_Path #[v] w Q := by
  refine F_fault_Path_does _ _ _ ?_
  unfold F_fault_Path
  refine fault_row H hn hE hT fun s0 ps w H => ⟨s0, rfl, ?_⟩
  replace H := H.share
  refine ⟨fun s x w' => ∃ n : Nat, x = n ∧ n ≤ fl.length ∧ Heap F w' (own T_int s ((fl.map (·.2)).take n) :: imm s0 ps :: FR ps fl :: l), fun _ x _ => fl.length - x.toNat, ?_, ?_⟩
  · exact ⟨0, rfl, Nat.zero_le _, H.own_nil _⟩
  rintro s x w ⟨n, rfl, hn', H⟩
  have hs0 := H.len (xs := ps) (.t .h)
  have hps := FR_len H (.t (.t .h))
  refine cBoth (fun h => ?_) (fun h => ?_)
  · have h1 : n < fl.length := by simp at h; omega
    refine idxI1w (s := s0) (xs := ps) H (by omega) (by omega) (fun a ha => ?_) (.t .h)
    obtain ⟨b, hb, HB⟩ := FR_ptr H (.t (.t .h)) h1 (by omega)
    refine ⟨some ⟨b, 0, none⟩, (ha H (.t .h)).trans (by simp only [Int.toNat_natCast, hb]; rfl), nn ?_⟩
    refine At.ld (t := .int .i64) (HB.atc .h) ?_
    refine al H (cs := [.int .i64 fl[n].2]) (fun a2 w H => ?_) rfl
    refine psh1 (b := a2) (xs := (fl.map (·.2)).take n) (fl[n].2 : Int) S_l_int H (by simp; omega) fun s2 w H => ?_
    rw [i64_id (by omega)]
    refine ⟨⟨n + 1, rfl, h1, ?_⟩, by show fl.length - ((n : Int) + 1).toNat < fl.length - (n : Int).toNat; omega⟩
    rw [List.take_succ_eq_append_getElem (by simpa using h1)]
    simp only [List.getElem_map]
    exact H.dr _ (.t .h)
  · have h1 : n = fl.length := by simp at h; omega
    rw [List.take_of_length_le (by simp; omega)] at H
    exact k s w (Heap.kp 2 H)
end
end Go.Proofs.YtomoejbamegpoaaDoor.G

set_option linter.unusedVariables false
set_option linter.unusedSimpArgs false
namespace Go.Proofs.YtomoejbamegpoaaDoor.G
open Go Go.VC Go.RowKit Go.Proofs Go.Proofs.YtomoejbamegpoaaDoor
attribute [local irreducible] Tryd.prog
structure Cap where
  rate : Int
  burst : Int
  left : Int
namespace Cap
def cs (c : Cap) : List Value := [.int .i64 c.rate, .int .i64 c.burst, .int .i64 c.left]
def may (c : Cap) : Bool := decide (0 ≤ c.rate ∧ c.rate ≤ c.burst ∧ c.burst ≤ 64 ∧ 0 ≤ c.left ∧ c.left ≤ c.burst)
def take (c : Cap) : Cap × Bool := if c.may = true ∧ c.left ≠ 0 then ({ c with left := c.left - 1 }, true) else (c, false)
def frame (c : Cap) : Cap := if c.may = true then { c with left := if c.burst < c.left + c.rate then c.burst else c.left + c.rate } else c
def v (c : Cap) : Value := .agg #[.int .i64 c.rate, .int .i64 c.burst, .int .i64 c.left]
theorem may_iff {c : Cap} : c.may = true ↔ (0 ≤ c.rate ∧ c.rate ≤ c.burst ∧ c.burst ≤ 64 ∧ 0 ≤ c.left ∧ c.left ≤ c.burst) := by simp [may]
theorem may_not {c : Cap} : c.may = false ↔ ¬ (0 ≤ c.rate ∧ c.rate ≤ c.burst ∧ c.burst ≤ 64 ∧ 0 ≤ c.left ∧ c.left ≤ c.burst) := by rw [← may_iff]; simp
end Cap
section
variable {F : Bs} {w : World} {l r : List SP} {Q : Value → World → Prop}
theorem filter_May (H : Heap F w l) (c : Cap) (k : ∀ w', Heap F w' l → Q (.bool c.may) w') : Does Tryd.prog N_filter_May #[c.v] w Q := by
  refine F_filter_May_does _ _ _ _ _ ?_
  unfold F_filter_May
  replace k : ∀ (b : Bool) w', Heap F w' l → b = c.may → Q (.bool b) w' := fun b w' H e => by rw [e]; exact k w' H
  refine al H (cs := c.cs) (fun a w H => ?_) rfl
  unfold Cap.cs at H
  refine ld0 H (dBoth (fun h1 => ld0 H (lda H (dBoth (fun h2 => lda H (dBoth (fun h3 => lda H (dBoth (fun h4 => lda H (lda H (k _ w H.tl ?_))) (fun h => k _ w H.tl ?_))) (fun h => k _ w H.tl ?_))) (fun h => k _ w H.tl ?_)))) (fun h => k _ w H.tl ?_))
  · unfold Cap.may; exact decide_eq_decide.mpr ⟨fun h => ⟨h1, h2, h3, h4, h⟩, fun h => h.2.2.2.2⟩
  · exact (Cap.may_not.mpr fun x => h x.2.2.2.1).symm
  · exact (Cap.may_not.mpr fun x => h x.2.2.1).symm
  · exact (Cap.may_not.mpr fun x => h x.2.1).symm
  · exact (Cap.may_not.mpr fun x => h x.1).symm
theorem ref10_May (H : Heap F w l) (c : Cap) (k : ∀ w', Heap F w' l → Q (.bool c.may) w') : Does Tryd.prog N_ref10_May #[c.v] w Q := by
  refine F_ref10_May_does _ _ _ _ _ ?_
  unfold F_ref10_May
  replace k : ∀ (b : Bool) w', Heap F w' l → b = c.may → Q (.bool b) w' := fun b w' H e => by rw [e]; exact k w' H
  refine al H (cs := c.cs) (fun a w H => ?_) rfl
  unfold Cap.cs at H
  refine lda H (dBoth (fun h1 => lda H (lda H (dBoth (fun h2 => ld0 H (dBoth (fun h3 => ld0 H (lda H (dBoth (fun h4 => lda H (k _ w H.tl ?_)) (fun h => k _ w H.tl ?_)))) (fun h => k _ w H.tl ?_))) (fun h => k _ w H.tl ?_)))) (fun h => k _ w H.tl ?_))
  · unfold Cap.may; exact decide_eq_decide.mpr ⟨fun h => ⟨h3, h4, h, h1, h2⟩, fun h => h.2.2.1⟩
  · exact (Cap.may_not.mpr fun x => h x.2.1).symm
  · exact (Cap.may_not.mpr fun x => h x.1).symm
  · exact (Cap.may_not.mpr fun x => h x.2.2.2.2).symm
  · exact (Cap.may_not.mpr fun x => h x.2.2.2.1).symm
theorem filter_Take (H : Heap F w l) (c : Cap) (k : ∀ w', Heap F w' l → Q (.tuple #[c.take.1.v, .bool c.take.2]) w') : Does Tryd.prog N_filter_Take #[c.v] w Q := by
  refine F_filter_Take_does _ _ _ _ _ ?_
  unfold F_filter_Take
  refine al H (cs := c.cs) (fun a w H => ?_) rfl
  unfold Cap.cs at H
  refine al H (fun a3 w H => ?_) zc_api_Cap
  intro J hJ J2 hJ2
  refine ld0 H (lda H (lda H ?_))
  refine filter_May H c fun w H => ⟨_, rfl, ?_⟩
  have hF : c.take = (c, false) → J2 true w := fun e => by
    rw [e] at k
    refine hJ2 _ _ (cT rfl (ld0 H (lda H (lda H (st0 H fun w H => sta H fun w H => sta H fun w H => ld0 H (lda H (lda H (k w H.tl.tl))))))))
  cases hm : c.may with
  | false => exact cT rfl (hF (by simp [Cap.take, hm]))
  | true =>
    refine cF rfl (lda H ?_)
    have hm' := Cap.may_iff.mp hm
    by_cases h0 : c.left = 0
    · have e : (c.left == 0) = true := by simp [h0]
      rw [e]; exact hF (by simp [Cap.take, hm, h0])
    · have e : (c.left == 0) = false := by simp [h0]
      rw [e]
      have et : c.take = ({ c with left := c.left - 1 }, true) := by simp [Cap.take, hm, h0]
      rw [et] at k
      refine hJ2 _ _ (cF rfl (hJ _ (lda H (sta H fun w H => ?_))))
      rw [i64_id (by omega)] at H
      exact ld0 H (lda H (lda H (st0 H fun w H => sta H fun w H => sta H fun w H => ld0 H (lda H (lda H (k w H.tl.tl))))))
theorem ref10_Take (H : Heap F w l) (c : Cap) (k : ∀ w', Heap F w' l → Q (.tuple #[c.take.1.v, .bool c.take.2]) w') : Does Tryd.prog N_ref10_Take #[c.v] w Q := by
  refine F_ref10_Take_does _ _ _ _ _ ?_
  unfold F_ref10_Take
  refine al H (cs := c.cs) (fun a w H => ?_) rfl
  unfold Cap.cs at H
  refine al H (fun a3 w H => ?_) zc_api_Cap
  intro J hJ J2 hJ2
  refine ld0 H (lda H (lda H ?_))
  refine ref10_May H c fun w H => ⟨_, rfl, ?_⟩
  have hF : c.take = (c, false) → J2 false w := fun e => by
    rw [e] at k
    refine hJ2 _ _ (cF rfl (hJ _ (ld0 H (lda H (lda H (st0 H fun w H => sta H fun w H => sta H fun w H => ld0 H (lda H (lda H (k w H.tl.tl)))))))))
  cases hm : c.may with
  | false => exact cF rfl (hF (by simp [Cap.take, hm]))
  | true =>
    refine cT rfl (lda H ?_)
    have hm' := Cap.may_iff.mp hm
    by_cases h0 : c.left = 0
    · have e : decide (c.left > 0) = false := by simp [h0]
      rw [e]; exact hF (by simp [Cap.take, hm, h0])
    · have e : decide (c.left > 0) = true := by simp; omega
      rw [e]
      have et : c.take = ({ c with left := c.left - 1 }, true) := by simp [Cap.take, hm, h0]
      rw [et] at k
      refine hJ2 _ _ (cT rfl (ld0 H (lda H (lda H (st0 H fun w H => sta H fun w H => sta H fun w H => ?_)))))
      rw [i64_id (by omega)] at H
      exact ld0 H (lda H (lda H (k w H.tl.tl)))
theorem min_i {w : World} {x y : Int} {ts : Array TypeId} {t : TypeId} {K : Int → World → Prop} (k : K (if y < x then y else x) w) : runG (.int .i64) Tryd.prog w (Builtin.min_ ts t #[.int .i64 x, .int .i64 y]) K :=
  ⟨_, w, run_min_int2 .., _, rfl, k⟩
theorem filter_Frame (H : Heap F w l) (c : Cap) (k : ∀ w', Heap F w' l → Q c.frame.v w') : Does Tryd.prog N_filter_Frame #[c.v] w Q := by
  refine F_filter_Frame_does _ _ _ _ _ ?_
  unfold F_filter_Frame
  refine al H (cs := c.cs) (fun a w H => ?_) rfl
  unfold Cap.cs at H
  refine al H (fun a3 w H => ?_) zc_api_Cap
  intro J hJ
  refine ld0 H (lda H (lda H ?_))
  refine filter_May H c fun w H => ⟨_, rfl, ?_⟩
  cases hm : c.may with
  | false =>
    have e : c.frame = c := by simp [Cap.frame, hm]
    rw [e] at k
    exact cF rfl (hJ _ (ld0 H (lda H (lda H (st0 H fun w H => sta H fun w H => sta H fun w H => ld0 H (lda H (lda H (k w H.tl.tl))))))))
  | true =>
    have hm' := Cap.may_iff.mp hm
    have e : c.frame = { c with left := if c.burst < c.left + c.rate then c.burst else c.left + c.rate } := by simp [Cap.frame, hm]
    rw [e] at k
    refine cT rfl (lda H (ld0 H (lda H (min_i ?_))))
    rw [i64_id (by omega)]
    refine sta H fun w H => ?_
    exact hJ _ (ld0 H (lda H (lda H (st0 H fun w H => sta H fun w H => sta H fun w H => ld0 H (lda H (lda H (k w H.tl.tl)))))))
def Cap.g (c : Cap) (n : Int) : Int := if c.burst < c.left + n then c.burst else c.left + n
theorem Cap.g_cases (c : Cap) (n : Int) : (c.burst < c.left + n ∧ c.g n = c.burst) ∨ (¬ c.burst < c.left + n ∧ c.g n = c.left + n) := by
  unfold Cap.g
  by_cases h : c.burst < c.left + n
  · exact .inl ⟨h, if_pos h⟩
  · exact .inr ⟨h, if_neg h⟩
theorem ref10_Frame (H : Heap F w l) (c : Cap) (k : ∀ w', Heap F w' l → Q c.frame.v w') : Does Tryd.prog N_ref10_Frame #[c.v] w Q := by
  refine F_ref10_Frame_does _ _ _ _ _ ?_
  unfold F_ref10_Frame
  refine al H (cs := c.cs) (fun a w H => ?_) rfl
  unfold Cap.cs at H
  refine al H (fun a3 w H => ?_) zc_api_Cap
  intro J hJ
  cases hm : c.may with
  | false =>
    have e : c.frame = c := by simp [Cap.frame, hm]
    rw [e] at k
    refine ⟨fun _ w => Heap F w (blk a3 T_api_Cap [.int .i64 0, .int .i64 0, .int .i64 0] :: blk a T_api_Cap [.int .i64 c.rate, .int .i64 c.burst, .int .i64 c.left] :: l), fun _ _ => 0, H, ?_⟩
    intro i w H J2 hJ2
    refine ld0 H (lda H (lda H ?_))
    refine ref10_May H c fun w H => ⟨_, rfl, cF hm ?_⟩
    exact hJ _ (ld0 H (lda H (lda H (st0 H fun w H => sta H fun w H => sta H fun w H => ld0 H (lda H (lda H (k w H.tl.tl)))))))
  | true =>
    have hm' := Cap.may_iff.mp hm
    have hg : ∀ n : Int, 0 ≤ n → 0 ≤ c.g n ∧ c.g n ≤ c.burst := fun n hn => by rcases c.g_cases n with h | h <;> omega
    have g0 : c.g 0 = c.left := by rcases c.g_cases 0 with h | h <;> omega
    have e : c.frame = { c with left := c.g c.rate } := by simp [Cap.frame, hm, Cap.g]
    rw [e] at k
    refine ⟨fun i w => 0 ≤ i ∧ i ≤ c.rate ∧ Heap F w (blk a3 T_api_Cap [.int .i64 0, .int .i64 0, .int .i64 0] :: blk a T_api_Cap [.int .i64 c.rate, .int .i64 c.burst, .int .i64 (c.g i)] :: l), fun i _ => (c.rate - i).toNat, ⟨Int.le_refl _, hm'.1, by rw [g0]; exact H⟩, ?_⟩
    rintro i w ⟨h0, h1, H⟩ J2 hJ2
    refine ld0 H (lda H (lda H ?_))
    have hmi : ({ c with left := c.g i } : Cap).may = true := Cap.may_iff.mpr ⟨hm'.1, hm'.2.1, hm'.2.2.1, (hg i h0).1, (hg i h0).2⟩
    refine ref10_May H { c with left := c.g i } fun w H => ⟨_, rfl, cT hmi ?_⟩
    refine ld0 H (dBoth (fun h2 => ?_) (fun h2 => ?_))
    · refine hJ2 _ ?_
      intro J3 hJ3
      refine lda H (lda H (dBoth (fun h3 => ?_) (fun h3 => ?_)))
      · refine lda H (sta H fun w H => hJ3 _ ?_)
        rw [i64_id (by omega)]
        rw [i64_id (by have := hg i h0; omega)] at H
        refine ⟨⟨by omega, by omega, ?_⟩, by show (c.rate - (i + 1)).toNat < (c.rate - i).toNat; omega⟩
        have e3 : c.g i + 1 = c.g (i + 1) := by
          have h3' : c.g i < c.burst := h3
          rcases c.g_cases i with h | h <;> rcases c.g_cases (i + 1) with h' | h' <;> omega
        rw [e3] at H; exact H.take (.t .h)
      · refine hJ3 _ ?_
        rw [i64_id (by omega)]
        refine ⟨⟨by omega, by omega, ?_⟩, by show (c.rate - (i + 1)).toNat < (c.rate - i).toNat; omega⟩
        have e3 : c.g i = c.g (i + 1) := by
          have h3' : ¬ c.g i < c.burst := h3
          rcases c.g_cases i with h | h <;> rcases c.g_cases (i + 1) with h' | h' <;> omega
        rw [← e3]; exact H
    · have : i = c.rate := by omega
      subst this
      exact hJ _ (ld0 H (lda H (lda H (st0 H fun w H => sta H fun w H => sta H fun w H => ld0 H (lda H (lda H (k w H.tl.tl)))))))
end
end Go.Proofs.YtomoejbamegpoaaDoor.G

set_option linter.unusedVariables false
set_option linter.unusedSimpArgs false
namespace Nac
theorem get_cons (c : UInt8) (l : List UInt8) : get (c :: l) = get l * 256 + c.toUInt64 := by
  apply UInt64.toNat_inj.1
  have hc := c.toNat_lt
  have hg := (get l).toNat_lt
  show ((get l <<< 8) ||| c.toUInt64).toNat = _
  rw [UInt64.toNat_or, UInt64.toNat_shiftLeft, UInt64.toNat_add, UInt64.toNat_mul, UInt8.toNat_toUInt64, show (8 : UInt64).toNat % 64 = 8 from rfl, show (256 : UInt64).toNat = 256 from rfl, Nat.shiftLeft_eq, show (2 : Nat) ^ 64 = 18446744073709551616 from rfl]
  have e : (get l).toNat * 2 ^ 8 % 18446744073709551616 = 2 ^ 8 * ((get l).toNat % 2 ^ 56) := by omega
  rw [e, ← Nat.two_pow_add_eq_or_of_lt (by omega)]
  omega
theorem get_step (n u g : UInt64) (c : UInt64) : (n + c * u) + u * 256 * g = n + u * (g * 256 + c) := by
  rw [UInt64.mul_add, UInt64.mul_comm c u, UInt64.add_assoc, UInt64.add_comm (u * c), UInt64.mul_assoc, UInt64.mul_comm 256 g]
end Nac
namespace Go.VC
open Go Go.RowKit
theorem mul64 (a b : UInt64) : IntKind.wrap .u64 ((a.toNat : Int) * (b.toNat : Int)) = ((a * b).toNat : Int) := by
  rw [IntKind.wrap_u64, UInt64.toNat_mul]
  rw [← Int.natCast_mul, Int.natCast_emod]; rfl
theorem add64 (a b : UInt64) : IntKind.wrap .u64 ((a.toNat : Int) + (b.toNat : Int)) = ((a + b).toNat : Int) := by
  rw [IntKind.wrap_u64, UInt64.toNat_add]
  rw [← Int.natCast_add, Int.natCast_emod]; rfl
theorem mod256 (a : UInt64) : IntKind.wrap .u8 (Int.tmod (a.toNat : Int) 256) = (a.toUInt8.toNat : Int) := by
  rw [IntKind.wrap_u8, UInt64.toNat_toUInt8, Int.tmod_eq_emod_of_nonneg (by omega)]
  show ((a.toNat : Int) % 256) % 256 = ((a.toNat % 256 : Nat) : Int)
  omega
theorem div256 (a : UInt64) : IntKind.wrap .u64 (Int.tdiv (a.toNat : Int) 256) = ((a >>> 8).toNat : Int) := by
  have := a.toNat_lt
  rw [IntKind.wrap_u64, UInt64.toNat_shiftRight, show (8 : UInt64).toNat % 64 = 8 from rfl, Nat.shiftRight_eq_div_pow, Int.tdiv_eq_ediv_of_nonneg (by omega)]
  show ((a.toNat : Int) / 256) % 18446744073709551616 = ((a.toNat / 256 : Nat) : Int)
  omega
end Go.VC
namespace Go.Proofs.YtomoejbamegpoaaDoor.G
open Go Go.VC Go.RowKit Go.Proofs Go.Proofs.YtomoejbamegpoaaDoor Nac
attribute [local irreducible] Tryd.prog
section
variable {F : Bs} {w : World} {l r : List SP} {Q : Value → World → Prop}
theorem oct_Get (H : Heap F w l) {s : Sl} {bb : List UInt8} (h1 : 1 ≤ bb.length) (h8 : bb.length ≤ 8) (k : Q (.tuple #[.int .u64 ((Nac.get bb).toNat : Int), .int .i64 0]) w) (hI : Has l (imm s bb) := by repeat (first | assumption | constructor)) :
    Does Tryd.prog N_octet_Get #[.slice s.a s.len s.cap] w Q := by
  refine F_octet_Get_does _ _ _ ?_
  unfold F_octet_Get
  have hl := H.len hI
  intro J hJ
  refine dF (by omega) (dF (by omega) (hJ _ ?_))
  rw [i64_id (by omega)]
  refine ⟨fun m x w' => ∃ (i : Nat), x = (i : Int) - 1 ∧ m = ((Nac.get (bb.drop i)).toNat : Int) ∧ i ≤ bb.length ∧ w' = w, fun _ x _ => (x + 1).toNat, ⟨bb.length, by omega, by rw [List.drop_of_length_le (Nat.le_refl _)]; rfl, by omega, rfl⟩, ?_⟩
  rintro m x w1 ⟨i, rfl, rfl, hi, rfl⟩
  refine dBoth (fun hlt => ?_) (fun hge => ?_)
  · refine ⟨by decide, idxI1 (xs := bb) H (by omega) (by omega) (fun a ha => ldT_cell _ ha ?_) hI⟩
    have e : ((i : Int) - 1).toNat = i - 1 := by omega
    simp only [e]
    rw [shl64_8, wrap64_8, or64]
    refine ⟨⟨i - 1, by rw [i64_id (by omega)]; omega, ?_, by omega, (by first | rfl | trivial)⟩, by rw [i64_id (by omega)]; (try dsimp only); omega⟩
    rw [List.drop_eq_getElem_cons (show i - 1 < bb.length by omega), Nac.get, show i - 1 + 1 = i by omega]
  · obtain rfl : i = 0 := by omega
    exact k
theorem ref_Number (H : Heap F w l) {s : Sl} {bb : List UInt8} (k : Q (.int .u64 ((Nac.get bb).toNat : Int)) w) (hI : Has l (imm s bb) := by repeat (first | assumption | constructor)) : Does Tryd.prog N_ref02_Number #[.slice s.a s.len s.cap] w Q := by
  refine F_ref02_Number_does _ _ _ ?_
  unfold F_ref02_Number
  have hl := H.len hI
  have hb := H.bndI hI
  refine ⟨fun m u x w' => ∃ (i : Nat) (q v : UInt64), x = i ∧ m = (q.toNat : Int) ∧ u = (v.toNat : Int) ∧ i ≤ bb.length ∧ q + v * Nac.get (bb.drop i) = Nac.get bb ∧ w' = w, fun _ _ x _ => (bb.length - x).toNat, ⟨0, 0, 1, rfl, rfl, rfl, by omega, by simp, rfl⟩, ?_⟩
  rintro m u x w1 ⟨i, q, v, rfl, rfl, rfl, hi, hq, rfl⟩
  refine dBoth (fun hlt => ?_) (fun hge => ?_)
  · have hlt' : i < bb.length := by omega
    refine idxI1 (xs := bb) H (by omega) (by omega) (fun a ha => ldT_cell _ ha ?_) hI
    simp only [Int.toNat_natCast]
    rw [wrap64_8, mul64, add64, show (256 : Int) = ((256 : UInt64).toNat : Int) by decide, mul64]
    refine ⟨⟨i + 1, q + bb[i].toUInt64 * v, v * 256, by rw [i64_id (by omega)]; omega, rfl, rfl, by omega, ?_, (by first | rfl | trivial)⟩, by rw [i64_id (by omega)]; (try dsimp only); omega⟩
    rw [← hq, List.drop_eq_getElem_cons hlt', get_cons, get_step]
  · obtain rfl : i = bb.length := by omega
    rw [List.drop_of_length_le (Nat.le_refl _)] at hq
    have : q = Nac.get bb := by rw [← hq]; simp [Nac.get]
    rw [this]
    exact k
end
structure Fld where
  at_ : Int
  size : Int
  lo : Int
  hi : Int
namespace Fld
def cs (f : Fld) : List Value := [.int .i64 f.at_, .int .i64 f.size, .int .u64 f.lo, .int .u64 f.hi]
def rng (f : Fld) : Prop := (-9223372036854775808 ≤ f.at_ ∧ f.at_ ≤ 9223372036854775807) ∧ (-9223372036854775808 ≤ f.size ∧ f.size ≤ 9223372036854775807) ∧ (0 ≤ f.lo ∧ f.lo ≤ 18446744073709551615) ∧ (0 ≤ f.hi ∧ f.hi ≤ 18446744073709551615)
def ok (f : Fld) : Bool := decide (1 ≤ f.size ∧ f.size ≤ 8 ∧ 0 ≤ f.at_ ∧ f.at_ + f.size ≤ 64 ∧ f.lo ≤ f.hi)
def num (f : Fld) (b : List UInt8) : Int := ((Nac.get ((b.drop f.at_.toNat).take f.size.toNat)).toNat : Int)
def holds (f : Fld) (b : List UInt8) : Bool := decide (f.at_ + f.size ≤ b.length ∧ f.lo ≤ f.num b ∧ f.num b ≤ f.hi)
def v (f : Fld) : Value := .agg #[.int .i64 f.at_, .int .i64 f.size, .int .u64 f.lo, .int .u64 f.hi]
theorem ok_iff {f : Fld} : f.ok = true ↔ (1 ≤ f.size ∧ f.size ≤ 8 ∧ 0 ≤ f.at_ ∧ f.at_ + f.size ≤ 64 ∧ f.lo ≤ f.hi) := by simp [ok]
theorem ok_not {f : Fld} : f.ok = false ↔ ¬ (1 ≤ f.size ∧ f.size ≤ 8 ∧ 0 ≤ f.at_ ∧ f.at_ + f.size ≤ 64 ∧ f.lo ≤ f.hi) := by rw [← ok_iff]; simp
end Fld
instance : Rep Fld where
  n := 4
  r := fun ro cs x => cs = x.cs ∧ x.rng
  mono := fun h e => e
  len := fun ⟨e, _⟩ => by rw [e]; rfl
  one := fun ⟨e, _⟩ u hu => by rw [e] at hu; simp [Fld.cs] at hu; rcases hu with rfl | rfl | rfl | rfl <;> rfl
/-- what a rule's check says -/
def chk (mn mx : Int) (fs : List Fld) : Int × Int :=
  if 0 ≤ mn ∧ mn ≤ mx ∧ mx ≤ 64 ∧ fs.length ≤ 8 then (match fs.findIdx? (fun f => !f.ok) with | some i => (4, (i : Int)) | none => (0, 0)) else (1, 0)
theorem chk_bad {mn mx : Int} {fs : List Fld} (h : ¬ (0 ≤ mn ∧ mn ≤ mx ∧ mx ≤ 64 ∧ fs.length ≤ 8)) : chk mn mx fs = (1, 0) := if_neg h
theorem chk_at {mn mx : Int} {fs : List Fld} (h : 0 ≤ mn ∧ mn ≤ mx ∧ mx ≤ 64 ∧ fs.length ≤ 8) {i : Nat} (hi : i < fs.length) (hb : fs[i].ok = false) (hp : ∀ j (hj : j < i), (fs[j]'(by omega)).ok = true) : chk mn mx fs = (4, (i : Int)) := by
  have : fs.findIdx? (fun f => !f.ok) = some i := List.findIdx?_eq_some_iff_getElem.mpr ⟨hi, by simp [hb], fun j hj => by simp [hp j hj]⟩
  rw [chk, if_pos h, this]
theorem chk_none {mn mx : Int} {fs : List Fld} (h : 0 ≤ mn ∧ mn ≤ mx ∧ mx ≤ 64 ∧ fs.length ≤ 8) (hp : ∀ j (hj : j < fs.length), fs[j].ok = true) : chk mn mx fs = (0, 0) := by
  have : fs.findIdx? (fun f => !f.ok) = none := List.findIdx?_eq_none_iff.mpr fun x hx => by
    obtain ⟨j, hj, rfl⟩ := List.getElem_of_mem hx
    simp [hp j hj]
  rw [chk, if_pos h, this]
/-- a fault of a code and a place, or none -/
def flt (x : Int × Int) : List (Int × Int) := if x.1 = 0 then [] else [x]
section
variable {F : Bs} {w : World} {l r : List SP} {Q : Value → World → Prop} {s t : Sl} {fs : List Fld} {bb : List UInt8}
theorem filter_holds (H : Heap F w l) (f : Fld) (hf : f.ok = true) (hI : Has l (imm s bb)) (k : ∀ w', Heap F w' l → Q (.bool (f.holds bb)) w') : Does Tryd.prog N_filter_holds #[f.v, .slice s.a s.len s.cap] w Q := by
  refine F_filter_holds_does _ _ _ _ _ _ _ ?_
  unfold F_filter_holds
  replace k : ∀ (b : Bool) w', Heap F w' l → b = f.holds bb → Q (.bool b) w' := fun b w' H e => by rw [e]; exact k w' H
  obtain ⟨h1, h2, h3, h4, h5⟩ := Fld.ok_iff.mp hf
  have hl := H.len hI
  refine al H (cs := f.cs) (fun a w H => ?_) rfl
  unfold Fld.cs at H
  refine ld0 H (lda H ?_)
  rw [i64_id (by omega)]
  have no : ¬ (f.at_ + f.size ≤ bb.length ∧ f.lo ≤ f.num bb ∧ f.num bb ≤ f.hi) → false = f.holds bb := fun h => by simp only [Fld.holds]; exact (decide_eq_false h).symm
  refine dBoth (fun h => k _ _ H.tl (no fun x => by omega)) (fun h => ?_)
  refine ld0 H (ld0 H (lda H ?_))
  rw [i64_id (by omega)]
  refine slcI (s := s) (xs := bb) H (by omega) (by omega) (by omega) (fun s2 H => ?_) (.t hI)
  have e : ((bb.drop f.at_.toNat).take ((f.at_ + f.size).toNat - f.at_.toNat)) = ((bb.drop f.at_.toNat).take f.size.toNat) := by congr 1; omega
  rw [e] at H
  refine oct_Get H (s := s2) (bb := (bb.drop f.at_.toNat).take f.size.toNat) (by simp; omega) (by simp; omega) ⟨_, _, rfl, ?_⟩ .h
  have H2 := H.tl
  refine lda H2 (dBoth (fun g1 => lda H2 (k _ _ H2.tl ?_)) (fun g1 => k _ _ H2.tl (no fun x => g1 x.2.1)))
  unfold Fld.holds
  exact decide_eq_decide.mpr ⟨fun g2 => ⟨by omega, g1, g2⟩, fun x => x.2.2⟩
end
end Go.Proofs.YtomoejbamegpoaaDoor.G

set_option linter.unusedVariables false
set_option linter.unusedSimpArgs false
namespace Go.Proofs.YtomoejbamegpoaaDoor.G
open Go Go.VC Go.RowKit Go.Proofs Go.Proofs.YtomoejbamegpoaaDoor Nac
attribute [local irreducible] Tryd.prog
section
variable {F : Bs} {w : World} {l r : List SP} {Q : Value → World → Prop} {s t : Sl} {fs : List Fld} {bb : List UInt8}
theorem dLt {a b : Int} {A B : Prop} (h : a < b → A) (k : ¬ a < b → B) : cond (decide (a < b)) A B := dBoth h k
theorem dGt {a b : Int} {A B : Prop} (h : a > b → A) (k : ¬ a > b → B) : cond (decide (a > b)) A B := dBoth h k
theorem dLe {a b : Int} {A B : Prop} (h : a ≤ b → A) (k : ¬ a ≤ b → B) : cond (decide (a ≤ b)) A B := dBoth h k
theorem dGe {a b : Int} {A B : Prop} (h : a ≥ b → A) (k : ¬ a ≥ b → B) : cond (decide (a ≥ b)) A B := dBoth h k
theorem fld_of (H : Heap F w l) {cs : List Value} {f : Fld} (hT : Has l (rep cs f)) : cs = f.cs ∧ f.rng := H.pure hT fun _ _ h => h
theorem filter_Check (H : Heap F w l) {mn mx : Int} (hI : Has l (imm s fs)) (k : ∀ v w', Heap F w' (Err v (flt (chk mn mx fs)) :: l) → Q v w') : Does Tryd.prog N_filter_Check #[.agg #[.int .i64 mn, .int .i64 mx, .slice s.a s.len s.cap]] w Q := by
  refine F_filter_Check_does _ _ _ _ _ ?_
  unfold F_filter_Check
  have hl := H.len hI
  refine al H (cs := [.int .i64 mn, .int .i64 mx, s.v]) (fun a w H => ?_) rfl
  intro J hJ J2 hJ2
  have bad : (¬ (0 ≤ mn ∧ mn ≤ mx ∧ mx ≤ 64 ∧ fs.length ≤ 8)) → J2 true w := fun h => by
    refine hJ2 _ _ (cT rfl (fault_New H fun v w H => ⟨_, rfl, k _ _ ?_⟩))
    rw [chk_bad h]
    exact Heap.kp 1 H
  refine ld0 H ?_
  refine dLt (fun g1 => bad (by omega)) (fun g1 => ld0 H (lda H ?_))
  refine dGt (fun g2 => bad (by omega)) (fun g2 => lda H ?_)
  refine dGt (fun g3 => bad (by omega)) (fun g3 => lda (t := .sl) (x := s) H ?_)
  rcases Nat.lt_or_ge 8 fs.length with g4 | g4
  · rw [decide_eq_true (by omega)]; exact bad (by omega)
  rw [decide_eq_false (by omega)]
  refine hJ2 _ _ (cF rfl (hJ _ (lda (t := .sl) (x := s) H ?_)))
  have hg : 0 ≤ mn ∧ mn ≤ mx ∧ mx ≤ 64 ∧ fs.length ≤ 8 := by omega
  refine ⟨fun i w => ∃ n : Nat, i = n ∧ n ≤ fs.length ∧ (∀ j (hj : j < n) (hj' : j < fs.length), fs[j].ok = true) ∧ Heap F w l, fun i _ => fs.length - i.toNat, ⟨0, rfl, Nat.zero_le _, fun j hj => by omega, H.tl⟩, ?_⟩
  rintro i w ⟨n, rfl, hn, hok, H⟩
  refine dBoth (fun hlt => ?_) (fun hge => ?_)
  · have hlt' : n < fs.length := by omega
    intro J3 hJ3
    refine idxI (xs := fs) H (by omega) (by omega) (fun x cs HR hA => ?_) hI
    obtain ⟨hcs, hr1, hr2, hr3, hr4⟩ := fld_of HR .h
    simp only [Int.toNat_natCast] at hcs hr1 hr2 hr3 hr4
    unfold Fld.cs at hcs
    subst hcs
    refine hA.ld0 (hA.ld (hA.ld (hA.ld ?_)))
    refine al H (fun a2 w H => ?_) zc_api_Field
    refine st0 H fun w H => sta H fun w H => sta H fun w H => sta H fun w H => ?_
    intro J4 hJ4
    have bad2 : fs[n].ok = false → J4 true w := fun h => by
      refine hJ4 _ _ (cT rfl (fault_New H fun v w H => ⟨_, rfl, k _ _ ?_⟩))
      rw [chk_at hg hlt' h (fun j hj => hok j hj (by omega))]
      exact Heap.kp 1 H
    refine lda H ?_
    refine dLt (fun e1 => bad2 (Fld.ok_not.mpr (by omega))) fun e1 => lda H ?_
    refine dGt (fun e2 => bad2 (Fld.ok_not.mpr (by omega))) fun e2 => ld0 H ?_
    refine dLt (fun e3 => bad2 (Fld.ok_not.mpr (by omega))) fun e3 => ld0 H (lda H ?_)
    rw [i64_id (by omega)]
    refine dGt (fun e4 => bad2 (Fld.ok_not.mpr (by omega))) fun e4 => lda H (lda H ?_)
    by_cases e5 : fs[n].lo > fs[n].hi
    · rw [decide_eq_true e5]; exact bad2 (Fld.ok_not.mpr (by omega))
    · rw [decide_eq_false e5]
      refine hJ4 _ _ (cF rfl (hJ3 _ ?_))
      rw [i64_id (by omega)]
      refine ⟨⟨n + 1, rfl, hlt', fun j hj hj' => ?_, H.tl⟩, by show fs.length - ((n : Int) + 1).toNat < fs.length - (n : Int).toNat; omega⟩
      rcases Nat.lt_or_ge j n with q | q
      · exact hok j q hj'
      · obtain rfl : j = n := by omega
        exact Fld.ok_iff.mpr (by omega)
  · refine k _ _ ?_
    rw [chk_none hg (fun j hj => hok j (by omega) hj)]
    exact err_nil H
theorem ref10_Check (H : Heap F w l) {mn mx : Int} (hI : Has l (imm s fs)) (k : ∀ w', Heap F w' l → Q (.tuple #[.int .i64 (chk mn mx fs).1, .int .i64 (chk mn mx fs).2]) w') : Does Tryd.prog N_ref10_Check #[.agg #[.int .i64 mn, .int .i64 mx, .slice s.a s.len s.cap]] w Q := by
  refine F_ref10_Check_does _ _ _ _ _ ?_
  unfold F_ref10_Check
  have hl := H.len hI
  refine al H (cs := [.int .i64 mn, .int .i64 mx, s.v]) (fun a w H => ?_) rfl
  intro J hJ
  have bad : (¬ (0 ≤ mn ∧ mn ≤ mx ∧ mx ≤ 64 ∧ fs.length ≤ 8)) → Q (.tuple #[.int .i64 1, .int .i64 0]) w := fun h => by
    have := k w H.tl
    rw [chk_bad h] at this
    exact this
  refine ld0 H ?_
  refine dLe (fun g1 => ld0 H (lda H ?_)) (fun g1 => bad (by omega))
  refine dLe (fun g2 => lda H ?_) (fun g2 => bad (by omega))
  by_cases g3 : mx ≤ 64
  case neg => exact cT (by simp; omega) (bad (by omega))
  refine cF (by simp; omega) (lda (t := .sl) (x := s) H (dGt (fun g4 => bad (by omega)) fun g4 => hJ _ ?_))
  have hg : 0 ≤ mn ∧ mn ≤ mx ∧ mx ≤ 64 ∧ fs.length ≤ 8 := by omega
  refine ⟨fun i w => ∃ n : Nat, i = n ∧ n ≤ fs.length ∧ (∀ j (hj : j < n) (hj' : j < fs.length), fs[j].ok = true) ∧ Heap F w (blk a T_api_Rule [.int .i64 mn, .int .i64 mx, s.v] :: l), fun i _ => fs.length - i.toNat, ⟨0, rfl, Nat.zero_le _, fun j hj => by omega, H⟩, ?_⟩
  rintro i w ⟨n, rfl, hn, hok, H⟩
  refine lda (t := .sl) (x := s) H (dBoth (fun hlt => ?_) (fun hge => ?_))
  · have hlt' : n < fs.length := by omega
    intro J3 hJ3
    refine lda (t := .sl) (x := s) H ?_
    refine idxI (xs := fs) H (by omega) (by omega) (fun x cs HR hA => ?_) (.t hI)
    obtain ⟨hcs, hr1, hr2, hr3, hr4⟩ := fld_of HR .h
    simp only [Int.toNat_natCast] at hcs hr1 hr2 hr3 hr4
    unfold Fld.cs at hcs
    subst hcs
    refine hA.ld0 (hA.ld (hA.ld (hA.ld ?_)))
    refine al H (fun a2 w H => ?_) zc_api_Field
    refine st0 H fun w H => sta H fun w H => sta H fun w H => sta H fun w H => ?_
    intro J4 hJ4
    have bad2 : fs[n].ok = false → Q (.tuple #[.int .i64 4, .int .i64 n]) w := fun h => by
      have := k w H.tl.tl
      rw [chk_at hg hlt' h (fun j hj => hok j hj (by omega))] at this
      exact this
    have bad3 : fs[n].ok = false → J4 false w := fun h => hJ4 _ _ (cT rfl (bad2 h))
    refine lda H ?_
    refine dGe (fun e1 => lda H ?_) (fun e1 => bad3 (Fld.ok_not.mpr (by omega)))
    refine dLe (fun e2 => ld0 H ?_) (fun e2 => bad3 (Fld.ok_not.mpr (by omega)))
    refine dGe (fun e3 => ld0 H ?_) (fun e3 => bad3 (Fld.ok_not.mpr (by omega)))
    refine dLt (fun e4 => ld0 H (lda H ?_)) (fun e4 => bad3 (Fld.ok_not.mpr (by omega)))
    rw [i64_id (n := fs[n].at_ + fs[n].size) (by omega), i64_id (by omega)]
    by_cases e5 : fs[n].at_ + fs[n].size - 1 < 64
    · rw [decide_eq_true e5]
      refine hJ4 _ _ (cF rfl (lda H (lda H ?_)))
      refine dGt (fun e6 => bad2 (Fld.ok_not.mpr (by omega))) (fun e6 => hJ3 _ ?_)
      rw [i64_id (by omega)]
      refine ⟨⟨n + 1, rfl, hlt', fun j hj hj' => ?_, H.tl⟩, by show fs.length - ((n : Int) + 1).toNat < fs.length - (n : Int).toNat; omega⟩
      rcases Nat.lt_or_ge j n with q | q
      · exact hok j q hj'
      · obtain rfl : j = n := by omega
        exact Fld.ok_iff.mpr (by omega)
    · rw [decide_eq_false e5]; exact bad3 (Fld.ok_not.mpr (by omega))
  · have := k w H.tl
    rw [chk_none hg (fun j hj => hok j (by omega) hj)] at this
    exact this
end
end Go.Proofs.YtomoejbamegpoaaDoor.G
