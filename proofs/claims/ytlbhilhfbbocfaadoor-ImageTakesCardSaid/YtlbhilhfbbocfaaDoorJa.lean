import Derived.Test.YtlbhilhfbbocfaaDoorAs
import Derived.Test.YtlbhilhfbbocfaaDoorGenz
import Derived.Test.YtlbhilhfbbocfaaDoorSm
import Derived.Test.YtlbhilhfbbocfaaDoorNa
import Derived.Test.YtlbhilhfbbocfaaDoorNb
set_option linter.unusedVariables false
set_option linter.unusedSimpArgs false
namespace Go.VC
open Go Go.RowKit
/-- a block that nothing writes any more -/
theorem Heap.blk_atc {F : Bs} {w : World} {l r : List SP} {b : Nat} {ty : TypeId} {cs : List Value} (H : Heap F w l) (hT : Take l (blk b ty cs) r) : Heap F w (Go.VC.atc b 0 cs :: r) :=
  (H.take hT).freeze fun ro h d hb j u hj => by
    have hb' : h b = some (.cells cs.toArray ty (0, 0)) := hb
    simp only [roCell, PH.le_join_right d _ _ hb', Nat.zero_add]
    simpa using hj
end Go.VC
namespace Go.Proofs.YtlbhilhfbbocfaaDoor.G
open Go Go.VC Go.RowKit Go.Proofs Go.Proofs.YtlbhilhfbbocfaaDoor
theorem und_l8 : Tryd.prog.underlying T_l_uint8 = some (.slice T_uint8) := by kernel_rfl
theorem und_8 : Tryd.prog.underlying T_uint8 = some (.int .u8) := by kernel_rfl
theorem und_s : Tryd.prog.underlying T_string = some .string := by kernel_rfl
theorem und_i : Tryd.prog.underlying T_int = some (.int .i64) := by kernel_rfl
def isIf (P : Program) (t : TypeId) : Bool := match P.underlying t with
  | some (.interface _) => true
  | _ => false
theorem isIf_ex {P : Program} {t : TypeId} (h : isIf P t = true) : ∃ ms, P.underlying t = some (.interface ms) := by
  unfold isIf at h
  split at h
  · exact ⟨_, by assumption⟩
  · cases h
theorem if_err : isIf Tryd.prog T_error = true := by kernel_rfl
theorem if_eqIn {P : Program} {w : World} {t s : Nat} {u : Value} (d : Nat) (h : isIf P t = true) : (Op.equalIn (d + 1) t (.iface s u) .nilIface).run P w = .ok false w := by
  obtain ⟨ms, hm⟩ := isIf_ex h
  simp [Op.equalIn, run_underlying hm]
theorem if_run {P : Program} {w : World} {t x s : Nat} {u : Value} (h : isIf P t = true) : (do eqGuard .eql t (.tmp x) (.const (.nilIface)) (.iface s u) (.nilIface); binOp .eql t (.iface s u) (.nilIface) : Sem Value).run P w = .ok (.bool false) w := by
  rw [eqGuard_at_iface]
  have e := if_eqIn (P := P) (w := w) (s := s) (u := u) 9999 h
  simp only [pure_bind, binOp]
  show ((Op.equalIn 10000 t (.iface s u) .nilIface) >>= fun a => pure (Value.bool a) : Sem Value).run P w = _
  rw [Sem.run_bind, e]; rfl
theorem nil_eqIn {P : Program} {w : World} {t : Nat} (d : Nat) (h : isIf P t = true) : (Op.equalIn (d + 1) t .nilIface .nilIface).run P w = .ok true w := by
  obtain ⟨ms, hm⟩ := isIf_ex h
  simp [Op.equalIn, run_underlying hm]
theorem nil_run {P : Program} {w : World} {t x : Nat} (h : isIf P t = true) : (do eqGuard .eql t (.tmp x) (.const (.nilIface)) (.nilIface) (.nilIface); binOp .eql t (.nilIface) (.nilIface) : Sem Value).run P w = .ok (.bool true) w := by
  rw [eqGuard_nil_constR]
  have e := nil_eqIn (P := P) (w := w) 9999 h
  simp only [pure_bind, binOp]
  show ((Op.equalIn 10000 t .nilIface .nilIface) >>= fun a => pure (Value.bool a) : Sem Value).run P w = _
  rw [Sem.run_bind, e]; rfl
theorem nil_eq {w : World} {K : Bool → World → Prop} {x : Nat} (k : K true w) : runG (.bool) Tryd.prog w (do eqGuard .eql T_error (.tmp x) (.const (.nilIface)) (.nilIface) (.nilIface); binOp .eql T_error (.nilIface) (.nilIface)) K :=
  ⟨.bool true, w, nil_run if_err, _, rfl, k⟩
theorem iface_ne {w : World} {t : Nat} {u : Value} {K : Bool → World → Prop} {x : Nat} (k : K false w) : runG (.bool) Tryd.prog w (do eqGuard .eql T_error (.tmp x) (.const (.nilIface)) (.iface t u) (.nilIface); binOp .eql T_error (.iface t u) (.nilIface)) K :=
  ⟨.bool false, w, if_run if_err, _, rfl, k⟩
attribute [local irreducible] Tryd.prog
/-- what the library's variable holds: the handle of the type error -/
def ErrTy : SP := ⟨fun ro _ => roCell ro 0 0 = some (.iface 133 (.agg #[.pointer (some ⟨5, 43, none⟩)])), fun hr _ h => roCell.mono hr h⟩
/-- an error: the faults from the outermost one on -/
def errR (ro : PH) : List (Int × Int) → Value → Prop
  | [], v => v = .nilIface
  | (c, a) :: l, v => ∃ (b : Nat) (u : Value), v = .iface T_p_fault_Fault (.pointer (some ⟨b, 0, none⟩)) ∧ roCell ro b 0 = some (.int .i64 c) ∧ roCell ro b 1 = some (.int .i64 a) ∧ roCell ro b 2 = some u ∧ errR ro l u
theorem errR.mono {ro ro' : PH} (h : PH.le ro ro') : ∀ {l : List (Int × Int)} {v : Value}, errR ro l v → errR ro' l v
  | [], _, e => e
  | _ :: _, _, ⟨b, u, e, h0, h1, h2, hr⟩ => ⟨b, u, e, roCell.mono h h0, roCell.mono h h1, roCell.mono h h2, hr.mono h⟩
def Err (v : Value) (fl : List (Int × Int)) : SP := ⟨fun ro _ => errR ro fl v, fun hr _ h => h.mono hr⟩
section
variable {F : Bs} {w : World} {l r : List SP} {Q : Value → World → Prop} {v : Value} {fl : List (Int × Int)}
theorem err_nil (H : Heap F w l) : Heap F w (Err .nilIface [] :: l) := H.add0 fun _ => rfl
theorem err_val (H : Heap F w l) (hE : Has l (Err v fl)) : (fl = [] ∧ v = .nilIface) ∨ ∃ (c a : Int) (t : List (Int × Int)) (b : Nat) (u : Value), fl = (c, a) :: t ∧ v = .iface T_p_fault_Fault (.pointer (some ⟨b, 0, none⟩)) ∧ Heap F w (atc b 0 [.int .i64 c, .int .i64 a, u] :: Err u t :: l) := by
  cases fl with
  | nil => exact .inl ⟨rfl, H.pure hE fun _ _ h => h⟩
  | cons x t =>
    obtain ⟨c, a⟩ := x
    right
    obtain ⟨ro, h, h1, h2, h3, h4, h5, h6⟩ := H
    obtain ⟨g, _, b, u, e, k0, k1, k2, kr⟩ := sep.has hE h5
    refine ⟨c, a, t, b, u, rfl, e, ro, h, h1, h2, h3, h4, ⟨PH.emp, h, fun _ => .inl rfl, PH.emp_le _, PH.le.refl _, ?_, PH.emp, h, fun _ => .inl rfl, PH.emp_le _, PH.le.refl _, kr, h5⟩, h6⟩
    intro j u' hj
    rw [Nat.zero_add]
    match j, hj with
    | 0, hj => simp at hj; subst hj; exact k0
    | 1, hj => simp at hj; subst hj; exact k1
    | 2, hj => simp at hj; subst hj; exact k2
theorem err_cons (H : Heap F w l) {b : Nat} {c a : Int} (hA : Has l (atc b 0 [.int .i64 c, .int .i64 a, v])) (hE : Has l (Err v fl)) : Heap F w (Err (.iface T_p_fault_Fault (.pointer (some ⟨b, 0, none⟩))) ((c, a) :: fl) :: l) :=
  H.imp fun ro h hs => by
    obtain ⟨g1, _, k1⟩ := sep.has hA hs
    obtain ⟨g2, _, k2⟩ := sep.has hE hs
    refine ⟨PH.emp, h, fun _ => .inl rfl, PH.emp_le _, PH.le.refl _, ⟨b, v, rfl, ?_, ?_, ?_, k2⟩, hs⟩
    · simpa using k1 0 _ rfl
    · simpa using k1 1 _ rfl
    · simpa using k1 2 _ rfl
theorem fault_New (H : Heap F w l) {c a : Int} (k : ∀ (v : Value) w', Heap F w' (Err v (if c = 0 then [] else [(c, a)]) :: l) → Q v w') : Does Tryd.prog N_fault_New #[.int .i64 c, .int .i64 a] w Q := by
  refine F_fault_New_does _ _ _ _ ?_
  unfold F_fault_New
  refine cBoth (fun h => ?_) (fun h => ?_)
  · have h0 : c = 0 := by simpa using h
    rw [if_pos h0] at k; exact k _ w (err_nil H)
  · have h0 : ¬ c = 0 := by simpa using h
    rw [if_neg h0] at k
    refine al H (cs := [.int .i64 c, .int .i64 a, .nilIface]) (fun b w H => k _ w ?_) rfl
    replace H := H.blk_atc .h
    have H2 := err_cons (err_nil H) (b := b) (c := c) (a := a) (v := .nilIface) (fl := []) (.t .h) .h
    exact Heap.kp 2 H2
theorem as_does (H : Heap F w l) {b ft : Nat} {old : Value} (hT : Has l ErrTy) (hB : Take l (blk ft T_p_fault_Fault [old]) r) (k : ∀ w', Heap F w' (blk ft T_p_fault_Fault [.pointer (some ⟨b, 0, none⟩)] :: r) → Q (.bool true) w') :
    Does Tryd.prog N_errors_As #[.iface T_p_fault_Fault (.pointer (some ⟨b, 0, none⟩)), .iface T_p_p_fault_Fault (.pointer (some ⟨ft, 0, none⟩))] w Q := by
  have hg : w.cell? ⟨0, 0, none⟩ = some (.iface 133 (.agg #[.pointer (some ⟨5, 43, none⟩)])) := by
    obtain ⟨ro, _, hro, _, h⟩ := H.get hT
    exact roCell.cell hro h
  have hb := H.Blk hB.has
  refine Calls.mono (as_hit ⟨b, 0, none⟩ ⟨ft, 0, none⟩ old w hg (by rw [hb.cell]; rfl) (hb.free 0)) fun e w' ⟨he, hw⟩ => ?_
  subst he; subst hw
  refine ⟨_, rfl, k _ ?_⟩
  replace H := H.take hB
  have X1 := H.ext ((Ch.refl _ w).alloc (.cells #[.pointer (some ⟨ft, 0, none⟩)] 98))
  have X2 := X1.ext ((Ch.refl _ _).alloc (.cells #[.pointer (some ⟨5, 98, none⟩), .pointer (some ⟨w.heap.size, 0, none⟩), .int .u64 150] 118))
  have X3 := X2.ext ((Ch.refl _ _).alloc (.cells #[.pointer (some ⟨5, 98, none⟩), .pointer (some ⟨w.heap.size, 0, none⟩), .int .u64 150] 118))
  have X4 := X3.ext ((Ch.refl _ _).alloc (.cells #[.pointer (some ⟨b, 0, none⟩)] 94))
  exact X4.setCell 0 _
theorem as_does0 (H : Heap F w l) {t : Value} (k : Heap F w l → Q (.bool false) w) : Does Tryd.prog N_errors_As #[.nilIface, t] w Q :=
  Calls.mono (as_nil t w) fun e w' ⟨he, hw⟩ => by subst he; subst hw; exact ⟨_, rfl, k H⟩
def fcode : List (Int × Int) → Int
  | [] => 0
  | (c, _) :: _ => c
theorem fault_Code (H : Heap F w l) (hE : Has l (Err v fl)) (hT : Has l ErrTy) (k : ∀ w', Heap F w' l → Q (.int .i64 (fcode fl)) w') : Does Tryd.prog N_fault_Code #[v] w Q := by
  refine F_fault_Code_does _ _ _ ?_
  unfold F_fault_Code
  refine al H (cs := [.pointer none]) (fun a1 w H => ?_) zc_p_fault_Fault
  rcases err_val H (.t hE) with ⟨rfl, rfl⟩ | ⟨c, a, t, b, u, rfl, rfl, H⟩
  · exact as_does0 H fun H => ⟨_, rfl, cF rfl (k w H.tl)⟩
  · refine as_does H (.t (.t (.t hT))) (.t (.t .h)) fun w H => ⟨_, rfl, cT rfl (ld0 H (nn ?_))⟩
    refine At.ld0 (H.atc (b := b) (o := 0) (.t .h)) (k w (H.tln 3))
theorem fault_In (H : Heap F w l) {et : Nat} {ev : Value} {a : Int} (hE : Has l (Err (.iface et ev) fl)) (hT : Has l ErrTy) (k : ∀ (v : Value) w', Heap F w' (Err v ((fcode fl, a) :: fl) :: l) → Q v w') : Does Tryd.prog N_fault_In #[.iface et ev, .int .i64 a] w Q := by
  refine F_fault_In_does _ _ _ _ _ ?_
  unfold F_fault_In
  refine iface_ne (cF rfl ?_)
  refine fault_Code H hE hT fun w H => ⟨_, rfl, ?_⟩
  refine al H (cs := [.int .i64 (fcode fl), .int .i64 a, .iface et ev]) (fun b w H => k _ w ?_) rfl
  replace H := H.blk_atc .h
  exact Heap.kp 1 (err_cons H (b := b) (c := fcode fl) (a := a) (v := .iface et ev) (fl := fl) .h (.t hE))
/-- the faults of an error, as pointers -/
def FR (ps : List (Option Addr)) (fl : List (Int × Int)) : SP := ⟨fun ro _ => ps.length = fl.length ∧ ∀ (i : Nat) (x : Int × Int), fl[i]? = some x → ∃ b : Nat, ps[i]? = some (some ⟨b, 0, none⟩) ∧ roCell ro b 0 = some (.int .i64 x.1) ∧ roCell ro b 1 = some (.int .i64 x.2),
  fun hr _ ⟨h, k⟩ => ⟨h, fun i x hx => by obtain ⟨b, a, c, d⟩ := k i x hx; exact ⟨b, a, roCell.mono hr c, roCell.mono hr d⟩⟩⟩
theorem FR_get (H : Heap F w l) {ps : List (Option Addr)} (hF : Has l (FR ps fl)) {i : Nat} (hi : i < fl.length) : ∃ (b : Nat), ps[i]? = some (some ⟨b, 0, none⟩) ∧ Heap F w (atc b 0 [.int .i64 fl[i].1, .int .i64 fl[i].2] :: l) := by
  obtain ⟨ro, h, h1, h2, h3, h4, h5, h6⟩ := H
  obtain ⟨g, _, _, hk⟩ := sep.has hF h5
  obtain ⟨b, a, c, d⟩ := hk i fl[i] (List.getElem?_eq_getElem hi)
  refine ⟨b, a, ro, h, h1, h2, h3, h4, ⟨PH.emp, h, fun _ => .inl rfl, PH.emp_le _, PH.le.refl _, ?_, h5⟩, h6⟩
  intro j u' hj
  rw [Nat.zero_add]
  match j, hj with
  | 0, hj => simp at hj; subst hj; exact c
  | 1, hj => simp at hj; subst hj; exact d
theorem FR_len (H : Heap F w l) {ps : List (Option Addr)} (hF : Has l (FR ps fl)) : ps.length = fl.length := H.pure hF fun _ _ h => h.1
theorem FR_push (H : Heap F w l) {ps : List (Option Addr)} {b : Nat} {c a : Int} {u : Value} (hF : Has l (FR ps fl)) (hA : Has l (atc b 0 [.int .i64 c, .int .i64 a, u])) : Heap F w (FR (ps ++ [some ⟨b, 0, none⟩]) (fl ++ [(c, a)]) :: l) :=
  H.imp fun ro h hs => by
    obtain ⟨g1, _, k1⟩ := sep.has hA hs
    obtain ⟨g2, _, k2⟩ := sep.has hF hs
    refine ⟨PH.emp, h, fun _ => .inl rfl, PH.emp_le _, PH.le.refl _, ⟨by simp [k2.1], fun i x hx => ?_⟩, hs⟩
    rcases Nat.lt_or_ge i fl.length with h | h
    · rw [List.getElem?_append_left h] at hx
      rw [List.getElem?_append_left (by rw [k2.1]; exact h)]
      exact k2.2 i x hx
    · rw [List.getElem?_append_right h] at hx
      rw [List.getElem?_append_right (by rw [k2.1]; exact h)]
      have hi : i - fl.length = 0 := by
        rcases Nat.eq_zero_or_pos (i - fl.length) with h | h
        · exact h
        · rw [List.getElem?_eq_none (by simp; omega)] at hx; cases hx
      rw [hi] at hx
      rw [k2.1, hi]
      simp at hx; subst hx
      exact ⟨b, rfl, by simpa using k1 0 _ rfl, by simpa using k1 1 _ rfl⟩
theorem fault_row (H : Heap F w l) (hn : fl.length ≤ 1000) (hE : Has l (Err v fl)) (hT : Has l ErrTy) (k : ∀ (s : Sl) (ps : List (Option Addr)) w', Heap F w' (own T_p_fault_Fault s ps :: FR ps fl :: l) → Q (.slice s.a s.len s.cap) w') : Does Tryd.prog N_fault_row #[v] w Q := by
  refine F_fault_row_does _ _ _ ?_
  unfold F_fault_row
  refine al H (cs := [.pointer none]) (fun a1 w H => ?_) zc_p_fault_Fault
  refine ⟨fun e s w' => ∃ (old : Value) (f1 f2 : List (Int × Int)) (ps : List (Option Addr)), fl = f1 ++ f2 ∧ Heap F w' (own T_p_fault_Fault s ps :: FR ps f1 :: Err e f2 :: blk a1 T_p_fault_Fault [old] :: l), fun _ s _ => fl.length + 1 - s.len, ?_, ?_⟩
  · refine ⟨.pointer none, [], fl, [], rfl, ?_⟩
    replace H := H.dup (c := Err v fl) (.t hE) fun h => h
    have H2 : Heap F w (FR [] [] :: Err v fl :: blk a1 T_p_fault_Fault [.pointer none] :: l) := H.add0 fun _ => ⟨rfl, by simp⟩
    exact H2.own_nil _
  rintro e s w ⟨old, f1, f2, ps, hf, H⟩
  have hl : s.len = f1.length := by rw [← FR_len H (.t .h)]; exact (H.lenO .h).symm
  rcases err_val H (.t (.t .h)) with ⟨rfl, rfl⟩ | ⟨c, a, t, b, u, rfl, rfl, H⟩
  · refine as_does0 H fun H => ⟨_, rfl, cF rfl (k s ps _ ?_)⟩
    have e : f1 = fl := by rw [hf, List.append_nil]
    subst e
    exact Heap.kp2 2 H
  · refine as_does H (.t (.t (.t (.t (.t (.t hT)))))) (.t (.t (.t (.t (.t .h))))) fun w H => ⟨_, rfl, cT rfl (ld0 H (t := .ptr) (x := some ⟨b, 0, none⟩) ?_)⟩
    refine al H (cs := [.pointer (some ⟨b, 0, none⟩)]) (fun a2 w H => ?_) rfl
    have hlf : fl.length = f1.length + (t.length + 1) := by rw [hf]; simp
    have hp := FR_len H (.t (.t (.t (.t (.t .h)))))
    refine psh1 (b := a2) (xs := ps) (some (⟨b, 0, none⟩ : Addr)) S_l_p_fault_Fault H (by omega) fun s2 w H => ?_
    refine ld0 H (t := .ptr) (x := some ⟨b, 0, none⟩) (nn ?_)
    refine At.ld (t := .raw) (x := u) (H.atc (b := b) (o := 0) (.t (.t (.t .h)))) ⟨⟨.pointer (some ⟨b, 0, none⟩), f1 ++ [(c, a)], t, ps ++ [some ⟨b, 0, none⟩], by rw [hf]; simp, ?_⟩, ?_⟩
    · replace H := H.dup (c := Err u t) (.t (.t (.t (.t .h)))) fun h => h
      replace H := FR_push H (ps := ps) (fl := f1) (b := b) (c := c) (a := a) (u := u) (by repeat (first | assumption | constructor)) (by repeat (first | assumption | constructor))
      replace H := H.take (.t (.t .h))
      replace H := H.dr (blk a2 _ _) (.t (.t (.t .h)))
      exact Heap.kp4 4 H
    · have := H.lenO .h
      simp at this
      show fl.length + 1 - s2.len < fl.length + 1 - s.len
      omega
theorem FR_ptr (H : Heap F w l) {ps : List (Option Addr)} (hF : Has l (FR ps fl)) {i : Nat} (hi : i < fl.length) (hp : i < ps.length) : ∃ (b : Nat), ps[i] = some ⟨b, 0, none⟩ ∧ Heap F w (atc b 0 [.int .i64 fl[i].1, .int .i64 fl[i].2] :: l) := by
  obtain ⟨b, e, H⟩ := FR_get H hF hi
  rw [List.getElem?_eq_getElem hp] at e
  exact ⟨b, by simpa using e, H⟩
theorem fault_Path (H : Heap F w l) (hn : fl.length ≤ 1000) (hE : Has l (Err v fl)) (hT : Has l ErrTy) (k : ∀ (s : Sl) w', Heap F w' (own T_int s (fl.map (·.2)) :: l) → Q (.slice s.a s.len s.cap) w') : Does Tryd.prog N_fault_Path #[v] w Q := by
  refine F_fault_Path_does _ _ _ ?_
  unfold F_fault_Path
  refine fault_row H hn hE hT fun s0 ps w H => ⟨s0, rfl, ?_⟩
  replace H := H.share
  refine ⟨fun s x w' => ∃ n : Nat, x = n ∧ n ≤ fl.length ∧ Heap F w' (own T_int s ((fl.map (·.2)).take n) :: imm s0 ps :: FR ps fl :: l), fun _ x _ => fl.length - x.toNat, ?_, ?_⟩
  · exact ⟨0, rfl, Nat.zero_le _, H.own_nil _⟩
  rintro s x w ⟨n, rfl, hn', H⟩
  have hs0 := H.len (xs := ps) (.t .h)
  have hps := FR_len H (.t (.t .h))
  refine cBoth (fun h => ?_) (fun h => ?_)
  · have h1 : n < fl.length := by simp at h; omega
    refine idxI1w (s := s0) (xs := ps) H (by omega) (by omega) (fun a ha => ?_) (.t .h)
    obtain ⟨b, hb, HB⟩ := FR_ptr H (.t (.t .h)) h1 (by omega)
    refine ⟨some ⟨b, 0, none⟩, (ha H (.t .h)).trans (by simp only [Int.toNat_natCast, hb]; rfl), nn ?_⟩
    refine At.ld (t := .int .i64) (HB.atc .h) ?_
    refine al H (cs := [.int .i64 fl[n].2]) (fun a2 w H => ?_) rfl
    refine psh1 (b := a2) (xs := (fl.map (·.2)).take n) (fl[n].2 : Int) S_l_int H (by simp; omega) fun s2 w H => ?_
    rw [i64_id (by omega)]
    refine ⟨⟨n + 1, rfl, h1, ?_⟩, by show fl.length - ((n : Int) + 1).toNat < fl.length - (n : Int).toNat; omega⟩
    rw [List.take_succ_eq_append_getElem (by simpa using h1)]
    simp only [List.getElem_map]
    exact H.dr _ (.t .h)
  · have h1 : n = fl.length := by simp at h; omega
    rw [List.take_of_length_le (by simp; omega)] at H
    exact k s w (Heap.kp 2 H)
end
end Go.Proofs.YtlbhilhfbbocfaaDoor.G

set_option linter.unusedVariables false
set_option linter.unusedSimpArgs false
namespace Nac
theorem get_cons (c : UInt8) (l : List UInt8) : get (c :: l) = get l * 256 + c.toUInt64 := by
  apply UInt64.toNat_inj.1
  have hc := c.toNat_lt
  have hg := (get l).toNat_lt
  show ((get l <<< 8) ||| c.toUInt64).toNat = _
  rw [UInt64.toNat_or, UInt64.toNat_shiftLeft, UInt64.toNat_add, UInt64.toNat_mul, UInt8.toNat_toUInt64, show (8 : UInt64).toNat % 64 = 8 from rfl, show (256 : UInt64).toNat = 256 from rfl, Nat.shiftLeft_eq, show (2 : Nat) ^ 64 = 18446744073709551616 from rfl]
  have e : (get l).toNat * 2 ^ 8 % 18446744073709551616 = 2 ^ 8 * ((get l).toNat % 2 ^ 56) := by omega
  rw [e, ← Nat.two_pow_add_eq_or_of_lt (by omega)]
  omega
theorem get_step (n u g : UInt64) (c : UInt64) : (n + c * u) + u * 256 * g = n + u * (g * 256 + c) := by
  rw [UInt64.mul_add, UInt64.mul_comm c u, UInt64.add_assoc, UInt64.add_comm (u * c), UInt64.mul_assoc, UInt64.mul_comm 256 g]
end Nac
namespace Go.VC
open Go Go.RowKit
theorem mul64 (a b : UInt64) : IntKind.wrap .u64 ((a.toNat : Int) * (b.toNat : Int)) = ((a * b).toNat : Int) := by
  rw [IntKind.wrap_u64, UInt64.toNat_mul]
  rw [← Int.natCast_mul, Int.natCast_emod]; rfl
theorem add64 (a b : UInt64) : IntKind.wrap .u64 ((a.toNat : Int) + (b.toNat : Int)) = ((a + b).toNat : Int) := by
  rw [IntKind.wrap_u64, UInt64.toNat_add]
  rw [← Int.natCast_add, Int.natCast_emod]; rfl
theorem mod256 (a : UInt64) : IntKind.wrap .u8 (Int.tmod (a.toNat : Int) 256) = (a.toUInt8.toNat : Int) := by
  rw [IntKind.wrap_u8, UInt64.toNat_toUInt8, Int.tmod_eq_emod_of_nonneg (by omega)]
  show ((a.toNat : Int) % 256) % 256 = ((a.toNat % 256 : Nat) : Int)
  omega
theorem div256 (a : UInt64) : IntKind.wrap .u64 (Int.tdiv (a.toNat : Int) 256) = ((a >>> 8).toNat : Int) := by
  have := a.toNat_lt
  rw [IntKind.wrap_u64, UInt64.toNat_shiftRight, show (8 : UInt64).toNat % 64 = 8 from rfl, Nat.shiftRight_eq_div_pow, Int.tdiv_eq_ediv_of_nonneg (by omega)]
  show ((a.toNat : Int) / 256) % 18446744073709551616 = ((a.toNat / 256 : Nat) : Int)
  omega
end Go.VC
namespace Go.Proofs.YtlbhilhfbbocfaaDoor.G
open Go Go.VC Go.RowKit Go.Proofs Go.Proofs.YtlbhilhfbbocfaaDoor Nac
section
variable {F : Bs} {w : World} {l r : List SP} {Q : Value → World → Prop} {s t : Sl} {is js : List Ins} {bb : List UInt8} {v : Value} {fl : List (Int × Int)}
/-- a fault of a code and a place, or none -/
def flt (x : Int × Int) : List (Int × Int) := if x.1 = 0 then [] else [x]
theorem dLt {a b : Int} {A B : Prop} (h : a < b → A) (k : ¬ a < b → B) : cond (decide (a < b)) A B := dBoth h k
theorem dGt {a b : Int} {A B : Prop} (h : a > b → A) (k : ¬ a > b → B) : cond (decide (a > b)) A B := dBoth h k
theorem dLe {a b : Int} {A B : Prop} (h : a ≤ b → A) (k : ¬ a ≤ b → B) : cond (decide (a ≤ b)) A B := dBoth h k
theorem dGe {a b : Int} {A B : Prop} (h : a ≥ b → A) (k : ¬ a ≥ b → B) : cond (decide (a ≥ b)) A B := dBoth h k
theorem if_run_ne {P : Program} {w : World} {t x s : Nat} {u : Value} (h : isIf P t = true) : (do eqGuard .neq t (.tmp x) (.const (.nilIface)) (.iface s u) (.nilIface); binOp .neq t (.iface s u) (.nilIface) : Sem Value).run P w = .ok (.bool true) w := by
  rw [eqGuard_at_iface]
  have e := if_eqIn (P := P) (w := w) (s := s) (u := u) 9999 h
  simp only [pure_bind, binOp]
  show ((Op.equalIn 10000 t (.iface s u) .nilIface) >>= fun a => pure (Value.bool (!a)) : Sem Value).run P w = _
  rw [Sem.run_bind, e]; rfl
theorem nil_run_ne {P : Program} {w : World} {t x : Nat} (h : isIf P t = true) : (do eqGuard .neq t (.tmp x) (.const (.nilIface)) (.nilIface) (.nilIface); binOp .neq t (.nilIface) (.nilIface) : Sem Value).run P w = .ok (.bool false) w := by
  rw [eqGuard_nil_constR]
  have e := nil_eqIn (P := P) (w := w) 9999 h
  simp only [pure_bind, binOp]
  show ((Op.equalIn 10000 t .nilIface .nilIface) >>= fun a => pure (Value.bool (!a)) : Sem Value).run P w = _
  rw [Sem.run_bind, e]; rfl
theorem nil_ne {w : World} {K : Bool → World → Prop} {x : Nat} (k : K false w) : runG (.bool) Tryd.prog w (do eqGuard .neq T_error (.tmp x) (.const (.nilIface)) (.nilIface) (.nilIface); binOp .neq T_error (.nilIface) (.nilIface)) K :=
  ⟨.bool false, w, nil_run_ne if_err, _, rfl, k⟩
theorem iface_nen {w : World} {t : Nat} {u : Value} {K : Bool → World → Prop} {x : Nat} (k : K true w) : runG (.bool) Tryd.prog w (do eqGuard .neq T_error (.tmp x) (.const (.nilIface)) (.iface t u) (.nilIface); binOp .neq T_error (.iface t u) (.nilIface)) K :=
  ⟨.bool true, w, if_run_ne if_err, _, rfl, k⟩
attribute [local irreducible] Tryd.prog
theorem err_eq (H : Heap F w l) (hE : Has l (Err v fl)) {x : Nat} {K : Bool → World → Prop} (k : K (decide (fl = [])) w) : runG (.bool) Tryd.prog w (do eqGuard .eql T_error (.tmp x) (.const (.nilIface)) v (.nilIface); binOp .eql T_error v (.nilIface)) K := by
  rcases err_val H hE with ⟨rfl, rfl⟩ | ⟨c, a, t, b, u, rfl, rfl, H⟩
  · exact nil_eq k
  · exact iface_ne k
theorem err_ne (H : Heap F w l) (hE : Has l (Err v fl)) {x : Nat} {K : Bool → World → Prop} (k : K (decide (fl ≠ [])) w) : runG (.bool) Tryd.prog w (do eqGuard .neq T_error (.tmp x) (.const (.nilIface)) v (.nilIface); binOp .neq T_error v (.nilIface)) K := by
  rcases err_val H hE with ⟨rfl, rfl⟩ | ⟨c, a, t, b, u, rfl, rfl, H⟩
  · exact nil_ne k
  · exact iface_nen k
theorem oct_Get (H : Heap F w l) {s : Sl} {bb : List UInt8} (h1 : 1 ≤ bb.length) (h8 : bb.length ≤ 8) (k : Q (.tuple #[.int .u64 ((Nac.get bb).toNat : Int), .int .i64 0]) w) (hI : Has l (imm s bb) := by repeat (first | assumption | constructor)) :
    Does Tryd.prog N_octet_Get #[.slice s.a s.len s.cap] w Q := by
  refine F_octet_Get_does _ _ _ ?_
  unfold F_octet_Get
  have hl := H.len hI
  intro J hJ
  refine dF (by omega) (dF (by omega) (hJ _ ?_))
  rw [i64_id (by omega)]
  refine ⟨fun m x w' => ∃ (i : Nat), x = (i : Int) - 1 ∧ m = ((Nac.get (bb.drop i)).toNat : Int) ∧ i ≤ bb.length ∧ w' = w, fun _ x _ => (x + 1).toNat, ⟨bb.length, by omega, by rw [List.drop_of_length_le (Nat.le_refl _)]; rfl, by omega, rfl⟩, ?_⟩
  rintro m x w1 ⟨i, rfl, rfl, hi, rfl⟩
  refine dBoth (fun hlt => ?_) (fun hge => ?_)
  · refine ⟨by decide, idxI1 (xs := bb) H (by omega) (by omega) (fun a ha => ldT_cell _ ha ?_) hI⟩
    have e : ((i : Int) - 1).toNat = i - 1 := by omega
    simp only [e]
    rw [shl64_8, wrap64_8, or64]
    refine ⟨⟨i - 1, by rw [i64_id (by omega)]; omega, ?_, by omega, (by first | rfl | trivial)⟩, by rw [i64_id (by omega)]; (try dsimp only); omega⟩
    rw [List.drop_eq_getElem_cons (show i - 1 < bb.length by omega), Nac.get, show i - 1 + 1 = i by omega]
  · obtain rfl : i = 0 := by omega
    exact k
def dig (i : Int) : ByteArray := (⟨#[48, 49, 50, 51, 52, 53, 54, 55, 56, 57, 97, 98, 99, 100, 101, 102, 103, 104, 105, 106, 107, 108, 109, 110, 111, 112, 113, 114, 115, 116, 117, 118, 119, 120, 121, 122]⟩ : ByteArray).extract i.toNat (i + 1).toNat
theorem dig_size {i : Int} (h0 : 0 ≤ i) (h9 : i < 10) : (dig i).size = 1 := by
  rcases (show i = 0 ∨ i = 1 ∨ i = 2 ∨ i = 3 ∨ i = 4 ∨ i = 5 ∨ i = 6 ∨ i = 7 ∨ i = 8 ∨ i = 9 by omega) with rfl | rfl | rfl | rfl | rfl | rfl | rfl | rfl | rfl | rfl <;> rfl
theorem small_does {i : Int} (h0 : 0 ≤ i) (h9 : i < 10) (k : Q (.string (dig i)) w) : Does Tryd.prog N_internal_strconv_small #[.int .i64 i] w Q := by
  refine F_internal_strconv_small_does _ _ _ ?_
  unfold F_internal_strconv_small
  refine dT (by omega) ?_
  rw [i64_id (by omega)]
  refine ⟨by omega, ?_, h0, by omega, k⟩
  show (i + 1) ≤ ((36 : Nat) : Int)
  omega
theorem itoa_does {i : Int} (h0 : 0 ≤ i) (h9 : i < 10) (k : Q (.string (dig i)) w) : Does Tryd.prog N_strconv_Itoa #[.int .i64 i] w Q := by
  refine F_strconv_Itoa_does _ _ _ ?_
  unfold F_strconv_Itoa
  refine F_internal_strconv_Itoa_does _ _ _ ?_
  unfold F_internal_strconv_Itoa
  refine F_internal_strconv_FormatInt_does _ _ _ _ ?_
  unfold F_internal_strconv_FormatInt
  refine cT rfl ?_
  intro J hJ J2 hJ2
  refine dT h0 (hJ2 _ _ (dT (by omega) ?_))
  exact small_does h0 h9 ⟨_, rfl, _, rfl, _, rfl, k⟩
end
end Go.Proofs.YtlbhilhfbbocfaaDoor.G

set_option linter.unusedVariables false
set_option linter.unusedSimpArgs false
namespace Go.VC
open Go Go.RowKit
theorem flatMap_get {α β : Type} {f : α → List β} {N : Nat} : ∀ {xs : List α} (hN : ∀ x ∈ xs, (f x).length = N) {i : Nat} {x : α}, xs[i]? = some x → ∀ {j : Nat} {u : β}, (f x)[j]? = some u → (xs.flatMap f)[i * N + j]? = some u
  | [], _, i, x, h, _, _, _ => by simp at h
  | y :: ys, hN, 0, x, h, j, u, hj => by
    simp at h; subst h
    rw [List.flatMap_cons, Nat.zero_mul, Nat.zero_add, List.getElem?_append_left (List.getElem?_eq_some_iff.1 hj).1]; exact hj
  | y :: ys, hN, i + 1, x, h, j, u, hj => by
    rw [List.flatMap_cons, List.getElem?_append_right (by rw [hN y (by simp), Nat.succ_mul]; omega), hN y (by simp), show (i + 1) * N + j - N = i * N + j by rw [Nat.succ_mul]; omega]
    exact flatMap_get (fun x hx => hN x (by simp [hx])) (by simpa using h) hj
/-- a literal row of structs -/
theorem Heap.blk_ownL {α : Type} [Rep α] {F : Bs} {w : World} {l r : List SP} {b n : Nat} {e : TypeId} {cs : List Value} (H : Heap F w l) (xs : List α) (f : α → List Value) (hr : ∀ ro x, x ∈ xs → Rep.r ro (f x) x) (hc : cs = xs.flatMap f) (hn : xs.length = n) (hm : n ≤ 1000) (hT : Take l (blk b e cs) r := by repeat (first | assumption | constructor)) : Heap F w (own e ⟨some ⟨b, 0, none⟩, n, n⟩ xs :: r) :=
  (H.take hT).ent1 fun ro h hb => by
    have hN : ∀ x ∈ xs, (f x).length = Rep.n α := fun x hx => Rep.len (hr ro x hx)
    have hlen : cs.length = n * Rep.n α := by
      rw [hc, ← hn]
      clear hc hn hb hT H hm hr
      induction xs with
      | nil => simp
      | cons x xs ih => rw [List.flatMap_cons, List.length_append, hN x (by simp), ih fun y hy => hN y (by simp [hy]), List.length_cons, Nat.succ_mul]; omega
    exact ⟨hn, .inr ⟨b, _, rfl, hb, Nat.le_refl _, mx (show n ≤ 4000000000000 by omega), by rw [List.size_toArray, hlen], fun i x hi => ⟨f x, hr ro x (List.mem_of_getElem? hi), fun j u hj => by
      have := flatMap_get hN hi hj
      rw [← hc] at this
      simpa using this⟩⟩⟩
end Go.VC
namespace Go.Proofs.YtlbhilhfbbocfaaDoor.G
open Go Go.VC Go.RowKit Go.Proofs Go.Proofs.YtlbhilhfbbocfaaDoor Nac
attribute [local irreducible] Tryd.prog
def smalls : ByteArray := ⟨#[48, 48, 48, 49, 48, 50, 48, 51, 48, 52, 48, 53, 48, 54, 48, 55, 48, 56, 48, 57, 49, 48, 49, 49, 49, 50, 49, 51, 49, 52, 49, 53, 49, 54, 49, 55, 49, 56, 49, 57, 50, 48, 50, 49, 50, 50, 50, 51, 50, 52, 50, 53, 50, 54, 50, 55, 50, 56, 50, 57, 51, 48, 51, 49, 51, 50, 51, 51, 51, 52, 51, 53, 51, 54, 51, 55, 51, 56, 51, 57, 52, 48, 52, 49, 52, 50, 52, 51, 52, 52, 52, 53, 52, 54, 52, 55, 52, 56, 52, 57, 53, 48, 53, 49, 53, 50, 53, 51, 53, 52, 53, 53, 53, 54, 53, 55, 53, 56, 53, 57, 54, 48, 54, 49, 54, 50, 54, 51, 54, 52, 54, 53, 54, 54, 54, 55, 54, 56, 54, 57, 55, 48, 55, 49, 55, 50, 55, 51, 55, 52, 55, 53, 55, 54, 55, 55, 55, 56, 55, 57, 56, 48, 56, 49, 56, 50, 56, 51, 56, 52, 56, 53, 56, 54, 56, 55, 56, 56, 56, 57, 57, 48, 57, 49, 57, 50, 57, 51, 57, 52, 57, 53, 57, 54, 57, 55, 57, 56, 57, 57]⟩
/-- a number below 100, told -/
def dc (i : Int) : ByteArray := if i < 10 then dig i else smalls.extract (i * 2).toNat (i * 2 + 2).toNat
theorem dc_size {i : Int} (h0 : 0 ≤ i) (h9 : i < 100) : (dc i).size ≤ 2 := by
  unfold dc
  split
  · rw [dig_size h0 (by assumption)]; decide
  · rw [ByteArray.size_extract]; omega
section
variable {F : Bs} {w : World} {l r : List SP} {Q : Value → World → Prop} {s t : Sl} {is js : List Ins} {bb : List UInt8} {v : Value} {fl : List (Int × Int)}
theorem small2_does {i : Int} (h0 : 0 ≤ i) (h9 : i < 100) (k : Q (.string (dc i)) w) : Does Tryd.prog N_internal_strconv_small #[.int .i64 i] w Q := by
  by_cases h : i < 10
  · rw [dc, if_pos h] at k
    exact small_does h0 h k
  · rw [dc, if_neg h] at k
    refine F_internal_strconv_small_does _ _ _ ?_
    unfold F_internal_strconv_small
    refine dF (by omega) ?_
    rw [i64_id (n := i * 2) (by omega), i64_id (by omega)]
    refine ⟨by omega, ?_, by omega, by omega, k⟩
    show i * 2 + 2 ≤ ((200 : Nat) : Int)
    omega
theorem itoa2_does {i : Int} (h0 : 0 ≤ i) (h9 : i < 100) (k : Q (.string (dc i)) w) : Does Tryd.prog N_strconv_Itoa #[.int .i64 i] w Q := by
  refine F_strconv_Itoa_does _ _ _ ?_
  unfold F_strconv_Itoa
  refine F_internal_strconv_Itoa_does _ _ _ ?_
  unfold F_internal_strconv_Itoa
  refine F_internal_strconv_FormatInt_does _ _ _ _ ?_
  unfold F_internal_strconv_FormatInt
  refine cT rfl ?_
  intro J hJ J2 hJ2
  refine dT h0 (hJ2 _ _ (dT (by omega) ?_))
  exact small2_does h0 h9 ⟨_, rfl, _, rfl, _, rfl, k⟩
/-- the text of the first n faults -/
def txtN (fl : List (Int × Int)) : Nat → ByteArray
  | 0 => ⟨#[]⟩
  | n + 1 => (if n = 0 then txtN fl n else txtN fl n ++ (⟨#[60]⟩ : ByteArray)) ++ ((dc (fl.getD n (0, 0)).1 ++ (⟨#[64]⟩ : ByteArray)) ++ dc (fl.getD n (0, 0)).2)
theorem txtN_size (h : ∀ x ∈ fl, (0 ≤ x.1 ∧ x.1 < 100) ∧ 0 ≤ x.2 ∧ x.2 < 100) : ∀ n, n ≤ fl.length → (txtN fl n).size ≤ 6 * n
  | 0, _ => Nat.le_refl _
  | n + 1, hn => by
    have ih := txtN_size h n (by omega)
    have hx := h fl[n] (List.getElem_mem _)
    have e : fl.getD n (0, 0) = fl[n] := by rw [List.getD_eq_getElem?_getD, List.getElem?_eq_getElem (by omega)]; rfl
    have h1 := dc_size hx.1.1 hx.1.2
    have h2 := dc_size hx.2.1 hx.2.2
    have e1 : (⟨#[60]⟩ : ByteArray).size = 1 := rfl
    have e2 : (⟨#[64]⟩ : ByteArray).size = 1 := rfl
    rw [txtN, e]
    split
    · simp only [ByteArray.size_append, e2]; omega
    · simp only [ByteArray.size_append, e1, e2]; omega
theorem fault_Text (H : Heap F w l) (hn : fl.length ≤ 1000) (h : ∀ x ∈ fl, (0 ≤ x.1 ∧ x.1 < 100) ∧ 0 ≤ x.2 ∧ x.2 < 100) (hE : Has l (Err v fl)) (hT : Has l ErrTy) (k : ∀ w', Heap F w' l → Q (.string (txtN fl fl.length)) w') : Does Tryd.prog N_fault_Text #[v] w Q := by
  refine F_fault_Text_does _ _ _ ?_
  unfold F_fault_Text
  refine fault_row H hn hE hT fun s0 ps w H => ⟨s0, rfl, ?_⟩
  replace H := H.share
  have hs0 := H.len (xs := ps) .h
  have hps := FR_len H (.t .h)
  refine ⟨fun s x w' => ∃ n : Nat, x = (n : Int) ∧ n ≤ fl.length ∧ s = txtN fl n ∧ Heap F w' (imm s0 ps :: FR ps fl :: l), fun _ x _ => fl.length - x.toNat, ⟨0, rfl, Nat.zero_le _, rfl, H⟩, ?_⟩
  rintro s x w ⟨n, rfl, hnl, rfl, H⟩
  refine dBoth (fun hlt => ?_) (fun hge => ?_)
  · have hlt' : n < fl.length := by omega
    intro J hJ
    have hsz := txtN_size h n (by omega)
    have e : fl.getD n (0, 0) = fl[n] := by rw [List.getD_eq_getElem?_getD, List.getElem?_eq_getElem (by omega)]; rfl
    have ht : txtN fl (n + 1) = (if n = 0 then txtN fl n else txtN fl n ++ (⟨#[60]⟩ : ByteArray)) ++ ((dc fl[n].1 ++ (⟨#[64]⟩ : ByteArray)) ++ dc fl[n].2) := by rw [txtN, e]
    have hx := h fl[n] (List.getElem_mem _)
    refine idxI1w (s := s0) (xs := ps) H (by omega) (by omega) (fun ad ha => ?_) .h
    obtain ⟨b, hb, HB⟩ := FR_ptr H (i := n) (.t .h) hlt' (by omega)
    refine ⟨some ⟨b, 0, none⟩, (ha H .h).trans (by simp only [Int.toNat_natCast, hb]; rfl), ?_⟩
    generalize fl[n] = y at ht hx HB
    intro J2 hJ2
    have e1 := dc_size hx.1.1 hx.1.2
    have e2 := dc_size hx.2.1 hx.2.2
    have q1 : (⟨#[60]⟩ : ByteArray).size = 1 := rfl
    have q2 : (⟨#[64]⟩ : ByteArray).size = 1 := rfl
    have go : ∀ s : ByteArray, s.size ≤ 6 * n + 1 → s ++ ((dc y.1 ++ (⟨#[64]⟩ : ByteArray)) ++ dc y.2) = txtN fl (n + 1) → J2 s w := fun s hs hst => by
      refine hJ2 _ _ ?_
      have HA := HB.drew.atc (b := b) (o := 0) .h
      refine nn (HA.ld0 (nn (HA.ld ?_)))
      refine itoa2_does hx.1.1 hx.1.2 ⟨_, rfl, ?_⟩
      refine ⟨by have := HA 1 _ rfl; exact this, by rw [q2]; omega, ?_⟩
      refine itoa2_does hx.2.1 hx.2.2 ⟨_, rfl, ?_⟩
      refine ⟨by rw [ByteArray.size_append, q2]; omega, by simp only [ByteArray.size_append, q2]; omega, hJ _ _ ?_⟩
      rw [i64_id (by omega)]
      refine ⟨⟨n + 1, by omega, by omega, hst, HB.drew.tl⟩, by show fl.length - ((n : Int) + 1).toNat < fl.length - (n : Int).toNat; omega⟩
    refine dGt (fun g => ⟨by rw [q1]; omega, ?_⟩) (fun g => ?_)
    · refine go _ (by rw [ByteArray.size_append, q1]; omega) ?_
      rw [ht, if_neg (by omega)]
    · refine go _ (by omega) ?_
      rw [ht, if_pos (by omega)]
  · obtain rfl : n = fl.length := by omega
    exact k _ H.tl.tl
theorem txtEq {a b : ByteArray} (h : a = b) : (a.toList == b.toList) = true := by rw [h]; exact beq_self_eq_true _
end
end Go.Proofs.YtlbhilhfbbocfaaDoor.G
