import Derived.Test.YtkfcmpngcanffaaDoorGena
import Derived.Test.YtkfcmpngcanffaaDoorGenb
import Derived.Test.YtkfcmpngcanffaaDoorGenc
import Derived.Test.YtkfcmpngcanffaaDoorVc
import Derived.Defers

set_option linter.unusedVariables false
set_option linter.unusedSimpArgs false
namespace Go.VC
open Go Go.RowKit
theorem defer_region {P : Program} {i t ty1 ty2 g : Nat} {p1 p2 : String} {af1 af2 : Array Edge} {fi ca : Array Operand} {ats : Array TypeId} {a : Act} {w : World} {Q : Exit → Act → World → Prop}
    (ht : t < a.tmps.size) (h : Q .normal { (a.put (some t) (.func (.func g) (fi.map a.eval) (ca.map a.eval))) with defers := { target := .fn (.func g) (ca.map a.eval), args := fi.map a.eval } :: a.defers } w) :
    (Code.region i #[{ dst := some t, op := .makeFunc (.func g) fi ca, type := ty1, pos := p1, after := af1, guard := none }, { dst := none, op := .defer { callee := .value (.tmp t), args := #[], argTypes := ats }, type := ty2, pos := p2, after := af2, guard := none }] false).wp P Q a w := by
  refine wp_region ?_
  simp [wpOps, List.range_succ, Oper.wp, execOp, Instr.makeFunc, Oper.upon, resolve, Deferred.ofValue, Act.eval, Act.put, ht, Region.wanted]
  first | exact .inl (.inl h) | exact .inl h | exact h
theorem vcFn_soundD {P : Program} (hN : noAsk P = true) (hm : P.follows .mixedOrders = true) {A : Ann} (hA : A.ok = true) {g : FuncId} {fn : Func} {args : Array Value} {w : World} {Q : Value → World → Prop}
    (hf : P.funcs[g]? = some fn) (hs : args.size ≤ fn.ntmps) (hd : (match fn.body with | some c => ((dstC c).all fun d => Nat.blt d fn.ntmps) && tabsOk P A c | none => true) = true)
    (h : vcFn P A fn args w Q) (u : FrameMode) : CallsD P g args u w fun e u' w' => u' = u ∧ ∃ v, e = .returned v ∧ Q v w' := by
  unfold vcFn at h
  split at h
  · rename_i c hc
    rw [hc] at hd
    simp only [Bool.and_eq_true] at hd
    obtain ⟨hd, ht⟩ := hd
    refine callsD_of_wp (R := fun e w' => ∃ v, e = .returned v ∧ Q v w') hf hc (wp_mono (vc_sound hN hm hA c ht h (a := { tmps := args ++ Array.replicate (fn.ntmps - args.size) undef, defers := [] }) ?_ hd (by simp; omega)) fun e a' w' hv => ?_)
    · refine agree_args args.toList 0 _ fun j v hj => ?_
      have hj' : args[j]? = some v := by simpa using hj
      have hlt : j < args.size := (Array.getElem?_eq_some_iff.1 hj').1
      simp only [Nat.zero_add]
      rw [Array.getElem?_append_left hlt]; exact hj'
    · obtain ⟨f', h1, h2, h3⟩ := hv
      have fin : vcRes P fn.results.toList f' w' [] (fun v => Q v w') → a'.defers = [] ∧ ∃ v, (results fn a'.tmps).run P w' = .ok v w' ∧ ∃ u, Ending.returned v = .returned u ∧ Q u w' := fun h => by
        refine ⟨h2.defers, ?_⟩
        obtain ⟨vs, g1, g2⟩ := vcRes_run h1 h
        have g3 : (fn.results.mapM (m := Sem) (resOf P a'.tmps)).run P w' = .ok vs.toArray w' := by
          rw [Array.mapM_eq_mapM_toList]; simp [g1]
        rw [results_resOf P]
        simp only [List.nil_append] at g2
        refine ⟨_, by rw [Sem.run_bind, g3]; rfl, _, rfl, ?_⟩
        split
        · rename_i hsz
          match vs, hsz, g2 with
          | [v], _, g2 => exact g2
        · rename_i hsz
          match vs, hsz, g2 with
          | [], _, g2 => exact g2
          | [v], hsz, _ => simp at hsz
          | _ :: _ :: _, _, g2 => exact g2
      cases e with
      | normal => exact fin h3
      | ret => exact fin h3
      | _ => cases h3
  · cases h

def isDef (ops : Array Oper) : Option (Nat × Nat × Array Operand × Array Operand) := match ops.toList with
  | [⟨some t, .makeFunc (.func g) fi ca, _, _, _, none⟩, ⟨none, .defer ⟨.value (.tmp t'), ar, _⟩, _, _, _, none⟩] => match Nat.beq t t', ar.toList with
    | true, [] => some (t, g, fi, ca)
    | _, _ => none
  | _ => none
def vcFnD (P : Program) (A : Ann) (fn : Func) (A' : Ann) (fn' : Func) (args : Array Value) (w : World) (Q : Value → World → Prop) : Prop :=
  match fn.body with
  | some (.seq c0 (.seq (.region _ ops false) c2)) => match isDef ops with
    | some (t, _, fi, ca) => vc P A c0 (argF 0 args.toList) w fun e f1 w1 => match e with
      | .normal => match fi.toList.all (knownX f1) && ca.toList.all (knownX f1) with
       | false => False
       | true => vc P A c2 (strike [t] f1) w1 fun e f2 w2 => match e with
        | .normal => vcFn P A' fn' (fi.map (evD f1) ++ ca.map (evD f1)) w2 fun _ w3 => vcRes P fn.results.toList f2 w3 [] fun v => Q v w3
        | .ret => vcFn P A' fn' (fi.map (evD f1) ++ ca.map (evD f1)) w2 fun _ w3 => vcRes P fn.results.toList f2 w3 [] fun v => Q v w3
        | _ => False
      | _ => False
    | none => False
  | _ => False
theorem isDef_eq {ops : Array Oper} {t g : Nat} {fi ca : Array Operand} (h : isDef ops = some (t, g, fi, ca)) :
    ∃ ty1 p1 af1 ty2 p2 af2 ats, ops = #[{ dst := some t, op := .makeFunc (.func g) fi ca, type := ty1, pos := p1, after := af1, guard := none }, { dst := none, op := .defer { callee := .value (.tmp t), args := #[], argTypes := ats }, type := ty2, pos := p2, after := af2, guard := none }] := by
  unfold isDef at h
  split at h
  · rename_i heq
    split at h
    · rename_i h1 h2
      cases h
      have := Nat.eq_of_beq_eq_true h1
      subst this
      rw [Array.toList_eq_nil_iff] at h2
      subst h2
      have e := congrArg List.toArray heq
      rw [Array.toArray_toList] at e
      exact ⟨_, _, _, _, _, _, _, e⟩
    · cases h
  · cases h
def defFn (P : Program) (fn : Func) : Option Func := match fn.body with
  | some (.seq _ (.seq (.region _ ops false) _)) => match isDef ops with
    | some (_, g, _, _) => P.funcs[g]?
    | none => none
  | _ => none
def defOk (P : Program) (A A' : Ann) (fn fn' : Func) : Bool := match fn.body with
  | some (.seq c0 (.seq (.region _ ops false) c2)) => match isDef ops with
    | some (t, _, fi, ca) => ((dstC c0).all fun d => Nat.blt d fn.ntmps) && ((dstC c2).all fun d => Nat.blt d fn.ntmps) && tabsOk P A c0 && tabsOk P A c2 && Nat.blt t fn.ntmps && Nat.ble (fi.size + ca.size) fn'.ntmps &&
        (match fn'.body with | some c => ((dstC c).all fun d => Nat.blt d fn'.ntmps) && tabsOk P A' c | none => false) && !(fn'.name == "runtime.NumGoroutine")
    | none => false
  | _ => false
theorem vcFnD_sound {P : Program} (hN : noAsk P = true) (hm : P.follows .mixedOrders = true) {A A' : Ann} (hA : A.ok = true) (hA' : A'.ok = true) {g : FuncId} {fn fn' : Func} {args : Array Value} {w : World} {Q : Value → World → Prop}
    (hf : P.funcs[g]? = some fn) (hs : args.size ≤ fn.ntmps) (hg : defFn P fn = some fn') (hd : defOk P A A' fn fn' = true) (h : vcFnD P A fn A' fn' args w Q) : Does P g args w Q := by
  unfold vcFnD at h
  unfold defFn at hg
  unfold defOk at hd
  split at h
  · rename_i c0 i ops c2 hb
    rw [hb] at hg hd
    dsimp only at hg hd
    split at h
    · rename_i t g' fi ca hi
      rw [hi] at hg hd
      dsimp only at hg hd
      simp only [Bool.and_eq_true] at hd
      obtain ⟨⟨⟨⟨⟨⟨⟨d0, d2⟩, t0⟩, t2⟩, dt⟩, dsz⟩, dfn⟩, dn⟩ := hd
      have dt' : t < fn.ntmps := Nat.le_of_ble_eq_true dt
      obtain ⟨ty1, p1, af1, ty2, p2, af2, ats, rfl⟩ := isDef_eq hi
      refine calls_of_wp_defers hf hb ?_
      refine wp_seq (wp_mono (vc_sound hN hm hA c0 t0 h (a := { tmps := args ++ Array.replicate (fn.ntmps - args.size) undef, defers := [] }) ?_ d0 (by simp; omega)) fun e a1 w1 hv => ?_)
      · refine agree_args args.toList 0 _ fun j v hj => ?_
        have hj' : args[j]? = some v := by simpa using hj
        have hlt : j < args.size := (Array.getElem?_eq_some_iff.1 hj').1
        simp only [Nat.zero_add]
        rw [Array.getElem?_append_left hlt]; exact hj'
      obtain ⟨f1, ag1, kp1, hv⟩ := hv
      cases e with
      | normal =>
        obtain ⟨hk, hv⟩ : (fi.toList.all (knownX f1) && ca.toList.all (knownX f1)) = true ∧ _ := by
          dsimp only at hv
          split at hv
          · exact hv.elim
          · rename_i hk; exact ⟨hk, hv⟩
        have hsz : a1.tmps.size = fn.ntmps := by rw [kp1.size]; simp; omega
        refine wp_seq (defer_region (by omega) ?_)
        have hz : a1.defers = [] := kp1.defers
        rw [hz]
        refine wp_mono (vc_sound hN hm hA c2 t2 hv (a := { (a1.put (some t) (.func (.func g') (fi.map a1.eval) (ca.map a1.eval))) with defers := [{ target := .fn (.func g') (ca.map a1.eval), args := fi.map a1.eval }] }) ?_ d2 (by simp [Act.put, hsz])) fun e a2 w2 hv2 => ?_
        · intro j v hj
          obtain ⟨h1, h2⟩ := look_strike hj
          have hne : t ≠ j := by rintro rfl; simp at h2
          simp only [Act.put]
          rw [Array.getElem?_setIfInBounds_ne hne]
          exact ag1 j v h1
        obtain ⟨f2, ag2, kp2, hK⟩ := hv2
        simp only [Bool.and_eq_true] at hk
        have efi : fi.map a1.eval = fi.map (evD f1) := Array.map_congr_left fun x hx => ag1.eval (List.all_eq_true.1 hk.1 x (by simpa using hx))
        have eca : ca.map a1.eval = ca.map (evD f1) := Array.map_congr_left fun x hx => ag1.eval (List.all_eq_true.1 hk.2 x (by simpa using hx))
        have fin : vcFn P A' fn' (fi.map (evD f1) ++ ca.map (evD f1)) w2 (fun _ w3 => vcRes P fn.results.toList f2 w3 [] fun v => Q v w3) →
            Leaves P fn a2.tmps (fun e w' => ∃ v, e = .returned v ∧ Q v w') a2.defers .returning w2 := fun hF => by
          rw [show a2.defers = _ from kp2.defers]
          have hb' : fn'.body.isNone = false := by
            cases hbb : fn'.body with
            | none => rw [hbb] at dfn; cases dfn
            | some c => rfl
          have hnm : (fn'.name == "runtime.NumGoroutine") = false := by simpa using dn
          refine leaves_cons (f := g') (args := fi.map (evD f1) ++ ca.map (evD f1)) (by simp) ?_ (CallsD.mono (vcFn_soundD hN hm hA' hg (by simp; exact Nat.le_of_ble_eq_true dsz) ?_ hF .returning) ?_)
          · rw [efi, eca]
            simp only [invoke, callFunc, program, Sem.run_bind, Sem.run_pure, Result.andThen, Sem.run, hg, hnm, hb']
            rfl
          · cases hbb : fn'.body with
            | none => rfl
            | some c => rw [hbb] at dfn; exact dfn
          · rintro e u' w3 ⟨rfl, v, rfl, hv3⟩
            obtain ⟨vs, g1, g2⟩ := vcRes_run ag2 hv3
            have g3 : (fn.results.mapM (m := Sem) (resOf P a2.tmps)).run P w3 = .ok vs.toArray w3 := by
              rw [Array.mapM_eq_mapM_toList]; simp [g1]
            show ∃ v, (results fn a2.tmps).run P w3 = .ok v w3 ∧ _
            rw [results_resOf P]
            simp only [List.nil_append] at g2
            refine ⟨_, (by rw [Sem.run_bind, g3]; rfl), _, rfl, ?_⟩
            split
            · rename_i hsz
              match vs, hsz, g2 with
              | [v], _, g2 => exact g2
            · rename_i hsz
              match vs, hsz, g2 with
              | [], _, g2 => exact g2
              | [v], hsz, _ => simp at hsz
              | _ :: _ :: _, _, g2 => exact g2
        cases e with
        | normal => exact fin hK
        | ret => exact fin hK
        | _ => exact hK.elim
      | _ => exact hv.elim
    · cases h
  · cases h
end Go.VC

set_option linter.unusedVariables false
namespace Go.Proofs.YtkfcmpngcanffaaDoor.G
open Go Go.VC Go.Proofs Go.Proofs.YtkfcmpngcanffaaDoor
set_option maxRecDepth 100000
abbrev N_wal_Log_checkpoint_1 : Nat := 101
abbrev N_wal_Log_write_1 : Nat := 102
/- (*nacelle/wal.Log).checkpoint$1 -/
def F_wal_Log_checkpoint_1 (cap0 : Addr) (cap1 : Addr) (w : World) (Q : Value → World → Prop) : Prop :=
  ldT (.ptr) w (cap1) fun p1 =>
  ldT (.int .i64) w (cap0) fun x2 =>
  nnil (p1) fun a3 =>
  stC w ((a3).add 644) (.bool ((x2 : Int) != 0)) fun w4 =>
  Q (.tuple #[]) w4
def A_wal_Log_checkpoint_1 : Ann := ⟨[], [], []⟩
theorem F_wal_Log_checkpoint_1_eq (cap0 : Addr) (cap1 : Addr) (w : World) (Q : Value → World → Prop) : vcFn Tryd.prog A_wal_Log_checkpoint_1 Tryd.f101 #[.pointer (some (cap0)), .pointer (some (cap1))] w Q = F_wal_Log_checkpoint_1 cap0 cap1 w Q := by kernel_rfl
theorem F_wal_Log_checkpoint_1_does (cap0 : Addr) (cap1 : Addr) (w : World) (Q : Value → World → Prop) (hQ : F_wal_Log_checkpoint_1 cap0 cap1 w Q) : Does Tryd.prog N_wal_Log_checkpoint_1 #[.pointer (some (cap0)), .pointer (some (cap1))] w Q :=
  vcFn_sound noAsk mixed (A := A_wal_Log_checkpoint_1) (by kernel_rfl) Tryd.func101 (Nat.le_of_ble_eq_true (by kernel_rfl)) (by kernel_rfl) ((F_wal_Log_checkpoint_1_eq cap0 cap1 w Q).mpr hQ)

/- (*nacelle/wal.Log).write$1 -/
def F_wal_Log_write_1 (cap0 : Addr) (cap1 : Addr) (w : World) (Q : Value → World → Prop) : Prop :=
  ldT (.ptr) w (cap1) fun p1 =>
  ldT (.int .i64) w (cap0) fun x2 =>
  nnil (p1) fun a3 =>
  stC w ((a3).add 644) (.bool ((x2 : Int) != 0)) fun w4 =>
  Q (.tuple #[]) w4
def A_wal_Log_write_1 : Ann := ⟨[], [], []⟩
theorem F_wal_Log_write_1_eq (cap0 : Addr) (cap1 : Addr) (w : World) (Q : Value → World → Prop) : vcFn Tryd.prog A_wal_Log_write_1 Tryd.f102 #[.pointer (some (cap0)), .pointer (some (cap1))] w Q = F_wal_Log_write_1 cap0 cap1 w Q := by kernel_rfl
theorem F_wal_Log_write_1_does (cap0 : Addr) (cap1 : Addr) (w : World) (Q : Value → World → Prop) (hQ : F_wal_Log_write_1 cap0 cap1 w Q) : Does Tryd.prog N_wal_Log_write_1 #[.pointer (some (cap0)), .pointer (some (cap1))] w Q :=
  vcFn_sound noAsk mixed (A := A_wal_Log_write_1) (by kernel_rfl) Tryd.func102 (Nat.le_of_ble_eq_true (by kernel_rfl)) (by kernel_rfl) ((F_wal_Log_write_1_eq cap0 cap1 w Q).mpr hQ)

/- (*nacelle/wal.Log).checkpoint -/
def F_wal_Log_checkpoint (w_ : Option Addr) (w : World) (Q : Value → World → Prop) : Prop :=
  allocK w (#[.pointer (w_)]) T_p_wal_Log fun a1 w2 =>
  allocK w2 (zc Tryd.prog T_api_Errno) T_api_Errno fun a3 w4 =>
  ldT (.ptr) w4.drew (a1) fun p5 =>
  ldT (.ptr) w4.drew (a1) fun p6 =>
  nnil (p6) fun a7 =>
  ldT (.int .u32) w4.drew ((a7).add 641) fun x8 =>
  ldT (.ptr) w4.drew (a1) fun p9 =>
  nnil (p9) fun a10 =>
  ldT (.int .i64) w4.drew ((a10).add 642) fun x11 =>
  Does Tryd.prog N_wal_Log_settle #[.pointer (p5), .int .u32 (IntKind.wrap .u32 (x8 + 1)), .int .i64 (IntKind.wrap .i64 (1 - x11))] w4.drew fun r12 w13 => ∃ x14 : Int, r12 = .int .i64 (x14) ∧
  stC w13 (a3) (.int .i64 (x14)) fun w15 =>
  ldT (.int .i64) w15 (a3) fun x16 =>
  cond ((x16 : Int) != 0)
  (ldT (.int .i64) w15 (a3) fun x17 =>
   stC w15 (a3) (.int .i64 (x17)) fun w18 =>
   F_wal_Log_checkpoint_1 a3 a1 w18 fun _ w19 =>
   ldT (.int .i64) w19 (a3) fun x20 =>
   Q (.int .i64 (x20)) w19)
  (ldT (.ptr) w15.drew (a1) fun p21 =>
   ldT (.ptr) w15.drew (a1) fun p22 =>
   ldT (.ptr) w15.drew (a1) fun p23 =>
   ldT (.ptr) w15.drew (a1) fun p24 =>
   nnil (p24) fun a25 =>
   ldT (.int .u32) w15.drew ((a25).add 641) fun x26 =>
   ldT (.ptr) w15.drew (a1) fun p27 =>
   nnil (p27) fun a28 =>
   ldT (.int .i64) w15.drew ((a28).add 642) fun x29 =>
   nnil (p21) fun a30 =>
   stC w15.drew ((a30).add 641) (.int .u32 (IntKind.wrap .u32 (x26 + 1))) fun w31 =>
   w31.cell? (a1) = some (.pointer (p23)) ∧ w31.cell? (a1) = some (.pointer (p22)) ∧ nnil (p22) fun a32 =>
   stC w31 ((a32).add 642) (.int .i64 (IntKind.wrap .i64 (1 - x29))) fun w33 =>
   w33.cell? (a1) = some (.pointer (p23)) ∧ nnil (p23) fun a34 =>
   stC w33 ((a34).add 643) (.int .i64 (0)) fun w35 =>
   ldT (.int .i64) w35 (a3) fun x36 =>
   stC w35 (a3) (.int .i64 (x36)) fun w37 =>
   F_wal_Log_checkpoint_1 a3 a1 w37 fun _ w38 =>
   ldT (.int .i64) w38 (a3) fun x39 =>
   Q (.int .i64 (x39)) w38)
def A_wal_Log_checkpoint : Ann := ⟨[], [], [(2, [⟨0, 0, 0, true⟩, ⟨0, 0, 0, true⟩, ⟨2, 2, 2, true⟩, ⟨4, 4, 6, true⟩, ⟨8, 8, 14, true⟩, ⟨16, 16, 30, true⟩, ⟨0, 0, 0, true⟩, ⟨64, 64, 64, true⟩, ⟨128, 128, 192, true⟩, ⟨256, 256, 448, true⟩, ⟨512, 512, 960, true⟩, ⟨1057, 0, 2047, false⟩, ⟨4095, 0, 4095, false⟩]), (5, [⟨0, 0, 0, true⟩, ⟨0, 0, 0, true⟩, ⟨0, 0, 0, true⟩, ⟨0, 0, 0, true⟩, ⟨8, 8, 8, true⟩, ⟨16, 16, 24, true⟩, ⟨32, 32, 56, true⟩, ⟨64, 64, 120, true⟩, ⟨0, 0, 0, true⟩, ⟨256, 256, 256, true⟩, ⟨512, 512, 768, true⟩, ⟨1024, 1024, 1792, true⟩, ⟨2048, 2048, 3840, true⟩, ⟨2297, 1, 4089, true⟩, ⟨10489, 8192, 12281, true⟩, ⟨18681, 0, 28665, false⟩, ⟨65531, 2, 65531, true⟩, ⟨131067, 65536, 131067, true⟩, ⟨196603, 0, 262139, false⟩, ⟨524287, 4, 524287, true⟩, ⟨1048575, 524288, 1048575, true⟩, ⟨1572863, 0, 2097151, false⟩])]⟩
theorem F_wal_Log_checkpoint_eq (w_ : Option Addr) (w : World) (Q : Value → World → Prop) : vcFnD Tryd.prog A_wal_Log_checkpoint Tryd.f75 A_wal_Log_checkpoint_1 Tryd.f101 #[.pointer (w_)] w Q = F_wal_Log_checkpoint w_ w Q := by kernel_rfl
theorem F_wal_Log_checkpoint_does (w_ : Option Addr) (w : World) (Q : Value → World → Prop) (hQ : F_wal_Log_checkpoint w_ w Q) : Does Tryd.prog N_wal_Log_checkpoint #[.pointer (w_)] w Q :=
  vcFnD_sound noAsk mixed (A := A_wal_Log_checkpoint) (A' := A_wal_Log_checkpoint_1) (by kernel_rfl) (by kernel_rfl) Tryd.func75 (Nat.le_of_ble_eq_true (by kernel_rfl)) (show defFn Tryd.prog Tryd.f75 = some Tryd.f101 by kernel_rfl) (by kernel_rfl) ((F_wal_Log_checkpoint_eq w_ w Q).mpr hQ)

/- (*nacelle/wal.Log).write -/
def F_wal_Log_write (w_ : Option Addr) (l : Sl) (w : World) (Q : Value → World → Prop) : Prop :=
  allocK w (#[.pointer (w_)]) T_p_wal_Log fun a1 w2 =>
  allocK w2 (zc Tryd.prog T_api_Errno) T_api_Errno fun a3 w4 =>
  ∃ (I7 : Int → World → Prop) (M8 : Int → World → Nat), I7 0 w4 ∧
  ∀ x5 : Int, ∀ w6 : World, I7 x5 w6 →
    cond (decide ((x5 : Int) < (((l.len : Nat) : Int))))
    (idx (l.a) (l.len) (x5) 2 fun a9 =>
     ldT (.int .i64) w6 (a9) fun x10 => ldT (.sl) w6 ((a9).add 1) fun l11 =>
     allocK w6 (zc Tryd.prog T_api_Change) T_api_Change fun a12 w13 =>
     stC w13 (a12) (.int .i64 (x10)) fun w15 => stC w15 ((a12).add 1) (.slice (l11.a) (l11.len) (l11.cap)) fun w16 =>
     ldT (.ptr) w16 (a1) fun p17 =>
     nnil (p17) fun a18 =>
     ldT (.int .i64) w16 ((a18).add 643) fun x19 =>
     ldT (.ptr) w16.drew (a1) fun p20 =>
     nnil (p20) fun a21 =>
     ldT (.ptr) w16.drew (a21) fun p22 =>
     ldT (.ptr) w16.drew (a1) fun p23 =>
     nnil (p23) fun a24 =>
     ldT (.int .u32) w16.drew ((a24).add 641) fun x25 =>
     ldT (.int .i64) w16.drew (a12) fun x26 =>
     ldT (.sl) w16.drew ((a12).add 1) fun l27 =>
     allocK w16.drew #[.int .u8 (IntKind.wrap .u8 (IntKind.wrap .i64 (x19 + x5))), .int .u8 (IntKind.wrap .u8 x26)] T_uint8 fun a28 w29 =>
     w29.cell? ((a12).add 1) = some (.slice (l27.a) (l27.len) (l27.cap)) ∧ w29.cell? ((a24).add 641) = some (.int .u32 (x25)) ∧ w29.cell? (a1) = some (.pointer (p23)) ∧ w29.cell? (a21) = some (.pointer (p22)) ∧ w29.cell? (a1) = some (.pointer (p20)) ∧ runG (.sl) Tryd.prog w29 (Builtin.append_ #[T_l_uint8, T_l_uint8] T_l_uint8 #[.slice (some (a28)) (2) (2), .slice (l27.a) (l27.len) (l27.cap)]) fun l30 w31 =>
     w31.cell? ((a24).add 641) = some (.int .u32 (x25)) ∧ w31.cell? (a1) = some (.pointer (p23)) ∧ w31.cell? (a21) = some (.pointer (p22)) ∧ w31.cell? (a1) = some (.pointer (p20)) ∧ Does Tryd.prog N_wal_say #[.int .u8 (82), .int .u32 (x25), .slice (l30.a) (l30.len) (l30.cap)] w31 fun r32 w33 => ∃ l34 : Sl, r32 = .slice (l34.a) (l34.len) (l34.cap) ∧
     w33.cell? (a21) = some (.pointer (p22)) ∧ w33.cell? (a1) = some (.pointer (p20)) ∧ Does Tryd.prog N_extent_Part_Write #[.pointer (p22), .int .i64 (IntKind.wrap .i64 (34 + (IntKind.wrap .i64 (x19 + x5)))), .slice (l34.a) (l34.len) (l34.cap)] w33 fun r35 w36 => ∃ x37 : Int, r35 = .int .i64 (x37) ∧
     stC w36 (a3) (.int .i64 (x37)) fun w38 =>
     ldT (.int .i64) w38 (a3) fun x39 =>
     cond ((x39 : Int) != 0)
     (ldT (.int .i64) w38 (a3) fun x40 =>
      stC w38 (a3) (.int .i64 (x40)) fun w41 =>
      F_wal_Log_write_1 a3 a1 w41 fun _ w42 =>
      ldT (.int .i64) w42 (a3) fun x43 =>
      Q (.int .i64 (x43)) w42)
     (I7 (IntKind.wrap .i64 (x5 + 1)) w38 ∧ M8 (IntKind.wrap .i64 (x5 + 1)) w38 < M8 x5 w6))
    (ldT (.ptr) w6 (a1) fun p44 =>
     nnil (p44) fun a45 =>
     ldT (.ptr) w6 (a45) fun p46 =>
     Does Tryd.prog N_extent_Part_Flush #[.pointer (p46)] w6 fun r47 w48 => ∃ x49 : Int, r47 = .int .i64 (x49) ∧
     stC w48 (a3) (.int .i64 (x49)) fun w50 =>
     ldT (.int .i64) w50 (a3) fun x51 =>
     cond ((x51 : Int) != 0)
     (ldT (.int .i64) w50 (a3) fun x52 =>
      stC w50 (a3) (.int .i64 (x52)) fun w53 =>
      F_wal_Log_write_1 a3 a1 w53 fun _ w54 =>
      ldT (.int .i64) w54 (a3) fun x55 =>
      Q (.int .i64 (x55)) w54)
     (ldT (.ptr) w50 (a1) fun p56 =>
      nnil (p56) fun a57 =>
      ldT (.int .i64) w50 ((a57).add 643) fun x58 =>
      ldT (.ptr) w50.drew (a1) fun p59 =>
      nnil (p59) fun a60 =>
      ldT (.ptr) w50.drew (a60) fun p61 =>
      ldT (.ptr) w50.drew (a1) fun p62 =>
      nnil (p62) fun a63 =>
      ldT (.int .u32) w50.drew ((a63).add 641) fun x64 =>
      allocK w50.drew #[.int .u8 (IntKind.wrap .u8 (IntKind.wrap .i64 (x58 + (((l.len : Nat) : Int)))))] T_uint8 fun a65 w66 =>
      w66.cell? ((a63).add 641) = some (.int .u32 (x64)) ∧ w66.cell? (a1) = some (.pointer (p62)) ∧ w66.cell? (a60) = some (.pointer (p61)) ∧ w66.cell? (a1) = some (.pointer (p59)) ∧ Does Tryd.prog N_wal_say #[.int .u8 (67), .int .u32 (x64), .slice (some (a65)) (1) (1)] w66 fun r67 w68 => ∃ l69 : Sl, r67 = .slice (l69.a) (l69.len) (l69.cap) ∧
      w68.cell? (a60) = some (.pointer (p61)) ∧ w68.cell? (a1) = some (.pointer (p59)) ∧ Does Tryd.prog N_extent_Part_Write #[.pointer (p61), .int .i64 (IntKind.wrap .i64 (34 + (IntKind.wrap .i64 (x58 + (((l.len : Nat) : Int)))))), .slice (l69.a) (l69.len) (l69.cap)] w68 fun r70 w71 => ∃ x72 : Int, r70 = .int .i64 (x72) ∧
      stC w71 (a3) (.int .i64 (x72)) fun w73 =>
      ldT (.int .i64) w73 (a3) fun x74 =>
      cond ((x74 : Int) != 0)
      (ldT (.int .i64) w73 (a3) fun x75 =>
       stC w73 (a3) (.int .i64 (x75)) fun w76 =>
       F_wal_Log_write_1 a3 a1 w76 fun _ w77 =>
       ldT (.int .i64) w77 (a3) fun x78 =>
       Q (.int .i64 (x78)) w77)
      (ldT (.ptr) w73 (a1) fun p79 =>
       nnil (p79) fun a80 =>
       ldT (.ptr) w73 (a80) fun p81 =>
       Does Tryd.prog N_extent_Part_Flush #[.pointer (p81)] w73 fun r82 w83 => ∃ x84 : Int, r82 = .int .i64 (x84) ∧
       stC w83 (a3) (.int .i64 (x84)) fun w85 =>
       ldT (.int .i64) w85 (a3) fun x86 =>
       cond ((x86 : Int) != 0)
       (ldT (.int .i64) w85 (a3) fun x87 =>
        stC w85 (a3) (.int .i64 (x87)) fun w88 =>
        F_wal_Log_write_1 a3 a1 w88 fun _ w89 =>
        ldT (.int .i64) w89 (a3) fun x90 =>
        Q (.int .i64 (x90)) w89)
       (ldT (.ptr) w85 (a1) fun p91 =>
        Does Tryd.prog N_wal_Log_lay #[.pointer (p91), .slice (l.a) (l.len) (l.cap)] w85 fun r92 w93 => r92 = .tuple #[] ∧
        ldT (.ptr) w93 (a1) fun p94 =>
        nnil (p94) fun a95 =>
        stC w93 ((a95).add 643) (.int .i64 (IntKind.wrap .i64 ((IntKind.wrap .i64 (x58 + (((l.len : Nat) : Int)))) + 1))) fun w96 =>
        ldT (.int .i64) w96 (a3) fun x97 =>
        stC w96 (a3) (.int .i64 (x97)) fun w98 =>
        F_wal_Log_write_1 a3 a1 w98 fun _ w99 =>
        ldT (.int .i64) w99 (a3) fun x100 =>
        Q (.int .i64 (x100)) w99))))
def A_wal_Log_write : Ann := ⟨[(3, [(12, .one (.int .i64))])], [], [(6, [⟨0, 0, 0, true⟩, ⟨1, 1, 1, true⟩, ⟨2, 2, 3, true⟩, ⟨4, 4, 7, true⟩, ⟨0, 0, 0, true⟩, ⟨16, 16, 16, true⟩, ⟨0, 0, 0, true⟩, ⟨64, 64, 64, true⟩, ⟨128, 128, 192, true⟩, ⟨256, 256, 448, true⟩, ⟨0, 0, 0, true⟩, ⟨1024, 1024, 1024, true⟩, ⟨0, 0, 0, true⟩, ⟨4096, 4096, 4096, true⟩, ⟨8192, 8192, 12288, true⟩, ⟨18432, 0, 31744, false⟩, ⟨0, 0, 0, true⟩, ⟨65536, 65536, 65536, true⟩, ⟨163840, 0, 261120, false⟩, ⟨262656, 0, 524224, false⟩, ⟨524328, 0, 1048575, false⟩, ⟨2097151, 0, 2097151, false⟩]), (14, [⟨0, 0, 0, true⟩, ⟨1, 1, 1, true⟩, ⟨2, 2, 3, true⟩, ⟨4, 4, 7, true⟩, ⟨0, 0, 0, true⟩, ⟨16, 16, 16, true⟩, ⟨0, 0, 0, true⟩, ⟨64, 64, 64, true⟩, ⟨128, 128, 192, true⟩, ⟨256, 256, 448, true⟩, ⟨0, 0, 0, true⟩, ⟨1024, 1024, 1024, true⟩, ⟨2048, 0, 3072, false⟩, ⟨4608, 0, 8128, false⟩, ⟨8232, 0, 16383, false⟩, ⟨32767, 0, 32767, false⟩])]⟩
theorem F_wal_Log_write_eq (w_ : Option Addr) (l : Sl) (w : World) (Q : Value → World → Prop) : vcFnD Tryd.prog A_wal_Log_write Tryd.f76 A_wal_Log_write_1 Tryd.f102 #[.pointer (w_), .slice (l.a) (l.len) (l.cap)] w Q = F_wal_Log_write w_ l w Q := by kernel_rfl
theorem F_wal_Log_write_does (w_ : Option Addr) (l : Sl) (w : World) (Q : Value → World → Prop) (hQ : F_wal_Log_write w_ l w Q) : Does Tryd.prog N_wal_Log_write #[.pointer (w_), .slice (l.a) (l.len) (l.cap)] w Q :=
  vcFnD_sound noAsk mixed (A := A_wal_Log_write) (A' := A_wal_Log_write_1) (by kernel_rfl) (by kernel_rfl) Tryd.func76 (Nat.le_of_ble_eq_true (by kernel_rfl)) (show defFn Tryd.prog Tryd.f76 = some Tryd.f102 by kernel_rfl) (by kernel_rfl) ((F_wal_Log_write_eq w_ l w Q).mpr hQ)

end Go.Proofs.YtkfcmpngcanffaaDoor.G
