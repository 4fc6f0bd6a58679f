import Derived.Test.YtomoejbamegpoaaDoorVc
import Derived.Defers
import Derived.Test.YtomoejbamegpoaaDoorGenz
set_option linter.unusedVariables false
set_option linter.unusedSimpArgs false
namespace Go.VC
open Go Go.RowKit
theorem defer_region {P : Program} {i t ty1 ty2 g : Nat} {p1 p2 : String} {af1 af2 : Array Edge} {fi ca : Array Operand} {ats : Array TypeId} {a : Act} {w : World} {Q : Exit → Act → World → Prop}
    (ht : t < a.tmps.size) (h : Q .normal { (a.put (some t) (.func (.func g) (fi.map a.eval) (ca.map a.eval))) with defers := { target := .fn (.func g) (ca.map a.eval), args := fi.map a.eval } :: a.defers } w) :
    (Code.region i #[{ dst := some t, op := .makeFunc (.func g) fi ca, type := ty1, pos := p1, after := af1, guard := none }, { dst := none, op := .defer { callee := .value (.tmp t), args := #[], argTypes := ats }, type := ty2, pos := p2, after := af2, guard := none }] false).wp P Q a w := by
  refine wp_region ?_
  simp [wpOps, List.range_succ, Oper.wp, execOp, Instr.makeFunc, Oper.upon, resolve, Deferred.ofValue, Act.eval, Act.put, ht, Region.wanted]
  first | exact .inl (.inl h) | exact .inl h | exact h
theorem vcFn_soundD {P : Program} (hN : noAsk P = true) (hm : P.follows .mixedOrders = true) {A : Ann} (hA : A.ok = true) {g : FuncId} {fn : Func} {args : Array Value} {w : World} {Q : Value → World → Prop}
    (hf : P.funcs[g]? = some fn) (hs : args.size ≤ fn.ntmps) (hd : (match fn.body with | some c => ((dstC c).all fun d => Nat.blt d fn.ntmps) && tabsOk P A c | none => true) = true)
    (h : vcFn P A fn args w Q) (u : FrameMode) : CallsD P g args u w fun e u' w' => u' = u ∧ ∃ v, e = .returned v ∧ Q v w' := by
  unfold vcFn at h
  split at h
  · rename_i c hc
    rw [hc] at hd
    simp only [Bool.and_eq_true] at hd
    obtain ⟨hd, ht⟩ := hd
    refine callsD_of_wp (R := fun e w' => ∃ v, e = .returned v ∧ Q v w') hf hc (wp_mono (vc_sound hN hm hA c ht h (a := { tmps := args ++ Array.replicate (fn.ntmps - args.size) undef, defers := [] }) ?_ hd (by simp; omega)) fun e a' w' hv => ?_)
    · refine agree_args args.toList 0 _ fun j v hj => ?_
      have hj' : args[j]? = some v := by simpa using hj
      have hlt : j < args.size := (Array.getElem?_eq_some_iff.1 hj').1
      simp only [Nat.zero_add]
      rw [Array.getElem?_append_left hlt]; exact hj'
    · obtain ⟨f', h1, h2, h3⟩ := hv
      have fin : vcRes P fn.results.toList f' w' [] (fun v => Q v w') → a'.defers = [] ∧ ∃ v, (results fn a'.tmps).run P w' = .ok v w' ∧ ∃ u, Ending.returned v = .returned u ∧ Q u w' := fun h => by
        refine ⟨h2.defers, ?_⟩
        obtain ⟨vs, g1, g2⟩ := vcRes_run h1 h
        have g3 : (fn.results.mapM (m := Sem) (resOf P a'.tmps)).run P w' = .ok vs.toArray w' := by
          rw [Array.mapM_eq_mapM_toList]; simp [g1]
        rw [results_resOf P]
        simp only [List.nil_append] at g2
        refine ⟨_, by rw [Sem.run_bind, g3]; rfl, _, rfl, ?_⟩
        split
        · rename_i hsz
          match vs, hsz, g2 with
          | [v], _, g2 => exact g2
        · rename_i hsz
          match vs, hsz, g2 with
          | [], _, g2 => exact g2
          | [v], hsz, _ => simp at hsz
          | _ :: _ :: _, _, g2 => exact g2
      cases e with
      | normal => exact fin h3
      | ret => exact fin h3
      | _ => cases h3
  · cases h

def isDef (ops : Array Oper) : Option (Nat × Nat × Array Operand × Array Operand) := match ops.toList with
  | [⟨some t, .makeFunc (.func g) fi ca, _, _, _, none⟩, ⟨none, .defer ⟨.value (.tmp t'), ar, _⟩, _, _, _, none⟩] => match Nat.beq t t', ar.toList with
    | true, [] => some (t, g, fi, ca)
    | _, _ => none
  | _ => none
def vcFnD (P : Program) (A : Ann) (fn : Func) (A' : Ann) (fn' : Func) (args : Array Value) (w : World) (Q : Value → World → Prop) : Prop :=
  match fn.body with
  | some (.seq c0 (.seq (.region _ ops false) c2)) => match isDef ops with
    | some (t, _, fi, ca) => vc P A c0 (argF 0 args.toList) w fun e f1 w1 => match e with
      | .normal => match fi.toList.all (knownX f1) && ca.toList.all (knownX f1) with
       | false => False
       | true => vc P A c2 (strike [t] f1) w1 fun e f2 w2 => match e with
        | .normal => vcFn P A' fn' (fi.map (evD f1) ++ ca.map (evD f1)) w2 fun _ w3 => vcRes P fn.results.toList f2 w3 [] fun v => Q v w3
        | .ret => vcFn P A' fn' (fi.map (evD f1) ++ ca.map (evD f1)) w2 fun _ w3 => vcRes P fn.results.toList f2 w3 [] fun v => Q v w3
        | _ => False
      | _ => False
    | none => False
  | _ => False
theorem isDef_eq {ops : Array Oper} {t g : Nat} {fi ca : Array Operand} (h : isDef ops = some (t, g, fi, ca)) :
    ∃ ty1 p1 af1 ty2 p2 af2 ats, ops = #[{ dst := some t, op := .makeFunc (.func g) fi ca, type := ty1, pos := p1, after := af1, guard := none }, { dst := none, op := .defer { callee := .value (.tmp t), args := #[], argTypes := ats }, type := ty2, pos := p2, after := af2, guard := none }] := by
  unfold isDef at h
  split at h
  · rename_i heq
    split at h
    · rename_i h1 h2
      cases h
      have := Nat.eq_of_beq_eq_true h1
      subst this
      rw [Array.toList_eq_nil_iff] at h2
      subst h2
      have e := congrArg List.toArray heq
      rw [Array.toArray_toList] at e
      exact ⟨_, _, _, _, _, _, _, e⟩
    · cases h
  · cases h
def defFn (P : Program) (fn : Func) : Option Func := match fn.body with
  | some (.seq _ (.seq (.region _ ops false) _)) => match isDef ops with
    | some (_, g, _, _) => P.funcs[g]?
    | none => none
  | _ => none
def defOk (P : Program) (A A' : Ann) (fn fn' : Func) : Bool := match fn.body with
  | some (.seq c0 (.seq (.region _ ops false) c2)) => match isDef ops with
    | some (t, _, fi, ca) => ((dstC c0).all fun d => Nat.blt d fn.ntmps) && ((dstC c2).all fun d => Nat.blt d fn.ntmps) && tabsOk P A c0 && tabsOk P A c2 && Nat.blt t fn.ntmps && Nat.ble (fi.size + ca.size) fn'.ntmps &&
        (match fn'.body with | some c => ((dstC c).all fun d => Nat.blt d fn'.ntmps) && tabsOk P A' c | none => false) && !(fn'.name == "runtime.NumGoroutine")
    | none => false
  | _ => false
theorem vcFnD_sound {P : Program} (hN : noAsk P = true) (hm : P.follows .mixedOrders = true) {A A' : Ann} (hA : A.ok = true) (hA' : A'.ok = true) {g : FuncId} {fn fn' : Func} {args : Array Value} {w : World} {Q : Value → World → Prop}
    (hf : P.funcs[g]? = some fn) (hs : args.size ≤ fn.ntmps) (hg : defFn P fn = some fn') (hd : defOk P A A' fn fn' = true) (h : vcFnD P A fn A' fn' args w Q) : Does P g args w Q := by
  unfold vcFnD at h
  unfold defFn at hg
  unfold defOk at hd
  split at h
  · rename_i c0 i ops c2 hb
    rw [hb] at hg hd
    dsimp only at hg hd
    split at h
    · rename_i t g' fi ca hi
      rw [hi] at hg hd
      dsimp only at hg hd
      simp only [Bool.and_eq_true] at hd
      obtain ⟨⟨⟨⟨⟨⟨⟨d0, d2⟩, t0⟩, t2⟩, dt⟩, dsz⟩, dfn⟩, dn⟩ := hd
      have dt' : t < fn.ntmps := Nat.le_of_ble_eq_true dt
      obtain ⟨ty1, p1, af1, ty2, p2, af2, ats, rfl⟩ := isDef_eq hi
      refine calls_of_wp_defers hf hb ?_
      refine wp_seq (wp_mono (vc_sound hN hm hA c0 t0 h (a := { tmps := args ++ Array.replicate (fn.ntmps - args.size) undef, defers := [] }) ?_ d0 (by simp; omega)) fun e a1 w1 hv => ?_)
      · refine agree_args args.toList 0 _ fun j v hj => ?_
        have hj' : args[j]? = some v := by simpa using hj
        have hlt : j < args.size := (Array.getElem?_eq_some_iff.1 hj').1
        simp only [Nat.zero_add]
        rw [Array.getElem?_append_left hlt]; exact hj'
      obtain ⟨f1, ag1, kp1, hv⟩ := hv
      cases e with
      | normal =>
        obtain ⟨hk, hv⟩ : (fi.toList.all (knownX f1) && ca.toList.all (knownX f1)) = true ∧ _ := by
          dsimp only at hv
          split at hv
          · exact hv.elim
          · rename_i hk; exact ⟨hk, hv⟩
        have hsz : a1.tmps.size = fn.ntmps := by rw [kp1.size]; simp; omega
        refine wp_seq (defer_region (by omega) ?_)
        have hz : a1.defers = [] := kp1.defers
        rw [hz]
        refine wp_mono (vc_sound hN hm hA c2 t2 hv (a := { (a1.put (some t) (.func (.func g') (fi.map a1.eval) (ca.map a1.eval))) with defers := [{ target := .fn (.func g') (ca.map a1.eval), args := fi.map a1.eval }] }) ?_ d2 (by simp [Act.put, hsz])) fun e a2 w2 hv2 => ?_
        · intro j v hj
          obtain ⟨h1, h2⟩ := look_strike hj
          have hne : t ≠ j := by rintro rfl; simp at h2
          simp only [Act.put]
          rw [Array.getElem?_setIfInBounds_ne hne]
          exact ag1 j v h1
        obtain ⟨f2, ag2, kp2, hK⟩ := hv2
        simp only [Bool.and_eq_true] at hk
        have efi : fi.map a1.eval = fi.map (evD f1) := Array.map_congr_left fun x hx => ag1.eval (List.all_eq_true.1 hk.1 x (by simpa using hx))
        have eca : ca.map a1.eval = ca.map (evD f1) := Array.map_congr_left fun x hx => ag1.eval (List.all_eq_true.1 hk.2 x (by simpa using hx))
        have fin : vcFn P A' fn' (fi.map (evD f1) ++ ca.map (evD f1)) w2 (fun _ w3 => vcRes P fn.results.toList f2 w3 [] fun v => Q v w3) →
            Leaves P fn a2.tmps (fun e w' => ∃ v, e = .returned v ∧ Q v w') a2.defers .returning w2 := fun hF => by
          rw [show a2.defers = _ from kp2.defers]
          have hb' : fn'.body.isNone = false := by
            cases hbb : fn'.body with
            | none => rw [hbb] at dfn; cases dfn
            | some c => rfl
          have hnm : (fn'.name == "runtime.NumGoroutine") = false := by simpa using dn
          refine leaves_cons (f := g') (args := fi.map (evD f1) ++ ca.map (evD f1)) (by simp) ?_ (CallsD.mono (vcFn_soundD hN hm hA' hg (by simp; exact Nat.le_of_ble_eq_true dsz) ?_ hF .returning) ?_)
          · rw [efi, eca]
            simp only [invoke, callFunc, program, Sem.run_bind, Sem.run_pure, Result.andThen, Sem.run, hg, hnm, hb']
            rfl
          · cases hbb : fn'.body with
            | none => rfl
            | some c => rw [hbb] at dfn; exact dfn
          · rintro e u' w3 ⟨rfl, v, rfl, hv3⟩
            obtain ⟨vs, g1, g2⟩ := vcRes_run ag2 hv3
            have g3 : (fn.results.mapM (m := Sem) (resOf P a2.tmps)).run P w3 = .ok vs.toArray w3 := by
              rw [Array.mapM_eq_mapM_toList]; simp [g1]
            show ∃ v, (results fn a2.tmps).run P w3 = .ok v w3 ∧ _
            rw [results_resOf P]
            simp only [List.nil_append] at g2
            refine ⟨_, (by rw [Sem.run_bind, g3]; rfl), _, rfl, ?_⟩
            split
            · rename_i hsz
              match vs, hsz, g2 with
              | [v], _, g2 => exact g2
            · rename_i hsz
              match vs, hsz, g2 with
              | [], _, g2 => exact g2
              | [v], hsz, _ => simp at hsz
              | _ :: _ :: _, _, g2 => exact g2
        cases e with
        | normal => exact fin hK
        | ret => exact fin hK
        | _ => exact hK.elim
      | _ => exact hv.elim
    · cases h
  · cases h
end Go.VC

set_option linter.unusedVariables false
namespace Go.VC
open Go
/-- a call of a function value that memory holds -/
def callV (P : Program) (v : Value) (args : Array Value) (w : World) (Q : Value → World → Prop) : Prop :=
  match v with
  | .func (.func g) fi ca => match hasBody P g with
    | true => Does P g (fi ++ args ++ ca) w Q
    | false => False
  | _ => False
end Go.VC

set_option linter.unusedVariables false
namespace Go.Proofs.YtomoejbamegpoaaDoor.G
open Go Go.VC Go.Proofs Go.Proofs.YtomoejbamegpoaaDoor
set_option maxRecDepth 100000
abbrev T_l_bool : Nat := 39
abbrev T_func_int : Nat := 90
abbrev N_code_Reached_1 : Nat := 53
theorem zc_l_bool : zc Tryd.prog T_l_bool = ([(Sl.v ⟨none, 0, 0⟩)] : List Value).toArray := by kernel_rfl
theorem S_l_bool : SlT Tryd.prog T_l_bool T_bool 1 1 := ⟨by kernel_rfl, by kernel_rfl, by decide⟩
theorem Z_l_bool : SlZ Tryd.prog T_l_bool T_bool (.bool false) 1 := ⟨by kernel_rfl, by kernel_rfl⟩

/- nacelle/code.Reached -/
def F_code_Reached (l : Sl) (w : World) (Q : Value → World → Prop) : Prop :=
  allocK w (#[.slice (l.a) (l.len) (l.cap)]) T_l_api_Instr fun a1 w2 =>
  ldT (.sl) w2 (a1) fun l3 =>
  runG (.sl) Tryd.prog w2 (Instr.makeSlice T_l_bool (.int .i64 (((l3.len : Nat) : Int))) (.int .i64 (((l3.len : Nat) : Int)))) fun l4 w5 =>
  allocK w5 (zc Tryd.prog T_l_bool) T_l_bool fun a6 w7 =>
  stC w7 (a6) (.slice (l4.a) (l4.len) (l4.cap)) fun w8 =>
  allocK w8 (zc Tryd.prog T_func_int) T_func_int fun a9 w10 =>
  stC w10 (a9) (.func (.func N_code_Reached_1) #[] #[.pointer (some (a6)), .pointer (some (a1)), .pointer (some (a9))]) fun w11 =>
  ∀ J13 : World → Prop, (∀ w12 : World, 
    (ldT (.sl) w12 (a6) fun l14 =>
    Q (.slice (l14.a) (l14.len) (l14.cap)) w12) → J13 w12) →
  ldT (.sl) w11 (a1) fun l15 =>
  cond (decide (((((l15.len : Nat) : Int)) : Int) > 0))
  (ldT (.raw) w11 (a9) fun v16 =>
   callV Tryd.prog (v16) #[.int .i64 (0)] w11 fun r17 w18 => r17 = .tuple #[] ∧
   J13 w18)
  (J13 w11)
def A_code_Reached : Ann := ⟨[], [(6, [])], []⟩
theorem F_code_Reached_eq (l : Sl) (w : World) (Q : Value → World → Prop) : vcFn Tryd.prog A_code_Reached Tryd.f39 #[.slice (l.a) (l.len) (l.cap)] w Q = F_code_Reached l w Q := by kernel_rfl
theorem F_code_Reached_does (l : Sl) (w : World) (Q : Value → World → Prop) (hQ : F_code_Reached l w Q) : Does Tryd.prog N_code_Reached #[.slice (l.a) (l.len) (l.cap)] w Q :=
  vcFn_sound noAsk mixed (A := A_code_Reached) (by kernel_rfl) Tryd.func39 (Nat.le_of_ble_eq_true (by kernel_rfl)) (by kernel_rfl) ((F_code_Reached_eq l w Q).mpr hQ)

/- nacelle/code.Reached$1 -/
def F_code_Reached_1 (at_ : Int) (cap1 : Addr) (cap2 : Addr) (cap3 : Addr) (w : World) (Q : Value → World → Prop) : Prop :=
  ∃ (I3 : Int → World → Prop) (M4 : Int → World → Nat), I3 at_ w ∧
  ∀ at1 : Int, ∀ w2 : World, I3 at1 w2 →
    ldT (.sl) w2 (cap1) fun l5 =>
    idx (l5.a) (l5.len) (at1) 1 fun a6 =>
    ldT (.bool) w2 (a6) fun b7 =>
    cond (!b7)
    (ldT (.sl) w2 (cap1) fun l8 =>
     idx (l8.a) (l8.len) (at1) 1 fun a9 =>
     stC w2 (a9) (.bool (true)) fun w10 =>
     ldT (.sl) w10 (cap2) fun l11 =>
     Does Tryd.prog N_code_Next #[.slice (l11.a) (l11.len) (l11.cap), .int .i64 (at1)] w10 fun r12 w13 => ∃ l14 : Sl, r12 = .slice (l14.a) (l14.len) (l14.cap) ∧
     cond (((((l14.len : Nat) : Int)) : Int) == 0)
     (Q (.tuple #[]) w13)
     (∀ J16 : World → Prop, (∀ w15 : World, 
        (idx (l14.a) (l14.len) (0) 1 fun a17 =>
        ldT (.int .i64) w15 (a17) fun x18 =>
        I3 x18 w15 ∧ M4 x18 w15 < M4 at1 w2) → J16 w15) →
      cond (((((l14.len : Nat) : Int)) : Int) == 2)
      (ldT (.raw) w13.drew (cap3) fun v19 =>
       idx (l14.a) (l14.len) (1) 1 fun a20 =>
       ldT (.int .i64) w13.drew (a20) fun x21 =>
       callV Tryd.prog (v19) #[.int .i64 (x21)] w13.drew fun r22 w23 => r22 = .tuple #[] ∧
       J16 w23)
      (J16 w13)))
    (Q (.tuple #[]) w2)
def A_code_Reached_1 : Ann := ⟨[(0, [(0, .one (.int .i64))])], [(6, [])], [(5, [⟨0, 0, 0, true⟩, ⟨0, 0, 0, true⟩, ⟨2, 2, 2, true⟩, ⟨4, 4, 6, true⟩, ⟨9, 0, 15, false⟩])]⟩
theorem F_code_Reached_1_eq (at_ : Int) (cap1 : Addr) (cap2 : Addr) (cap3 : Addr) (w : World) (Q : Value → World → Prop) : vcFn Tryd.prog A_code_Reached_1 Tryd.f53 #[.int .i64 (at_), .pointer (some (cap1)), .pointer (some (cap2)), .pointer (some (cap3))] w Q = F_code_Reached_1 at_ cap1 cap2 cap3 w Q := by kernel_rfl
theorem F_code_Reached_1_does (at_ : Int) (cap1 : Addr) (cap2 : Addr) (cap3 : Addr) (w : World) (Q : Value → World → Prop) (hQ : F_code_Reached_1 at_ cap1 cap2 cap3 w Q) : Does Tryd.prog N_code_Reached_1 #[.int .i64 (at_), .pointer (some (cap1)), .pointer (some (cap2)), .pointer (some (cap3))] w Q :=
  vcFn_sound noAsk mixed (A := A_code_Reached_1) (by kernel_rfl) Tryd.func53 (Nat.le_of_ble_eq_true (by kernel_rfl)) (by kernel_rfl) ((F_code_Reached_1_eq at_ cap1 cap2 cap3 w Q).mpr hQ)

end Go.Proofs.YtomoejbamegpoaaDoor.G
