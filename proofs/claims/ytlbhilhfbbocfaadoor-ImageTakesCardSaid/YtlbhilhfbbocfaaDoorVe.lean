import Derived.Test.YtlbhilhfbbocfaaDoorVc
import Derived.Defers
set_option linter.unusedVariables false
set_option linter.unusedSimpArgs false
namespace Go.VC
open Go Go.RowKit
theorem defer_region {P : Program} {i t ty1 ty2 g : Nat} {p1 p2 : String} {af1 af2 : Array Edge} {fi ca : Array Operand} {ats : Array TypeId} {a : Act} {w : World} {Q : Exit → Act → World → Prop}
    (ht : t < a.tmps.size) (h : Q .normal { (a.put (some t) (.func (.func g) (fi.map a.eval) (ca.map a.eval))) with defers := { target := .fn (.func g) (ca.map a.eval), args := fi.map a.eval } :: a.defers } w) :
    (Code.region i #[{ dst := some t, op := .makeFunc (.func g) fi ca, type := ty1, pos := p1, after := af1, guard := none }, { dst := none, op := .defer { callee := .value (.tmp t), args := #[], argTypes := ats }, type := ty2, pos := p2, after := af2, guard := none }] false).wp P Q a w := by
  refine wp_region ?_
  simp [wpOps, List.range_succ, Oper.wp, execOp, Instr.makeFunc, Oper.upon, resolve, Deferred.ofValue, Act.eval, Act.put, ht, Region.wanted]
  first | exact .inl (.inl h) | exact .inl h | exact h
theorem vcFn_soundD {P : Program} (hN : noAsk P = true) (hm : P.follows .mixedOrders = true) {A : Ann} (hA : A.ok = true) {g : FuncId} {fn : Func} {args : Array Value} {w : World} {Q : Value → World → Prop}
    (hf : P.funcs[g]? = some fn) (hs : args.size ≤ fn.ntmps) (hd : (match fn.body with | some c => ((dstC c).all fun d => Nat.blt d fn.ntmps) && tabsOk P A c | none => true) = true)
    (h : vcFn P A fn args w Q) (u : FrameMode) : CallsD P g args u w fun e u' w' => u' = u ∧ ∃ v, e = .returned v ∧ Q v w' := by
  unfold vcFn at h
  split at h
  · rename_i c hc
    rw [hc] at hd
    simp only [Bool.and_eq_true] at hd
    obtain ⟨hd, ht⟩ := hd
    refine callsD_of_wp (R := fun e w' => ∃ v, e = .returned v ∧ Q v w') hf hc (wp_mono (vc_sound hN hm hA c ht h (a := { tmps := args ++ Array.replicate (fn.ntmps - args.size) undef, defers := [] }) ?_ hd (by simp; omega)) fun e a' w' hv => ?_)
    · refine agree_args args.toList 0 _ fun j v hj => ?_
      have hj' : args[j]? = some v := by simpa using hj
      have hlt : j < args.size := (Array.getElem?_eq_some_iff.1 hj').1
      simp only [Nat.zero_add]
      rw [Array.getElem?_append_left hlt]; exact hj'
    · obtain ⟨f', h1, h2, h3⟩ := hv
      have fin : vcRes P fn.results.toList f' w' [] (fun v => Q v w') → a'.defers = [] ∧ ∃ v, (results fn a'.tmps).run P w' = .ok v w' ∧ ∃ u, Ending.returned v = .returned u ∧ Q u w' := fun h => by
        refine ⟨h2.defers, ?_⟩
        obtain ⟨vs, g1, g2⟩ := vcRes_run h1 h
        have g3 : (fn.results.mapM (m := Sem) (resOf P a'.tmps)).run P w' = .ok vs.toArray w' := by
          rw [Array.mapM_eq_mapM_toList]; simp [g1]
        rw [results_resOf P]
        simp only [List.nil_append] at g2
        refine ⟨_, by rw [Sem.run_bind, g3]; rfl, _, rfl, ?_⟩
        split
        · rename_i hsz
          match vs, hsz, g2 with
          | [v], _, g2 => exact g2
        · rename_i hsz
          match vs, hsz, g2 with
          | [], _, g2 => exact g2
          | [v], hsz, _ => simp at hsz
          | _ :: _ :: _, _, g2 => exact g2
      cases e with
      | normal => exact fin h3
      | ret => exact fin h3
      | _ => cases h3
  · cases h

def isDef (ops : Array Oper) : Option (Nat × Nat × Array Operand × Array Operand) := match ops.toList with
  | [⟨some t, .makeFunc (.func g) fi ca, _, _, _, none⟩, ⟨none, .defer ⟨.value (.tmp t'), ar, _⟩, _, _, _, none⟩] => match Nat.beq t t', ar.toList with
    | true, [] => some (t, g, fi, ca)
    | _, _ => none
  | _ => none
def vcFnD (P : Program) (A : Ann) (fn : Func) (A' : Ann) (fn' : Func) (args : Array Value) (w : World) (Q : Value → World → Prop) : Prop :=
  match fn.body with
  | some (.seq c0 (.seq (.region _ ops false) c2)) => match isDef ops with
    | some (t, _, fi, ca) => vc P A c0 (argF 0 args.toList) w fun e f1 w1 => match e with
      | .normal => match fi.toList.all (knownX f1) && ca.toList.all (knownX f1) with
       | false => False
       | true => vc P A c2 (strike [t] f1) w1 fun e f2 w2 => match e with
        | .normal => vcFn P A' fn' (fi.map (evD f1) ++ ca.map (evD f1)) w2 fun _ w3 => vcRes P fn.results.toList f2 w3 [] fun v => Q v w3
        | .ret => vcFn P A' fn' (fi.map (evD f1) ++ ca.map (evD f1)) w2 fun _ w3 => vcRes P fn.results.toList f2 w3 [] fun v => Q v w3
        | _ => False
      | _ => False
    | none => False
  | _ => False
theorem isDef_eq {ops : Array Oper} {t g : Nat} {fi ca : Array Operand} (h : isDef ops = some (t, g, fi, ca)) :
    ∃ ty1 p1 af1 ty2 p2 af2 ats, ops = #[{ dst := some t, op := .makeFunc (.func g) fi ca, type := ty1, pos := p1, after := af1, guard := none }, { dst := none, op := .defer { callee := .value (.tmp t), args := #[], argTypes := ats }, type := ty2, pos := p2, after := af2, guard := none }] := by
  unfold isDef at h
  split at h
  · rename_i heq
    split at h
    · rename_i h1 h2
      cases h
      have := Nat.eq_of_beq_eq_true h1
      subst this
      rw [Array.toList_eq_nil_iff] at h2
      subst h2
      have e := congrArg List.toArray heq
      rw [Array.toArray_toList] at e
      exact ⟨_, _, _, _, _, _, _, e⟩
    · cases h
  · cases h
def defFn (P : Program) (fn : Func) : Option Func := match fn.body with
  | some (.seq _ (.seq (.region _ ops false) _)) => match isDef ops with
    | some (_, g, _, _) => P.funcs[g]?
    | none => none
  | _ => none
def defOk (P : Program) (A A' : Ann) (fn fn' : Func) : Bool := match fn.body with
  | some (.seq c0 (.seq (.region _ ops false) c2)) => match isDef ops with
    | some (t, _, fi, ca) => ((dstC c0).all fun d => Nat.blt d fn.ntmps) && ((dstC c2).all fun d => Nat.blt d fn.ntmps) && tabsOk P A c0 && tabsOk P A c2 && Nat.blt t fn.ntmps && Nat.ble (fi.size + ca.size) fn'.ntmps &&
        (match fn'.body with | some c => ((dstC c).all fun d => Nat.blt d fn'.ntmps) && tabsOk P A' c | none => false) && !(fn'.name == "runtime.NumGoroutine")
    | none => false
  | _ => false
theorem vcFnD_sound {P : Program} (hN : noAsk P = true) (hm : P.follows .mixedOrders = true) {A A' : Ann} (hA : A.ok = true) (hA' : A'.ok = true) {g : FuncId} {fn fn' : Func} {args : Array Value} {w : World} {Q : Value → World → Prop}
    (hf : P.funcs[g]? = some fn) (hs : args.size ≤ fn.ntmps) (hg : defFn P fn = some fn') (hd : defOk P A A' fn fn' = true) (h : vcFnD P A fn A' fn' args w Q) : Does P g args w Q := by
  unfold vcFnD at h
  unfold defFn at hg
  unfold defOk at hd
  split at h
  · rename_i c0 i ops c2 hb
    rw [hb] at hg hd
    dsimp only at hg hd
    split at h
    · rename_i t g' fi ca hi
      rw [hi] at hg hd
      dsimp only at hg hd
      simp only [Bool.and_eq_true] at hd
      obtain ⟨⟨⟨⟨⟨⟨⟨d0, d2⟩, t0⟩, t2⟩, dt⟩, dsz⟩, dfn⟩, dn⟩ := hd
      have dt' : t < fn.ntmps := Nat.le_of_ble_eq_true dt
      obtain ⟨ty1, p1, af1, ty2, p2, af2, ats, rfl⟩ := isDef_eq hi
      refine calls_of_wp_defers hf hb ?_
      refine wp_seq (wp_mono (vc_sound hN hm hA c0 t0 h (a := { tmps := args ++ Array.replicate (fn.ntmps - args.size) undef, defers := [] }) ?_ d0 (by simp; omega)) fun e a1 w1 hv => ?_)
      · refine agree_args args.toList 0 _ fun j v hj => ?_
        have hj' : args[j]? = some v := by simpa using hj
        have hlt : j < args.size := (Array.getElem?_eq_some_iff.1 hj').1
        simp only [Nat.zero_add]
        rw [Array.getElem?_append_left hlt]; exact hj'
      obtain ⟨f1, ag1, kp1, hv⟩ := hv
      cases e with
      | normal =>
        obtain ⟨hk, hv⟩ : (fi.toList.all (knownX f1) && ca.toList.all (knownX f1)) = true ∧ _ := by
          dsimp only at hv
          split at hv
          · exact hv.elim
          · rename_i hk; exact ⟨hk, hv⟩
        have hsz : a1.tmps.size = fn.ntmps := by rw [kp1.size]; simp; omega
        refine wp_seq (defer_region (by omega) ?_)
        have hz : a1.defers = [] := kp1.defers
        rw [hz]
        refine wp_mono (vc_sound hN hm hA c2 t2 hv (a := { (a1.put (some t) (.func (.func g') (fi.map a1.eval) (ca.map a1.eval))) with defers := [{ target := .fn (.func g') (ca.map a1.eval), args := fi.map a1.eval }] }) ?_ d2 (by simp [Act.put, hsz])) fun e a2 w2 hv2 => ?_
        · intro j v hj
          obtain ⟨h1, h2⟩ := look_strike hj
          have hne : t ≠ j := by rintro rfl; simp at h2
          simp only [Act.put]
          rw [Array.getElem?_setIfInBounds_ne hne]
          exact ag1 j v h1
        obtain ⟨f2, ag2, kp2, hK⟩ := hv2
        simp only [Bool.and_eq_true] at hk
        have efi : fi.map a1.eval = fi.map (evD f1) := Array.map_congr_left fun x hx => ag1.eval (List.all_eq_true.1 hk.1 x (by simpa using hx))
        have eca : ca.map a1.eval = ca.map (evD f1) := Array.map_congr_left fun x hx => ag1.eval (List.all_eq_true.1 hk.2 x (by simpa using hx))
        have fin : vcFn P A' fn' (fi.map (evD f1) ++ ca.map (evD f1)) w2 (fun _ w3 => vcRes P fn.results.toList f2 w3 [] fun v => Q v w3) →
            Leaves P fn a2.tmps (fun e w' => ∃ v, e = .returned v ∧ Q v w') a2.defers .returning w2 := fun hF => by
          rw [show a2.defers = _ from kp2.defers]
          have hb' : fn'.body.isNone = false := by
            cases hbb : fn'.body with
            | none => rw [hbb] at dfn; cases dfn
            | some c => rfl
          have hnm : (fn'.name == "runtime.NumGoroutine") = false := by simpa using dn
          refine leaves_cons (f := g') (args := fi.map (evD f1) ++ ca.map (evD f1)) (by simp) ?_ (CallsD.mono (vcFn_soundD hN hm hA' hg (by simp; exact Nat.le_of_ble_eq_true dsz) ?_ hF .returning) ?_)
          · rw [efi, eca]
            simp only [invoke, callFunc, program, Sem.run_bind, Sem.run_pure, Result.andThen, Sem.run, hg, hnm, hb']
            rfl
          · cases hbb : fn'.body with
            | none => rfl
            | some c => rw [hbb] at dfn; exact dfn
          · rintro e u' w3 ⟨rfl, v, rfl, hv3⟩
            obtain ⟨vs, g1, g2⟩ := vcRes_run ag2 hv3
            have g3 : (fn.results.mapM (m := Sem) (resOf P a2.tmps)).run P w3 = .ok vs.toArray w3 := by
              rw [Array.mapM_eq_mapM_toList]; simp [g1]
            show ∃ v, (results fn a2.tmps).run P w3 = .ok v w3 ∧ _
            rw [results_resOf P]
            simp only [List.nil_append] at g2
            refine ⟨_, (by rw [Sem.run_bind, g3]; rfl), _, rfl, ?_⟩
            split
            · rename_i hsz
              match vs, hsz, g2 with
              | [v], _, g2 => exact g2
            · rename_i hsz
              match vs, hsz, g2 with
              | [], _, g2 => exact g2
              | [v], hsz, _ => simp at hsz
              | _ :: _ :: _, _, g2 => exact g2
        cases e with
        | normal => exact fin hK
        | ret => exact fin hK
        | _ => exact hK.elim
      | _ => exact hv.elim
    · cases h
  · cases h
end Go.VC

set_option linter.unusedVariables false
namespace Go.VC
open Go
/-- a call of a function value that memory holds -/
def callV (P : Program) (v : Value) (args : Array Value) (w : World) (Q : Value → World → Prop) : Prop :=
  match v with
  | .func (.func g) fi ca => match hasBody P g with
    | true => Does P g (fi ++ args ++ ca) w Q
    | false => False
  | _ => False
end Go.VC
namespace Go.VC
open Go
/-- a struct that is built of parts, one of them an array that is not looked into -/
def buildK (P : Program) (ty : TypeId) (parts : Array (Nat × Value)) (K : Array Value → Prop) : Prop :=
  match buildCells P ty parts with
  | some cs => K cs
  | none => False
end Go.VC
