import Derived.Test.YtaaegmmcnfeiaaaDoorSe
import Derived.Laws.StructEq
set_option linter.unusedVariables false
set_option linter.unusedSimpArgs false
namespace Go.VC
open Go Go.RowKit
def andO (b : Bool) : Option Bool → Option Bool
  | some r => some (cond b r false)
  | none => none
/-- equality of structs of plain cells -/
def eqFlat (P : Program) (xs ys : Array Value) : List Field → Option Bool
  | [] => some true
  | f :: fs => match f.name == "_" with
    | true => none
    | false => match isAgg? P f.type, P.underlying f.type, xs[f.offset]?, ys[f.offset]? with
      | some false, some (.int _), some (.int k1 a), some (.int k2 b) => (match kindEq k1 k2 with
        | true => andO (a == b) (eqFlat P xs ys fs)
        | false => none)
      | some false, some .bool, some (.bool a), some (.bool b) => andO (a == b) (eqFlat P xs ys fs)
      | some false, some .string, some (.string a), some (.string b) => andO (a.toList == b.toList) (eqFlat P xs ys fs)
      | _, _, _, _ => none
theorem andO_some {b r : Bool} {o : Option Bool} (h : andO b o = some r) : ∃ q, o = some q ∧ r = cond b q false := by
  cases o with
  | none => cases h
  | some q => exact ⟨q, rfl, by simpa [andO] using h.symm⟩
theorem run_part {P : Program} {w : World} {t : TypeId} {cs : Array Value} {o : Nat} {v : Value} (ha : isAgg? P t = some false) (hv : cs[o]? = some v) : (part t cs o).run P w = .ok v w := by
  simp [part, run_isAgg? ha, hv]
theorem eqFlat_run {P : Program} {w : World} {d : Nat} {xs ys : Array Value} : ∀ {fs : List Field} {b : Bool}, eqFlat P xs ys fs = some b → (Op.eqFields (d + 1) xs ys fs).run P w = .ok b w
  | [], b, h => by simp [eqFlat] at h; subst h; rfl
  | f :: fs, b, h => by
    simp only [eqFlat] at h
    split at h
    · cases h
    · rename_i hn
      have hn' : f.name ≠ "_" := by simpa using hn
      simp only [Op.eqFields, if_pos hn', Sem.run_bind]
      split at h
      · rename_i k k1 a k2 b' hg hu hx hy
        split at h
        · rename_i hk
          obtain rfl := kindEq_eq hk
          obtain ⟨q, hq, rfl⟩ := andO_some h
          rw [run_part hg hx, Result.andThen_ok, run_part hg hy, Result.andThen_ok]
          rw [run_equalIn_int w d f.type k1 k a b' hu, Result.andThen_ok]
          cases a == b'
          · rfl
          · simp only [Bool.not_true, Bool.false_eq_true, if_false]; exact eqFlat_run hq
        · cases h
      · rename_i a b' hg hu hx hy
        obtain ⟨q, hq, rfl⟩ := andO_some h
        rw [run_part hg hx, Result.andThen_ok, run_part hg hy, Result.andThen_ok, run_equalIn_bool' w d f.type a b' hu, Result.andThen_ok]
        cases a == b'
        · rfl
        · simp only [Bool.not_true, Bool.false_eq_true, if_false]; exact eqFlat_run hq
      · rename_i a b' hg hu hx hy
        obtain ⟨q, hq, rfl⟩ := andO_some h
        rw [run_part hg hx, Result.andThen_ok, run_part hg hy, Result.andThen_ok, run_equalIn_string w d f.type a b' hu, Result.andThen_ok]
        cases a.toList == b'.toList
        · rfl
        · simp only [Bool.not_true, Bool.false_eq_true, if_false]; exact eqFlat_run hq
      · cases h
/-- a type whose values are compared field by field -/
structure FlatT (P : Program) (t : TypeId) : Prop where
  ht : P.underlying t = some (.struct (P.fieldsOf t))
  hp : P.stoodInHeld t = false
  hm : P.eqGuardType P.depth t = false
theorem flat_eql {P : Program} {w : World} {t : TypeId} {x y : Operand} {xs ys : Array Value} {b : Bool} (hF : FlatT P t) (h : eqFlat P xs ys (P.fieldsOf t).toList = some b) {K : Bool → World → Prop} (k : K b w) :
    runG (.bool) P w (do eqGuard .eql t x y (.agg xs) (.agg ys); binOp .eql t (.agg xs) (.agg ys)) K := by
  refine ⟨.bool b, w, ?_, _, rfl, k⟩
  rw [Sem.run_bind, run_eqGuard_agg w .eql t x y _ _ hF.hm, Result.andThen_ok, run_eql_struct, show (Op.equalIn 10000 t (.agg xs) (.agg ys)).run P w = .ok b w from (run_equalIn_struct w 9999 t xs ys hF.ht hF.hp).trans (eqFlat_run (d := 9998) h)]
  rfl
theorem flat_neq {P : Program} {w : World} {t : TypeId} {x y : Operand} {xs ys : Array Value} {b : Bool} (hF : FlatT P t) (h : eqFlat P xs ys (P.fieldsOf t).toList = some b) {K : Bool → World → Prop} (k : K (!b) w) :
    runG (.bool) P w (do eqGuard .neq t x y (.agg xs) (.agg ys); binOp .neq t (.agg xs) (.agg ys)) K := by
  refine ⟨.bool (!b), w, ?_, _, rfl, k⟩
  rw [Sem.run_bind, run_eqGuard_agg w .neq t x y _ _ hF.hm, Result.andThen_ok, run_neq_struct, show (Op.equalIn 10000 t (.agg xs) (.agg ys)).run P w = .ok b w from (run_equalIn_struct w 9999 t xs ys hF.ht hF.hp).trans (eqFlat_run (d := 9998) h)]
  rfl
section
variable {F : Bs} {w w' : World} {l l' r : List SP} {b n m : Nat} {ty : TypeId} {cs cs' : List Value}
theorem ldaa (H : Heap F w l) {t : Tag1} {x : t.T} {K : t.T → Prop} (k : K x) (hT : Has l (blk b ty cs) := by repeat (first | assumption | constructor)) (hc : CellIs cs (m + n) (t.emb x) := by repeat (first | assumption | constructor)) : ldT t w (((⟨b, 0, none⟩ : Addr).add m).add n) K := by
  rw [add_mk, add_mk, Nat.zero_add]; exact ld H k hT hc
theorem rowB (H : Heap F w l) (hT : Has l (blk b ty cs) := by repeat (first | assumption | constructor)) : RowIs w ⟨b, 0, none⟩ cs.toArray := fun j v hj => by
  rw [add_mk, Nat.zero_add]; exact H.cell hT (by simpa using hj)
theorem Heap.dr2 (H : Heap F w l) (c d : SP) (hT : Takes l [c, d] r := by repeat (first | assumption | constructor)) : Heap F w r := (H.takes hT).tl.tl
end
end Go.VC
