import Derived.Test.YtaaegmmcnfeiaaaDoorSg
import Derived.WideShapes
set_option linter.unusedVariables false
set_option linter.unusedSimpArgs false
namespace Go.VC
open Go Go.RowKit Go.WideShapes
section
variable {F : Bs} {w : World} {l : List SP}
theorem Heap.addRo {α : Type} [Rep α] (H : Heap F w l) {s : Sl} {xs : List α} (h : immL F.h s xs) : Heap F w (imm s xs :: l) := by
  obtain ⟨ro, hh, h1, h2, h3, h4, h5, h6⟩ := H
  exact ⟨ro, hh, h1, h2, h3, h4, ⟨PH.emp, hh, fun _ => .inl rfl, PH.emp_le _, PH.le.refl _, h.mono h1, h5⟩, h6⟩
theorem Heap.addR (H : Heap F w l) (c : SP) (h : c.p F.h PH.emp) : Heap F w (c :: l) := by
  obtain ⟨ro, hh, h1, h2, h3, h4, h5, h6⟩ := H
  exact ⟨ro, hh, h1, h2, h3, h4, ⟨PH.emp, hh, fun _ => .inl rfl, PH.emp_le _, PH.le.refl _, c.mono h1 (PH.le.refl _) h, h5⟩, h6⟩
end
section
variable {P : Program} {W : World} {t e : TypeId} {b0 : Nat} {v : Value} {H : Type} {enc : TypeId × Value → H} {d : DataW H} {ps : List MemPlace}
theorem par_slice {α : Type} [Rep α] {G : List α → Prop} (ht : P.underlying t = some (.slice e)) (hO : OpenT P t G) (hv : Value.okWide P W .any b0 t v) (hd : DataW.Trod enc P W 0 (fun _ => true) true t v d ps) (hw : (d.weights P t).all (· ≤ reachBytes) = true) :
    ∃ (s : Sl) (xs : List α), v = .slice s.a s.len s.cap ∧ immL (PH.of W) s xs ∧ G xs := by
  obtain ⟨a, len, cap, rfl⟩ := okWide_slice ht hv
  obtain ⟨fuel, hd⟩ := hd
  obtain ⟨xs, ⟨s, hs, hi⟩, hg⟩ := hO hd hw
  refine ⟨s, xs, ?_, hi, hg⟩
  simpa [Value.cells] using hs
theorem par_int {k : IntKind} (ht : P.underlying t = some (.int k)) (hv : Value.okWide P W .any b0 t v) : ∃ n : Int, v = .int k n ∧ k.has n := by
  obtain ⟨n, rfl⟩ := okWide_int ht hv
  refine ⟨n, rfl, ?_⟩
  simp only [Value.okWide, ht, Cell.okWide, Cell.ok] at hv
  exact hv.2
end
end Go.VC
