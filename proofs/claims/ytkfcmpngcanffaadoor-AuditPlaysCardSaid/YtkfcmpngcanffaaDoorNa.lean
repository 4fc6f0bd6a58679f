set_option linter.unusedVariables false
namespace Nac
/-- a write that waits -/
structure Wr where
  at_ : Int
  b : List UInt8
/-- a disk: its sectors, what waits, whether the power is off, the calls that are left (below 0: it is not armed), who survives -/
structure Disk where
  has : List (List UInt8)
  waits : List Wr
  off : Bool
  left : Int
  surv : List Bool
namespace Disk
def lay (has : List (List UInt8)) (w : Wr) : List (List UInt8) := has.set w.at_.toNat w.b
def layAll (has : List (List UInt8)) (l : List Wr) : List (List UInt8) := l.foldl lay has
def layS : List (List UInt8) → List Wr → List Bool → List (List UInt8)
  | has, w :: l, s :: r => layS (cond s (lay has w) has) l r
  | has, _, _ => has
def crash (d : Disk) (s : List Bool) : Disk := cond d.off d { d with has := layS d.has d.waits s, waits := [], off := true, left := -1 }
def goes (d : Disk) : Disk × Bool :=
  cond d.off (d, false) (if d.left = 0 then (d.crash d.surv, false) else if 0 < d.left then ({ d with left := d.left - 1 }, true) else (d, true))
def inB (d : Disk) (at_ : Int) : Bool := decide (0 ≤ at_) && decide (at_ < d.has.length)
def last (l : List Wr) (at_ : Int) (b : List UInt8) : List UInt8 := l.foldl (fun b w => if w.at_ = at_ then w.b else b) b
def read (d : Disk) (at_ : Int) : List UInt8 × Int :=
  cond (d.inB at_) (cond d.off ([], 9) (last d.waits at_ (d.has.getD at_.toNat []), 0)) ([], 4)
def write (d : Disk) (at_ : Int) (b : List UInt8) : Disk × Int :=
  cond (d.inB at_) (if b.length = 64 then cond d.goes.2 ({ d.goes.1 with waits := d.goes.1.waits ++ [⟨at_, b⟩] }, 0) (d.goes.1, 9) else (d, 1)) (d, 4)
def flush (d : Disk) : Disk × Int := cond d.goes.2 ({ d.goes.1 with has := layAll d.goes.1.has d.goes.1.waits, waits := [] }, 0) (d.goes.1, 9)
def arm (d : Disk) (n : Int) (s : List Bool) : Disk := cond d.off d { d with left := if 0 ≤ n then n else -1, surv := s }
def power (d : Disk) : Disk := { d with waits := [], off := false, left := -1 }
def new (n : Nat) : Disk := ⟨List.replicate n (List.replicate 64 0), [], false, -1, []⟩
/-- what holds of all disks that come up -/
structure ok (d : Disk) : Prop where
  has : ∀ s ∈ d.has, s.length = 64
  size : d.has.length ≤ 256
  waits : ∀ w ∈ d.waits, 0 ≤ w.at_ ∧ w.at_ < d.has.length ∧ w.b.length = 64
  left : -1 ≤ d.left ∧ d.left ≤ 9223372036854775807
theorem lay_length (has : List (List UInt8)) (w : Wr) : (lay has w).length = has.length := by simp [lay]
theorem layAll_length (l : List Wr) : ∀ has : List (List UInt8), (layAll has l).length = has.length := by
  induction l with
  | nil => exact fun _ => rfl
  | cons w l ih => exact fun has => by show (layAll (lay has w) l).length = _; rw [ih, lay_length]
theorem layS_length (l : List Wr) : ∀ (has : List (List UInt8)) (s : List Bool), (layS has l s).length = has.length := by
  induction l with
  | nil => intro has s; simp [layS]
  | cons w l ih =>
    intro has s
    cases s with
    | nil => simp [layS]
    | cons b r => rw [layS, ih]; cases b <;> simp [lay]
theorem lay_all64 {has : List (List UInt8)} {w : Wr} (h : ∀ s ∈ has, s.length = 64) (hw : w.b.length = 64) : ∀ s ∈ lay has w, s.length = 64 := fun s hs => by
  rcases List.mem_or_eq_of_mem_set hs with h1 | h1
  · exact h s h1
  · rw [h1]; exact hw
theorem layAll_all64 {l : List Wr} : ∀ {has : List (List UInt8)}, (∀ s ∈ has, s.length = 64) → (∀ w ∈ l, w.b.length = 64) → ∀ s ∈ layAll has l, s.length = 64 := by
  induction l with
  | nil => exact fun h _ => h
  | cons w l ih => exact fun h hw => ih (lay_all64 h (hw w (by simp))) fun x hx => hw x (by simp [hx])
theorem layS_all64 {l : List Wr} : ∀ {has : List (List UInt8)} {s : List Bool}, (∀ s ∈ has, s.length = 64) → (∀ w ∈ l, w.b.length = 64) → ∀ x ∈ layS has l s, x.length = 64 := by
  induction l with
  | nil => intro has s h _; simpa [layS] using h
  | cons w l ih =>
    intro has s h hw
    cases s with
    | nil => simpa [layS] using h
    | cons b r =>
      rw [layS]
      refine ih ?_ fun x hx => hw x (by simp [hx])
      cases b
      · exact h
      · exact lay_all64 h (hw w (by simp))
theorem crash_ok {d : Disk} (h : d.ok) (s : List Bool) : (d.crash s).ok := by
  unfold crash
  cases hd : d.off
  · simp only [cond_false]
    exact ⟨layS_all64 h.has fun w hw => (h.waits w hw).2.2, by simp only [layS_length]; exact h.size, fun w hw => by simp at hw, by simp⟩
  · exact h
theorem goes_ok {d : Disk} (h : d.ok) : d.goes.1.ok := by
  unfold goes
  cases hd : d.off
  · simp only [cond_false]
    split
    · exact crash_ok h _
    · split
      · exact ⟨h.has, h.size, h.waits, by have := h.left; simp only; omega⟩
      · exact h
  · exact h
theorem crash_length (d : Disk) (s : List Bool) : (d.crash s).has.length = d.has.length := by
  unfold crash; cases d.off
  · simp [layS_length]
  · rfl
theorem goes_length (d : Disk) : d.goes.1.has.length = d.has.length := by
  unfold goes; cases d.off
  · simp only [cond_false]; split
    · exact crash_length _ _
    · split <;> rfl
  · rfl
theorem goes_waits (d : Disk) : d.goes.1.waits.length ≤ d.waits.length := by
  unfold goes; cases hd : d.off
  · simp only [cond_false]; split
    · simp [crash, hd]
    · split <;> simp
  · simp
end Disk
end Nac
