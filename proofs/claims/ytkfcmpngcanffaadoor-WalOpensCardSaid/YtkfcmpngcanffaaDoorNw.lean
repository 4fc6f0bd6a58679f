import Derived.Test.YtkfcmpngcanffaaDoorNa
set_option linter.unusedVariables false
set_option linter.unusedSimpArgs false
namespace Nac
/-- a sector that says something -/
def sayS (k : UInt8) (e : UInt32) (r : List UInt8) : List UInt8 := seal_ ([k] ++ put e.toUInt64 4 ++ r ++ List.replicate (55 - r.length) 0)
/-- the epoch that a sector tells -/
def ep (b : List UInt8) : UInt32 := (get ((b.drop 1).take 4)).toUInt32
def quiet (l : List UInt8) : Bool := l.all (· == 0)
/-- what the program hears of a sector -/
def hear (b : List UInt8) (k : UInt8) (n : Nat) : UInt32 × List UInt8 × Bool :=
  if (get (b.drop 60)).toUInt32 = crc (b.take 60) ∧ b.getD 0 0 = k then (ep b, ((b.take 60).drop 5).take n, quiet (((b.take 60).drop 5).drop n)) else (0, [], false)
theorem sayS_length {k : UInt8} {e : UInt32} {r : List UInt8} (h : r.length ≤ 55) : (sayS k e r).length = 64 := by simp [sayS, seal_]; omega
theorem sayS_kind (k : UInt8) (e : UInt32) (r : List UInt8) : (sayS k e r).getD 0 0 = k := by simp [sayS, seal_]
theorem sayS_ep (k : UInt8) (e : UInt32) (r : List UInt8) : ep (sayS k e r) = e := by
  have h : ((sayS k e r).drop 1).take 4 = put e.toUInt64 4 := by
    simp [sayS, seal_, List.append_assoc]
  rw [ep, h, get_put4]
theorem sayS_rest {k : UInt8} {e : UInt32} {r : List UInt8} {n : Nat} (h : r.length = n) : ((sayS k e r).drop 5).take n = r := by
  have : (sayS k e r).drop 5 = r ++ (List.replicate (55 - r.length) 0 ++ put (crc ([k] ++ put e.toUInt64 4 ++ r ++ List.replicate (55 - r.length) 0)).toUInt64 4) := by
    rw [sayS, seal_]
    generalize crc _ = c
    rw [show [k] ++ put e.toUInt64 4 ++ r ++ List.replicate (55 - r.length) 0 ++ put c.toUInt64 4 = ([k] ++ put e.toUInt64 4) ++ (r ++ (List.replicate (55 - r.length) 0 ++ put c.toUInt64 4)) by simp]
    rw [List.drop_left' (by simp)]
  rw [this, ← h, List.take_left]
theorem sayS_inj {k k' : UInt8} {e e' : UInt32} {r r' : List UInt8} (hl : r.length = r'.length) (h : sayS k e r = sayS k' e' r') : k = k' ∧ e = e' ∧ r = r' := by
  refine ⟨?_, ?_, ?_⟩
  · rw [← sayS_kind k e r, h, sayS_kind]
  · rw [← sayS_ep k e r, h, sayS_ep]
  · rw [← sayS_rest (k := k) (e := e) (r := r) rfl, h, sayS_rest hl.symm]
theorem quiet_eq : ∀ {l : List UInt8}, quiet l = true → l = List.replicate l.length 0
  | [], _ => rfl
  | c :: l, h => by
    simp only [quiet, List.all_cons, Bool.and_eq_true, beq_iff_eq] at h
    obtain ⟨rfl, h2⟩ := h
    rw [List.length_cons, List.replicate_succ, ← quiet_eq h2]
theorem put_get : ∀ {l : List UInt8}, l.length ≤ 8 → put (get l) l.length = l
  | [], _ => rfl
  | c :: l, h => by
    have hl : l.length ≤ 7 := by simp at h; omega
    have hlt := get_lt l.length hl l rfl
    have hlt' : (get l).toNat < 2 ^ 56 := Nat.lt_of_lt_of_le hlt (by
      calc 256 ^ l.length ≤ 256 ^ 7 := Nat.pow_le_pow_right (by decide) hl
        _ = 2 ^ 56 := by decide)
    have ho := or_shift (get l) c hlt'
    rw [List.length_cons, get, put]
    have e1 : ((get l <<< 8) ||| c.toUInt64).toUInt8 = c := by
      apply UInt8.toNat.inj
      rw [UInt64.toNat_toUInt8, ho]
      have := c.toNat_lt
      omega
    have e2 : ((get l <<< 8) ||| c.toUInt64) >>> 8 = get l := by
      apply UInt64.toNat.inj
      rw [UInt64.toNat_shiftRight, ho, Nat.shiftRight_eq_div_pow]
      have := c.toNat_lt
      rw [show 2 ^ (UInt64.toNat 8 % 64) = 256 by decide]
      omega
    rw [e1, e2, put_get (by omega)]
theorem sum_eq {b : List UInt8} (hb : b.length = 64) : (get (b.drop 60)).toUInt32 = crc (b.take 60) ↔ b = seal_ (b.take 60) := by
  have hd : (b.drop 60).length = 4 := by simp [hb]
  constructor
  · intro h
    have hg := get_lt 4 (by decide) _ hd
    have e : get (b.drop 60) = (crc (b.take 60)).toUInt64 := by
      rw [← h]
      apply UInt64.toNat.inj
      rw [UInt32.toNat_toUInt64, UInt64.toNat_toUInt32]
      omega
    rw [seal_, ← e]
    have := put_get (l := b.drop 60) (by omega)
    rw [hd] at this
    rw [this, List.take_append_drop]
  · intro h
    have : b.drop 60 = put (crc (b.take 60)).toUInt64 4 := by
      conv => lhs; rw [h, seal_]
      rw [List.drop_left' (by simp [hb])]
    rw [this, get_put4]
theorem hear_sayS {k : UInt8} {e : UInt32} {r : List UInt8} {n : Nat} (h : r.length = n) (hn : n ≤ 55) : hear (sayS k e r) k n = (e, r, true) := by
  have hl := sayS_length (k := k) (e := e) (r := r) (by omega)
  have ht : (sayS k e r).take 60 = [k] ++ put e.toUInt64 4 ++ r ++ List.replicate (55 - r.length) 0 := by
    rw [sayS, seal_, List.take_left' (by simp; omega)]
  have hs : (get ((sayS k e r).drop 60)).toUInt32 = crc ((sayS k e r).take 60) := by
    rw [sum_eq hl, ht]; rfl
  have hd : ((sayS k e r).take 60).drop 5 = r ++ List.replicate (55 - r.length) 0 := by
    rw [ht, List.append_assoc, List.drop_left' (by simp)]
  rw [hear, if_pos ⟨hs, sayS_kind _ _ _⟩, sayS_ep, hd]
  refine Prod.ext rfl (Prod.ext ?_ ?_)
  · show (r ++ _).take n = r
    rw [← h, List.take_left]
  · show quiet ((r ++ _).drop n) = true
    rw [← h, List.drop_left]
    simp [quiet]
theorem hear_ok {b : List UInt8} {k : UInt8} {n : Nat} (hb : b.length = 64) (hn : n ≤ 55) (h : (hear b k n).2.2 = true) : b = sayS k (ep b) ((b.drop 5).take n) ∧ hear b k n = (ep b, (b.drop 5).take n, true) := by
  unfold hear at h
  split at h
  · rename_i hc
    obtain ⟨h1, h2⟩ := hc
    have hs := (sum_eq hb).1 h1
    have hq := quiet_eq h
    have e5 : ((b.take 60).drop 5).take n = (b.drop 5).take n := by
      rw [List.drop_take, List.take_take]; congr 1; omega
    have hlen : (((b.take 60).drop 5).drop n).length = 55 - n := by simp [hb]; omega
    rw [hlen] at hq
    have e4 : put (ep b).toUInt64 4 = (b.drop 1).take 4 := by
      have hd : ((b.drop 1).take 4).length = 4 := by simp [hb]
      have hg := get_lt 4 (by decide) _ hd
      have := put_get (l := (b.drop 1).take 4) (by omega)
      rw [hd] at this
      rw [ep, ← this]
      congr 1
      apply UInt64.toNat.inj
      rw [UInt32.toNat_toUInt64, UInt64.toNat_toUInt32, this]
      omega
    have hk : b.take 1 = [k] := by
      match b, hb with
      | c :: b, _ => simp at h2; simp [h2]
    have hbody : b.take 60 = [k] ++ put (ep b).toUInt64 4 ++ (b.drop 5).take n ++ List.replicate (55 - ((b.drop 5).take n).length) 0 := by
      have hr : ((b.drop 5).take n).length = n := by simp [hb]; omega
      rw [hr, e4, ← hq, ← e5, List.append_assoc, List.take_append_drop, ← hk]
      have : b.take 1 ++ (b.drop 1).take 4 = (b.take 60).take 5 := by
        rw [List.take_take, show min 5 60 = 1 + 4 by decide, List.take_add]
      rw [this, List.take_append_drop]
    refine ⟨?_, ?_⟩
    · rw [sayS, ← hbody]; exact hs
    · rw [hear, if_pos ⟨h1, h2⟩, e5]; exact Prod.ext rfl (Prod.ext rfl h)
  · cases h
/-- what is heard of a sector, by what it is -/
theorem hear_iff {b : List UInt8} {k : UInt8} {n : Nat} (hb : b.length = 64) (hn : n ≤ 55) : (hear b k n).2.2 = true ↔ b = sayS k (ep b) ((b.drop 5).take n) := by
  refine ⟨fun h => (hear_ok hb hn h).1, fun h => ?_⟩
  have hr : ((b.drop 5).take n).length = n := by simp [hb]; omega
  rw [h, hear_sayS hr hn]
/-! ### what is done -/
/-- writes, one behind the other, and a flush; the first error ends it -/
def pall (X : Ext) : List (Int × List UInt8) → Disk → Disk × Int
  | [], D => D.flush
  | (a, b) :: l, D => if (pwrite D X a b).2 = 0 then pall X l (pwrite D X a b).1 else pwrite D X a b
def pageW (home : Nat) (e : UInt32) (i : Nat) (b : List UInt8) : Int × List UInt8 := (((2 + 16 * home + i : Nat) : Int), sayS 80 e (b8 i :: b))
def pagesW (home : Nat) (e : UInt32) (pages : List (List UInt8)) : List (Int × List UInt8) := pages.zipIdx.map fun x => pageW home e x.2 x.1
def headW (home : Nat) (e : UInt32) : Int × List UInt8 := ((e.toNat % 2 : Nat), sayS 72 e [b8 home])
def settle (D : Disk) (X : Ext) (pre : List (Int × List UInt8)) (pages : List (List UInt8)) (e : UInt32) (home : Nat) : Disk × Int :=
  if (pall X (pre ++ pagesW home e pages) D).2 = 0 then pall X [headW home e] (pall X (pre ++ pagesW home e pages) D).1 else pall X (pre ++ pagesW home e pages) D
def zerosW : List (Int × List UInt8) := (List.range 18).map fun k => (((34 + k : Nat) : Int), zeros64)
def page0 : List UInt8 := List.replicate 40 0
def format (D : Disk) (X : Ext) : Disk × Int := settle D X zerosW (List.replicate 16 page0) 1 0
structure Wal where
  pages : List (List UInt8)
  epoch : UInt32
  home : Nat
  used : Nat
  dead : Bool
structure Chg where
  page : Int
  data : List UInt8
/-! ### opened -/
def headStep (f : Option (UInt32 × Nat)) (i : Nat) (b : List UInt8) : Option (UInt32 × Nat) :=
  if (b = sayS 72 (ep b) [b.getD 5 0] ∧ (ep b).toNat % 2 = i ∧ (b.getD 5 0).toNat < 2) ∧ (∀ x ∈ f, x.1 < ep b) then some (ep b, (b.getD 5 0).toNat) else f
def headOf (at_ : Nat → List UInt8) : Option (UInt32 × Nat) := headStep (headStep none 0 (at_ 0)) 1 (at_ 1)
def pageOk (at_ : Nat → List UInt8) (e : UInt32) (home i : Nat) : Bool := at_ (2 + 16 * home + i) == sayS 80 e (b8 i :: ((at_ (2 + 16 * home + i)).drop 6).take 40)
def pageOf (at_ : Nat → List UInt8) (home i : Nat) : List UInt8 := ((at_ (2 + 16 * home + i)).drop 6).take 40
def layP (pages : List (List UInt8)) (l : List (Nat × List UInt8)) : List (List UInt8) := l.foldl (fun p c => p.set c.1 c.2) pages
def isRec (b : List UInt8) (e : UInt32) (k : Nat) : Bool := (b == sayS 82 e (b8 k :: (b.drop 6).take 41)) && decide ((b.getD 6 0).toNat < 16)
def recOf (b : List UInt8) : Nat × List UInt8 := ((b.getD 6 0).toNat, (b.drop 7).take 40)
def isMark (b : List UInt8) (e : UInt32) (k : Nat) : Bool := b == sayS 67 e [b8 k]
def replay (at_ : Nat → List UInt8) (e : UInt32) : Nat → Nat → List (Nat × List UInt8) → List (List UInt8) → Nat → List (List UInt8) × Nat
  | 0, _, _, pages, used => (pages, used)
  | f + 1, k, ws, pages, used =>
    if isRec (at_ (34 + k)) e k = true then replay at_ e f (k + 1) (ws ++ [recOf (at_ (34 + k))]) pages used
    else if isMark (at_ (34 + k)) e k = true then replay at_ e f (k + 1) [] (layP pages ws) (k + 1)
    else (pages, used)
/-- the log that sectors come to, or the error -/
def wstate (at_ : Nat → List UInt8) : Wal × Int :=
  match headOf at_ with
  | none => (⟨[], 0, 0, 0, false⟩, 6)
  | some (e, h) =>
    if (List.range 16).all (pageOk at_ e h) = true then
      (⟨(replay at_ e 18 0 [] ((List.range 16).map (pageOf at_ h)) 0).1, e, h, (replay at_ e 18 0 [] ((List.range 16).map (pageOf at_ h)) 0).2, false⟩, 0)
    else (⟨[], 0, 0, 0, false⟩, 8)
/-- a sector of a part, as it reads -/
def secOf (D : Disk) (X : Ext) (i : Nat) : List UInt8 := Disk.last D.waits (X.from_ + i) (D.has.getD (X.from_ + i).toNat [])
def wopen (D : Disk) (X : Ext) : Wal × Int := if D.off then (⟨[], 0, 0, 0, false⟩, 9) else wstate (secOf D X)
/-! ### committed -/
def rightC (l : List Chg) : Bool := decide (l.length ≤ 16) && l.all fun c => decide (0 ≤ c.page) && decide (c.page < 16) && decide (c.data.length = 40)
def recW (e : UInt32) (k : Nat) (c : Chg) : Int × List UInt8 := (((34 + k : Nat) : Int), sayS 82 e (b8 k :: b8 c.page :: c.data))
def recsW (e : UInt32) (used : Nat) (l : List Chg) : List (Int × List UInt8) := l.zipIdx.map fun x => recW e (used + x.2) x.1
def markW (e : UInt32) (k : Nat) : Int × List UInt8 := (((34 + k : Nat) : Int), sayS 67 e [b8 k])
def layC (pages : List (List UInt8)) (l : List Chg) : List (List UInt8) := l.foldl (fun p c => p.set c.page.toNat c.data) pages
def wwrite (D : Disk) (X : Ext) (w : Wal) (l : List Chg) : Disk × Wal × Int :=
  if (pall X (recsW w.epoch w.used l) D).2 = 0 then
    if (pall X [markW w.epoch (w.used + l.length)] (pall X (recsW w.epoch w.used l) D).1).2 = 0 then
      ((pall X [markW w.epoch (w.used + l.length)] (pall X (recsW w.epoch w.used l) D).1).1, { w with pages := layC w.pages l, used := w.used + l.length + 1, dead := false }, 0)
    else ((pall X [markW w.epoch (w.used + l.length)] (pall X (recsW w.epoch w.used l) D).1).1, { w with dead := true }, (pall X [markW w.epoch (w.used + l.length)] (pall X (recsW w.epoch w.used l) D).1).2)
  else ((pall X (recsW w.epoch w.used l) D).1, { w with dead := true }, (pall X (recsW w.epoch w.used l) D).2)
def wcheck (D : Disk) (X : Ext) (w : Wal) : Disk × Wal × Int :=
  if (settle D X [] w.pages (w.epoch + 1) (1 - w.home)).2 = 0 then ((settle D X [] w.pages (w.epoch + 1) (1 - w.home)).1, { w with epoch := w.epoch + 1, home := 1 - w.home, used := 0, dead := false }, 0)
  else ((settle D X [] w.pages (w.epoch + 1) (1 - w.home)).1, { w with dead := true }, (settle D X [] w.pages (w.epoch + 1) (1 - w.home)).2)
def wcommit (D : Disk) (X : Ext) (w : Wal) (l : List Chg) : Disk × Wal × Int :=
  if w.dead then (D, w, 9) else if rightC l = false then (D, w, 1) else if l.length = 0 then (D, w, 0)
  else if w.used + l.length + 1 > 18 then
    if w.epoch = 4294967295 then (D, w, 5)
    else if (wcheck D X w).2.2 = 0 then wwrite (wcheck D X w).1 X (wcheck D X w).2.1 l else wcheck D X w
  else wwrite D X w l
structure Wal.ok (w : Wal) : Prop where
  n16 : w.pages.length = 16
  all40 : ∀ p ∈ w.pages, p.length = 40
  home : w.home < 2
  used : w.used ≤ 18
/-! ### lists of equal rows -/
theorem flatK_len {α : Type} {K : Nat} : ∀ {L : List (List α)}, (∀ s ∈ L, s.length = K) → L.flatten.length = L.length * K
  | [], _ => by simp
  | s :: L, h => by rw [List.flatten_cons, List.length_append, h s (by simp), flatK_len fun x hx => h x (by simp [hx]), List.length_cons, Nat.add_mul]; omega
theorem flatK_get {α : Type} {K : Nat} : ∀ {L : List (List α)}, (∀ s ∈ L, s.length = K) → ∀ i (hi : i < L.length), (L.flatten.drop (i * K)).take K = L[i]
  | [], _, i, hi => by simp at hi
  | s :: L, h, 0, _ => by
    have hs : s.length = K := h s (by simp)
    simp [List.flatten_cons, ← hs]
  | s :: L, h, i + 1, hi => by
    have hs : s.length = K := h s (by simp)
    rw [List.flatten_cons, show (i + 1) * K = s.length + i * K by rw [hs, Nat.add_mul]; omega, ← List.drop_drop, List.drop_left, flatK_get (fun x hx => h x (by simp [hx])) i (by simpa using hi)]
    rfl
theorem flatK_set {α : Type} {K : Nat} {b : List α} (hb : b.length = K) : ∀ {L : List (List α)}, (∀ s ∈ L, s.length = K) → ∀ i, i < L.length → (L.set i b).flatten = L.flatten.take (i * K) ++ b ++ L.flatten.drop (i * K + K)
  | [], _, i, hi => by simp at hi
  | s :: L, h, 0, _ => by
    have hs : s.length = K := h s (by simp)
    simp only [List.set_cons_zero, List.flatten_cons, Nat.zero_mul, List.take_zero, List.nil_append, Nat.zero_add]
    rw [← hs, List.drop_left]
  | s :: L, h, i + 1, hi => by
    have hs : s.length = K := h s (by simp)
    rw [List.set_cons_succ, List.flatten_cons, List.flatten_cons, flatK_set hb (fun x hx => h x (by simp [hx])) i (by simpa using hi), show (i + 1) * K = s.length + i * K by rw [hs, Nat.add_mul]; omega,
      List.take_append, List.take_of_length_le (l := s) (show s.length ≤ s.length + i * K by omega), show s.length + i * K - s.length = i * K by omega, show s.length + i * K + K = s.length + (i * K + K) by omega, ← List.drop_drop, ← List.drop_drop, List.drop_left]
    simp [List.append_assoc]
/-! ### writes alone -/
def pw (X : Ext) : List (Int × List UInt8) → Disk → Disk × Int
  | [], D => (D, 0)
  | (a, b) :: l, D => if (pwrite D X a b).2 = 0 then pw X l (pwrite D X a b).1 else pwrite D X a b
theorem pall_append (X : Ext) (b : List (Int × List UInt8)) : ∀ (a : List (Int × List UInt8)) (D : Disk), pall X (a ++ b) D = if (pw X a D).2 = 0 then pall X b (pw X a D).1 else pw X a D
  | [], D => by simp [pw]
  | (x, y) :: a, D => by
    rw [List.cons_append, pall, pw]
    split
    · exact pall_append X b a _
    · rename_i h; first | rw [if_neg h] | simp [h]
theorem pall_pw (X : Ext) (a : List (Int × List UInt8)) (D : Disk) : pall X a D = if (pw X a D).2 = 0 then (pw X a D).1.flush else pw X a D := by
  have := pall_append X [] a D
  rw [List.append_nil] at this
  exact this
theorem pw_snoc (X : Ext) (x : Int × List UInt8) : ∀ (a : List (Int × List UInt8)) (D : Disk), pw X (a ++ [x]) D = if (pw X a D).2 = 0 then pwrite (pw X a D).1 X x.1 x.2 else pw X a D
  | [], D => by
    obtain ⟨p, q⟩ := x
    simp only [List.nil_append, pw, if_pos]
    split
    · rename_i h; exact Prod.ext rfl h.symm
    · rfl
  | (p, q) :: a, D => by
    rw [List.cons_append, pw, pw]
    split
    · exact pw_snoc X x a _
    · rename_i h; first | rw [if_neg h] | simp [h]
theorem pw_append (X : Ext) (b : List (Int × List UInt8)) : ∀ (a : List (Int × List UInt8)) (D : Disk), pw X (a ++ b) D = if (pw X a D).2 = 0 then pw X b (pw X a D).1 else pw X a D
  | [], D => by simp [pw]
  | (x, y) :: a, D => by
    rw [List.cons_append, pw, pw]
    split
    · exact pw_append X b a _
    · rename_i h; first | rw [if_neg h] | simp [h]
theorem write_waits (D : Disk) (a : Int) (b : List UInt8) : (D.write a b).1.waits.length ≤ D.waits.length + 1 := by
  unfold Disk.write
  cases D.inB a
  · simp
  · simp only [cond_true]; split
    · have := Disk.goes_waits D
      cases D.goes.2
      · simp only [cond_false]; omega
      · simp only [cond_true, List.length_append, List.length_singleton]; omega
    · simp
theorem pwrite_waits (D : Disk) (X : Ext) (a : Int) (b : List UInt8) : (pwrite D X a b).1.waits.length ≤ D.waits.length + 1 := by
  unfold pwrite; split
  · exact write_waits _ _ _
  · simp
theorem pw_waits (X : Ext) : ∀ (a : List (Int × List UInt8)) (D : Disk), (pw X a D).1.waits.length ≤ D.waits.length + a.length
  | [], D => by simp [pw]
  | (x, y) :: a, D => by
    have h := pwrite_waits D X x y
    rw [pw]; split
    · have := pw_waits X a (pwrite D X x y).1
      simp only [List.length_cons]; omega
    · simp only [List.length_cons]; omega
theorem flush_waits (D : Disk) : D.flush.1.waits.length ≤ D.waits.length := by
  unfold Disk.flush
  have := Disk.goes_waits D
  cases D.goes.2
  · simpa using this
  · simp
theorem pall_waits (X : Ext) (a : List (Int × List UInt8)) (D : Disk) : (pall X a D).1.waits.length ≤ D.waits.length + a.length := by
  have h := pw_waits X a D
  rw [pall_pw]; split
  · exact Nat.le_trans (flush_waits _) h
  · exact h
theorem write_length (D : Disk) (a : Int) (b : List UInt8) : (D.write a b).1.has.length = D.has.length := by
  unfold Disk.write
  cases D.inB a
  · simp
  · simp only [cond_true]; split
    · have := Disk.goes_length D
      cases D.goes.2
      · simpa using this
      · simpa using this
    · simp
theorem pwrite_length (D : Disk) (X : Ext) (a : Int) (b : List UInt8) : (pwrite D X a b).1.has.length = D.has.length := by
  unfold pwrite; split
  · exact write_length _ _ _
  · simp
theorem pw_length (X : Ext) : ∀ (a : List (Int × List UInt8)) (D : Disk), (pw X a D).1.has.length = D.has.length
  | [], D => by simp [pw]
  | (x, y) :: a, D => by
    have h := pwrite_length D X x y
    rw [pw]; split
    · rw [pw_length X a _, h]
    · exact h
theorem flush_length (D : Disk) : D.flush.1.has.length = D.has.length := by
  unfold Disk.flush
  have := Disk.goes_length D
  cases D.goes.2
  · simpa using this
  · simpa [Disk.layAll_length] using this
theorem pall_length (X : Ext) (a : List (Int × List UInt8)) (D : Disk) : (pall X a D).1.has.length = D.has.length := by
  have h := pw_length X a D
  rw [pall_pw]; split
  · rw [flush_length, h]
  · exact h
/-! ### reads of a part that lies on its disk -/
structure Fits (D : Disk) (X : Ext) : Prop where
  f0 : 0 ≤ X.from_
  n52 : X.count = 52
  lies : X.from_ + 52 ≤ D.has.length
theorem last_len' {l : List Wr} (h : ∀ w ∈ l, w.b.length = 64) {at_ : Int} {c : List UInt8} (hc : c.length = 64) : (Disk.last l at_ c).length = 64 := by
  unfold Disk.last
  induction l generalizing c with
  | nil => exact hc
  | cons w l ih =>
    rw [List.foldl_cons]
    refine ih (fun x hx => h x (by simp [hx])) ?_
    split
    · exact h w (by simp)
    · exact hc
theorem pread_on {D : Disk} {X : Ext} (hF : Fits D X) (ho : D.off = false) {i : Nat} (hi : i < 52) : pread D X i = (secOf D X i, 0) := by
  have := hF.f0; have := hF.n52; have := hF.lies
  rw [pread, if_pos ⟨by omega, by omega⟩, Disk.read, Disk.inB, decide_eq_true (by omega), decide_eq_true (by omega), ho]
  rfl
theorem pread_off {D : Disk} {X : Ext} (hF : Fits D X) (ho : D.off = true) {i : Nat} (hi : i < 52) : pread D X i = ([], 9) := by
  have := hF.f0; have := hF.n52; have := hF.lies
  rw [pread, if_pos ⟨by omega, by omega⟩, Disk.read, Disk.inB, decide_eq_true (by omega), decide_eq_true (by omega), ho]
  rfl
theorem secOf_len {D : Disk} {X : Ext} (hF : Fits D X) (ok : D.ok) {i : Nat} (hi : i < 52) : (secOf D X i).length = 64 := by
  have := hF.f0; have := hF.n52; have := hF.lies
  refine last_len' (fun w hw => (ok.waits w hw).2.2) ?_
  rw [List.getD_eq_getElem?_getD, List.getElem?_eq_getElem (by omega)]
  exact ok.has _ (List.getElem_mem _)
end Nac

set_option linter.unusedVariables false
set_option linter.unusedSimpArgs false
namespace Nac
theorem take_drop5 {b : List UInt8} (hb : b.length = 64) (m : Nat) : (b.drop 5).take (m + 1) = b.getD 5 0 :: (b.drop 6).take m := by
  rw [List.drop_eq_getElem_cons (show 5 < b.length by omega), List.take_succ_cons, List.getD_eq_getElem?_getD, List.getElem?_eq_getElem (show 5 < b.length by omega)]
  rfl
theorem said_iff {b : List UInt8} (hb : b.length = 64) {c : UInt8} {e : UInt32} {x : UInt8} {m : Nat} (hm : m + 1 ≤ 55) :
    b = sayS c e (x :: (b.drop 6).take m) ↔ (hear b c (m + 1)).2.2 = true ∧ (hear b c (m + 1)).1 = e ∧ b.getD 5 0 = x := by
  constructor
  · intro h
    have hl : (x :: (b.drop 6).take m).length = m + 1 := by simp [hb]; omega
    have h1 := hear_sayS (k := c) (e := e) (r := x :: (b.drop 6).take m) hl hm
    rw [← h] at h1
    have h2 := sayS_rest (k := c) (e := e) (r := x :: (b.drop 6).take m) hl
    rw [← h, take_drop5 hb] at h2
    rw [h1]
    exact ⟨rfl, rfl, (List.cons.inj h2).1⟩
  · rintro ⟨h1, h2, h3⟩
    obtain ⟨a1, a2⟩ := hear_ok hb hm h1
    rw [a2] at h2
    rw [take_drop5 hb, h3] at a1
    rw [← (show ep b = e from h2)]; exact a1
theorem hear_rest {b : List UInt8} (hb : b.length = 64) {c : UInt8} {m : Nat} (hm : m + 1 ≤ 55) (h : (hear b c (m + 1)).2.2 = true) : hear b c (m + 1) = (ep b, b.getD 5 0 :: (b.drop 6).take m, true) := by
  rw [(hear_ok hb hm h).2, take_drop5 hb]
theorem b8_nat {k : Nat} (hk : k < 256) : (b8 (k : Int)).toNat = k := by
  have := b8_toNat (n := (k : Int)) (by omega) (by omega)
  omega
theorem eq_b8 {c : UInt8} {k : Nat} (hk : k < 256) : c = b8 (k : Int) ↔ c.toNat = k := by
  constructor
  · rintro rfl; exact b8_nat hk
  · intro h; apply UInt8.toNat.inj; rw [h, b8_nat hk]
/-! ### what sectors come to is well formed -/
def secs (at_ : Nat → List UInt8) : Prop := ∀ i, i < 52 → (at_ i).length = 64
theorem layP_ok {L : List (List UInt8)} (hn : L.length = 16) (h40 : ∀ x ∈ L, x.length = 40) : ∀ {ws : List (Nat × List UInt8)}, (∀ c ∈ ws, c.2.length = 40) → (layP L ws).length = 16 ∧ ∀ x ∈ layP L ws, x.length = 40 := by
  intro ws
  unfold layP
  induction ws generalizing L with
  | nil => exact fun _ => ⟨hn, h40⟩
  | cons c ws ih =>
    intro hx
    rw [List.foldl_cons]
    refine ih (by simp [hn]) (fun x hm => ?_) fun y hy => hx y (by simp [hy])
    rcases List.mem_or_eq_of_mem_set hm with h | h
    · exact h40 x h
    · rw [h]; exact hx c (by simp)
theorem recOf_len {b : List UInt8} (hb : b.length = 64) : (recOf b).2.length = 40 := by simp [recOf, hb]
theorem isRec_page {b : List UInt8} {e : UInt32} {k : Nat} (h : isRec b e k = true) : (recOf b).1 < 16 := by
  simp only [isRec, Bool.and_eq_true, decide_eq_true_eq] at h; exact h.2
theorem replay_ok {at_ : Nat → List UInt8} (hs : secs at_) (e : UInt32) : ∀ (f k : Nat) (ws : List (Nat × List UInt8)) (L : List (List UInt8)) (u : Nat), f + k = 18 → u ≤ 18 → (∀ c ∈ ws, c.2.length = 40) → L.length = 16 → (∀ x ∈ L, x.length = 40) →
    (replay at_ e f k ws L u).1.length = 16 ∧ (∀ x ∈ (replay at_ e f k ws L u).1, x.length = 40) ∧ (replay at_ e f k ws L u).2 ≤ 18
  | 0, k, ws, L, u, _, hu, _, hn, h40 => ⟨hn, h40, hu⟩
  | f + 1, k, ws, L, u, hk, hu, hws, hn, h40 => by
    rw [replay]
    split
    · refine replay_ok hs e f (k + 1) _ L u (by omega) hu (fun c hc => ?_) hn h40
      rcases List.mem_append.1 hc with h | h
      · exact hws c h
      · simp at h; subst h; exact recOf_len (hs _ (by omega))
    · split
      · obtain ⟨a, b⟩ := layP_ok hn h40 hws
        exact replay_ok hs e f (k + 1) [] _ (k + 1) (by omega) (by omega) (fun c hc => by simp at hc) a b
      · exact ⟨hn, h40, hu⟩
theorem headStep_lt {f : Option (UInt32 × Nat)} {i : Nat} {b : List UInt8} (h : ∀ x ∈ f, x.2 < 2) : ∀ x ∈ headStep f i b, x.2 < 2 := by
  intro x hx
  rw [headStep] at hx
  split at hx
  · rename_i hc; simp at hx; subst hx; exact hc.1.2.2
  · exact h x hx
theorem pages_ok {at_ : Nat → List UInt8} (hs : secs at_) {h : Nat} (hh : h < 2) : ((List.range 16).map (pageOf at_ h)).length = 16 ∧ ∀ x ∈ (List.range 16).map (pageOf at_ h), x.length = 40 := by
  refine ⟨by simp, fun x hx => ?_⟩
  simp only [List.mem_map, List.mem_range] at hx
  obtain ⟨i, hi, rfl⟩ := hx
  have := hs (2 + 16 * h + i) (by omega)
  simp [pageOf, this]
theorem headOf_lt {at_ : Nat → List UInt8} {x : UInt32 × Nat} (h : headOf at_ = some x) : x.2 < 2 :=
  headStep_lt (f := headStep none 0 (at_ 0)) (headStep_lt fun x hx => by simp at hx) x h
theorem wstate_ok {at_ : Nat → List UInt8} (hs : secs at_) (h : (wstate at_).2 = 0) : (wstate at_).1.ok := by
  unfold wstate at h ⊢
  cases hf : headOf at_ with
  | none => rw [hf] at h; cases h
  | some x =>
    rw [hf] at h
    obtain ⟨e, hm⟩ := x
    dsimp only at h ⊢
    have hlt := headOf_lt hf
    split at h
    · rename_i hc
      rw [if_pos hc]
      obtain ⟨a, b⟩ := pages_ok hs hlt
      obtain ⟨c, d, f⟩ := replay_ok hs e 18 0 [] _ 0 (by omega) (by omega) (fun c hc => by simp at hc) a b
      exact ⟨c, d, hlt, f⟩
    · cases h
theorem secs_of {D : Disk} {X : Ext} (hF : Fits D X) (ok : D.ok) : secs (secOf D X) := fun i hi => secOf_len hF ok hi
def toChg (c : Nat × List UInt8) : Chg := ⟨c.1, c.2⟩
theorem layC_map (L : List (List UInt8)) (ws : List (Nat × List UInt8)) : layC L (ws.map toChg) = layP L ws := by
  rw [layC, layP, List.foldl_map]; rfl
theorem settle_pre {D D' : Disk} {X : Ext} {pre : List (Int × List UInt8)} (h : pw X pre D = (D', 0)) (P : List (List UInt8)) (e : UInt32) (home : Nat) : settle D X pre P e home = settle D' X [] P e home := by
  rw [settle, settle, List.nil_append, pall_append, h, if_pos rfl]
theorem settle_bad {D : Disk} {X : Ext} {pre : List (Int × List UInt8)} (h : (pw X pre D).2 ≠ 0) (P : List (List UInt8)) (e : UInt32) (home : Nat) : settle D X pre P e home = pw X pre D := by
  rw [settle, pall_append, if_neg h, if_neg h]
end Nac

set_option linter.unusedVariables false
set_option linter.unusedSimpArgs false
namespace Nac
/-! ### what a part's sectors have -/
def dat (D : Disk) (X : Ext) (i : Nat) : List UInt8 := D.has.getD (X.from_ + i).toNat []
theorem secOf_dat {D : Disk} {X : Ext} (h : D.waits = []) : secOf D X = dat D X := by
  funext i; simp [secOf, dat, h, Disk.last]
def wr (X : Ext) (x : Int × List UInt8) : Wr := ⟨X.from_ + x.1, x.2⟩
def Ws (L : List (Int × List UInt8)) : Prop := ∀ x ∈ L, 0 ≤ x.1 ∧ x.1 < 52 ∧ x.2.length = 64
theorem Ws.tail {x : Int × List UInt8} {L : List (Int × List UInt8)} (h : Ws (x :: L)) : Ws L := fun y hy => h y (by simp [hy])
theorem pwrite_goes {D : Disk} {X : Ext} (hF : Fits D X) {a : Int} {b : List UInt8} (h0 : 0 ≤ a) (h52 : a < 52) (hb : b.length = 64) : pwrite D X a b = cond D.goes.2 ({ D.goes.1 with waits := D.goes.1.waits ++ [⟨X.from_ + a, b⟩] }, 0) (D.goes.1, 9) := by
  have := hF.f0; have := hF.n52; have := hF.lies
  rw [pwrite, if_pos ⟨h0, by omega⟩, Disk.write, Disk.inB, decide_eq_true (by omega), decide_eq_true (by omega), if_pos hb]
  rfl
/-- a call of a disk whose power is on -/
theorem goes_on {D : Disk} (ho : D.off = false) : (D.goes.2 = true ∧ D.goes.1.has = D.has ∧ D.goes.1.waits = D.waits ∧ D.goes.1.off = false ∧ D.goes.1.surv = D.surv ∧ (D.left < 0 → D.goes.1.left = D.left)) ∨
    (D.goes.2 = false ∧ D.left = 0 ∧ D.goes.1 = D.crash D.surv) := by
  unfold Disk.goes
  rw [ho]
  simp only [cond_false]
  by_cases h0 : D.left = 0
  · rw [if_pos h0]; exact .inr ⟨rfl, h0, rfl⟩
  · rw [if_neg h0]
    left
    by_cases h1 : 0 < D.left
    · rw [if_pos h1]; exact ⟨rfl, rfl, rfl, by first | exact ho | rfl, rfl, fun h => by omega⟩
    · rw [if_neg h1]; exact ⟨rfl, rfl, rfl, by first | exact ho | rfl, rfl, fun _ => rfl⟩
theorem crash_on {D : Disk} (ho : D.off = false) (s : List Bool) : D.crash s = { D with has := Disk.layS D.has D.waits s, waits := [], off := true, left := -1 } := by rw [Disk.crash, ho]; rfl
structure Went (D D' : Disk) (ws : List Wr) : Prop where
  has : D'.has = D.has
  waits : D'.waits = ws
  off : D'.off = false
  surv : D'.surv = D.surv
  left : D.left < 0 → D'.left = D.left
structure Fell (D D' : Disk) (ws : List Wr) : Prop where
  has : D'.has = Disk.layS D.has ws D.surv
  waits : D'.waits = []
  off : D'.off = true
  armed : 0 ≤ D.left
theorem pw_any {X : Ext} : ∀ {L : List (Int × List UInt8)} {D : Disk}, Fits D X → D.off = false → Ws L →
    ((pw X L D).2 = 0 ∧ Went D (pw X L D).1 (D.waits ++ L.map (wr X))) ∨ ((pw X L D).2 = 9 ∧ ∃ m, m ≤ L.length ∧ Fell D (pw X L D).1 (D.waits ++ (L.take m).map (wr X)))
  | [], D, _, ho, _ => .inl ⟨rfl, rfl, by simp [pw], ho, rfl, fun _ => rfl⟩
  | (a, b) :: L, D, hF, ho, hL => by
    have h1 := hL (a, b) (by simp)
    rw [pw, pwrite_goes hF h1.1 h1.2.1 h1.2.2]
    rcases goes_on ho with ⟨g1, g2, g3, g4, g5, g6⟩ | ⟨g1, g2, g3⟩
    · rw [g1]
      simp only [cond_true, if_pos]
      have ih := pw_any (X := X) (L := L) (D := { D.goes.1 with waits := D.goes.1.waits ++ [⟨X.from_ + a, b⟩] }) ⟨hF.f0, hF.n52, by simp only [g2]; exact hF.lies⟩ g4 hL.tail
      have e : ∀ M : List (Int × List UInt8), D.goes.1.waits ++ [⟨X.from_ + a, b⟩] ++ M.map (wr X) = D.waits ++ ((a, b) :: M).map (wr X) := fun M => by rw [g3, List.map_cons]; simp [wr]
      rcases ih with ⟨h, w⟩ | ⟨h, m, hm, w⟩
      · left
        refine ⟨h, w.has.trans g2, w.waits.trans (e L), w.off, w.surv.trans g5, fun hl => ?_⟩
        have h2 := g6 hl
        rw [w.left (by simp only [h2]; exact hl)]; exact h2
      · right
        refine ⟨h, m + 1, by simp; omega, ?_, w.waits, w.off, ?_⟩
        · refine w.has.trans ?_
          show Disk.layS D.goes.1.has (D.goes.1.waits ++ [⟨X.from_ + a, b⟩] ++ (L.take m).map (wr X)) D.goes.1.surv = _
          rw [g2, g5, e, List.take_succ_cons]
        · have h3 := w.armed
          simp only at h3
          by_cases hl : D.left < 0
          · have := g6 hl; omega
          · omega
    · rw [g1]
      simp only [cond_false]
      rw [if_neg (by decide)]
      right
      refine ⟨rfl, 0, by simp, ?_, ?_, ?_, by omega⟩
      · simp [g3, crash_on ho]
      · simp [g3, crash_on ho]
      · simp [g3, crash_on ho]
theorem pall_any {X : Ext} {L : List (Int × List UInt8)} {D : Disk} (hF : Fits D X) (ho : D.off = false) (hw : D.waits = []) (hL : Ws L) :
    ((pall X L D).2 = 0 ∧ (pall X L D).1.has = Disk.layAll D.has (L.map (wr X)) ∧ (pall X L D).1.waits = [] ∧ (pall X L D).1.off = false ∧ (pall X L D).1.surv = D.surv ∧ (D.left < 0 → (pall X L D).1.left = D.left)) ∨
    ((pall X L D).2 = 9 ∧ ∃ m, m ≤ L.length ∧ Fell D (pall X L D).1 ((L.take m).map (wr X))) := by
  rw [pall_pw]
  rcases pw_any hF ho hL with ⟨h, w⟩ | ⟨h, m, hm, w⟩
  · rw [if_pos h]
    generalize (pw X L D).1 = D1 at w
    rw [hw, List.nil_append] at w
    rcases goes_on w.off with ⟨g1, g2, g3, g4, g5, g6⟩ | ⟨g1, g2, g3⟩
    · left
      rw [Disk.flush, g1]
      simp only [cond_true]
      refine ⟨trivial, by rw [g2, g3, w.has, w.waits], trivial, g4, g5.trans w.surv, fun hl => ?_⟩
      have := w.left hl
      rw [g6 (by omega), this]
    · right
      rw [Disk.flush, g1]
      simp only [cond_false]
      refine ⟨trivial, L.length, Nat.le_refl _, ?_, ?_, ?_, ?_⟩
      · rw [g3, crash_on w.off, List.take_length, w.has, w.waits, w.surv]
      · rw [g3, crash_on w.off]
      · rw [g3, crash_on w.off]
      · by_cases hl : D.left < 0
        · have := w.left hl; omega
        · omega
  · rw [if_neg (by rw [h]; decide)]
    rw [hw, List.nil_append] at w
    exact .inr ⟨h, m, hm, w⟩
/-! ### the sectors behind writes -/
def upd (at_ : Nat → List UInt8) (L : List (Int × List UInt8)) (i : Nat) : List UInt8 := L.foldl (fun b x => if x.1 = (i : Int) then x.2 else b) (at_ i)
theorem upd_out {L : List (Int × List UInt8)} {i : Nat} : ∀ {at_ : Nat → List UInt8}, (∀ x ∈ L, x.1 ≠ i) → upd at_ L i = at_ i := by
  unfold upd
  induction L with
  | nil => intro at_ _; rfl
  | cons x L ih =>
    intro at_ h
    rw [List.foldl_cons, if_neg (h x (by simp))]
    exact ih (at_ := at_) fun y hy => h y (by simp [hy])
theorem upd_in {L : List (Int × List UInt8)} {i : Nat} {x : Int × List UInt8} (hx : x ∈ L) (hi : x.1 = i) : ∀ {at_ : Nat → List UInt8}, L.Pairwise (fun a b => a.1 ≠ b.1) → upd at_ L i = x.2 := by
  unfold upd
  induction L with
  | nil => cases hx
  | cons y L ih =>
    intro at_ hp
    rw [List.foldl_cons]
    rcases List.mem_cons.1 hx with rfl | hx'
    · rw [if_pos hi]
      have := upd_out (L := L) (i := i) (at_ := fun _ => x.2) fun z hz h => (List.pairwise_cons.1 hp).1 z hz (by rw [hi, h])
      exact this
    · exact ih hx' (at_ := fun j => if y.1 = (i : Int) then y.2 else at_ i) (List.pairwise_cons.1 hp).2
theorem layAll_dat {X : Ext} (h0 : 0 ≤ X.from_) : ∀ {L : List (Int × List UInt8)} {has : List (List UInt8)}, Ws L → X.from_ + 52 ≤ has.length → ∀ i, i < 52 → (Disk.layAll has (L.map (wr X))).getD (X.from_ + (i : Nat)).toNat [] = upd (fun j => has.getD (X.from_ + (j : Nat)).toNat []) L i := by
  intro L
  unfold upd Disk.layAll
  induction L with
  | nil => intro has _ _ i _; rfl
  | cons x L ih =>
    intro has hL hl i hi
    have hx := hL x (by simp)
    rw [List.map_cons, List.foldl_cons, List.foldl_cons, ih hL.tail (by rw [Disk.lay_length]; exact hl) i hi]
    congr 1
    simp only [Disk.lay, wr, List.getD_eq_getElem?_getD]
    by_cases h : x.1 = (i : Int)
    · rw [if_pos h, h, List.getElem?_set_self (by omega)]; rfl
    · rw [if_neg h, List.getElem?_set_ne (by omega)]
theorem layAll_out {X : Ext} (h0 : 0 ≤ X.from_) : ∀ {L : List (Int × List UInt8)} {has : List (List UInt8)}, Ws L → ∀ i : Nat, ((i : Int) < X.from_ ∨ X.from_ + 52 ≤ i) → (Disk.layAll has (L.map (wr X)))[i]? = has[i]? := by
  intro L
  unfold Disk.layAll
  induction L with
  | nil => intro has _ i _; rfl
  | cons x L ih =>
    intro has hL i hi
    have hx := hL x (by simp)
    rw [List.map_cons, List.foldl_cons, ih hL.tail i hi]
    simp only [Disk.lay, wr]
    rw [List.getElem?_set_ne (by omega)]
theorem layS_dat {X : Ext} (h0 : 0 ≤ X.from_) : ∀ {L : List (Int × List UInt8)} {has : List (List UInt8)} {s : List Bool}, Ws L → X.from_ + 52 ≤ has.length → ∀ i, i < 52 →
    (Disk.layS has (L.map (wr X)) s).getD (X.from_ + (i : Nat)).toNat [] = has.getD (X.from_ + (i : Nat)).toNat [] ∨ ∃ x ∈ L, x.1 = (i : Int) ∧ (Disk.layS has (L.map (wr X)) s).getD (X.from_ + (i : Nat)).toNat [] = x.2
  | [], has, s, _, _, i, _ => by left; simp [Disk.layS]
  | x :: L, has, [], _, _, i, _ => by left; simp [Disk.layS]
  | x :: L, has, s :: r, hL, hl, i, hi => by
    have hx := hL x (by simp)
    rw [List.map_cons, Disk.layS]
    rcases layS_dat h0 (L := L) (has := cond s (Disk.lay has (wr X x)) has) (s := r) hL.tail (by cases s <;> simp [Disk.lay_length, hl]) i hi with h | ⟨y, hy, h1, h2⟩
    · rw [h]
      cases s
      · exact .inl rfl
      · simp only [cond_true, Disk.lay, wr, List.getD_eq_getElem?_getD]
        by_cases hxi : x.1 = (i : Int)
        · right
          refine ⟨x, by simp, hxi, ?_⟩
          rw [hxi, List.getElem?_set_self (by omega)]; rfl
        · left; rw [List.getElem?_set_ne (by omega)]
    · exact .inr ⟨y, by simp [hy], h1, h2⟩
/-! ### the log that lies in sectors -/
def Mix (at_ at' : Nat → List UInt8) (L : List (Int × List UInt8)) : Prop := ∀ i, i < 52 → at' i = at_ i ∨ ∃ x ∈ L, x.1 = (i : Int) ∧ at' i = x.2
structure LI (at_ : Nat → List UInt8) (W : Wal) : Prop where
  ok : W.ok
  alive : W.dead = false
  secs : secs at_
  head : at_ (W.epoch.toNat % 2) = sayS 72 W.epoch [b8 W.home]
  heads : headOf at_ = some (W.epoch, W.home)
  base : ∃ B : List (List UInt8), B.length = 16 ∧ (∀ x ∈ B, x.length = 40) ∧ (∀ i (hi : i < 16), at_ (2 + 16 * W.home + i) = sayS 80 W.epoch (b8 i :: B.getD i [])) ∧ replay at_ W.epoch 18 0 [] B 0 = (W.pages, W.used)
  nomark : ∀ k, k < 18 → ∀ e, isMark (at_ (34 + k)) e k = true → e.toNat < W.epoch.toNat ∨ (e = W.epoch ∧ k < W.used)
/-- no marks: nothing comes of it -/
theorem replay_none {at_ : Nat → List UInt8} {e : UInt32} : ∀ (f k : Nat) (ws : List (Nat × List UInt8)) (L : List (List UInt8)) (u : Nat), f + k = 18 → (∀ j, k ≤ j → j < 18 → isMark (at_ (34 + j)) e j = false) → replay at_ e f k ws L u = (L, u)
  | 0, k, ws, L, u, _, _ => rfl
  | f + 1, k, ws, L, u, hk, hm => by
    rw [replay]
    split
    · exact replay_none f (k + 1) _ L u (by omega) fun j hj hj2 => hm j (by omega) hj2
    · rw [if_neg (by rw [hm k (Nat.le_refl _) (by omega)]; decide)]
theorem replay_past {at_ : Nat → List UInt8} {e : UInt32} : ∀ (f k : Nat) (ws : List (Nat × List UInt8)) (L : List (List UInt8)) (u : Nat), replay at_ e f k ws L u = (L, u) ∨ k < (replay at_ e f k ws L u).2
  | 0, k, ws, L, u => .inl rfl
  | f + 1, k, ws, L, u => by
    rw [replay]
    split
    · rcases replay_past f (k + 1) (ws ++ [recOf (at_ (34 + k))]) L u with h | h
      · exact .inl h
      · exact .inr (by omega)
    · split
      · rcases replay_past f (k + 1) [] (layP L ws) (k + 1) with h | h
        · rw [h]; exact .inr (by simp)
        · exact .inr (by omega)
      · exact .inl rfl
/-- the records that count are followed up to the last mark -/
theorem replay_reach {at_ at' : Nat → List UInt8} {e : UInt32} : ∀ (f k : Nat) (ws : List (Nat × List UInt8)) (L P : List (List UInt8)) (u0 u : Nat), f + k = 18 → u0 ≤ k → replay at_ e f k ws L u0 = (P, u) → k < u → (∀ j, k ≤ j → j < u → at' (34 + j) = at_ (34 + j)) →
    replay at' e f k ws L u0 = replay at' e (18 - u) u [] P u
  | 0, k, ws, L, P, u0, u, hk, h0, h, hu, ha => by
    simp only [replay, Prod.mk.injEq] at h; omega
  | f + 1, k, ws, L, P, u0, u, hk, h0, h, hu, ha => by
    rw [replay] at h
    have hk1 := ha k (Nat.le_refl _) hu
    rw [replay, hk1]
    by_cases hr : isRec (at_ (34 + k)) e k = true
    · rw [if_pos hr] at h ⊢
      rcases replay_past (at_ := at_) (e := e) f (k + 1) (ws ++ [recOf (at_ (34 + k))]) L u0 with h2 | h2
      · rw [h2] at h; simp only [Prod.mk.injEq] at h; omega
      · rw [h] at h2
        exact replay_reach f (k + 1) _ L P u0 u (by omega) (by omega) h h2 fun j hj hj2 => ha j (by omega) hj2
    · rw [if_neg hr] at h ⊢
      by_cases hm : isMark (at_ (34 + k)) e k = true
      · rw [if_pos hm] at h ⊢
        rcases replay_past (at_ := at_) (e := e) f (k + 1) [] (layP L ws) (k + 1) with h2 | h2
        · rw [h2] at h
          simp only [Prod.mk.injEq] at h
          obtain ⟨rfl, rfl⟩ := h
          rw [show 18 - (k + 1) = f by omega]
        · rw [h] at h2
          exact replay_reach f (k + 1) _ _ P (k + 1) u (by omega) (by omega) h h2 fun j hj hj2 => ha j (by omega) hj2
      · rw [if_neg hm] at h
        simp only [Prod.mk.injEq] at h; omega
theorem replay_from {at_ at' : Nat → List UInt8} {e : UInt32} {B P : List (List UInt8)} {u : Nat} (h : replay at_ e 18 0 [] B 0 = (P, u)) (ha : ∀ j, j < u → at' (34 + j) = at_ (34 + j)) : replay at' e 18 0 [] B 0 = replay at' e (18 - u) u [] P u := by
  rcases Nat.eq_zero_or_pos u with h0 | h0
  · subst h0
    rcases replay_past (at_ := at_) (e := e) 18 0 [] B 0 with h2 | h2
    · rw [h2] at h; simp only [Prod.mk.injEq] at h; rw [h.1]
    · rw [h] at h2; simp at h2
  · exact replay_reach 18 0 [] B P 0 u rfl (Nat.le_refl _) h h0 fun j _ hj => ha j hj
theorem replay_recs {at_ : Nat → List UInt8} {e : UInt32} (xs : List (Nat × List UInt8)) : ∀ (n k f : Nat) (ws : List (Nat × List UInt8)) (L : List (List UInt8)) (u : Nat), n ≤ xs.length → f = n → (∀ j (hj : j < n), isRec (at_ (34 + (k + j))) e (k + j) = true ∧ recOf (at_ (34 + (k + j))) = xs.getD (xs.length - n + j) (0, [])) → ∀ g,
    replay at_ e (g + n) k ws L u = replay at_ e g (k + n) (ws ++ xs.drop (xs.length - n)) L u
  | 0, k, f, ws, L, u, _, _, _, g => by simp
  | n + 1, k, f, ws, L, u, hn, hf, h, g => by
    obtain ⟨h1, h2⟩ := h 0 (by omega)
    rw [Nat.add_zero] at h1 h2
    rw [show g + (n + 1) = (g + n) + 1 by omega, replay, if_pos h1, h2]
    have := replay_recs (at_ := at_) (e := e) xs n (k + 1) n (ws ++ [xs.getD (xs.length - (n + 1) + 0) (0, [])]) L u (by omega) rfl (fun j hj => by
      have := h (j + 1) (by omega)
      rw [show k + (j + 1) = k + 1 + j by omega, show xs.length - (n + 1) + (j + 1) = xs.length - n + j by omega] at this
      exact this) g
    rw [this, show k + 1 + n = k + (n + 1) by omega]
    congr 1
    rw [List.append_assoc, Nat.add_zero]
    congr 1
    have hlt : xs.length - (n + 1) < xs.length := by omega
    rw [List.drop_eq_getElem_cons hlt, List.getD_eq_getElem?_getD, List.getElem?_eq_getElem hlt, show xs.length - (n + 1) + 1 = xs.length - n by omega]
    rfl
end Nac

set_option linter.unusedVariables false
set_option linter.unusedSimpArgs false
namespace Nac
theorem sayS_first {k : UInt8} {e : UInt32} {x : UInt8} {r : List UInt8} (h : r.length + 1 ≤ 55) : (sayS k e (x :: r)).getD 5 0 = x ∧ ((sayS k e (x :: r)).drop 6).take r.length = r := by
  have hl : (sayS k e (x :: r)).length = 64 := sayS_length (by simpa using h)
  have h1 := sayS_rest (k := k) (e := e) (r := x :: r) (n := r.length + 1) rfl
  rw [take_drop5 hl] at h1
  exact ⟨(List.cons.inj h1).1, (List.cons.inj h1).2⟩
theorem isRec_rec {e e' : UInt32} {k : Nat} {x : UInt8} {r : List UInt8} (hr : r.length = 40) (hx : x.toNat < 16) : isRec (sayS 82 e (b8 k :: x :: r)) e k = true ∧ recOf (sayS 82 e (b8 k :: x :: r)) = (x.toNat, r) := by
  have h1 := sayS_first (k := 82) (e := e) (x := b8 k) (r := x :: r) (by simp [hr])
  have hl : (sayS 82 e (b8 k :: x :: r)).length = 64 := sayS_length (by simp [hr])
  have h6 : ((sayS 82 e (b8 k :: x :: r)).drop 6).take 41 = x :: r := by have := h1.2; simp only [List.length_cons, hr] at this; exact this
  have h7 : (sayS 82 e (b8 k :: x :: r)).getD 6 0 = x ∧ ((sayS 82 e (b8 k :: x :: r)).drop 7).take 40 = r := by
    rw [List.drop_eq_getElem_cons (show 6 < _ by omega), List.take_succ_cons] at h6
    obtain ⟨a, b⟩ := List.cons.inj h6
    exact ⟨by rw [List.getD_eq_getElem?_getD, List.getElem?_eq_getElem (by omega)]; exact a, b⟩
  refine ⟨?_, ?_⟩
  · rw [isRec, h6, h7.1, decide_eq_true hx]; simp
  · rw [recOf, h7.1, h7.2]
theorem kind_ne {k k' : UInt8} {e e' : UInt32} {r r' : List UInt8} (h : k ≠ k') : sayS k e r ≠ sayS k' e' r' := fun hc => h (by rw [← sayS_kind k e r, hc, sayS_kind])
theorem isMark_rec {e e' : UInt32} {k : Nat} {r : List UInt8} : isMark (sayS 82 e' r) e k = false := by
  rw [isMark, beq_eq_false_iff_ne]; exact kind_ne (by decide)
theorem isRec_mark {e e' : UInt32} {k : Nat} {r : List UInt8} : isRec (sayS 67 e' r) e k = false := by
  rw [isRec, beq_eq_false_iff_ne.2 (kind_ne (by decide))]; rfl
theorem isMark_mark {e e' : UInt32} {k : Nat} {x : UInt8} (h : isMark (sayS 67 e' [x]) e k = true) : e' = e := by
  rw [isMark, beq_iff_eq] at h
  exact (sayS_inj (by rfl) h).2.1
theorem LI.pages {at_ : Nat → List UInt8} {W : Wal} (h : LI at_ W) : wstate at_ = (W, 0) := by
  obtain ⟨B, b1, b2, b3, b4⟩ := h.base
  rw [wstate, h.heads]
  dsimp only
  have e40 : ∀ i (hi : i < 16), (B.getD i []).length = 40 := fun i hi => by
    rw [List.getD_eq_getElem?_getD, List.getElem?_eq_getElem (by omega)]; exact b2 _ (List.getElem_mem _)
  have hp : ∀ i (hi : i < 16), ((at_ (2 + 16 * W.home + i)).drop 6).take 40 = B.getD i [] := fun i hi => by
    have := (sayS_first (k := 80) (e := W.epoch) (x := b8 i) (r := B.getD i []) (by rw [e40 i hi]; decide)).2
    rw [e40 i hi] at this
    rw [b3 i hi, this]
  rw [if_pos (List.all_eq_true.2 fun i hi => by
    have hi' : i < 16 := by simpa using hi
    rw [pageOk, hp i hi', beq_iff_eq]; exact b3 i hi')]
  have hB : (List.range 16).map (pageOf at_ W.home) = B := by
    apply List.ext_getElem?
    intro i
    by_cases hi : i < 16
    · rw [List.getElem?_map, List.getElem?_range hi, Option.map_some, pageOf, hp i hi, List.getD_eq_getElem?_getD, List.getElem?_eq_getElem (by omega)]; rfl
    · rw [List.getElem?_eq_none (by simpa using hi), List.getElem?_eq_none (by omega)]
  rw [hB, b4]
  have := h.alive
  obtain ⟨p, e, hm, u, d⟩ := W
  simp only at this ⊢
  rw [this]
/-- sectors that turn where nothing counts -/
theorem LI.same {at_ at' : Nat → List UInt8} {W : Wal} (h : LI at_ W) (hs : Nac.secs at') (h0 : at' 0 = at_ 0) (h1 : at' 1 = at_ 1) (hb : ∀ i, i < 16 → at' (2 + 16 * W.home + i) = at_ (2 + 16 * W.home + i)) (hu : ∀ j, j < W.used → at' (34 + j) = at_ (34 + j))
    (hm : ∀ k, k < 18 → ∀ e, isMark (at' (34 + k)) e k = true → e.toNat < W.epoch.toNat ∨ (e = W.epoch ∧ k < W.used)) : LI at' W := by
  obtain ⟨B, b1, b2, b3, b4⟩ := h.base
  refine ⟨h.ok, h.alive, hs, ?_, by rw [headOf, h0, h1]; exact h.heads, ⟨B, b1, b2, fun i hi => by rw [hb i hi]; exact b3 i hi, ?_⟩, hm⟩
  · have : W.epoch.toNat % 2 = 0 ∨ W.epoch.toNat % 2 = 1 := by omega
    have hh := h.head
    rcases this with e | e
    · rw [e] at hh ⊢; rw [h0]; exact hh
    · rw [e] at hh ⊢; rw [h1]; exact hh
  · rw [replay_from b4 hu, replay_none _ _ _ _ _ (by have := h.ok.used; omega)]
    intro j hj hj2
    cases hc : isMark (at' (34 + j)) W.epoch j with
    | false => rfl
    | true => rcases hm j hj2 _ hc with h2 | h2 <;> omega
/-- records and their mark -/
theorem LI.more {at_ at' : Nat → List UInt8} {W : Wal} {l : List Chg} (h : LI at_ W) (hs : Nac.secs at') (hl : ∀ c ∈ l, 0 ≤ c.page ∧ c.page < 16 ∧ c.data.length = 40) (hn : W.used + l.length + 1 ≤ 18)
    (h0 : at' 0 = at_ 0) (h1 : at' 1 = at_ 1) (hb : ∀ i, i < 16 → at' (2 + 16 * W.home + i) = at_ (2 + 16 * W.home + i)) (hu : ∀ j, j < W.used → at' (34 + j) = at_ (34 + j))
    (hr : ∀ j (hj : j < l.length), at' (34 + (W.used + j)) = (recW W.epoch (W.used + j) l[j]).2) (hmk : at' (34 + (W.used + l.length)) = (markW W.epoch (W.used + l.length)).2)
    (ho : ∀ k, W.used + l.length < k → k < 18 → at' (34 + k) = at_ (34 + k)) : LI at' { W with pages := layC W.pages l, used := W.used + l.length + 1, dead := false } := by
  obtain ⟨B, b1, b2, b3, b4⟩ := h.base
  have hlay : (layC W.pages l).length = 16 ∧ ∀ x ∈ layC W.pages l, x.length = 40 := by
    have e1 : layC W.pages l = layP W.pages (l.map fun c => (c.page.toNat, c.data)) := by rw [layC, layP, List.foldl_map]
    rw [e1]
    exact layP_ok h.ok.n16 h.ok.all40 fun c hc => by
      simp only [List.mem_map] at hc
      obtain ⟨y, hy, rfl⟩ := hc
      exact (hl y hy).2.2
  have hmarks : ∀ k, k < 18 → ∀ e, isMark (at' (34 + k)) e k = true → e.toNat < W.epoch.toNat ∨ (e = W.epoch ∧ k < W.used + l.length + 1) := by
    intro k hk e hc
    rcases Nat.lt_or_ge k W.used with h2 | h2
    · rw [hu k h2] at hc
      rcases h.nomark k hk e hc with h3 | h3
      · exact .inl h3
      · exact .inr ⟨h3.1, by omega⟩
    rcases Nat.lt_or_ge k (W.used + l.length) with h3 | h3
    · have := hr (k - W.used) (by omega)
      rw [show W.used + (k - W.used) = k by omega] at this
      rw [this, recW, isMark_rec] at hc; cases hc
    rcases Nat.eq_or_lt_of_le h3 with h4 | h4
    · subst h4
      rw [hmk, markW] at hc
      exact .inr ⟨(isMark_mark hc).symm, by omega⟩
    · rw [ho k h4 hk] at hc
      rcases h.nomark k hk e hc with h5 | h5
      · exact .inl h5
      · omega
  refine ⟨⟨hlay.1, hlay.2, h.ok.home, by simp only; omega⟩, rfl, hs, ?_, by rw [headOf, h0, h1]; exact h.heads, ⟨B, b1, b2, fun i hi => by simp only; rw [hb i hi]; exact b3 i hi, ?_⟩, hmarks⟩
  · have : W.epoch.toNat % 2 = 0 ∨ W.epoch.toNat % 2 = 1 := by omega
    have hh := h.head
    simp only
    rcases this with e | e
    · rw [e] at hh ⊢; rw [h0]; exact hh
    · rw [e] at hh ⊢; rw [h1]; exact hh
  · simp only
    rw [replay_from b4 hu, show 18 - W.used = (17 - W.used - l.length + 1) + l.length by omega]
    have hx := replay_recs (at_ := at') (e := W.epoch) (l.map fun c => (c.page.toNat, c.data)) l.length W.used l.length [] W.pages W.used (by simp) rfl (fun j hj => by
      have c := hl l[j] (List.getElem_mem hj)
      rw [hr j hj, recW]
      have hb8 : (b8 l[j].page).toNat = l[j].page.toNat := by have := b8_toNat (n := l[j].page) c.1 (by omega); omega
      obtain ⟨r1, r2⟩ := isRec_rec (e := W.epoch) (e' := W.epoch) (k := W.used + j) (x := b8 l[j].page) (r := l[j].data) c.2.2 (by omega)
      refine ⟨r1, ?_⟩
      rw [r2, hb8, List.getD_eq_getElem?_getD]
      simp [hj]) (17 - W.used - l.length + 1)
    rw [hx]
    simp only [List.length_map, Nat.sub_self, List.drop_zero, List.nil_append]
    rw [replay, hmk, markW, if_neg (by rw [isRec_mark]; decide), if_pos (by rw [isMark, beq_iff_eq])]
    rw [replay_none]
    · rw [layC, layP, List.foldl_map]
    · omega
    · intro j hj hj2
      cases hc : isMark (at' (34 + j)) W.epoch j with
      | false => rfl
      | true => rcases hmarks j hj2 _ hc with h2 | h2 <;> omega
theorem headStep_say {f : Option (UInt32 × Nat)} {i : Nat} {e : UInt32} {h : Nat} (hh : h < 2) : headStep f i (sayS 72 e [b8 h]) = if e.toNat % 2 = i ∧ (∀ x ∈ f, x.1 < e) then some (e, h) else f := by
  have h5 := (sayS_first (k := 72) (e := e) (x := b8 h) (r := []) (by decide)).1
  have hb : (b8 (h : Int)).toNat = h := b8_nat (by omega)
  rw [headStep, sayS_ep, h5, hb]
  by_cases hc : e.toNat % 2 = i ∧ ∀ x ∈ f, x.1 < e
  · rw [if_pos hc, if_pos ⟨⟨rfl, hc.1, hh⟩, hc.2⟩]
  · rw [if_neg hc, if_neg fun hx => hc ⟨hx.1.2.1, hx.2⟩]
theorem succ_nat {e : UInt32} (h : e ≠ 4294967295) : (e + 1).toNat = e.toNat + 1 := by
  have h1 : e.toNat ≠ 4294967295 := fun hc => h (UInt32.toNat.inj hc)
  have := e.toNat_lt
  rw [UInt32.toNat_add, show (1 : UInt32).toNat = 1 by decide]; omega
/-- pages and the head in the other home -/
theorem LI.check {at_ at' : Nat → List UInt8} {W : Wal} (h : LI at_ W) (hs : Nac.secs at') (he : W.epoch ≠ 4294967295) (hh : at' ((W.epoch + 1).toNat % 2) = (headW (1 - W.home) (W.epoch + 1)).2) (hk : at' (W.epoch.toNat % 2) = at_ (W.epoch.toNat % 2))
    (hb : ∀ i (hi : i < 16), at' (2 + 16 * (1 - W.home) + i) = sayS 80 (W.epoch + 1) (b8 i :: W.pages.getD i [])) (hr : ∀ k, k < 18 → at' (34 + k) = at_ (34 + k)) : LI at' { W with epoch := W.epoch + 1, home := 1 - W.home, used := 0, dead := false } := by
  have hs1 := succ_nat he
  have hhome := h.ok.home
  have hmark : ∀ k, k < 18 → ∀ e, isMark (at' (34 + k)) e k = true → e.toNat < W.epoch.toNat + 1 := by
    intro k hk2 e hc
    rw [hr k hk2] at hc
    rcases h.nomark k hk2 e hc with h2 | h2
    · omega
    · rw [h2.1]; omega
  refine ⟨⟨h.ok.n16, h.ok.all40, by simp only; omega, by simp only; omega⟩, rfl, hs, hh, ?_, ⟨W.pages, h.ok.n16, h.ok.all40, hb, ?_⟩, fun k hk2 e hc => by simp only; rw [hs1]; exact .inl (hmark k hk2 e hc)⟩
  · have h2 := h.head
    rw [← hk] at h2
    rw [headW] at hh
    simp only at hh ⊢
    have hp : W.epoch.toNat % 2 = 0 ∧ (W.epoch + 1).toNat % 2 = 1 ∨ W.epoch.toNat % 2 = 1 ∧ (W.epoch + 1).toNat % 2 = 0 := by omega
    rw [headOf]
    rcases hp with ⟨p1, p2⟩ | ⟨p1, p2⟩
    · rw [p1] at h2; rw [p2] at hh
      rw [h2, hh, headStep_say h.ok.home, if_pos ⟨p1, fun x hx => by cases hx⟩, headStep_say (by omega), if_pos ⟨p2, fun x hx => by cases hx; rw [UInt32.lt_iff_toNat_lt]; show W.epoch.toNat < _; omega⟩]
    · rw [p1] at h2; rw [p2] at hh
      rw [h2, hh, headStep_say (f := none) (h := 1 - W.home) (by omega), if_pos ⟨p2, fun x hx => by cases hx⟩, headStep_say h.ok.home, if_neg]
      rintro ⟨_, hx⟩
      have := hx (W.epoch + 1, 1 - W.home) rfl
      rw [UInt32.lt_iff_toNat_lt] at this
      simp only at this
      omega
  · simp only
    rw [replay_none]
    · rfl
    · intro j hj hj2
      cases hc : isMark (at' (34 + j)) (W.epoch + 1) j with
      | false => rfl
      | true => have := hmark j hj2 _ hc; omega
end Nac

set_option linter.unusedVariables false
set_option linter.unusedSimpArgs false
namespace Nac
theorem upd_mix {at_ : Nat → List UInt8} {L : List (Int × List UInt8)} : Mix at_ (upd at_ L) L := by
  intro i _
  unfold upd
  generalize at_ i = b
  induction L generalizing b with
  | nil => exact .inl rfl
  | cons x L ih =>
    rw [List.foldl_cons]
    rcases ih (if x.1 = (i : Int) then x.2 else b) with h | ⟨y, hy, h1, h2⟩
    · by_cases hx : x.1 = (i : Int)
      · rw [if_pos hx] at h ⊢; exact .inr ⟨x, by simp, hx, h⟩
      · rw [if_neg hx] at h ⊢; exact .inl h
    · exact .inr ⟨y, by simp [hy], h1, h2⟩
theorem Mix.secs {at_ at' : Nat → List UInt8} {L : List (Int × List UInt8)} (h : Mix at_ at' L) (hs : secs at_) (hL : Ws L) : secs at' := fun i hi => by
  rcases h i hi with h | ⟨x, hx, _, h⟩
  · rw [h]; exact hs i hi
  · rw [h]; exact (hL x hx).2.2
theorem Mix.out {at_ at' : Nat → List UInt8} {L : List (Int × List UInt8)} (h : Mix at_ at' L) {i : Nat} (hi : i < 52) (ho : ∀ x ∈ L, x.1 ≠ i) : at' i = at_ i := by
  rcases h i hi with h | ⟨x, hx, h2, _⟩
  · exact h
  · exact absurd h2 (ho x hx)
/-- writes and a flush: all of it, or the power fell and some of it -/
theorem pall_dat {X : Ext} {L : List (Int × List UInt8)} {D : Disk} (hF : Fits D X) (ho : D.off = false) (hw : D.waits = []) (hL : Ws L) :
    ((pall X L D).2 = 0 ∧ (∀ i, i < 52 → dat (pall X L D).1 X i = upd (dat D X) L i) ∧ (pall X L D).1.waits = [] ∧ (pall X L D).1.off = false ∧ (D.left < 0 → (pall X L D).1.left = D.left)) ∨
    ((pall X L D).2 = 9 ∧ Mix (dat D X) (dat (pall X L D).1 X) L ∧ (pall X L D).1.waits = [] ∧ (pall X L D).1.off = true ∧ 0 ≤ D.left) := by
  rcases pall_any hF ho hw hL with ⟨h1, h2, h3, h4, h5, h6⟩ | ⟨h1, m, hm, h2⟩
  · refine .inl ⟨h1, fun i hi => ?_, h3, h4, h6⟩
    have := layAll_dat hF.f0 hL hF.lies i hi
    rw [← h2] at this
    exact this
  · refine .inr ⟨h1, fun i hi => ?_, h2.waits, h2.off, h2.armed⟩
    have hL2 : Ws (L.take m) := fun x hx => hL x (List.mem_of_mem_take hx)
    have := layS_dat (s := D.surv) hF.f0 hL2 hF.lies i hi
    rw [← h2.has] at this
    rcases this with h | ⟨x, hx, a, b⟩
    · exact .inl h
    · exact .inr ⟨x, List.mem_of_mem_take hx, a, b⟩
theorem pall_fits {X : Ext} {L : List (Int × List UInt8)} {D : Disk} (hF : Fits D X) : Fits (pall X L D).1 X := ⟨hF.f0, hF.n52, by rw [pall_length]; exact hF.lies⟩
/-! ### what is written -/
theorem mem_recsW {e : UInt32} {u : Nat} {l : List Chg} {x : Int × List UInt8} : x ∈ recsW e u l ↔ ∃ j, ∃ hj : j < l.length, x = recW e (u + j) l[j] := by
  rw [recsW, List.mem_map]
  constructor
  · rintro ⟨⟨c, j⟩, h, rfl⟩
    obtain ⟨h1, h2⟩ := List.mem_zipIdx' h
    exact ⟨j, h1, by simp only; rw [h2]⟩
  · rintro ⟨j, hj, rfl⟩
    exact ⟨(l[j], j), by rw [List.mk_mem_zipIdx_iff_getElem?]; simp [hj], rfl⟩
theorem mem_pagesW {home : Nat} {e : UInt32} {P : List (List UInt8)} {x : Int × List UInt8} : x ∈ pagesW home e P ↔ ∃ j, ∃ hj : j < P.length, x = pageW home e j P[j] := by
  rw [pagesW, List.mem_map]
  constructor
  · rintro ⟨⟨c, j⟩, h, rfl⟩
    obtain ⟨h1, h2⟩ := List.mem_zipIdx' h
    exact ⟨j, h1, by simp only; rw [h2]⟩
  · rintro ⟨j, hj, rfl⟩
    exact ⟨(P[j], j), by rw [List.mk_mem_zipIdx_iff_getElem?]; simp [hj], rfl⟩
theorem recsW_pw (e : UInt32) (u : Nat) (l : List Chg) : (recsW e u l).Pairwise fun a b => a.1 ≠ b.1 := by
  rw [List.pairwise_iff_getElem]
  intro i j hi hj hij
  simp only [recsW, List.getElem_map, List.getElem_zipIdx, recW]
  omega
theorem pagesW_pw (home : Nat) (e : UInt32) (P : List (List UInt8)) : (pagesW home e P).Pairwise fun a b => a.1 ≠ b.1 := by
  rw [List.pairwise_iff_getElem]
  intro i j hi hj hij
  simp only [pagesW, List.getElem_map, List.getElem_zipIdx, pageW]
  omega
theorem Ws_recs {e : UInt32} {u : Nat} {l : List Chg} (hl : ∀ c ∈ l, 0 ≤ c.page ∧ c.page < 16 ∧ c.data.length = 40) (hn : u + l.length ≤ 18) : Ws (recsW e u l) := fun x hx => by
  obtain ⟨j, hj, rfl⟩ := mem_recsW.1 hx
  have := hl l[j] (List.getElem_mem hj)
  exact ⟨by simp only [recW]; omega, by simp only [recW]; omega, sayS_length (by simp [this.2.2])⟩
theorem Ws_mark {e : UInt32} {k : Nat} (hk : k < 18) : Ws [markW e k] := fun x hx => by
  simp at hx; subst hx
  exact ⟨by simp only [markW]; omega, by simp only [markW]; omega, sayS_length (by simp)⟩
theorem Ws_head {home : Nat} {e : UInt32} : Ws [headW home e] := fun x hx => by
  simp at hx; subst hx
  exact ⟨by simp only [headW]; omega, by simp only [headW]; omega, sayS_length (by simp)⟩
theorem Ws_pages {home : Nat} {e : UInt32} {P : List (List UInt8)} (hh : home < 2) (hP : P.length = 16) (h40 : ∀ x ∈ P, x.length = 40) : Ws (pagesW home e P) := fun x hx => by
  obtain ⟨j, hj, rfl⟩ := mem_pagesW.1 hx
  have := h40 P[j] (List.getElem_mem hj)
  exact ⟨by simp only [pageW]; omega, by simp only [pageW]; omega, sayS_length (by simp [this])⟩
/-! ### the log behind records, whole or in part -/
theorem LI.recs {at_ at' : Nat → List UInt8} {W : Wal} {l : List Chg} (h : LI at_ W) (hl : ∀ c ∈ l, 0 ≤ c.page ∧ c.page < 16 ∧ c.data.length = 40) (hn : W.used + l.length + 1 ≤ 18) (hm : Mix at_ at' (recsW W.epoch W.used l)) : LI at' W := by
  have hw := Ws_recs (e := W.epoch) hl (show W.used + l.length ≤ 18 by omega)
  have hhome := h.ok.home
  have pos : ∀ {i : Nat}, i < 34 + W.used → ∀ x ∈ recsW W.epoch W.used l, x.1 ≠ i := fun hi x hx => by
    obtain ⟨j, hj, rfl⟩ := mem_recsW.1 hx
    simp only [recW]; omega
  refine h.same (hm.secs h.secs hw) (hm.out (by decide) (pos (by omega))) (hm.out (by decide) (pos (by omega))) (fun i hi => hm.out (by omega) (pos (by omega))) (fun j hj => hm.out (by have := h.ok.used; omega) (pos (by omega))) fun k hk e hc => ?_
  rcases hm (34 + k) (by omega) with h2 | ⟨x, hx, h2, h3⟩
  · rw [h2] at hc; exact h.nomark k hk e hc
  · obtain ⟨j, hj, rfl⟩ := mem_recsW.1 hx
    rw [h3, recW, isMark_rec] at hc; cases hc
theorem LI.otherPages {at_ at' : Nat → List UInt8} {W : Wal} {e : UInt32} (h : LI at_ W) (hm : Mix at_ at' (pagesW (1 - W.home) e W.pages)) : LI at' W := by
  have hhome := h.ok.home
  have hP := h.ok.n16
  have hw := Ws_pages (home := 1 - W.home) (e := e) (by omega) h.ok.n16 h.ok.all40
  have pos : ∀ {i : Nat}, (i < 2 ∨ 34 ≤ i ∨ (2 + 16 * W.home ≤ i ∧ i < 18 + 16 * W.home)) → ∀ x ∈ pagesW (1 - W.home) e W.pages, x.1 ≠ i := fun hi x hx => by
    obtain ⟨j, hj, rfl⟩ := mem_pagesW.1 hx
    simp only [pageW]; omega
  refine h.same (hm.secs h.secs hw) (hm.out (by decide) (pos (by omega))) (hm.out (by decide) (pos (by omega))) (fun i hi => hm.out (by omega) (pos (by omega))) (fun j hj => hm.out (by have := h.ok.used; omega) (pos (by omega))) fun k hk e' hc => ?_
  rw [hm.out (by omega) (pos (by omega))] at hc
  exact h.nomark k hk e' hc
theorem LI.withDead {at_ : Nat → List UInt8} {W : Wal} (h : LI at_ W) : W = { W with dead := false } := by
  have := h.alive
  obtain ⟨p, e, hm, u, d⟩ := W
  simp only at this ⊢
  rw [this]
/-- the disk behind a part of a commit, the power still on -/
structure Good (D : Disk) (X : Ext) (W : Wal) : Prop where
  fits : Fits D X
  on : D.off = false
  waits : D.waits = []
  li : LI (dat D X) W
/-- the power fell -/
structure Bad (D : Disk) (X : Ext) (W W' : Wal) : Prop where
  fits : Fits D X
  off : D.off = true
  waits : D.waits = []
  li : LI (dat D X) W'
theorem wwrite_LI {D : Disk} {X : Ext} {W : Wal} {l : List Chg} (G : Good D X W) (hl : ∀ c ∈ l, 0 ≤ c.page ∧ c.page < 16 ∧ c.data.length = 40) (hn : W.used + l.length + 1 ≤ 18) :
    ((wwrite D X W l).2.2 = 0 ∧ Good (wwrite D X W l).1 X (wwrite D X W l).2.1 ∧ (wwrite D X W l).2.1.pages = layC W.pages l ∧ (D.left < 0 → (wwrite D X W l).1.left = D.left)) ∨
    ((wwrite D X W l).2.2 = 9 ∧ 0 ≤ D.left ∧ (wwrite D X W l).2.1.pages = W.pages ∧ ∃ W', Bad (wwrite D X W l).1 X W W' ∧ (W'.pages = W.pages ∨ W'.pages = layC W.pages l)) := by
  obtain ⟨hF, ho, hw, h⟩ := G
  have hW1 := Ws_recs (e := W.epoch) hl (show W.used + l.length ≤ 18 by omega)
  have hF1 := pall_fits (L := recsW W.epoch W.used l) hF
  rcases pall_dat hF ho hw hW1 with ⟨a1, a2, a3, a4, a5⟩ | ⟨a1, a2, a3, a4, a5⟩
  · have hm1 : Mix (dat D X) (dat (pall X (recsW W.epoch W.used l) D).1 X) (recsW W.epoch W.used l) := fun i hi => by rw [a2 i hi]; exact upd_mix i hi
    have hli1 := h.recs hl hn hm1
    unfold wwrite
    simp only [a1, if_true]
    generalize hD1 : (pall X (recsW W.epoch W.used l) D).1 = D1 at *
    have hF2 := pall_fits (L := [markW W.epoch (W.used + l.length)]) hF1
    have hsec : ∀ at' : Nat → List UInt8, Mix (dat D1 X) at' [markW W.epoch (W.used + l.length)] → at' (34 + (W.used + l.length)) = (markW W.epoch (W.used + l.length)).2 → LI at' { W with pages := layC W.pages l, used := W.used + l.length + 1, dead := false } := fun at' hm hmk => by
      have hhome := h.ok.home
      have pos : ∀ {i : Nat}, i ≠ 34 + (W.used + l.length) → ∀ x ∈ [markW W.epoch (W.used + l.length)], x.1 ≠ i := fun hi x hx => by
        simp at hx; subst hx; simp only [markW]; omega
      have pos1 : ∀ {i : Nat}, (i < 34 + W.used ∨ 34 + (W.used + l.length) ≤ i) → ∀ x ∈ recsW W.epoch W.used l, x.1 ≠ i := fun hi x hx => by
        obtain ⟨j, hj, rfl⟩ := mem_recsW.1 hx
        simp only [recW]; omega
      have two : ∀ {i : Nat}, i < 52 → (i < 34 + W.used ∨ 34 + (W.used + l.length) < i) → at' i = dat D X i := fun hi hc => by
        rw [hm.out hi (pos (by omega)), a2 _ hi, upd_out (pos1 (by omega))]
      refine h.more (hm.secs hli1.secs (Ws_mark (by omega))) hl hn (two (by decide) (by omega)) (two (by decide) (by omega)) (fun i hi => two (by omega) (by omega)) (fun j hj => two (by omega) (by omega)) (fun j hj => ?_) hmk fun k hk hk2 => two (by omega) (by omega)
      rw [hm.out (by omega) (pos (by omega)), a2 _ (by omega)]
      exact upd_in (mem_recsW.2 ⟨j, hj, rfl⟩) (by simp only [recW]) (recsW_pw _ _ _)
    rcases pall_dat hF1 a4 a3 (Ws_mark (e := W.epoch) (k := W.used + l.length) (by omega)) with ⟨b1, b2, b3, b4, b5⟩ | ⟨b1, b2, b3, b4, b5⟩
    · left
      simp only [b1, if_true]
      refine ⟨trivial, ⟨hF2, b4, b3, ?_⟩, trivial, fun hl => by rw [b5 (by rw [a5 hl]; exact hl), a5 hl]⟩
      refine hsec _ (fun i hi => by rw [b2 i hi]; exact upd_mix i hi) ?_
      rw [b2 _ (by omega)]
      exact upd_in (x := markW W.epoch (W.used + l.length)) (by simp) (by simp only [markW]) (by simp)
    · right
      simp only [b1]
      rw [if_neg (by decide)]
      refine ⟨rfl, ?_, rfl, ?_⟩
      · by_cases hneg : D.left < 0
        · have := a5 hneg; omega
        · omega
      · rcases b2 (34 + (W.used + l.length)) (by omega) with hc | ⟨x, hx, hc, hc2⟩
        · have hm2 : ∀ i, i < 52 → dat (pall X [markW W.epoch (W.used + l.length)] D1).1 X i = dat D1 X i := fun i hi => by
            rcases b2 i hi with h2 | ⟨x, hx, h2, h3⟩
            · exact h2
            · simp at hx; subst hx
              have : i = 34 + (W.used + l.length) := by simp only [markW] at h2; omega
              subst this; exact hc
          have hme : Mix (dat D X) (dat (pall X [markW W.epoch (W.used + l.length)] D1).1 X) (recsW W.epoch W.used l) := fun i hi => by rw [hm2 i hi]; exact hm1 i hi
          exact ⟨W, ⟨hF2, b4, b3, h.recs hl hn hme⟩, .inl rfl⟩
        · simp at hx; subst hx
          exact ⟨_, ⟨hF2, b4, b3, hsec _ b2 hc2⟩, .inr rfl⟩
  · right
    unfold wwrite
    simp only [a1]
    rw [if_neg (by decide)]
    exact ⟨rfl, a5, rfl, W, ⟨hF1, a4, a3, h.recs hl hn a2⟩, .inl rfl⟩
theorem wcheck_LI {D : Disk} {X : Ext} {W : Wal} (G : Good D X W) (he : W.epoch ≠ 4294967295) :
    ((wcheck D X W).2.2 = 0 ∧ Good (wcheck D X W).1 X (wcheck D X W).2.1 ∧ (wcheck D X W).2.1.pages = W.pages ∧ (wcheck D X W).2.1.used = 0 ∧ (D.left < 0 → (wcheck D X W).1.left = D.left)) ∨
    ((wcheck D X W).2.2 = 9 ∧ 0 ≤ D.left ∧ (wcheck D X W).2.1.pages = W.pages ∧ ∃ W', Bad (wcheck D X W).1 X W W' ∧ W'.pages = W.pages) := by
  obtain ⟨hF, ho, hw, h⟩ := G
  have hhome := h.ok.home
  have hP := h.ok.n16
  have hs1 := succ_nat he
  have hW1 := Ws_pages (home := 1 - W.home) (e := W.epoch + 1) (by omega) h.ok.n16 h.ok.all40
  have hF1 := pall_fits (L := pagesW (1 - W.home) (W.epoch + 1) W.pages) hF
  unfold wcheck settle
  rw [List.nil_append]
  rcases pall_dat hF ho hw hW1 with ⟨a1, a2, a3, a4, a5⟩ | ⟨a1, a2, a3, a4, a5⟩
  · have hm1 : Mix (dat D X) (dat (pall X (pagesW (1 - W.home) (W.epoch + 1) W.pages) D).1 X) (pagesW (1 - W.home) (W.epoch + 1) W.pages) := fun i hi => by rw [a2 i hi]; exact upd_mix i hi
    have hli1 := h.otherPages hm1
    simp only [a1, if_true]
    generalize hD1 : (pall X (pagesW (1 - W.home) (W.epoch + 1) W.pages) D).1 = D1 at *
    have hF2 := pall_fits (L := [headW (1 - W.home) (W.epoch + 1)]) hF1
    have hsec : ∀ at' : Nat → List UInt8, Mix (dat D1 X) at' [headW (1 - W.home) (W.epoch + 1)] → at' ((W.epoch + 1).toNat % 2) = (headW (1 - W.home) (W.epoch + 1)).2 → LI at' { W with epoch := W.epoch + 1, home := 1 - W.home, used := 0, dead := false } := fun at' hm hmk => by
      have pos : ∀ {i : Nat}, i ≠ (W.epoch + 1).toNat % 2 → ∀ x ∈ [headW (1 - W.home) (W.epoch + 1)], x.1 ≠ i := fun hi x hx => by
        simp at hx; subst hx; simp only [headW]; omega
      have pos1 : ∀ {i : Nat}, (i < 2 ∨ 34 ≤ i) → ∀ x ∈ pagesW (1 - W.home) (W.epoch + 1) W.pages, x.1 ≠ i := fun hi x hx => by
        obtain ⟨j, hj, rfl⟩ := mem_pagesW.1 hx
        simp only [pageW]; omega
      refine h.check (hm.secs hli1.secs Ws_head) he hmk ?_ (fun i hi => ?_) fun k hk => ?_
      · rw [hm.out (by omega) (pos (by omega)), a2 _ (by omega), upd_out (pos1 (by omega))]
      · rw [hm.out (by omega) (pos (by omega)), a2 _ (by omega)]
        rw [upd_in (x := pageW (1 - W.home) (W.epoch + 1) i (W.pages[i]'(by omega))) (mem_pagesW.2 ⟨i, by omega, rfl⟩) (by simp only [pageW]) (pagesW_pw _ _ _)]
        simp only [pageW]
        rw [List.getD_eq_getElem?_getD, List.getElem?_eq_getElem (by omega)]; rfl
      · rw [hm.out (by omega) (pos (by omega)), a2 _ (by omega), upd_out (pos1 (by omega))]
    rcases pall_dat hF1 a4 a3 (Ws_head (home := 1 - W.home) (e := W.epoch + 1)) with ⟨b1, b2, b3, b4, b5⟩ | ⟨b1, b2, b3, b4, b5⟩
    · left
      simp only [b1, if_true]
      refine ⟨trivial, ⟨hF2, b4, b3, ?_⟩, trivial, trivial, fun hl => by rw [b5 (by rw [a5 hl]; exact hl), a5 hl]⟩
      refine hsec _ (fun i hi => by rw [b2 i hi]; exact upd_mix i hi) ?_
      rw [b2 _ (by omega)]
      exact upd_in (x := headW (1 - W.home) (W.epoch + 1)) (by simp) (by simp only [headW]) (by simp)
    · right
      simp only [b1]
      rw [if_neg (by decide)]
      refine ⟨rfl, ?_, rfl, ?_⟩
      · by_cases hneg : D.left < 0
        · have := a5 hneg; omega
        · omega
      · rcases b2 ((W.epoch + 1).toNat % 2) (by omega) with hc | ⟨x, hx, hc, hc2⟩
        · have hm2 : ∀ i, i < 52 → dat (pall X [headW (1 - W.home) (W.epoch + 1)] D1).1 X i = dat D1 X i := fun i hi => by
            rcases b2 i hi with h2 | ⟨x, hx, h2, h3⟩
            · exact h2
            · simp at hx; subst hx
              have : i = (W.epoch + 1).toNat % 2 := by simp only [headW] at h2; omega
              subst this; exact hc
          have hme : Mix (dat D X) (dat (pall X [headW (1 - W.home) (W.epoch + 1)] D1).1 X) (pagesW (1 - W.home) (W.epoch + 1) W.pages) := fun i hi => by rw [hm2 i hi]; exact hm1 i hi
          exact ⟨W, ⟨hF2, b4, b3, h.otherPages hme⟩, rfl⟩
        · simp at hx; subst hx
          exact ⟨_, ⟨hF2, b4, b3, hsec _ b2 hc2⟩, rfl⟩
  · right
    have e1 : ¬ (pall X (pagesW (1 - W.home) (W.epoch + 1) W.pages) D).2 = 0 := by rw [a1]; decide
    simp only [e1, if_false]
    exact ⟨a1, a5, trivial, W, ⟨hF1, a4, a3, h.otherPages a2⟩, rfl⟩
/-- a commit -/
theorem wcommit_LI {D : Disk} {X : Ext} {W : Wal} {l : List Chg} (G : Good D X W) :
    ((wcommit D X W l).2.2 = 0 ∧ rightC l = true ∧ Good (wcommit D X W l).1 X (wcommit D X W l).2.1 ∧ (wcommit D X W l).2.1.pages = layC W.pages l ∧ (D.left < 0 → (wcommit D X W l).1.left < 0)) ∨
    ((wcommit D X W l).2.2 ≠ 0 ∧ (wcommit D X W l).2.2 ≠ 9 ∧ (wcommit D X W l).1 = D ∧ (wcommit D X W l).2.1 = W) ∨
    ((wcommit D X W l).2.2 = 9 ∧ rightC l = true ∧ 0 ≤ D.left ∧ (wcommit D X W l).2.1.pages = W.pages ∧ ∃ W', Bad (wcommit D X W l).1 X W W' ∧ (W'.pages = W.pages ∨ W'.pages = layC W.pages l)) := by
  have ha := G.li.alive
  have hu := G.li.ok.used
  unfold wcommit
  rw [if_neg (by rw [ha]; decide)]
  by_cases hr : rightC l = false
  · rw [if_pos hr]; exact .inr (.inl ⟨by show (1 : Int) ≠ 0; decide, by show (1 : Int) ≠ 9; decide, rfl, rfl⟩)
  have hr' : rightC l = true := by simpa using hr
  rw [if_neg hr]
  have hrr := hr'
  simp only [rightC, Bool.and_eq_true, decide_eq_true_eq, List.all_eq_true] at hrr
  have hl : ∀ c ∈ l, 0 ≤ c.page ∧ c.page < 16 ∧ c.data.length = 40 := fun c hc => ⟨(hrr.2 c hc).1.1, (hrr.2 c hc).1.2, (hrr.2 c hc).2⟩
  by_cases h0 : l.length = 0
  · rw [if_pos h0]
    have : l = [] := List.eq_nil_of_length_eq_zero h0
    subst this
    exact .inl ⟨rfl, hr', G, rfl, fun h => h⟩
  rw [if_neg h0]
  by_cases hfit : W.used + l.length + 1 > 18
  · rw [if_pos hfit]
    by_cases he : W.epoch = 4294967295
    · rw [if_pos he]; exact .inr (.inl ⟨by show (5 : Int) ≠ 0; decide, by show (5 : Int) ≠ 9; decide, rfl, rfl⟩)
    rw [if_neg he]
    rcases wcheck_LI G he with ⟨c1, c2, c3, c4, c5⟩ | ⟨c1, c2, c3, W', c4, c5⟩
    · rw [if_pos c1]
      rcases wwrite_LI (l := l) c2 hl (by rw [c4]; omega) with ⟨d1, d2, d3, d4⟩ | ⟨d1, d2, d3, W', d4, d5⟩
      · exact .inl ⟨d1, hr', d2, by rw [d3, c3], fun h => by rw [d4 (by rw [c5 h]; exact h), c5 h]; exact h⟩
      · refine .inr (.inr ⟨d1, hr', ?_, by rw [d3, c3], W', ⟨d4.fits, d4.off, d4.waits, d4.li⟩, by rw [← c3]; exact d5⟩)
        by_cases hneg : D.left < 0
        · have := c5 hneg; omega
        · omega
    · rw [if_neg (by rw [c1]; decide)]
      exact .inr (.inr ⟨c1, hr', c2, c3, W', c4, .inl c5⟩)
  · rw [if_neg hfit]
    rcases wwrite_LI (l := l) G hl (by omega) with ⟨d1, d2, d3, d4⟩ | ⟨d1, d2, d3, W', d4, d5⟩
    · exact .inl ⟨d1, hr', d2, d3, fun h => by rw [d4 h]; exact h⟩
    · exact .inr (.inr ⟨d1, hr', d2, d3, W', d4, d5⟩)
end Nac

set_option linter.unusedVariables false
set_option linter.unusedSimpArgs false
namespace Nac
theorem zeros_ne {k : UInt8} {e : UInt32} {r : List UInt8} (h : k ≠ 0) : zeros64 ≠ sayS k e r := fun hc => h (by rw [← sayS_kind k e r, ← hc]; rfl)
def W0 : Wal := ⟨List.replicate 16 page0, 1, 0, 0, false⟩
theorem page0_all : (List.replicate 16 page0).length = 16 ∧ ∀ x ∈ List.replicate 16 page0, x.length = 40 := by
  refine ⟨by simp, fun x hx => ?_⟩
  rw [List.eq_of_mem_replicate hx]; rfl
theorem Ws_zeros : Ws zerosW := fun x hx => by
  simp only [zerosW, List.mem_map, List.mem_range] at hx
  obtain ⟨j, hj, rfl⟩ := hx
  exact ⟨by simp only; omega, by simp only; omega, by simp [zeros64]⟩
theorem format_good {D : Disk} {X : Ext} (hF : Fits D X) (ho : D.off = false) (hw : D.waits = []) (hl : D.left < 0) (hz : ∀ i, i < 52 → dat D X i = zeros64) :
    (format D X).2 = 0 ∧ Good (format D X).1 X W0 ∧ (format D X).1.left < 0 := by
  have hWp := Ws_pages (home := 0) (e := 1) (by decide) page0_all.1 page0_all.2
  have hW : Ws (zerosW ++ pagesW 0 1 (List.replicate 16 page0)) := fun x hx => (List.mem_append.1 hx).elim (Ws_zeros x) (hWp x)
  have hF1 := pall_fits (L := zerosW ++ pagesW 0 1 (List.replicate 16 page0)) hF
  unfold format settle
  rcases pall_dat hF ho hw hW with ⟨a1, a2, a3, a4, a5⟩ | ⟨_, _, _, _, a5⟩
  · simp only [a1, if_true]
    generalize hD1 : (pall X (zerosW ++ pagesW 0 1 (List.replicate 16 page0)) D).1 = D1 at *
    have hF2 := pall_fits (L := [headW 0 1]) hF1
    rcases pall_dat hF1 a4 a3 (Ws_head (home := 0) (e := 1)) with ⟨b1, b2, b3, b4, b5⟩ | ⟨_, _, _, _, b5⟩
    · refine ⟨b1, ⟨hF2, b4, b3, ?_⟩, by rw [b5 (by rw [a5 hl]; exact hl), a5 hl]; exact hl⟩
      have posh : ∀ {i : Nat}, i ≠ 1 → ∀ x ∈ [headW 0 1], x.1 ≠ i := fun hi x hx => by
        simp at hx; subst hx; simp only [headW]
        rw [show (1 : UInt32).toNat % 2 = 1 by decide]; omega
      have posp : ∀ {i : Nat}, (i < 2 ∨ 18 ≤ i) → ∀ x ∈ pagesW 0 1 (List.replicate 16 page0), x.1 ≠ i := fun hi x hx => by
        obtain ⟨j, hj, rfl⟩ := mem_pagesW.1 hx
        simp only [List.length_replicate] at hj
        simp only [pageW]; omega
      have happ : ∀ i, upd (dat D X) (zerosW ++ pagesW 0 1 (List.replicate 16 page0)) i = upd (upd (dat D X) zerosW) (pagesW 0 1 (List.replicate 16 page0)) i := fun i => by
        simp only [upd, List.foldl_append]
      have hzz : ∀ i, i < 52 → upd (dat D X) zerosW i = zeros64 := fun i hi => by
        rcases upd_mix (at_ := dat D X) (L := zerosW) i hi with h | ⟨x, hx, _, h⟩
        · rw [h]; exact hz i hi
        · rw [h]
          simp only [zerosW, List.mem_map] at hx
          obtain ⟨j, _, rfl⟩ := hx
          rfl
      have low : ∀ i, i < 52 → i ≠ 1 → (i < 2 ∨ 18 ≤ i) → dat (pall X [headW 0 1] D1).1 X i = zeros64 := fun i hi h1 h2 => by
        rw [b2 i hi, upd_out (posh h1), a2 i hi, happ, upd_out (posp h2), hzz i hi]
      have hd : dat (pall X [headW 0 1] D1).1 X 1 = sayS 72 1 [b8 (0 : Nat)] := by
        rw [b2 1 (by decide)]
        exact upd_in (x := headW 0 1) (by simp) (by simp only [headW]; decide) (by simp)
      have hpg : ∀ i, (hi : i < 16) → dat (pall X [headW 0 1] D1).1 X (2 + 16 * 0 + i) = sayS 80 1 (b8 i :: (List.replicate 16 page0).getD i []) := fun i hi => by
        rw [b2 _ (by omega), upd_out (posh (by omega)), a2 _ (by omega), happ, upd_in (x := pageW 0 1 i ((List.replicate 16 page0)[i]'(by simpa using hi))) (mem_pagesW.2 ⟨i, by simpa using hi, rfl⟩) (by simp only [pageW]) (pagesW_pw _ _ _)]
        simp only [pageW, List.getD_eq_getElem?_getD]
        rw [List.getElem?_eq_getElem (by simpa using hi)]; rfl
      have hno : ∀ k, k < 18 → ∀ e, isMark (dat (pall X [headW 0 1] D1).1 X (34 + k)) e k = false := fun k hk e => by
        rw [low _ (by omega) (by omega) (by omega), isMark, beq_eq_false_iff_ne]; exact zeros_ne (by decide)
      have hs : secs (dat (pall X [headW 0 1] D1).1 X) := fun i hi => by
        by_cases h1 : i = 1
        · subst h1; rw [hd]; exact sayS_length (by simp)
        by_cases h2 : i < 2 ∨ 18 ≤ i
        · rw [low i hi h1 h2]; rfl
        · have := hpg (i - 2) (by omega)
          rw [show 2 + 16 * 0 + (i - 2) = i by omega] at this
          rw [this]
          refine sayS_length ?_
          rw [List.length_cons, List.getD_eq_getElem?_getD, List.getElem?_eq_getElem (by rw [List.length_replicate]; omega), Option.getD_some, List.getElem_replicate]
          decide
      refine ⟨⟨page0_all.1, page0_all.2, by decide, by decide⟩, rfl, hs, hd, ?_, ⟨_, page0_all.1, page0_all.2, hpg, replay_none _ _ _ _ _ rfl fun j _ hj => hno j hj _⟩, fun k hk e hc => ?_⟩
      · rw [headOf, hd, low 0 (by decide) (by decide) (by decide)]
        have h0 : headStep none 0 zeros64 = none := by
          rw [headStep, if_neg]; rintro ⟨⟨h, _⟩, _⟩; exact zeros_ne (by decide) h
        rw [h0, headStep_say (by decide), if_pos ⟨by decide, fun x hx => by cases hx⟩]; rfl
      · rw [hno k hk e] at hc; cases hc
    · rw [a5 hl] at b5; omega
  · omega
theorem Good.wopen {D : Disk} {X : Ext} {W : Wal} (G : Good D X W) : wopen D X = (W, 0) := by
  rw [Nac.wopen, G.on, secOf_dat G.waits]; exact G.li.pages
theorem Good.off {D : Disk} {X : Ext} {W : Wal} (G : Good D X W) : D.off = false := G.on
theorem Good.has {D D' : Disk} {X : Ext} {W : Wal} (G : Good D X W) (h : D'.has = D.has) (hw : D'.waits = []) (ho : D'.off = false) : Good D' X W :=
  ⟨⟨G.fits.f0, G.fits.n52, by rw [h]; exact G.fits.lies⟩, ho, hw, by
    have : dat D' X = dat D X := by funext i; simp only [dat, h]
    rw [this]; exact G.li⟩
theorem Bad.power {D D' : Disk} {X : Ext} {W W' : Wal} (G : Bad D X W W') (h : D'.has = D.has) (hw : D'.waits = []) (ho : D'.off = false) : Good D' X W' :=
  ⟨⟨G.fits.f0, G.fits.n52, by rw [h]; exact G.fits.lies⟩, ho, hw, by
    have : dat D' X = dat D X := by funext i; simp only [dat, h]
    rw [this]; exact G.li⟩
theorem arm_facts (D : Disk) (n : Int) (s : List Bool) : (D.arm n s).has = D.has ∧ (D.arm n s).waits = D.waits ∧ (D.arm n s).off = D.off := by
  unfold Disk.arm; cases h : D.off
  · exact ⟨rfl, rfl, by first | rfl | exact h⟩
  · exact ⟨rfl, rfl, by first | rfl | exact h⟩
theorem wwrite_len {D : Disk} {X : Ext} {W : Wal} {l : List Chg} : (wwrite D X W l).1.has.length = D.has.length := by
  unfold wwrite; (repeat' split) <;> simp only [pall_length]
theorem wcheck_len {D : Disk} {X : Ext} {W : Wal} : (wcheck D X W).1.has.length = D.has.length := by
  unfold wcheck settle; (repeat' split) <;> simp only [pall_length]
theorem wcommit_fits {D : Disk} {X : Ext} {W : Wal} {l : List Chg} : (wcommit D X W l).1.has.length = D.has.length := by
  unfold wcommit; (repeat' split) <;> first | rfl | rw [wwrite_len, wcheck_len] | rw [wwrite_len] | rw [wcheck_len]
/-- a quiet commit: nothing outside the part turns -/
theorem pall_quiet_out {X : Ext} {L : List (Int × List UInt8)} {D : Disk} (hF : Fits D X) (ho : D.off = false) (hw : D.waits = []) (hl : D.left < 0) (hL : Ws L) {i : Nat} (hi : (i : Int) < X.from_ ∨ X.from_ + 52 ≤ i) : (pall X L D).1.has[i]? = D.has[i]? := by
  rcases pall_any hF ho hw hL with ⟨_, h2, _⟩ | ⟨_, m, _, h2⟩
  · rw [h2]; exact layAll_out hF.f0 hL i hi
  · have := h2.armed; omega
theorem wcommit_out {D : Disk} {X : Ext} {W : Wal} {l : List Chg} (G : Good D X W) (hl : D.left < 0) {i : Nat} (hi : (i : Int) < X.from_ ∨ X.from_ + 52 ≤ i) : (wcommit D X W l).1.has[i]? = D.has[i]? := by
  have hu := G.li.ok.used
  have hhome := G.li.ok.home
  have ww : ∀ {D : Disk} {W : Wal}, Good D X W → D.left < 0 → (∀ c ∈ l, 0 ≤ c.page ∧ c.page < 16 ∧ c.data.length = 40) → W.used + l.length + 1 ≤ 18 → (wwrite D X W l).1.has[i]? = D.has[i]? := fun {D W} G hl hr hn => by
    have hW1 := Ws_recs (e := W.epoch) hr (show W.used + l.length ≤ 18 by omega)
    have h1 := pall_quiet_out G.fits G.on G.waits hl hW1 hi
    unfold wwrite
    rcases pall_dat G.fits G.on G.waits hW1 with ⟨a1, a2, a3, a4, a5⟩ | ⟨a1, a2, a3, a4, a5⟩
    · have h2 := pall_quiet_out (pall_fits G.fits) a4 a3 (by rw [a5 hl]; exact hl) (Ws_mark (e := W.epoch) (k := W.used + l.length) (by omega)) hi
      simp only [a1, if_true]
      split <;> rw [h2, h1]
    · omega
  unfold wcommit
  split
  · rfl
  split
  · rfl
  rename_i hr
  have hr' : rightC l = true := by simpa using hr
  have hrr := hr'
  simp only [rightC, Bool.and_eq_true, decide_eq_true_eq, List.all_eq_true] at hrr
  have hl2 : ∀ c ∈ l, 0 ≤ c.page ∧ c.page < 16 ∧ c.data.length = 40 := fun c hc => ⟨(hrr.2 c hc).1.1, (hrr.2 c hc).1.2, (hrr.2 c hc).2⟩
  split
  · rfl
  split
  · split
    · rfl
    · rename_i he
      have hW1 := Ws_pages (home := 1 - W.home) (e := W.epoch + 1) (by omega) G.li.ok.n16 G.li.ok.all40
      have hc : (wcheck D X W).1.has[i]? = D.has[i]? := by
        unfold wcheck settle
        rw [List.nil_append]
        have h1 := pall_quiet_out G.fits G.on G.waits hl hW1 hi
        rcases pall_dat G.fits G.on G.waits hW1 with ⟨a1, a2, a3, a4, a5⟩ | ⟨a1, a2, a3, a4, a5⟩
        · have h2 := pall_quiet_out (pall_fits G.fits) a4 a3 (by rw [a5 hl]; exact hl) (Ws_head (home := 1 - W.home) (e := W.epoch + 1)) hi
          simp only [a1, if_true]
          split <;> rw [h2, h1]
        · omega
      rcases wcheck_LI G he with ⟨c1, c2, c3, c4, c5⟩ | ⟨c1, c2, _⟩
      · rw [if_pos c1, ww c2 (by rw [c5 hl]; exact hl) hl2 (by rw [c4]; omega), hc]
      · omega
  · exact ww G hl hl2 (by omega)
/-- a disk whose power never fails -/
structure Quiet (D : Disk) : Prop where
  on : D.off = false
  left : D.left < 0
theorem goes_quiet {D : Disk} (q : Quiet D) : D.goes = (D, true) := by
  have := q.left
  rw [Disk.goes, q.on, cond_false, if_neg (by omega), if_neg (by omega)]
theorem pwrite_quiet {D : Disk} {X : Ext} {a : Int} {b : List UInt8} (q : Quiet D) : Quiet (pwrite D X a b).1 := by
  unfold pwrite; split
  · unfold Disk.write
    cases D.inB (X.from_ + a)
    · exact q
    · simp only [cond_true]; split
      · rw [goes_quiet q]; exact ⟨q.on, q.left⟩
      · exact q
  · exact q
theorem pw_quiet {X : Ext} : ∀ {L : List (Int × List UInt8)} {D : Disk}, Quiet D → Quiet (pw X L D).1
  | [], D, q => q
  | (a, b) :: L, D, q => by
    rw [pw]; split
    · exact pw_quiet (pwrite_quiet q)
    · exact pwrite_quiet q
theorem flush_quiet {D : Disk} (q : Quiet D) : Quiet D.flush.1 := by rw [Disk.flush, goes_quiet q]; exact ⟨q.on, q.left⟩
theorem pall_quiet {X : Ext} {L : List (Int × List UInt8)} {D : Disk} (q : Quiet D) : Quiet (pall X L D).1 := by
  rw [pall_pw]; split
  · exact flush_quiet (pw_quiet q)
  · exact pw_quiet q
theorem wcommit_quiet {D : Disk} {X : Ext} {W : Wal} {l : List Chg} (q : Quiet D) : Quiet (wcommit D X W l).1 := by
  have ww : ∀ {D : Disk} {W : Wal}, Quiet D → Quiet (wwrite D X W l).1 := fun {D W} q => by
    unfold wwrite
    repeat (first | exact pall_quiet (pall_quiet q) | exact pall_quiet q | split)
  have hc : Quiet (wcheck D X W).1 := by
    unfold wcheck settle
    repeat (first | exact pall_quiet (pall_quiet q) | exact pall_quiet q | split)
  unfold wcommit
  repeat (first | exact q | exact ww hc | exact hc | exact ww q | split)
end Nac
namespace Nac
theorem format_out {D : Disk} {X : Ext} (hF : Fits D X) (ho : D.off = false) (hw : D.waits = []) (hl : D.left < 0) {i : Nat} (hi : (i : Int) < X.from_ ∨ X.from_ + 52 ≤ i) : (format D X).1.has[i]? = D.has[i]? := by
  have hWp := Ws_pages (home := 0) (e := 1) (by decide) page0_all.1 page0_all.2
  have hW : Ws (zerosW ++ pagesW 0 1 (List.replicate 16 page0)) := fun x hx => (List.mem_append.1 hx).elim (Ws_zeros x) (hWp x)
  have h1 := pall_quiet_out hF ho hw hl hW hi
  unfold format settle
  rcases pall_dat hF ho hw hW with ⟨a1, a2, a3, a4, a5⟩ | ⟨_, _, _, _, a5⟩
  · have h2 := pall_quiet_out (pall_fits hF) a4 a3 (by rw [a5 hl]; exact hl) (Ws_head (home := 0) (e := 1)) hi
    simp only [a1, if_true]
    rw [h2, h1]
  · omega
theorem format_len {D : Disk} {X : Ext} : (format D X).1.has.length = D.has.length := by
  unfold format settle; (repeat' split) <;> simp only [pall_length]
theorem wwrite_used {D : Disk} {X : Ext} {W : Wal} {l : List Chg} (h : (wwrite D X W l).2.2 = 0) : (wwrite D X W l).2.1.used = W.used + l.length + 1 := by
  unfold wwrite at h ⊢
  split
  · rename_i h1
    rw [if_pos h1] at h
    split
    · rfl
    · rename_i h2; rw [if_neg h2] at h; exact absurd h h2
  · rename_i h1
    rw [if_neg h1] at h; exact absurd h h1
theorem wcommit_fit {D : Disk} {X : Ext} {W : Wal} {l : List Chg} (ha : W.dead = false) (hr : rightC l = true) (h0 : l.length ≠ 0) (hn : W.used + l.length + 1 ≤ 18) : wcommit D X W l = wwrite D X W l := by
  rw [wcommit, if_neg (by rw [ha]; decide), if_neg (by rw [hr]; decide), if_neg h0, if_neg (by omega)]
end Nac
