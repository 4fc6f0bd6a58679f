import Derived.Test.YtkfcmpngcanffaaDoorNc
set_option linter.unusedVariables false
set_option linter.unusedSimpArgs false
namespace Nac
def zeros64 : List UInt8 := List.replicate 64 0
/-! ### The numbers come back out of their bytes -/
theorem get_put1 (c : UInt8) : (get [c]).toNat = c.toNat := get_single c
theorem b8_toNat {n : Int} (h0 : 0 ≤ n) (h1 : n ≤ 255) : ((b8 n).toNat : Int) = n := by
  simp only [b8, UInt8.toNat_ofNat']; omega
theorem or_shift (a : UInt64) (c : UInt8) (h : a.toNat < 2 ^ 56) : ((a <<< 8) ||| c.toUInt64).toNat = a.toNat * 256 + c.toNat := by
  have hc := c.toNat_lt
  rw [UInt64.toNat_or, UInt64.toNat_shiftLeft, show (8 : UInt64).toNat % 64 = 8 from rfl, Nat.shiftLeft_eq]
  have e : a.toNat * 2 ^ 8 % 2 ^ 64 = 2 ^ 8 * a.toNat := by rw [Nat.mod_eq_of_lt (by omega)]; omega
  rw [e, show c.toUInt64.toNat = c.toNat by simp, ← Nat.two_pow_add_eq_or_of_lt (by omega)]
  omega
theorem get_lt : ∀ (k : Nat), k ≤ 7 → ∀ (l : List UInt8), l.length = k → (get l).toNat < 256 ^ k
  | 0, _, [], _ => by decide
  | k + 1, hk, c :: l, h => by
    have ih := get_lt k (by omega) l (by simpa using h)
    have hc := c.toNat_lt
    have h56 : 256 ^ k ≤ 256 ^ 6 := Nat.pow_le_pow_right (by decide) (by omega)
    rw [get, or_shift _ _ (by omega), Nat.pow_succ]
    omega
theorem get_put_nat : ∀ (k : Nat), k ≤ 7 → ∀ (n : UInt64), (get (put n k)).toNat = n.toNat % 256 ^ k
  | 0, _, n => by simp [put, get, Nat.mod_one]
  | k + 1, hk, n => by
    have ih := get_put_nat k (by omega) (n >>> 8)
    have hl := get_lt k (by omega) (put (n >>> 8) k) (by simp)
    have h56 : 256 ^ k ≤ 256 ^ 6 := Nat.pow_le_pow_right (by decide) (by omega)
    rw [put, get, or_shift _ _ (by omega), ih, UInt64.toNat_shiftRight, show (8 : UInt64).toNat % 64 = 8 from rfl, Nat.shiftRight_eq_div_pow, UInt64.toNat_toUInt8]
    rw [show (2 : Nat) ^ 8 = 256 from rfl, Nat.pow_succ, Nat.mul_comm (256 ^ k) 256, Nat.mod_mul]
    omega
theorem get_put4 (v : UInt32) : (get (put v.toUInt64 4)).toUInt32 = v := by
  have h := get_put_nat 4 (by decide) v.toUInt64
  have hv := v.toNat_lt
  apply UInt32.toNat_inj.1
  rw [UInt64.toNat_toUInt32, h]
  simp only [UInt32.toNat_toUInt64]
  omega
/-! ### An entry's sector says it -/
theorem ent_asec (n : Nat) (x : Entry) (h : may x = true) : ent (asec n x) = x := by
  simp only [may, Bool.and_eq_true, decide_eq_true_eq] at h
  obtain ⟨⟨⟨⟨⟨h1, h2⟩, h3⟩, h4⟩, h5⟩, h6⟩ := h
  have e4 : ∃ a b c d, put (u64 n) 4 = [a, b, c, d] := ⟨_, _, _, _, rfl⟩
  have ev : ∃ a b c d, put x.version.toUInt64 4 = [a, b, c, d] := ⟨_, _, _, _, rfl⟩
  have hg := get_put4 x.version
  obtain ⟨a, b, c, d, e4⟩ := e4
  obtain ⟨a', b', c', d', ev⟩ := ev
  rw [ev] at hg
  obtain ⟨k, p, v, cd⟩ := x
  simp only at *
  unfold ent asec seal_
  rw [e4, ev]
  simp only [Entry.mk.injEq]
  refine ⟨?_, ?_, ?_, ?_⟩
  · show ((get [b8 k]).toNat : Int) = k
    rw [get_single, b8_toNat (by omega) (by omega)]
  · show ((get [b8 p]).toNat : Int) = p
    rw [get_single, b8_toNat (by omega) (by omega)]
  · exact hg
  · show ((get [b8 cd]).toNat : Int) = cd
    rw [get_single, b8_toNat (by omega) (by omega)]
theorem said_asec (n : Nat) (x : Entry) (h : may x = true) : said n (asec n x) = true := by
  rw [said, ent_asec n x h, h]; simp
theorem said_zeros (n : Nat) : said n zeros64 = false := by
  have : may (ent zeros64) = false := by decide
  simp [said, this]
/-! ### What the entries are, and the disk -/
structure KI (c : Nat) (D : Disk) (L : List Entry) : Prop where
  ok : D.ok
  n12 : D.has.length = 12
  off : D.off = false
  waits : D.waits = []
  left : D.left = -1
  len : L.length ≤ c
  c9 : c ≤ 9
  has : ∀ (i : Nat) (x : Entry), L[i]? = some x → D.has[2 + i]? = some (asec i x) ∧ may x = true
  no : ∀ (j : Nat), L.length ≤ j → j < c → D.has[2 + j]? = some zeros64
theorem read_quiet {D : Disk} (hw : D.waits = []) (ho : D.off = false) {n : Nat} {s : List UInt8} (h : D.has[n]? = some s) : D.read n = (s, 0) := by
  have hlt : n < D.has.length := (List.getElem?_eq_some_iff.1 h).1
  have hi : D.inB n = true := by simp [Disk.inB, hlt]
  simp [Disk.read, hi, ho, hw, Disk.last, List.getD_eq_getElem?_getD, h]
theorem scan_KI {c : Nat} {D : Disk} {L : List Entry} (K : KI c D L) : ∀ k n, k + n = c → n ≤ L.length → scan D ⟨2, c⟩ k n = (L.drop n, 0) := by
  intro k
  induction k with
  | zero =>
    intro n h1 h2
    have := K.len
    rw [scan, List.drop_of_length_le (by omega)]
  | succ k ih =>
    intro n h1 h2
    have hp : ∀ s, D.has[2 + n]? = some s → pread D ⟨2, c⟩ n = (s, 0) := fun s hs => by
      rw [pread, if_pos (by simp only; omega)]
      have := read_quiet K.waits K.off hs
      rw [← this]; congr 1
    rw [scan]
    by_cases hn : n < L.length
    · obtain ⟨h3, h4⟩ := K.has n _ (List.getElem?_eq_getElem hn)
      rw [hp _ h3, if_neg (by simp), if_pos (said_asec n _ h4), ih (n + 1) (by omega) (by omega), ent_asec n _ h4, List.drop_eq_getElem_cons hn]
    · have h3 := K.no n (by omega) (by omega)
      rw [hp _ h3, if_neg (by simp), if_neg (by simp [said_zeros]), List.drop_of_length_le (by omega)]
theorem scan_all {c : Nat} {D : Disk} {L : List Entry} (K : KI c D L) : scan D ⟨2, c⟩ c 0 = (L, 0) := by
  have := scan_KI K c 0 rfl (Nat.zero_le _)
  simpa using this
theorem KI_new {c : Nat} (hc : c ≤ 9) : KI c (Disk.new 12) [] := by
  refine ⟨⟨fun s hs => ?_, by simp [Disk.new], fun w hw => by simp [Disk.new] at hw, by simp [Disk.new]⟩, by simp [Disk.new], rfl, rfl, rfl, by simp, hc, fun i x h => by simp at h, fun j _ hj => ?_⟩
  · simp only [Disk.new] at hs
    have := List.eq_of_mem_replicate hs
    rw [this]; simp
  · rw [Disk.new]
    show (List.replicate 12 (List.replicate 64 0))[2 + j]? = _
    rw [List.getElem?_replicate, if_pos (by omega)]; rfl
/-- behind an entry whose sector was laid -/
theorem KI_more {c : Nat} {D D' : Disk} {L : List Entry} {x : Entry} (K : KI c D L) (hm : may x = true) (hl : L.length < c) (h : D'.has = D.has.set (2 + L.length) (asec L.length x)) (hw : D'.waits = []) (ho : D'.off = false) (hf : D'.left = -1) : KI c D' (L ++ [x]) := by
  have h12 := K.n12
  refine ⟨⟨fun s hs => ?_, by rw [h, List.length_set]; omega, fun w hw' => by rw [hw] at hw'; simp at hw', by rw [hf]; decide⟩, by rw [h, List.length_set, h12], ho, hw, hf, by simp; omega, K.c9, fun i y hi => ?_, fun j hj hj2 => ?_⟩
  · rw [h] at hs
    rcases List.mem_or_eq_of_mem_set hs with h1 | h1
    · exact K.ok.has s h1
    · rw [h1]; exact asec_length _ _
  · rw [h]
    have := K.c9
    by_cases hil : i < L.length
    · rw [List.getElem?_append_left hil] at hi
      rw [List.getElem?_set_ne (by omega)]
      exact K.has i y hi
    · have hlt := (List.getElem?_eq_some_iff.1 hi).1
      simp at hlt
      obtain rfl : i = L.length := by omega
      rw [List.getElem?_append_right (Nat.le_refl _), Nat.sub_self] at hi
      simp at hi; subst hi
      exact ⟨by rw [List.getElem?_set_self (by omega)], hm⟩
  · simp at hj
    rw [h, List.getElem?_set_ne (by omega)]
    exact K.no j (by omega) hj2
theorem KI_same {c : Nat} {D D' : Disk} {L : List Entry} (K : KI c D L) (h : D'.has = D.has) (hw : D'.waits = []) (ho : D'.off = false) (hf : D'.left = -1) : KI c D' L :=
  ⟨⟨fun s hs => K.ok.has s (by rw [← h]; exact hs), by rw [h]; exact K.ok.size, fun w hw' => by rw [hw] at hw'; simp at hw', by rw [hf]; decide⟩, by rw [h]; exact K.n12, ho, hw, hf, K.len, K.c9, fun i x hi => by rw [h]; exact K.has i x hi, fun j h1 h2 => by rw [h]; exact K.no j h1 h2⟩
/-- what is noted while the power may fail -/
theorem keeps_step {c : Nat} {D D1 : Disk} {L : List Entry} {x : Entry} (K : KI c D L) (h1 : D1.has = D.has) (hw : D1.waits = []) (ho : D1.off = false) :
    ((aadd D1 ⟨2, c⟩ L false x).2.2.2 = 0 ∧ (aadd D1 ⟨2, c⟩ L false x).2.1 = L ++ [x] ∧ (aadd D1 ⟨2, c⟩ L false x).2.2.1 = false ∧ KI c ((aadd D1 ⟨2, c⟩ L false x).1.arm (-1) []) (L ++ [x])) ∨
    ((aadd D1 ⟨2, c⟩ L false x).2.2.2 ≠ 0 ∧ KI c ((aadd D1 ⟨2, c⟩ L false x).1.arm (-1) []).power L) ∨
    ((aadd D1 ⟨2, c⟩ L false x).2.2.2 = 9 ∧ KI c ((aadd D1 ⟨2, c⟩ L false x).1.arm (-1) []).power (L ++ [x])) := by
  have hc9 := K.c9
  have h12 : D1.has.length = 12 := by rw [h1]; exact K.n12
  unfold aadd
  rw [cond_false]
  cases hm : may x
  · right; left
    rw [cond_false]
    refine ⟨by simp, KI_same K ?_ rfl rfl rfl⟩
    simp [Disk.arm, Disk.power, ho, h1]
  rw [cond_true]
  by_cases hfull : (L.length : Int) = (⟨2, (c : Int)⟩ : Ext).count
  · rw [if_pos hfull]
    right; left
    refine ⟨by simp, KI_same K ?_ rfl rfl rfl⟩
    simp [Disk.arm, Disk.power, ho, h1]
  rw [if_neg hfull]
  have hlt : L.length < c := by have := K.len; simp only at hfull; omega
  have hpw : pwrite D1 ⟨2, c⟩ L.length (asec L.length x) = D1.write ((2 + L.length : Nat) : Int) (asec L.length x) := by
    rw [pwrite, if_pos (by simp only; omega)]; rfl
  have hin : D1.inB ((2 + L.length : Nat) : Int) = true := by simp [Disk.inB, h12]; omega
  have hwr : D1.write ((2 + L.length : Nat) : Int) (asec L.length x) = cond D1.goes.2 ({ D1.goes.1 with waits := D1.goes.1.waits ++ [⟨((2 + L.length : Nat) : Int), asec L.length x⟩] }, 0) (D1.goes.1, 9) := by
    rw [Disk.write, hin, cond_true, if_pos (asec_length _ _)]
  rw [hpw, hwr]
  have hcr : D1.crash D1.surv = { D1 with off := true, left := -1 } := by
    rw [Disk.crash, ho, cond_false, hw]
    obtain ⟨a, b, c, d, e⟩ := D1
    simp only at hw; subst hw; rfl
  by_cases hl0 : D1.left = 0
  · -- the power fails at the write
    have hg : D1.goes = ({ D1 with off := true, left := -1 }, false) := by rw [Disk.goes, ho, cond_false, if_pos hl0, hcr]
    rw [hg]
    simp only [cond_false]
    right; left
    refine ⟨by simp, KI_same K ?_ rfl rfl rfl⟩
    simp [Disk.arm, Disk.power, h1]
  have hg : ∃ D2 : Disk, D1.goes = (D2, true) ∧ D2.has = D1.has ∧ D2.waits = [] ∧ D2.off = false := by
    rw [Disk.goes, ho, cond_false, if_neg hl0]
    split
    · exact ⟨_, rfl, rfl, hw, by first | rfl | exact ho⟩
    · exact ⟨_, rfl, rfl, hw, by first | rfl | exact ho⟩
  obtain ⟨D2, hg, k1, k2, k3⟩ := hg
  rw [hg]
  simp only [cond_true, if_true, k2, List.nil_append]
  generalize hD3 : ({ D2 with waits := [⟨((2 + L.length : Nat) : Int), asec L.length x⟩] } : Disk) = D3
  have m1 : D3.has = D1.has := by rw [← hD3]; exact k1
  have m2 : D3.waits = [⟨((2 + L.length : Nat) : Int), asec L.length x⟩] := by rw [← hD3]
  have m3 : D3.off = false := by rw [← hD3]; exact k3
  have hset : Disk.lay D3.has ⟨((2 + L.length : Nat) : Int), asec L.length x⟩ = D.has.set (2 + L.length) (asec L.length x) := by
    rw [Disk.lay, m1, h1]; simp only [Int.toNat_natCast]
  by_cases hl0 : D3.left = 0
  · -- at the flush
    have hg : D3.goes = (D3.crash D3.surv, false) := by rw [Disk.goes, m3, cond_false, if_pos hl0]
    have hfl : D3.flush = (D3.crash D3.surv, 9) := by rw [Disk.flush, hg]; rfl
    rw [hfl]
    have hc2 : D3.crash D3.surv = { D3 with has := Disk.layS D3.has D3.waits D3.surv, waits := [], off := true, left := -1 } := by rw [Disk.crash, m3, cond_false]
    rw [hc2, m2]
    simp only [show ¬ ((9 : Int) = 0) by decide, if_false]
    cases hs : D3.surv with
    | nil =>
      right; left
      refine ⟨by simp, KI_same K ?_ rfl rfl rfl⟩
      simp [Disk.arm, Disk.power, Disk.layS, m1, h1]
    | cons s r =>
      cases s
      · right; left
        refine ⟨by simp, KI_same K ?_ rfl rfl rfl⟩
        simp [Disk.arm, Disk.power, Disk.layS, m1, h1]
      · right; right
        refine ⟨by first | rfl | trivial | simp, KI_more K hm hlt ?_ rfl rfl rfl⟩
        simp only [Disk.arm, Disk.power, Disk.layS, cond_true]
        exact hset
  · have hg : ∃ D4 : Disk, D3.goes = (D4, true) ∧ D4.has = D3.has ∧ D4.waits = D3.waits ∧ D4.off = false := by
      rw [Disk.goes, m3, cond_false, if_neg hl0]
      split
      · exact ⟨_, rfl, rfl, rfl, by first | rfl | exact m3⟩
      · exact ⟨_, rfl, rfl, rfl, by first | rfl | exact m3⟩
    obtain ⟨D4, hg, q1, q2, q3⟩ := hg
    have hfl : D3.flush = ({ D4 with has := Disk.layAll D4.has D4.waits, waits := [] }, 0) := by rw [Disk.flush, hg]; rfl
    rw [hfl]
    simp only [if_true]
    left
    refine ⟨trivial, trivial, trivial, KI_more K hm hlt ?_ ?_ ?_ ?_⟩
    · simp only [Disk.arm, q3, cond_false, q1, q2, m2]
      exact hset
    · simp [Disk.arm, q3]
    · simp [Disk.arm, q3]
    · simp [Disk.arm, q3]
end Nac
namespace Nac
theorem calm_step {c : Nat} {D : Disk} {L : List Entry} {x : Entry} (K : KI c D L) :
    (may x = false ∧ aadd D ⟨2, c⟩ L false x = (D, L, false, 1)) ∨ (may x = true ∧ L.length = c ∧ aadd D ⟨2, c⟩ L false x = (D, L, false, 5)) ∨
    (may x = true ∧ L.length < c ∧ ∃ D' : Disk, aadd D ⟨2, c⟩ L false x = (D', L ++ [x], false, 0) ∧ D'.has = D.has.set (2 + L.length) (asec L.length x) ∧ KI c D' (L ++ [x])) := by
  have hc9 := K.c9
  have h12 := K.n12
  unfold aadd
  rw [cond_false]
  cases hm : may x
  · exact .inl ⟨rfl, rfl⟩
  right
  rw [cond_true]
  by_cases hfull : (L.length : Int) = (⟨2, (c : Int)⟩ : Ext).count
  · rw [if_pos hfull]
    exact .inl ⟨rfl, by simp only at hfull; omega, rfl⟩
  right
  rw [if_neg hfull]
  have hlt : L.length < c := by have := K.len; simp only at hfull; omega
  refine ⟨rfl, hlt, ?_⟩
  have hpw : pwrite D ⟨2, c⟩ L.length (asec L.length x) = D.write ((2 + L.length : Nat) : Int) (asec L.length x) := by
    rw [pwrite, if_pos (by simp only; omega)]; rfl
  have hin : D.inB ((2 + L.length : Nat) : Int) = true := by simp [Disk.inB, h12]; omega
  have hg : ∀ E : Disk, E.off = false → E.left = -1 → E.goes = (E, true) := fun E h1 h2 => by rw [Disk.goes, h1, cond_false, if_neg (by omega), if_neg (by omega)]
  have hwr : D.write ((2 + L.length : Nat) : Int) (asec L.length x) = ({ D with waits := [⟨((2 + L.length : Nat) : Int), asec L.length x⟩] }, 0) := by
    rw [Disk.write, hin, cond_true, if_pos (asec_length _ _), hg D K.off K.left, cond_true, K.waits]; rfl
  rw [hpw, hwr]
  generalize hD3 : ({ D with waits := [⟨((2 + L.length : Nat) : Int), asec L.length x⟩] } : Disk) = D3
  have m1 : D3.has = D.has := by rw [← hD3]
  have m2 : D3.waits = [⟨((2 + L.length : Nat) : Int), asec L.length x⟩] := by rw [← hD3]
  have m3 : D3.off = false := by rw [← hD3]; exact K.off
  have m4 : D3.left = -1 := by rw [← hD3]; exact K.left
  have hfl : D3.flush = ({ D3 with has := Disk.layAll D3.has D3.waits, waits := [] }, 0) := by rw [Disk.flush, hg D3 m3 m4]; rfl
  rw [hfl]
  simp only [if_true]
  have hset : Disk.layAll D3.has D3.waits = D.has.set (2 + L.length) (asec L.length x) := by
    rw [m2, m1]; rfl
  exact ⟨_, rfl, hset, KI_more K hm hlt hset rfl m3 m4⟩
end Nac
