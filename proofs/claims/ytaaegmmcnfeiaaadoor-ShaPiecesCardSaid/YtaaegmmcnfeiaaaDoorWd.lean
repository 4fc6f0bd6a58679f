import Derived.Test.YtaaegmmcnfeiaaaDoorWc
import Derived.Test.YtaaegmmcnfeiaaaDoorArr
import Derived.Test.YtaaegmmcnfeiaaaDoorHashS
set_option linter.unusedVariables false
set_option linter.unusedSimpArgs false
namespace Go.Proofs.YtaaegmmcnfeiaaaDoor.G
open Go Go.VC Go.RowKit Go.Proofs Go.Proofs.YtaaegmmcnfeiaaaDoor
def hashL (x : Sha.Hs) : List Value := x.st.list.map wordV ++ x.rest.map byteV ++ [.int .i64 (x.n : Int)]
def hashV (x : Sha.Hs) : Array Value := (hashL x).toArray
theorem hashL_word (x : Sha.Hs) {j : Nat} (h : j < 8) : (hashL x)[j]? = some (wordV (x.st.list.getD j 0)) := by
  have h8 : x.st.list.length = 8 := rfl
  unfold hashL
  rw [List.append_assoc, List.getElem?_append_left (by simp [h8]; omega)]
  simp [h8, h]
theorem hashL_rest (x : Sha.Hs) (hr : x.rest.length = 64) {j : Nat} (h : j < 64) : (hashL x)[8 + j]? = (x.rest.map byteV)[j]? := by
  have h8 : x.st.list.length = 8 := rfl
  unfold hashL
  rw [List.append_assoc, List.getElem?_append_right (by simp [h8]), List.getElem?_append_left (by simp [h8]; omega)]
  simp [h8]
theorem hashL_n (x : Sha.Hs) (hr : x.rest.length = 64) : (hashL x)[72]? = some (.int .i64 (x.n : Int)) := by
  have h8 : x.st.list.length = 8 := rfl
  unfold hashL
  rw [List.getElem?_append_right (by simp [h8, hr])]
  simp [h8, hr]
theorem hashV_word (x : Sha.Hs) {j : Nat} (h : j < 8) : (hashV x)[j]? = some (.int .u32 ((x.st.list.getD j 0).toNat : Int)) := by simp only [hashV, List.getElem?_toArray]; exact hashL_word x h
theorem hashV_rest (x : Sha.Hs) (hr : x.rest.length = 64) {j : Nat} (h : j < 64) : (hashV x)[8 + j]? = (x.rest.map byteV)[j]? := by simp only [hashV, List.getElem?_toArray]; exact hashL_rest x hr h
theorem hashV_n (x : Sha.Hs) (hr : x.rest.length = 64) : (hashV x)[72]? = some (.int .i64 (x.n : Int)) := by simp only [hashV, List.getElem?_toArray]; exact hashL_n x hr
theorem hashV_size (x : Sha.Hs) (hr : x.rest.length = 64) : (hashV x).size = 73 := by
  have h8 : x.st.list.length = 8 := rfl
  simp [hashV, hashL, h8, hr]
theorem hashV_splice (x : Sha.Hs) (l : List UInt8) (o : Nat) (hr : x.rest.length = 64) (ho : o + l.length ≤ 64) :
    ((hashV x).toList.take (8 + o) ++ l.map byteV ++ (hashV x).toList.drop (8 + o + l.length)).toArray = hashV ⟨x.st, Sha.splice x.rest l o, x.n⟩ := by
  have h8 : (x.st.list.map wordV).length = 8 := rfl
  simp only [hashV, hashL, Sha.splice, List.append_assoc]
  congr 1
  rw [List.take_append, List.take_append, List.take_of_length_le (by rw [h8]; omega), h8, show 8 + o - 8 = o by omega, List.length_map, hr, show o - 64 = 0 by omega, List.take_zero, List.append_nil,
    List.drop_append, List.drop_append, List.drop_eq_nil_of_le (by rw [h8]; omega), h8, show 8 + o + l.length - 8 = o + l.length by omega, List.length_map, hr, show o + l.length - 64 = 0 by omega]
  simp [List.map_take, List.map_drop]
theorem hashV_set_n (x : Sha.Hs) (hr : x.rest.length = 64) (m : Nat) : (hashV x).setIfInBounds 72 (.int .i64 (m : Int)) = hashV ⟨x.st, x.rest, m⟩ := by
  have h8 : (x.st.list.map wordV).length = 8 := rfl
  simp only [hashV, hashL]
  rw [List.setIfInBounds_toArray, List.set_append, if_neg (by simp [h8, hr])]
  congr 2
  simp [h8, hr]
theorem hashL_tail (x : Sha.Hs) (s : Sha.St) {j : Nat} (h : ¬ j < 8) : (hashL x)[j]? = (hashL ⟨s, x.rest, x.n⟩)[j]? := by
  have h8 : ∀ s : Sha.St, (s.list.map wordV).length = 8 := fun _ => rfl
  have key : ∀ p q t : List Value, p.length = 8 → q.length = 8 → (p ++ t)[j]? = (q ++ t)[j]? := fun p q t hp hq => by
    rw [List.getElem?_append_right (by omega), List.getElem?_append_right (by omega), hp, hq]
  simp only [hashL, List.append_assoc]
  exact key _ _ _ (h8 _) (h8 _)
theorem hashV_set_st (x : Sha.Hs) (s : Sha.St) {cs : Array Value}
    (hg : ∀ j, cs[j]? = if 0 ≤ j ∧ j < 0 + 8 then (s.list.map wordV)[j - 0]? else (hashV x)[j]?) : cs = hashV ⟨s, x.rest, x.n⟩ := by
  apply Array.ext_getElem?
  intro j
  rw [hg]
  by_cases hj : j < 8
  · rw [if_pos (by omega)]
    simp only [hashV, List.getElem?_toArray]
    rw [hashL_word _ hj]
    have h8 : s.list.length = 8 := rfl
    simp [h8, hj]
  · rw [if_neg (by omega)]
    simp only [hashV, List.getElem?_toArray]
    exact hashL_tail x s hj
theorem nnil_some (a : Addr) (K : Addr → Prop) : nnil (some a) K = K a := propext ⟨fun ⟨_, e, h⟩ => by cases e; exact h, fun h => ⟨_, rfl, h⟩⟩
theorem stArg (s : Sha.St) (b : List UInt8) (hb : b.length = 64) (w : World) (hk : KeyOk w) {xs : Array Value} (e : xs = bytes b) {Q : Value → World → Prop} (k : ∀ w', Ext w w' → Q (.agg (stV (Sha.block s b))) w') :
    Does Tryd.prog 23 #[.agg #[.int .u32 (s.a.toNat : Int), .int .u32 (s.b.toNat : Int), .int .u32 (s.c.toNat : Int), .int .u32 (s.d.toNat : Int), .int .u32 (s.e.toNat : Int), .int .u32 (s.f.toNat : Int), .int .u32 (s.g.toNat : Int), .int .u32 (s.h.toNat : Int)], .agg xs] w Q := by
  subst e
  refine (block_does s b hb w hk).mono ?_
  rintro _ w' ⟨rfl, C⟩
  exact k w' C
theorem slT22 : SlT Tryd.prog 22 5 1 1 := ⟨by kernel_rfl, by kernel_rfl, by decide⟩
theorem oneC_byte (l : List UInt8) : ∀ u ∈ l.map byteV, oneC u = true := by
  intro u hu
  obtain ⟨c, _, rfl⟩ := List.mem_map.1 hu
  rfl
theorem tmod_nat (a b : Nat) : Int.tmod (a : Int) (b : Int) = ((a % b : Nat) : Int) := by simp [Int.tmod]
set_option maxHeartbeats 1000000 in
theorem write_does (x : Sha.Hs) (l : List UInt8) (w : World) (hb : Nat) (b : Sl) (B : Blk w hb 49 (hashV x)) (hr : x.rest.length = 64) (hs : Sees w b 1 (l.map byteV)) (hne : b.blk ≠ some hb)
    (hn : x.n + l.length < 9223372036854775807) (hk : KeyOk w) (h0 : hb ≠ 0) :
    Does Tryd.prog 13 #[.pointer (some ⟨hb, 0, none⟩), .slice b.a b.len b.cap] w fun v w' => v = .tuple #[] ∧ Ch (· = hb) w w' ∧ Blk w' hb 49 (hashV (x.write l)) := by
  refine F13_does _ _ _ _ ?_
  unfold F13
  refine ⟨fun b1 w' => ∃ d r : List UInt8, l = d ++ r ∧ Sees w' b1 1 (r.map byteV) ∧ b1.blk ≠ some hb ∧ Ch (· = hb) w w' ∧ Blk w' hb 49 (hashV (x.write d)), fun b1 _ => b1.len, ⟨[], l, rfl, hs, hne, Ch.refl _ w, B⟩, ?_⟩
  rintro b1 w1 ⟨d, r, rfl, hs, hne, C, B⟩
  have hy : (x.write d).rest.length = 64 := by rw [Sha.Hs.write_rest, hr]
  have hyn := x.write_n d
  have hkey : KeyOk w1 := fun j hj => C.cell (hk j hj) fun e => h0 e.symm
  have hlen := hs.len
  simp only [List.length_map, Nat.mul_one] at hlen
  have hcap := hs.cap
  have hmax := hs.max
  simp only [List.length_append] at hn
  rw [Sha.Hs.write_append] 
  generalize hxd : x.write d = y at *
  by_cases hpos : 0 < b1.len
  · rw [show decide ((b1.len : Int) > 0) = true by simp; omega, cond_true]
    simp only [nnil_some, add_mk, Nat.zero_add]
    refine ldT_blk B.drew _ (hashV_n y hy) ⟨by decide, ?_⟩
    rw [show (64 : Int) = ((64 : Nat) : Int) from rfl, tmod_nat]
    refine slcA_intro (by omega) (by omega) (by omega) ?_
    rw [Int.toNat_natCast, Int.toNat_natCast, if_neg (by omega), add_mk, Nat.mul_one]
    dsimp only
    have hm : y.n % 64 < 64 := Nat.mod_lt _ (by decide)
    refine copy_blk slT22 B.drew hs.drew (by rw [hashV_size y hy]; omega) (oneC_byte r) fun w2 B2 C2 z2 => ?_
    have e1 : Nat.min b1.len (64 - y.n % 64) = (r.take (64 - y.n % 64)).length := by simp [hlen, Nat.min_comm]
    rw [e1, ← List.map_take] at B2
    rw [e1]
    clear e1
    have hsplit : r = r.take (64 - y.n % 64) ++ r.drop (64 - y.n % 64) := (List.take_append_drop _ _).symm
    have hdl : r.drop (64 - y.n % 64) = r.drop (r.take (64 - y.n % 64)).length := by
      rw [List.length_take]
      rcases Nat.le_total (64 - y.n % 64) r.length with h | h
      · rw [Nat.min_eq_left h]
      · rw [Nat.min_eq_right h, List.drop_of_length_le h, List.drop_of_length_le (Nat.le_refl _)]
    have hrl : r.length = (r.take (64 - y.n % 64)).length + (r.drop (64 - y.n % 64)).length := by rw [← List.length_append, ← hsplit]
    have hc0 : (r.take (64 - y.n % 64)) ≠ [] := by intro h; have := congrArg List.length h; rw [List.length_take, List.length_nil] at this; omega
    have hcl : (r.take (64 - y.n % 64)).length ≤ 64 - y.n % 64 := by simp; omega
    rw [hdl] at hsplit hrl
    clear hdl
    generalize r.take (64 - y.n % 64) = c at *
    rw [hashV_splice y c _ hy (by omega)] at B2
    have hch := Sha.Hs.chunk c y hc0 hy (by omega)
    have hcs : (Sha.splice y.rest c (y.n % 64)).length = 64 := by rw [Sha.splice_length _ _ _ (by omega), hy]
    generalize hrest : Sha.splice y.rest c (y.n % 64) = r' at *
    refine ldT_blk B2 _ (hashV_n _ hcs) ?_
    rw [IntWalk.i64_in _ (by show _ ≤ (y.n : Int) + (c.length : Int) ∧ (y.n : Int) + (c.length : Int) ≤ _; omega)]
    refine stC_blk B2 (by rw [hashV_size _ hcs]; decide) rfl fun w3 B3 C3 z3 => ?_
    have e2 : ((y.n : Int) + (c.length : Int)) = ((y.n + c.length : Nat) : Int) := by omega
    rw [e2, hashV_set_n _ hcs] at B3
    have hs3 : Sees w3 b1 1 (r.map byteV) := (hs.drew.mono C2 fun k hk e => hne (by rw [hk, e])).mono C3 fun k hk e => hne (by rw [hk, e])
    refine hs3.slc (by omega) (by omega) (by omega) fun t ht htl htb htc => ?_
    rw [Int.toNat_natCast, Int.toNat_natCast, Nat.mul_one, Nat.mul_one, ← List.map_drop, ← List.map_take] at ht
    rw [Int.toNat_natCast, Int.toNat_natCast] at htl
    rw [List.take_of_length_le (by simp; omega)] at ht
    have C' : Ch (· = hb) w w3 := ((C.drew.trans C2).trans C3)
    have hw : y.write r = (y.write c).write (r.drop c.length) := by rw [← Sha.Hs.write_append, ← hsplit]
    refine ldT_blk B3 _ (hashV_n _ hcs) ⟨by decide, ?_⟩
    show cond (Int.tmod ((y.n + c.length : Nat) : Int) ((64 : Nat) : Int) == 0) _ _
    rw [tmod_nat]
    have hmeas : t.len < b1.len := by have := List.length_pos_iff.2 hc0; omega
    have hcar : ∀ w4, Ch (· = hb) w3 w4 → Blk w4 hb 49 (hashV (y.write c)) → ∃ d2 r2 : List UInt8, d ++ r = d2 ++ r2 ∧ Sees w4 t 1 (r2.map byteV) ∧ t.blk ≠ some hb ∧ Ch (· = hb) w w4 ∧ Blk w4 hb 49 (hashV (x.write d2)) := fun w4 C4 B4 => by
      refine ⟨d ++ c, r.drop c.length, by rw [List.append_assoc, ← hsplit], ht.mono C4 fun k hk e => hne (by rw [← htb, hk, e]), by rw [htb]; exact hne, C'.trans C4, ?_⟩
      rw [Sha.Hs.write_append, hxd]; exact B4
    by_cases h64 : (y.n + c.length) % 64 = 0
    · rw [if_pos h64] at hch
      rw [show ((((y.n + c.length) % 64 : Nat) : Int) == 0) = true by simp; omega, cond_true]
      generalize hst : y.st = st at *
      refine ldT_blk B3.drew _ (hashV_word _ (j := 0) (by decide)) ?_
      refine ldT_blk B3.drew _ (hashV_word _ (j := 1) (by decide)) ?_
      refine ldT_blk B3.drew _ (hashV_word _ (j := 2) (by decide)) ?_
      refine ldT_blk B3.drew _ (hashV_word _ (j := 3) (by decide)) ?_
      refine ldT_blk B3.drew _ (hashV_word _ (j := 4) (by decide)) ?_
      refine ldT_blk B3.drew _ (hashV_word _ (j := 5) (by decide)) ?_
      refine ldT_blk B3.drew _ (hashV_word _ (j := 6) (by decide)) ?_
      refine ldT_blk B3.drew _ (hashV_word _ (j := 7) (by decide)) ?_
      refine ldArr_part B3.drew (r'.map byteV) (by simp [hcs]) (fun j hj => hashV_rest _ hcs hj) ?_
      refine stArg st r' hcs _ (fun j hj => C'.drew.cell (hk j hj) fun e => h0 e.symm) rfl fun w4 X4 => ?_
      have B4 := B3.drew.ext X4
      generalize hz : Sha.block st r' = z at *
      refine ⟨_, _, _, _, _, _, _, _, rfl, ?_⟩
      refine stL_blk (vs := [.int .u32 (z.a.toNat : Int), .int .u32 (z.b.toNat : Int), .int .u32 (z.c.toNat : Int), .int .u32 (z.d.toNat : Int), .int .u32 (z.e.toNat : Int), .int .u32 (z.f.toNat : Int), .int .u32 (z.g.toNat : Int), .int .u32 (z.h.toNat : Int)]) (i := 0) B4 (by rw [hashV_size _ hcs]; show 0 + 0 + 8 ≤ 73; decide) (by simp [oneC]) fun w5 cs5 B5 z5 g5 C5 s5 => ?_
      rw [hashV_set_st _ z g5] at B5
      exact ⟨hcar w5 (((Ch.refl (· = hb) w3).drew.ext X4).trans C5) (by rw [hch]; exact B5), hmeas⟩
    · rw [if_neg h64] at hch
      rw [show ((((y.n + c.length) % 64 : Nat) : Int) == 0) = false by simp; omega, cond_false]
      exact ⟨hcar w3 (Ch.refl _ w3) (by rw [hch]; exact B3), hmeas⟩
  · have : r = [] := List.eq_nil_of_length_eq_zero (by omega)
    subst this
    rw [show decide ((b1.len : Int) > 0) = false by simp; omega, cond_false]
    exact ⟨rfl, C, B⟩
end Go.Proofs.YtaaegmmcnfeiaaaDoor.G
