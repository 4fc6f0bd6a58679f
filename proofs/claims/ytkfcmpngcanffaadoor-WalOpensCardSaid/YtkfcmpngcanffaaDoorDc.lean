import Derived.Test.YtkfcmpngcanffaaDoorDb
import Derived.Test.YtkfcmpngcanffaaDoorSm
import Derived.Test.YtkfcmpngcanffaaDoorNw
import Derived.Test.YtkfcmpngcanffaaDoorGend
set_option linter.unusedVariables false
set_option linter.unusedSimpArgs false
namespace Go.Proofs.YtkfcmpngcanffaaDoor.G
open Go Go.VC Go.RowKit Go.Proofs Go.Proofs.YtkfcmpngcanffaaDoor Nac
attribute [local irreducible] Tryd.prog
theorem ldan {F : Bs} {w : World} {l : List SP} {b n : Nat} {ty : TypeId} {cs : List Value} (H : Heap F w l) {t : Tag1} {x : t.T} {K : t.T → Prop} (hc : cs[n]? = some (t.emb x)) (k : K x) (hT : Has l (blk b ty cs) := by repeat (first | assumption | constructor)) : ldT t w ((⟨b, 0, none⟩ : Addr).add n) K :=
  ⟨x, by rw [add_mk, Nat.zero_add]; exact H.cell hT hc, k⟩
theorem stan {F : Bs} {w : World} {l l' : List SP} {b n : Nat} {ty : TypeId} {cs cs' : List Value} (H : Heap F w l) {v : Value} {K : World → Prop} (hs : cs' = cs.set n v) (ho : n < cs.length) (k : ∀ w', Heap F w' (blk b ty cs' :: l') → K w') (hT : Take l (blk b ty cs) l' := by repeat (first | assumption | constructor)) (hv : oneC v = true := by rfl) : stC w ((⟨b, 0, none⟩ : Addr).add n) v K := by
  subst hs; rw [add_mk, Nat.zero_add]; exact stn H ho k hT hv
/-! ### the cells of a log -/
def walC (p : Nat) (pg : List UInt8) (e : UInt32) (h u : Int) (d : Bool) : List Value := .pointer (some ⟨p, 0, none⟩) :: (pg.map Sc.enc ++ [.int .u32 (e.toNat : Int), .int .i64 h, .int .i64 u, .bool d])
section
variable {p : Nat} {pg : List UInt8} {e : UInt32} {h u : Int} {d : Bool}
theorem walC_len (hp : pg.length = 640) : (walC p pg e h u d).length = 645 := by simp [walC, hp]
theorem walC_tail (hp : pg.length = 640) (n : Nat) : (walC p pg e h u d)[641 + n]? = ([.int .u32 (e.toNat : Int), .int .i64 h, .int .i64 u, .bool d] : List Value)[n]? := by
  rw [walC, show 641 + n = (640 + n) + 1 by omega, List.getElem?_cons_succ, List.getElem?_append_right (by simp [hp])]
  simp [hp]
theorem walC_e (hp : pg.length = 640) : (walC p pg e h u d)[641]? = some (.int .u32 (e.toNat : Int)) := walC_tail hp 0
theorem walC_h (hp : pg.length = 640) : (walC p pg e h u d)[642]? = some (.int .i64 h) := walC_tail hp 1
theorem walC_u (hp : pg.length = 640) : (walC p pg e h u d)[643]? = some (.int .i64 u) := walC_tail hp 2
theorem walC_d (hp : pg.length = 640) : (walC p pg e h u d)[644]? = some (.bool d) := walC_tail hp 3
theorem walC_set (hp : pg.length = 640) (n : Nat) (v : Value) : (walC p pg e h u d).set (641 + n) v = .pointer (some ⟨p, 0, none⟩) :: (pg.map Sc.enc ++ ([.int .u32 (e.toNat : Int), .int .i64 h, .int .i64 u, .bool d] : List Value).set n v) := by
  rw [walC, show 641 + n = (640 + n) + 1 by omega, List.set_cons_succ, List.set_append_right _ _ (by simp [hp])]
  simp [hp]
theorem walC_se (hp : pg.length = 640) (e' : UInt32) : walC p pg e' h u d = (walC p pg e h u d).set 641 (.int .u32 (e'.toNat : Int)) := (walC_set hp 0 _).symm
theorem walC_sh (hp : pg.length = 640) (h' : Int) : walC p pg e h' u d = (walC p pg e h u d).set 642 (.int .i64 h') := (walC_set hp 1 _).symm
theorem walC_su (hp : pg.length = 640) (u' : Int) : walC p pg e h u' d = (walC p pg e h u d).set 643 (.int .i64 u') := (walC_set hp 2 _).symm
theorem walC_sd (hp : pg.length = 640) (d' : Bool) : walC p pg e h u d' = (walC p pg e h u d).set 644 (.bool d') := (walC_set hp 3 _).symm
theorem walC_pages (hp : pg.length = 640) : ((walC p pg e h u d).drop 1).take 640 = pg.map Sc.enc := by
  rw [walC, List.drop_one, List.tail_cons, List.take_left' (by simp [hp])]
end
theorem walC_page {p : Nat} {L : List (List UInt8)} {e : UInt32} {h u : Int} {d : Bool} (hn : L.length = 16) (h40 : ∀ x ∈ L, x.length = 40) (i : Nat) (hi : i < 16) : ((walC p L.flatten e h u d).drop (1 + i * 40)).take 40 = (L[i]'(by omega)).map Sc.enc := by
  have hl : L.flatten.length = 640 := by rw [flatK_len h40, hn]
  rw [← flatK_get h40 i (by omega), ← List.drop_drop, walC, List.drop_one, List.tail_cons, List.drop_append_of_le_length (by rw [List.length_map, hl]; omega), List.take_append_of_le_length (by rw [List.length_drop, List.length_map, hl]; omega), List.map_take, List.map_drop]
theorem walC_lay {p : Nat} {L : List (List UInt8)} {e : UInt32} {h u : Int} {d : Bool} (hn : L.length = 16) (h40 : ∀ x ∈ L, x.length = 40) (i : Nat) (hi : i < 16) {b : List UInt8} (hb : b.length = 40) :
    (walC p L.flatten e h u d).take (1 + i * 40) ++ b.map Sc.enc ++ (walC p L.flatten e h u d).drop (1 + i * 40 + 40) = walC p (L.set i b).flatten e h u d := by
  have hl : L.flatten.length = 640 := by rw [flatK_len h40, hn]
  rw [flatK_set hb h40 i (by omega), walC, walC, show 1 + i * 40 = i * 40 + 1 by omega, show i * 40 + 1 + 40 = i * 40 + 40 + 1 by omega, List.take_succ_cons, List.drop_succ_cons,
    List.take_append_of_le_length (by rw [List.length_map, hl]; omega), List.drop_append_of_le_length (by rw [List.length_map, hl]; omega)]
  simp [List.map_take, List.map_drop, List.append_assoc]
def WalAt (b p : Nat) (W : Wal) : SP := SP.of fun _ : Unit => [pur W.ok, blk b T_wal_Log (walC p W.pages.flatten W.epoch W.home W.used W.dead)]
theorem wal_cls {F : Bs} {w : World} {l r : List SP} {b p : Nat} {pg : List UInt8} {e : UInt32} {h u : Int} {d : Bool} (H : Heap F w l) (W : Wal) (ok : W.ok) (h1 : pg = W.pages.flatten) (h2 : e = W.epoch) (h3 : h = W.home) (h4 : u = W.used) (h5 : d = W.dead)
    (hT : Take l (blk b T_wal_Log (walC p pg e h u d)) r := by repeat (first | assumption | constructor)) : Heap F w (WalAt b p W :: r) := by
  subst h1 h2 h3 h4 h5
  exact ((H.take hT).addp ok).cls (f := fun _ : Unit => [pur W.ok, blk b T_wal_Log (walC p W.pages.flatten W.epoch W.home W.used W.dead)]) ()
theorem wal_opn {F : Bs} {w : World} {l r : List SP} {b p : Nat} {W : Wal} (H : Heap F w l) (hT : Take l (WalAt b p W) r := by repeat (first | assumption | constructor)) : W.ok ∧ W.pages.flatten.length = 640 ∧ Heap F w (blk b T_wal_Log (walC p W.pages.flatten W.epoch W.home W.used W.dead) :: r) := by
  obtain ⟨_, H⟩ := (H.take hT).opn
  obtain ⟨ok, H⟩ := Heap.pur H
  exact ⟨ok, by rw [flatK_len ok.all40, ok.n16], H⟩
instance : Rep Chg where
  n := 2
  r := fun ro cs x => ∃ s : Sl, cs = [.int .i64 x.page, s.v] ∧ immL ro s x.data
  mono := fun h ⟨s, e, hi⟩ => ⟨s, e, hi.mono h⟩
  len := fun ⟨s, e, _⟩ => by rw [e]; rfl
  one := fun ⟨s, e, _⟩ u hu => by rw [e] at hu; simp at hu; rcases hu with rfl | rfl <;> rfl
theorem open_Chg {F : Bs} {w : World} {l : List SP} {cs : List Value} {x : Chg} (H : Heap F w (rep cs x :: l)) : ∃ t : Sl, cs = [.int .i64 x.page, t.v] ∧ Heap F w (imm t x.data :: l) := by
  obtain ⟨t, H⟩ := H.ex (c' := fun t : Sl => [pur (cs = [.int .i64 x.page, t.v]), imm t x.data]) fun ro h ⟨t, e, hi⟩ => ⟨t, PH.emp, PH.emp, fun _ => .inl rfl, PH.emp_le _, PH.emp_le _, e, PH.emp, PH.emp, fun _ => .inl rfl, PH.le.refl _, PH.le.refl _, hi, trivial⟩
  exact ⟨t, H.pur.1, H.pur.2⟩
theorem close_Chg {F : Bs} {w : World} {l : List SP} (x : Chg) {s : Sl} (H : Heap F w l) (hT : Has l (imm s x.data) := by repeat (first | assumption | constructor)) : Heap F w (rep [.int .i64 x.page, s.v] x :: l) :=
  H.add hT fun ro h hi => ⟨s, rfl, hi⟩
section
variable {F : Bs} {w : World} {l r : List SP} {b d p : Nat} {D : Disk} {Q : Value → World → Prop} {X : Nac.Ext} {W : Wal}
theorem wal_say (H : Heap F w l) {c : UInt8} {e : UInt32} {s : Sl} {bb : List UInt8} (hn : bb.length ≤ 55) (k : ∀ (s' : Sl) w', Heap F w' (own T_uint8 s' (sayS c e bb) :: l) → Q (.slice s'.a s'.len s'.cap) w') (hI : Has l (imm s bb) := by repeat (first | assumption | constructor)) (hH : Has l Half := by repeat (first | assumption | constructor)) :
    Does Tryd.prog N_wal_say #[.int .u8 (c.toNat : Int), .int .u32 (e.toNat : Int), .slice s.a s.len s.cap] w Q := by
  refine F_wal_say_does _ _ _ _ _ ?_
  unfold F_wal_say
  refine al H (cs := [.int .u8 (c.toNat : Int)]) (fun a1 w H => ?_) rfl
  replace H := H.blk_own (n := 1) (cs := [.int .u8 (c.toNat : Int)]) [c] rfl (mx (by simp)) rfl
  rw [wrap64_32]
  refine oct_Put H (k := 4) (by decide) (by decide) fun s2 w H => ⟨_, rfl, ?_⟩
  replace H := H.share (s := s2) (xs := put e.toUInt64 4)
  refine apI (s := ⟨some ⟨a1, 0, none⟩, 1, 1⟩) (xs := [c]) (ys := put e.toUInt64 4) S_l_uint8 H (by simp) fun s3 w H => ?_
  refine apI (s := s3) (xs := [c] ++ put e.toUInt64 4) (ys := bb) S_l_uint8 H (by simp; omega) (fun s4 w H => ?_) .h (.t (.t hI))
  have hl := H.lenO (s := s4) (xs := [c] ++ put e.toUInt64 4 ++ bb)
  simp at hl
  rw [show ((s4.len : Nat) : Int) = 5 + bb.length by omega, i64_id (by omega)]
  refine appZ (s := s4) (xs := [c] ++ put e.toUInt64 4 ++ bb) (d := (0 : UInt8)) Z_l_uint8 und_i H (by omega) (by simp; omega) (mx (by simp; omega)) fun s5 w H => ?_
  rw [show (60 - (5 + (bb.length : Int))).toNat = 55 - bb.length by omega] at H
  replace H := H.share (s := s5) (xs := [c] ++ put e.toUInt64 4 ++ bb ++ List.replicate (55 - bb.length) 0)
  refine crc_Seal (s := s5) (bb := [c] ++ put e.toUInt64 4 ++ bb ++ List.replicate (55 - bb.length) 0) H (by simp; omega) (fun s6 w H => ⟨_, rfl, k s6 w ?_⟩) .h (.t (.t hH))
  exact Heap.kp 2 H
theorem crc_Open (H : Heap F w l) {s : Sl} {bb : List UInt8} (hn : bb.length = 64) (k1 : (get (bb.drop 60)).toUInt32 = crc (bb.take 60) → ∀ (s' : Sl) w', Heap F w' (own T_uint8 s' (bb.take 60) :: l) → Q (.tuple #[.slice s'.a s'.len s'.cap, .int .i64 0]) w')
    (k2 : (get (bb.drop 60)).toUInt32 ≠ crc (bb.take 60) → ∀ w', Heap F w' l → Q (.tuple #[.slice none 0 0, .int .i64 8]) w') (hI : Has l (imm s bb) := by repeat (first | assumption | constructor)) (hH : Has l Half := by repeat (first | assumption | constructor)) :
    Does Tryd.prog N_crc_Open #[.slice s.a s.len s.cap] w Q := by
  refine F_crc_Open_does _ _ _ ?_
  unfold F_crc_Open
  have hl := H.len hI
  rw [show ((s.len : Nat) : Int) = 64 by omega, i64_id (by omega)]
  refine dF (by decide) ?_
  refine slcI (s := s) (xs := bb) H (by decide) (by decide) (by omega) (fun t H => ?_) hI
  rw [show ((64 : Int) - 4).toNat = 60 by decide, List.take_of_length_le (l := bb.drop 60) (by simp [hn])] at H
  refine oct_Get (s := t) (bb := bb.drop 60) H (by simp [hn]) (by simp [hn]) ⟨_, _, rfl, ?_⟩
  refine slcI (s := s) (xs := bb) H (by decide) (by decide) (by omega) (fun t2 H => ?_) (.t hI)
  rw [show ((64 : Int) - 4).toNat - Int.toNat 0 = 60 by decide, show bb.drop (Int.toNat 0) = bb from rfl] at H
  refine crc_Of (s := t2) (bb := bb.take 60) H ⟨_, rfl, ?_⟩ .h (.t (.t hH))
  rw [wrap32_64]
  refine cBoth (fun h => k2 (fun e => by rw [e] at h; simp at h) _ H.tl.tl) (fun h => ?_)
  refine slcI (s := s) (xs := bb) H (by decide) (by decide) (by omega) (fun t3 H => ?_) (.t (.t hI))
  rw [show ((64 : Int) - 4).toNat - Int.toNat 0 = 60 by decide, show bb.drop (Int.toNat 0) = bb from rfl] at H
  refine cpI (x := t3) (ys := bb.take 60) S_l_uint8 H (by simp; omega) (fun s1 w H => k1 ?_ s1 w (Heap.kp 3 H)) .h
  have h' : (((get (bb.drop 60)).toUInt32.toNat : Nat) : Int) = ((crc (bb.take 60)).toNat : Int) := by simpa using h
  exact UInt32.toNat.inj (by exact_mod_cast h')
theorem hear_1 (H : Heap F w l) {s : Sl} {bb : List UInt8} (k : Q (.bool (quiet bb)) w) (hI : Has l (imm s bb) := by repeat (first | assumption | constructor)) : Does Tryd.prog N_wal_hear_1 #[.slice s.a s.len s.cap] w Q := by
  refine F_wal_hear_1_does _ _ _ ?_
  unfold F_wal_hear_1
  have hl := H.len hI
  have hb := H.bndI hI
  refine ⟨fun x w' => ∃ i : Nat, x = i ∧ i ≤ bb.length ∧ w' = w ∧ quiet bb = quiet (bb.drop i), fun x _ => (bb.length - x).toNat, ⟨0, rfl, by omega, rfl, rfl⟩, ?_⟩
  rintro x w1 ⟨i, rfl, hi, rfl, hq⟩
  refine dBoth (fun hlt => ?_) (fun hge => ?_)
  · have hlt' : i < bb.length := by omega
    refine idxI1 (s := s) (xs := bb) H (by omega) (by omega) (fun a ha => ?_) hI
    simp only [Int.toNat_natCast] at ha
    refine ⟨_, ha, ?_⟩
    have hd : bb.drop i = bb[i] :: bb.drop (i + 1) := List.drop_eq_getElem_cons hlt'
    rw [hd] at hq
    refine cBoth (fun h => ?_) (fun h => ⟨⟨i + 1, by rw [i64_id (by omega)]; omega, by omega, rfl, ?_⟩, by rw [i64_id (by omega)]; dsimp only; omega⟩)
    · have hne : bb[i] ≠ 0 := fun e => by rw [e] at h; simp at h
      rw [hq] at k
      rwa [show quiet (bb[i] :: bb.drop (i + 1)) = false by simp only [quiet, List.all_cons]; simp [hne]] at k
    · have h0 : bb[i] = 0 := by
        have : ((bb[i].toNat : Nat) : Int) = 0 := by simpa using h
        exact UInt8.toNat.inj (by simpa using this)
      rw [hq]; simp [quiet, h0]
  · obtain rfl : i = bb.length := by omega
    rw [hq] at k
    rwa [show quiet (bb.drop bb.length) = true by simp [quiet]] at k
theorem wal_hear (H : Heap F w l) {c : UInt8} {n : Nat} {s : Sl} {bb : List UInt8} (hn : bb.length = 64) (hn55 : n ≤ 55) (k : ∀ (s' : Sl) w', Heap F w' (imm s' (hear bb c n).2.1 :: l) → Q (.tuple #[.int .u32 ((hear bb c n).1.toNat : Int), .slice s'.a s'.len s'.cap, .bool (hear bb c n).2.2]) w')
    (hI : Has l (imm s bb) := by repeat (first | assumption | constructor)) (hH : Has l Half := by repeat (first | assumption | constructor)) :
    Does Tryd.prog N_wal_hear #[.slice s.a s.len s.cap, .int .u8 (c.toNat : Int), .int .i64 (n : Int)] w Q := by
  refine F_wal_hear_does _ _ _ _ _ ?_
  unfold F_wal_hear
  refine crc_Open H hn (fun hs s1 w H => ⟨_, _, rfl, ?_⟩) (fun hs w H => ⟨⟨none, 0, 0⟩, _, rfl, ?_⟩) hI hH
  · replace H := H.share (s := s1) (xs := bb.take 60)
    have hl := H.len (s := s1) (xs := bb.take 60)
    have hl60 : (bb.take 60).length = 60 := by simp [hn]
    intro J hJ
    refine cF rfl ?_
    refine idxI1 (s := s1) (xs := bb.take 60) H (by omega) (by omega) (fun a ha => ⟨_, ha, ?_⟩)
    have e0 : (bb.take 60)[(0 : Int).toNat]'(by simp [hn]) = bb.getD 0 0 := by
      simp [List.getD_eq_getElem?_getD, List.getElem?_eq_getElem (show 0 < bb.length by omega)]
    rw [e0]
    refine cBoth (fun h => ?_) (fun h => hJ _ ?_)
    · have hne : ¬ bb.getD 0 0 = c := fun e => by rw [e] at h; simp at h
      have hh : hear bb c n = (0, [], false) := by rw [hear, if_neg fun hc => hne hc.2]
      rw [hh] at k
      exact k ⟨none, 0, 0⟩ w (Heap.imm_nil H.tl)
    · have he : bb.getD 0 0 = c := by
        have : (((bb.getD 0 0).toNat : Nat) : Int) = (c.toNat : Int) := by simpa using h
        exact UInt8.toNat.inj (by exact_mod_cast this)
      have hh : hear bb c n = (ep bb, ((bb.take 60).drop 5).take n, quiet (((bb.take 60).drop 5).drop n)) := by rw [hear, if_pos ⟨hs, he⟩]
      rw [hh] at k
      refine slcI (s := s1) (xs := bb.take 60) H (by decide) (by decide) (by omega) (fun t H => ?_)
      have e4 : ((bb.take 60).drop (1 : Int).toNat).take ((5 : Int).toNat - (1 : Int).toNat) = (bb.drop 1).take 4 := by
        show ((bb.take 60).drop 1).take 4 = _
        rw [List.drop_take, List.take_take]; congr 1
      rw [e4] at H
      refine oct_Get (s := t) (bb := (bb.drop 1).take 4) H (by simp [hn]) (by simp [hn]) ⟨_, _, rfl, ?_⟩
      rw [i64_id (by omega)]
      refine slcI (s := s1) (xs := bb.take 60) H (by omega) (by omega) (by omega) (fun t2 H => ?_) (.t .h)
      rw [show ((5 : Int) + n).toNat - (5 : Int).toNat = n by omega, show (5 : Int).toNat = 5 by decide] at H
      rw [show ((s1.len : Nat) : Int) = 60 by omega]
      refine slcI (s := s1) (xs := bb.take 60) H (by omega) (by omega) (by omega) (fun t3 H => ?_) (.t (.t .h))
      rw [show ((5 : Int) + n).toNat = 5 + n by omega, ← List.drop_drop, List.take_of_length_le (l := ((bb.take 60).drop 5).drop n) (by simp [hn])] at H
      refine hear_1 (s := t3) (bb := ((bb.take 60).drop 5).drop n) H.drew ⟨_, rfl, ?_⟩
      rw [wrap32_64]
      exact k t2 _ (Heap.kp 3 (H.drew.take (c := imm t2 (((bb.take 60).drop 5).take n)) (.t .h)))
  · intro J hJ
    have hh : hear bb c n = (0, [], false) := by rw [hear, if_neg fun hc => hs hc.1]
    rw [hh] at k
    exact cT rfl (k ⟨none, 0, 0⟩ w (Heap.imm_nil H))
end
end Go.Proofs.YtkfcmpngcanffaaDoor.G

set_option linter.unusedVariables false
set_option linter.unusedSimpArgs false
namespace Go.Proofs.YtkfcmpngcanffaaDoor.G
open Go Go.VC Go.RowKit Go.Proofs Go.Proofs.YtkfcmpngcanffaaDoor Nac
attribute [local irreducible] Tryd.prog
theorem layC_ok (L : List (List UInt8)) (hn : L.length = 16) (h40 : ∀ x ∈ L, x.length = 40) : ∀ {xs : List Chg}, (∀ c ∈ xs, 0 ≤ c.page ∧ c.page < 16 ∧ c.data.length = 40) → (layC L xs).length = 16 ∧ ∀ x ∈ layC L xs, x.length = 40 := by
  intro xs
  unfold layC
  induction xs generalizing L with
  | nil => exact fun _ => ⟨hn, h40⟩
  | cons c xs ih =>
    intro hx
    rw [List.foldl_cons]
    refine ih _ (by simp [hn]) (fun x hm => ?_) fun y hy => hx y (by simp [hy])
    rcases List.mem_or_eq_of_mem_set hm with h | h
    · exact h40 x h
    · rw [h]; exact (hx c (by simp)).2.2
section
variable {F : Bs} {w : World} {l r : List SP} {b d p : Nat} {D : Disk} {Q : Value → World → Prop} {X : Nac.Ext} {W : Wal}
theorem wal_lay (H : Heap F w l) {L : List (List UInt8)} {e : UInt32} {h u : Int} {dd : Bool} (hn : L.length = 16) (h40 : ∀ x ∈ L, x.length = 40) {s : Sl} {xs : List Chg} (hx : ∀ c ∈ xs, 0 ≤ c.page ∧ c.page < 16 ∧ c.data.length = 40)
    (k : ∀ w', Heap F w' (blk b T_wal_Log (walC p (layC L xs).flatten e h u dd) :: r) → Q (.tuple #[]) w')
    (hT : Take l (blk b T_wal_Log (walC p L.flatten e h u dd)) r := by repeat (first | assumption | constructor)) (hI : Has r (imm s xs) := by repeat (first | assumption | constructor)) :
    Does Tryd.prog N_wal_Log_lay #[.pointer (some ⟨b, 0, none⟩), .slice s.a s.len s.cap] w Q := by
  refine F_wal_Log_lay_does _ _ _ _ ?_
  unfold F_wal_Log_lay
  have hl := (H.take hT).len (.t hI)
  have hb := (H.take hT).bndI (.t hI)
  refine ⟨fun x w' => ∃ i : Nat, x = i ∧ i ≤ xs.length ∧ Heap F w' (blk b T_wal_Log (walC p (layC L (xs.take i)).flatten e h u dd) :: r), fun x _ => (xs.length - x).toNat, ⟨0, rfl, by omega, H.take hT⟩, ?_⟩
  rintro x w1 ⟨i, rfl, hi, H⟩
  refine dBoth (fun hlt => ?_) (fun hge => ?_)
  · have hlt' : i < xs.length := by omega
    obtain ⟨o1, o2⟩ := layC_ok L hn h40 (xs := xs.take i) fun c hc => hx c (List.mem_of_mem_take hc)
    obtain ⟨c1, c2, c3⟩ := hx xs[i] (List.getElem_mem hlt')
    have e1 : layC L (xs.take (i + 1)) = (layC L (xs.take i)).set xs[i].page.toNat xs[i].data := by
      rw [List.take_succ_eq_append_getElem hlt', layC, List.foldl_append]; rfl
    generalize layC L (xs.take i) = L1 at *
    refine idxI (s := s) (xs := xs) H (by omega) (by omega) (fun a cs H hA => ?_) (.t hI)
    simp only [Int.toNat_natCast] at H
    generalize xs[i] = A at *
    replace H := open_Chg H
    obtain ⟨t, rfl, H⟩ := H
    refine At.ld0 hA (At.ld hA ?_)
    refine al H (cs := [.int .i64 0, (Sl.v ⟨none, 0, 0⟩)]) (fun a8 w H => ?_) zc_api_Change
    refine st0 H fun w H => sta H fun w H => ?_
    replace H := H.drew
    refine ld0 H (nn ⟨by omega, by omega, slcA0 (by decide) (by decide) rfl (lda H ?_)⟩)
    have hlen : L1.flatten.length = 640 := by rw [flatK_len o2, o1]
    refine copyBa (o := 1 + A.page.toNat * 40) (dl := 40) (dc := 40) (ty := T_wal_Log) (cur := walC p L1.flatten e h u dd) (x := t) (xs := A.data) S_l_uint8 (b := b) H (by rw [add_mk, add_mk, Nat.zero_add]) (by rw [walC_len hlen]; omega) (fun w H => ?_)
    rw [List.take_of_length_le (l := A.data) (by omega), c3, Nat.min_self, walC_lay o1 o2 _ (by omega) c3, ← e1] at H
    refine ⟨⟨i + 1, by rw [i64_id (by omega)]; omega, by omega, ?_⟩, by rw [i64_id (by omega)]; dsimp only; omega⟩
    exact Heap.kp 2 H
  · obtain rfl : i = xs.length := by omega
    rw [List.take_length] at H
    exact k w1 H
theorem wal_Page (H : Heap F w l) {n : Nat} (hn : n < 16) (k : ∀ (s : Sl) w', Heap F w' (own T_uint8 s (W.pages.getD n []) :: WalAt b p W :: r) → Q (.tuple #[.slice s.a s.len s.cap, .int .i64 0]) w')
    (hT : Take l (WalAt b p W) r := by repeat (first | assumption | constructor)) : Does Tryd.prog N_wal_Log_Page #[.pointer (some ⟨b, 0, none⟩), .int .i64 (n : Int)] w Q := by
  refine F_wal_Log_Page_does _ _ _ _ ?_
  unfold F_wal_Log_Page
  obtain ⟨ok, hl, H⟩ := wal_opn H hT
  intro J hJ
  refine dF (by omega) (dF (by omega) (hJ _ (nn ⟨by omega, by omega, slcA0 (by decide) (by decide) rfl ?_⟩)))
  have hp := walC_page (p := p) (e := W.epoch) (h := W.home) (u := W.used) (d := W.dead) ok.n16 ok.all40 n hn
  have hlen := ok.all40 _ (List.getElem_mem (show n < W.pages.length by rw [ok.n16]; exact hn))
  refine cpBo (o := 1 + n * 40) (W.pages[n]'(by rw [ok.n16]; exact hn)) S_l_uint8 (b := b) H (by rw [add_mk, add_mk, Nat.zero_add]; rfl) (by omega) (by rw [hlen]; exact hp) hlen (fun s1 w H => ?_) .h
  refine k s1 w ?_
  rw [List.getD_eq_getElem?_getD, List.getElem?_eq_getElem (by rw [ok.n16]; exact hn)]
  exact (wal_cls H W ok rfl rfl rfl rfl rfl (.t .h)).take (.t .h)
theorem wal_Page16 (H : Heap F w l) {n : Int} (hn : n < 0 ∨ 16 ≤ n) (k : Q (.tuple #[.slice none 0 0, .int .i64 4]) w) : Does Tryd.prog N_wal_Log_Page #[.pointer (some ⟨b, 0, none⟩), .int .i64 n] w Q := by
  refine F_wal_Log_Page_does _ _ _ _ ?_
  unfold F_wal_Log_Page
  intro J hJ
  exact dBoth (fun _ => k) (fun h => dT (by omega) k)
theorem wal_Epoch (H : Heap F w l) (k : Q (.int .u32 (W.epoch.toNat : Int)) w) (hT : Take l (WalAt b p W) r := by repeat (first | assumption | constructor)) : Does Tryd.prog N_wal_Log_Epoch #[.pointer (some ⟨b, 0, none⟩)] w Q := by
  refine F_wal_Log_Epoch_does _ _ _ ?_
  unfold F_wal_Log_Epoch
  obtain ⟨ok, hl, H⟩ := wal_opn H hT
  exact nn (ldan H (walC_e hl) k)
theorem wal_Used (H : Heap F w l) (k : Q (.int .i64 (W.used : Int)) w) (hT : Take l (WalAt b p W) r := by repeat (first | assumption | constructor)) : Does Tryd.prog N_wal_Log_Used #[.pointer (some ⟨b, 0, none⟩)] w Q := by
  refine F_wal_Log_Used_does _ _ _ ?_
  unfold F_wal_Log_Used
  obtain ⟨ok, hl, H⟩ := wal_opn H hT
  exact nn (ldan H (walC_u hl) k)
theorem wal_Dead (H : Heap F w l) (k : Q (.bool W.dead) w) (hT : Take l (WalAt b p W) r := by repeat (first | assumption | constructor)) : Does Tryd.prog N_wal_Log_Dead #[.pointer (some ⟨b, 0, none⟩)] w Q := by
  refine F_wal_Log_Dead_does _ _ _ ?_
  unfold F_wal_Log_Dead
  obtain ⟨ok, hl, H⟩ := wal_opn H hT
  exact nn (ldan H (walC_d hl) k)
theorem wal_right (H : Heap F w l) {s : Sl} {xs : List Chg} (k : ∀ w', Heap F w' l → Q (.bool (rightC xs)) w') (hI : Has l (imm s xs) := by repeat (first | assumption | constructor)) : Does Tryd.prog N_wal_right #[.slice s.a s.len s.cap] w Q := by
  refine F_wal_right_does _ _ _ ?_
  unfold F_wal_right
  have hl := H.len hI
  have hb := H.bndI hI
  refine dBoth (fun h => ?_) (fun h => ?_)
  · have := k w H
    rwa [show rightC xs = false by rw [rightC, decide_eq_false (by omega)]; rfl] at this
  have hr0 : rightC xs = xs.all fun c => decide (0 ≤ c.page) && decide (c.page < 16) && decide (c.data.length = 40) := by rw [rightC, decide_eq_true (by omega)]; rfl
  refine ⟨fun x w' => ∃ i : Nat, x = i ∧ i ≤ xs.length ∧ Heap F w' l ∧ rightC xs = (xs.drop i).all fun c => decide (0 ≤ c.page) && decide (c.page < 16) && decide (c.data.length = 40), fun x _ => (xs.length - x).toNat, ⟨0, rfl, by omega, H, hr0⟩, ?_⟩
  rintro x w1 ⟨i, rfl, hi, H, hr⟩
  refine dBoth (fun hlt => ?_) (fun hge => ?_)
  · have hlt' : i < xs.length := by omega
    intro J hJ
    refine idxI (s := s) (xs := xs) H (by omega) (by omega) (fun a cs H hA => ?_) hI
    simp only [Int.toNat_natCast] at H
    rw [List.drop_eq_getElem_cons hlt', List.all_cons] at hr
    generalize xs[i] = A at *
    replace H := open_Chg H
    obtain ⟨t, rfl, H⟩ := H
    have ht := H.len (s := t) (xs := A.data)
    refine At.ld0 hA (At.ld hA ?_)
    refine al H (cs := [.int .i64 0, (Sl.v ⟨none, 0, 0⟩)]) (fun a8 w H => ?_) zc_api_Change
    refine st0 H fun w H => sta H fun w H => ?_
    have out : rightC xs = false → Q (.bool false) w := fun e => by rw [← e]; exact k w H.tl.tl
    refine ld0 H (dBoth (fun h1 => out ?_) (fun h1 => ld0 H (dBoth (fun h2 => out ?_) (fun h2 => lda H (cBoth (fun h3 => out ?_) (fun h3 => hJ _ ⟨⟨i + 1, by rw [i64_id (by omega)]; omega, by omega, H.tl.tl, ?_⟩, by rw [i64_id (by omega)]; dsimp only; omega⟩))))))
    · have h1 : A.page < 0 := h1
      rw [hr, decide_eq_false (by omega)]; simp
    · have h2 : A.page ≥ 16 := h2
      rw [hr, decide_eq_false (show ¬ A.page < 16 by omega)]; simp
    · rw [hr, decide_eq_false (show ¬ A.data.length = 40 by simp at h3; omega)]; simp
    · have h1 : ¬ A.page < 0 := h1
      have h2 : ¬ A.page ≥ 16 := h2
      rw [hr, decide_eq_true (show 0 ≤ A.page by omega), decide_eq_true (show A.page < 16 by omega), decide_eq_true (show A.data.length = 40 by simp at h3; omega)]; simp
  · obtain rfl : i = xs.length := by omega
    have := k w1 H
    rwa [hr, List.drop_length] at this
end
end Go.Proofs.YtkfcmpngcanffaaDoor.G

set_option linter.unusedVariables false
set_option linter.unusedSimpArgs false
namespace Go.Proofs.YtkfcmpngcanffaaDoor.G
open Go Go.VC Go.RowKit Go.Proofs Go.Proofs.YtkfcmpngcanffaaDoor Nac
theorem zc_a40 : zc Tryd.prog T_a40_uint8 = ((List.replicate 40 (0 : UInt8)).map Sc.enc).toArray := by kernel_rfl
attribute [local irreducible] Tryd.prog
theorem pagesW_take (home : Nat) (e : UInt32) (L : List (List UInt8)) {i : Nat} (hi : i < L.length) : (pagesW home e L).take (i + 1) = (pagesW home e L).take i ++ [pageW home e i L[i]] := by
  rw [List.take_succ_eq_append_getElem (by simpa [pagesW] using hi)]
  simp [pagesW]
theorem pagesW_len (home : Nat) (e : UInt32) (L : List (List UInt8)) : (pagesW home e L).length = L.length := by simp [pagesW]
section
variable {F : Bs} {w : World} {l r : List SP} {b d p : Nat} {D : Disk} {Q : Value → World → Prop} {X : Nac.Ext} {W : Wal}
theorem wal_settle {r0 r1 r2 : List SP} (H : Heap F w l) {L : List (List UInt8)} (hn : L.length = 16) (h40 : ∀ x ∈ L, x.length = 40) {e0 : UInt32} {h0 u0 : Int} {d0 : Bool} {e : UInt32} {home : Nat} (hh : home < 2) (hw : D.waits.length < 100000)
    (k : ∀ w', Heap F w' (blk b T_wal_Log (walC p L.flatten e0 h0 u0 d0) :: PartAt p d X :: DiskAt d (Nac.settle D X [] L e home).1 :: r2) → Q (.int .i64 (Nac.settle D X [] L e home).2) w')
    (hT : Take l (blk b T_wal_Log (walC p L.flatten e0 h0 u0 d0)) r0 := by repeat (first | assumption | constructor)) (hP : Take r0 (PartAt p d X) r1 := by repeat (first | assumption | constructor)) (hD : Take r1 (DiskAt d D) r2 := by repeat (first | assumption | constructor)) (hH : Has r2 Half := by repeat (first | assumption | constructor)) :
    Does Tryd.prog N_wal_Log_settle #[.pointer (some ⟨b, 0, none⟩), .int .u32 (e.toNat : Int), .int .i64 (home : Int)] w Q := by
  refine F_wal_Log_settle_does _ _ _ _ _ ?_
  unfold F_wal_Log_settle
  have hlen : L.flatten.length = 640 := by rw [flatK_len h40, hn]
  replace H : Heap F w (blk b T_wal_Log (walC p L.flatten e0 h0 u0 d0) :: PartAt p d X :: DiskAt d D :: r2) := ((H.take hT).take (.t hP)).take (.t (.t hD)) |>.ord3
  refine nn (ldArra (cs := walC p L.flatten e0 h0 u0 d0) (ty := T_wal_Log) H (by rw [walC_len hlen]; decide) ?_)
  rw [walC_pages hlen]
  rw [Nac.settle, List.nil_append] at k
  refine ⟨fun x w' => ∃ (i : Nat) (D' : Disk), x = i ∧ i ≤ 16 ∧ pw X ((pagesW home e L).take i) D = (D', 0) ∧ Heap F w' (blk b T_wal_Log (walC p L.flatten e0 h0 u0 d0) :: PartAt p d X :: DiskAt d D' :: r2), fun x _ => (16 - x).toNat, ⟨0, D, rfl, by omega, rfl, H⟩, ?_⟩
  rintro x w1 ⟨i, D', rfl, hi, hD', H⟩
  have hw' : D'.waits.length < 100017 := by
    have := pw_waits X ((pagesW home e L).take i) D
    rw [hD'] at this
    have h2 : ((pagesW home e L).take i).length ≤ 16 := by simp; omega
    dsimp only at this
    omega
  refine dBoth (fun hlt => ?_) (fun hge => ?_)
  · have hlt' : i < 16 := by omega
    have hiL : i < L.length := by omega
    have hp40 := h40 _ (List.getElem_mem hiL)
    have hpg : ((L.flatten.map (Sc.enc (α := UInt8))).toArray.extract (i * 40) (i * 40 + 40)) = (L[i].map Sc.enc).toArray := by
      rw [List.extract_toArray, List.extract_eq_take_drop, ← flatK_get h40 i hiL]
      simp
    refine ⟨by omega, by omega, ?_⟩
    rw [Int.toNat_natCast, hpg]
    refine al H (cs := (List.replicate 40 (0 : UInt8)).map Sc.enc) (fun a8 w H => ?_) zc_a40
    refine stArr0 (c := (L[i].map Sc.enc).toArray) (cs := (List.replicate 40 (0 : UInt8)).map Sc.enc) (ty := T_a40_uint8) H (by simp [hp40]) (by simp) (fun v hv => by simp only [List.mem_map] at hv; obtain ⟨x, _, rfl⟩ := hv; rfl) fun w H => ?_
    replace H := H.drew
    refine nn (ldn H (o := 0) rfl (slcA0 (by decide) (by decide) rfl ?_))
    rw [wrap8]
    refine al H (cs := [.int .u8 ((b8 i).toNat : Int)]) (fun a14 w H => ⟨?_, ?_⟩) rfl
    exact H.cell (o := 0) (by repeat (first | assumption | constructor)) rfl
    replace H := H.blk_own (n := 1) (cs := [.int .u8 ((b8 i).toNat : Int)]) [b8 i] rfl (mx (by simp)) rfl
    refine apBo (s := ⟨some ⟨a14, 0, none⟩, 1, 1⟩) (xs := [b8 i]) (o := 0) (b := a8) L[i] S_l_uint8 H rfl (by simp; omega) (by rw [List.drop_zero]; exact List.take_of_length_le (by simp)) hp40 fun s1 w H => ⟨?_, ?_⟩
    exact H.cell (o := 0) (by repeat (first | assumption | constructor)) rfl
    replace H := H.share (s := s1) (xs := [b8 i] ++ L[i])
    refine wal_say (c := 80) (e := e) (s := s1) (bb := [b8 i] ++ L[i]) H (by simp; omega) (fun s2 w H => ⟨_, rfl, ?_, ?_⟩) .h (.t (.t (.t (.t (.t hH)))))
    exact H.cell (o := 0) (by repeat (first | assumption | constructor)) rfl
    replace H := H.share (s := s2) (xs := sayS 80 e ([b8 i] ++ L[i]))
    rw [i64_id (n := (home : Int) * 16) (by omega), i64_id (n := 2 + (home : Int) * 16) (by omega), i64_id (by omega)]
    have hpos : 2 + (home : Int) * 16 + (i : Int) = ((2 + 16 * home + i : Nat) : Int) := by omega
    rw [hpos]
    refine part_Write (D := D') (s := s2) (bb := sayS 80 e ([b8 i] ++ L[i])) H (by omega) fun w H => ⟨_, rfl, ?_⟩
    have hstep : pw X ((pagesW home e L).take (i + 1)) D = pwrite D' X ((2 + 16 * home + i : Nat) : Int) (sayS 80 e ([b8 i] ++ L[i])) := by
      rw [pagesW_take home e L hiL, pw_snoc, hD', if_pos rfl]; rfl
    have hall : pw X (pagesW home e L) D = if (pw X ((pagesW home e L).take (i + 1)) D).2 = 0 then pw X ((pagesW home e L).drop (i + 1)) (pw X ((pagesW home e L).take (i + 1)) D).1 else pw X ((pagesW home e L).take (i + 1)) D := by
      rw [← pw_append, List.take_append_drop]
    generalize pwrite D' X ((2 + 16 * home + i : Nat) : Int) (sayS 80 e ([b8 i] ++ L[i])) = R at *
    obtain ⟨D2, e2⟩ := R
    dsimp only at *
    replace H : Heap F w (blk b T_wal_Log (walC p L.flatten e0 h0 u0 d0) :: PartAt p d X :: DiskAt d D2 :: r2) := (((H.dr (imm s2 _)).dr (imm s1 _)).dr (blk a8 _ _)).ord3
    refine cBoth (fun he => ?_) (fun he => ⟨⟨i + 1, D2, by rw [i64_id (by omega)]; omega, by omega, ?_, H⟩, by rw [i64_id (by omega)]; (try dsimp only); omega⟩)
    · have hne : ¬ e2 = 0 := by simpa using he
      have hp : pall X (pagesW home e L) D = (D2, e2) := by
        rw [pall_pw, hall, hstep, if_neg hne, if_neg (by exact hne)]
      rw [hp, if_neg (by exact hne)] at k
      exact k w H
    · rw [hstep]; have : e2 = 0 := by simpa using he
      rw [this]
  · obtain rfl : i = 16 := by omega
    rw [List.take_of_length_le (by rw [pagesW_len]; omega)] at hD'
    refine nn (ldn H (o := 0) rfl ?_)
    refine part_Flush (D := D') H fun w H => ⟨_, rfl, ?_⟩
    have hp : pall X (pagesW home e L) D = D'.flush := by rw [pall_pw, hD', if_pos rfl]
    rw [hp] at k
    have hw2 := flush_waits D'
    generalize D'.flush = R at *
    obtain ⟨D2, e2⟩ := R
    dsimp only at *
    refine cBoth (fun he => ?_) (fun he => ?_)
    · have hne : ¬ e2 = 0 := by simpa using he
      rw [if_neg hne] at k
      exact k w (H.ord3 (a := blk b _ _) (b := PartAt p d X))
    · obtain rfl : e2 = 0 := by simpa using he
      rw [if_pos rfl] at k
      replace H := H.drew
      refine nn (ldn H (o := 0) rfl ⟨by decide, ?_⟩)
      rw [wrap8]
      refine al H (cs := [.int .u8 ((b8 home).toNat : Int)]) (fun a14 w H => ⟨?_, ?_⟩) rfl
      exact H.cell (o := 0) (by repeat (first | assumption | constructor)) rfl
      replace H := H.blk_own (n := 1) (cs := [.int .u8 ((b8 home).toNat : Int)]) [b8 home] rfl (mx (by simp)) rfl
      replace H := H.share (s := ⟨some ⟨a14, 0, none⟩, 1, 1⟩) (xs := [b8 home])
      refine wal_say (c := 72) (e := e) (s := ⟨some ⟨a14, 0, none⟩, 1, 1⟩) (bb := [b8 home]) H (by simp) (fun s2 w H => ⟨_, rfl, ?_, ?_⟩) .h (.t (.t (.t (.t hH))))
      exact H.cell (o := 0) (by repeat (first | assumption | constructor)) rfl
      replace H := H.share (s := s2) (xs := sayS 72 e [b8 home])
      have hpos : IntKind.wrap .i64 (Int.tmod (e.toNat : Int) 2) = ((e.toNat % 2 : Nat) : Int) := by
        rw [show Int.tmod (e.toNat : Int) 2 = ((e.toNat % 2 : Nat) : Int) from rfl, i64_id (by omega)]
      rw [hpos]
      refine part_Write (D := D2) (s := s2) (bb := sayS 72 e [b8 home]) H (by omega) fun w H => ⟨_, rfl, ?_⟩
      rw [headW, pall] at k
      have hw3 := pwrite_waits D2 X ((e.toNat % 2 : Nat) : Int) (sayS 72 e [b8 home])
      generalize pwrite D2 X ((e.toNat % 2 : Nat) : Int) (sayS 72 e [b8 home]) = R at *
      obtain ⟨D3, e3⟩ := R
      dsimp only at *
      replace H : Heap F w (blk b T_wal_Log (walC p L.flatten e0 h0 u0 d0) :: PartAt p d X :: DiskAt d D3 :: r2) := ((H.dr (imm s2 _)).dr (imm _ [b8 home])).ord3
      refine cBoth (fun he => ?_) (fun he => ?_)
      · have hne : ¬ e3 = 0 := by simpa using he
        rw [if_neg hne] at k
        exact k w H
      · have h0 : e3 = 0 := by simpa using he
        rw [if_pos h0, pall] at k
        refine nn (ldn H (o := 0) rfl ?_)
        refine part_Flush (D := D3) H fun w H => ⟨_, rfl, k w ?_⟩
        exact H.ord3 (a := blk b _ _) (b := PartAt p d X)
end
end Go.Proofs.YtkfcmpngcanffaaDoor.G
