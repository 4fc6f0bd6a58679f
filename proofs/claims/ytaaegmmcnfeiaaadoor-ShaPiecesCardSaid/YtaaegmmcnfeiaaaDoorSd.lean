import Derived.Test.YtaaegmmcnfeiaaaDoorSc
set_option linter.unusedVariables false
set_option linter.unusedSimpArgs false
namespace Go.VC
open Go Go.RowKit
/-- bytes as a text -/
def bs (l : List UInt8) : ByteArray := ⟨l.toArray⟩
@[simp] theorem bs_size (l : List UInt8) : (bs l).size = l.length := by simp [bs, ByteArray.size]
theorem bs_inj {a b : List UInt8} (h : bs a = bs b) : a = b := by
  have : (bs a).data = (bs b).data := by rw [h]
  simpa [bs] using this
theorem bs_append (a b : List UInt8) : bs a ++ bs b = bs (a ++ b) := by
  apply ByteArray.ext; simp [bs]
theorem loop_toList (l : List UInt8) : ∀ (k i : Nat) (r : List UInt8), k = l.length - i → i ≤ l.length → ByteArray.toList.loop (bs l) i r = r.reverse ++ l.drop i := by
  intro k
  induction k with
  | zero =>
    intro i r hk hi
    rw [ByteArray.toList.loop]
    simp [show ¬ i < l.length by omega, List.drop_of_length_le (show l.length ≤ i by omega)]
  | succ k ih =>
    intro i r hk hi
    rw [ByteArray.toList.loop]
    simp only [bs_size, show i < l.length by omega, if_true]
    rw [ih (i + 1) _ (by omega) (by omega)]
    have e : (bs l).get! i = l[i]'(by omega) := by simp [bs, ByteArray.get!, show i < l.length by omega]
    rw [e, List.reverse_cons, List.append_assoc, List.drop_eq_getElem_cons (show i < l.length by omega)]
    rfl
@[simp] theorem bs_toList (l : List UInt8) : (bs l).toList = l := by
  show ByteArray.toList.loop (bs l) 0 [] = l
  rw [loop_toList l l.length 0 [] (by simp) (by omega)]
  simp
theorem bs_get (l : List UInt8) (i : Nat) : (bs l)[i]? = l[i]? := by
  by_cases h : i < l.length
  · rw [List.getElem?_eq_getElem h]
    have : i < (bs l).size := by simpa using h
    rw [getElem?_pos (bs l) i this]
    simp [bs, ByteArray.getElem_eq_getElem_data]
  · rw [List.getElem?_eq_none (by omega), getElem?_neg (bs l) i (by simpa using h)]
theorem bs_extract (l : List UInt8) (a b : Nat) : (bs l).extract a b = bs ((l.drop a).take (b - a)) := by
  apply ByteArray.ext
  simp [bs, List.extract_toArray]
theorem exists_bs (s : ByteArray) : ∃ l, s = bs l := ⟨s.data.toList, by apply ByteArray.ext; simp [bs]⟩
theorem idxS_bs {l : List UInt8} {i : Int} {K : Int → Prop} (h0 : 0 ≤ i) (h1 : i < l.length) (k : K ((l[i.toNat]'(by omega)).toNat : Int)) : idxS (bs l) i K :=
  ⟨h0, _, by rw [bs_get]; exact List.getElem?_eq_getElem (by omega), k⟩
theorem slcS_bs {l : List UInt8} {lo hi : Int} {K : ByteArray → Prop} (h0 : 0 ≤ lo) (h1 : lo ≤ hi) (h2 : hi ≤ l.length) (k : K (bs ((l.drop lo.toNat).take (hi.toNat - lo.toNat)))) : slcS (bs l) lo hi K :=
  ⟨by omega, by simpa using h2, h0, h1, by rw [bs_extract]; exact k⟩
section
variable {F : Bs} {w w' : World} {l l' r : List SP} {s x : Sl} {e : TypeId}
/-- noughts behind it -/
theorem appZ {α : Type} [Sc α] {P : Program} {t u ty bytes : Nat} {xs : List α} {d : α} (hS : SlZ P t e (Sc.enc d) bytes) (hu : P.underlying u = some (.int .i64)) (H : Heap F w l) {n : Int} (h0 : 0 ≤ n)
    (hb : (xs.length + n.toNat) * bytes ≤ 140737488355328) (hm : xs.length + n.toNat ≤ maxLen) {K : Sl → World → Prop}
    (k : ∀ (s' : Sl) (w' : World), Heap F w' (own e s' (xs ++ List.replicate n.toNat d) :: r) → K s' w') (hT : Take l (own e s xs) r := by repeat (first | assumption | constructor)) :
    runG .sl P w (Builtin.append_ #[t, u] ty #[.slice s.a s.len s.cap, .int .i64 n]) K := by
  obtain ⟨i, z, hi, hz, hsz, hby, hzc⟩ := hS.ex
  refine app_core (ys := List.replicate n.toNat d) (by show 0 < 1; omega) H (fun ro _ _ _ => ⟨List.replicate n.toNat [Sc.enc d], by simp, fun i y hy => ?_, fun olds hxs hown => ?_⟩) k hT
  · have hy' := List.getElem?_eq_some_iff.1 hy
    obtain ⟨hi, rfl⟩ := hy'
    simp at hi
    exact ⟨[Sc.enc d], by simp [hi], by simp [Rep.r]⟩
  · obtain ⟨v', w', h1, h2, h3, h4⟩ := run_append_zero (P := P) w t u ty e i z (Sc.enc d) bytes hS.ht hu hi hz hsz hby hzc (Sc.one d) s.v s.len olds hown n.toNat (by omega) (by rw [← hxs]; exact hb)
    rw [show ((n.toNat : Nat) : Int) = n by omega] at h1
    refine ⟨v', w', h1, ?_, h3, h4⟩
    have e1 : (List.replicate n.toNat [Sc.enc d]).flatten = List.replicate n.toNat (Sc.enc d) := by
      generalize n.toNat = k
      induction k with
      | zero => rfl
      | succ k ih => rw [List.replicate_succ, List.flatten_cons, ih]; rfl
    rw [List.length_replicate, e1]
    exact h2
/-- what the cells of bytes read as -/
theorem conv_run {P : Program} {t st : Nat} (ht : P.underlying t = some (.slice e)) (he : P.underlying e = some (.int .u8)) (hst : P.underlying st = some .string) {xs : List UInt8} (hl : xs.length = s.len)
    (hc : s.len = 0 ∨ ∃ b o, s.a = some ⟨b, o, none⟩ ∧ ∀ (i : Nat) (h : i < xs.length), w.cell? ⟨b, o + i, none⟩ = some (.int .u8 (xs[i].toNat : Int))) :
    (convert t st (.slice s.a s.len s.cap)).run P w = .ok (.string (bs xs)) w := by
  rcases hc with h0 | ⟨b, o, ha, hc⟩
  · have : xs = [] := List.eq_nil_of_length_eq_zero (by omega)
    subst this
    rw [h0]
    rw [run_convert_bytes_string w t st e s.a 0 s.cap ht he hst]
    cases s.a with
    | none => simp [Conv.bytesToString, bs]; rfl
    | some a => 
      have := run_bytesToString (P := P) w a 0 s.cap [] (by simp [loadCells, loadCellsFrom])
      rw [this]; rfl
  · rw [ha, ← hl]
    exact run_convert_bytes_back w t st e ⟨b, o, none⟩ s.cap xs ht he hst fun j hj => by rw [add_mk]; exact hc j hj
theorem cvI {P : Program} {t st : Nat} (H : Heap F w l) {xs : List UInt8} (ht : P.underlying t = some (.slice e)) (he : P.underlying e = some (.int .u8)) (hst : P.underlying st = some .string) (hT : Has l (imm s xs) := by repeat (first | assumption | constructor)) :
    (convert t st (.slice s.a s.len s.cap)).run P w = .ok (.string (bs xs)) w := by
  obtain ⟨ro, g, hro, _, h1, _, _, h4⟩ := H.get hT
  refine conv_run ht he hst h1 (h4.imp id fun ⟨b, o, ha, hx⟩ => ⟨b, o, ha, fun i hi => ?_⟩)
  obtain ⟨cs, hr, hc⟩ := hx i _ (List.getElem?_eq_getElem hi)
  have hr' : cs = [Sc.enc xs[i]] := hr
  subst hr'
  have := roCell.cell hro (hc 0 _ rfl)
  show _ = some (Sc.enc xs[i])
  simpa [Rep.n] using this
theorem cvO {P : Program} {t st e' : Nat} (H : Heap F w l) {xs : List UInt8} (ht : P.underlying t = some (.slice e)) (he : P.underlying e = some (.int .u8)) (hst : P.underlying st = some .string) (hT : Has l (own e' s xs) := by repeat (first | assumption | constructor)) :
    (convert t st (.slice s.a s.len s.cap)).run P w = .ok (.string (bs xs)) w := by
  obtain ⟨ro, g, _, hg, h1, h2⟩ := H.get hT
  refine conv_run ht he hst h1 ?_
  rcases h2 with h2 | ⟨b, cur, ha, hb, _, _, hsz, hx⟩
  · left; rw [h2]
  · right
    refine ⟨b, 0, ha, fun i hi => ?_⟩
    obtain ⟨cs, hr, hc⟩ := hx i _ (List.getElem?_eq_getElem hi)
    have hr' : cs = [Sc.enc xs[i]] := hr
    subst hr'
    have := hc 0 _ rfl
    rw [cell_of_row w b _ cur e' (0, 0) (hg _ _ hb)]
    show _ = some (Sc.enc xs[i])
    simpa [Rep.n] using this
/-- a text as bytes: read alone -/
theorem bytesOf {P : Program} {t st : Nat} (H : Heap F w l) {xs : List UInt8} (ht : P.underlying t = some (.slice e)) (he : P.underlying e = some (.int .u8)) (hst : P.underlying st = some .string) (hm : xs.length ≤ maxLen)
    {K : Sl → World → Prop} (k : ∀ (s' : Sl) (w' : World), Heap F w' (imm s' xs :: l) → K s' w') : runG .sl P w (convert st t (.string (bs xs))) K := by
  have hr := Go.Lib.run_convert_string_bytes (P := P) w st t e (bs xs) hst ht he
  refine ⟨_, _, hr, ⟨some ⟨w.heap.size, 0, none⟩, (bs xs).size, grownCap w (bs xs).size 0 e⟩, rfl, k _ _ ?_⟩
  have X : Ext w (Go.Lib.bytesWorld w e (bs xs)) := ⟨rfl, rfl, rfl, by rw [Go.Lib.bytesWorld_size]; omega, fun j hj _ => Go.Lib.bytesWorld_at_old w e (bs xs) j hj⟩
  have hn := Go.Lib.bytesWorld_at_new w e (bs xs)
  obtain ⟨ro, h, h1, h2, h3, h4, h5, h6, h7, h8⟩ := H
  generalize hO : (Obj.cells (Go.Lib.bytesCells w e (bs xs)) e ((Go.Lib.bytesCells w e (bs xs)).size, (Go.Lib.bytesCells w e (bs xs)).size + 1)) = O at hn
  have keep : ∀ (x : PH), PH.le x (PH.of w) → PH.le x (PH.of (Go.Lib.bytesWorld w e (bs xs))) := fun x hx i o e' => by
    have hi := hx i o e'
    show (Go.Lib.bytesWorld w e (bs xs)).heap[i]? = _
    rw [X.block i (PH.of_lt hi) fun h => h]; exact hi
  have dn : ∀ (x : PH), PH.le x (PH.of w) → x w.heap.size = none := fun x hx => by
    cases e' : x w.heap.size with
    | none => rfl
    | some o => have := PH.of_lt (hx _ _ e'); omega
  have d1 : ∀ (x : PH), PH.le x (PH.of w) → PH.disj x (PH.one w.heap.size O) := fun x hx i => by
    by_cases e' : i = w.heap.size
    · left; rw [e']; exact dn x hx
    · right; simp [PH.one, e']
  refine ⟨PH.join ro (PH.one w.heap.size O), h, h1.trans (PH.le_join_left _ _), PH.disj_join h2 (d1 h h4).symm, PH.join_le (keep _ h3) (fun i o e' => ?_), keep _ h4,
    ⟨PH.emp, h, fun _ => .inl rfl, PH.emp_le _, PH.le.refl _, ?_, h5.mono (PH.le_join_left _ _) (PH.le.refl _)⟩, h6, h7, h8⟩
  · simp only [PH.one] at e'
    split at e'
    · rename_i hi; subst hi; cases e'; exact hn
    · cases e'
  · have hge := grownCap_ge w (bs xs).size 0 e
    have hcm : grownCap w (bs xs).size 0 e ≤ maxLen := grownCap_le_maxLen w (bs xs).size 0 e (by simpa using hm)
    refine ⟨by simp, hge, hcm, .inr ⟨w.heap.size, 0, rfl, fun i y hy => ⟨[Sc.enc y], rfl, fun j u hj => ?_⟩⟩⟩
    cases j with
    | succ j => simp at hj
    | zero =>
      simp at hj; subst hj
      have e1 : (PH.join ro (PH.one w.heap.size O)) w.heap.size = some O := by simp [PH.join, dn ro h3, PH.one]
      have e2 : ∀ k, roCell (PH.join ro (PH.one w.heap.size O)) w.heap.size k = (Go.Lib.bytesCells w e (bs xs))[k]? := fun k => by
        simp only [roCell, e1]; rw [← hO]
      have hi : i < xs.length := (List.getElem?_eq_some_iff.1 hy).1
      rw [e2]
      simp only [Go.Lib.bytesCells, Rep.n, Nat.mul_one, Nat.zero_add, Nat.add_zero]
      rw [Array.getElem?_append_left (by simpa [bs] using hi)]
      simp only [bs, Array.getElem?_map, List.getElem?_toArray, hy, Option.map_some]
      rfl
/-! ### copy -/
theorem copyB {P : Program} {t bytes rt b o dl dc : Nat} {ty : TypeId} {cur : List Value} {xs : List UInt8} (hS : SlT P t e 1 bytes) (H : Heap F w l) (hfit : o + dl ≤ cur.length) {K : Int → World → Prop}
    (k : ∀ w', Heap F w' (blk b ty (cur.take o ++ (xs.take dl).map Sc.enc ++ cur.drop (o + min xs.length dl)) :: r) → K ((min xs.length dl : Nat) : Int) w') (hT : Take l (blk b ty cur) r := by repeat (first | assumption | constructor)) (hI : Has l (imm x xs) := by repeat (first | assumption | constructor)) :
    runG (.int .i64) P w (Builtin.copy_ #[t, t] rt #[.slice (some ⟨b, o, none⟩) dl dc, .slice x.a x.len x.cap]) K := by
  obtain ⟨i, z, hi, hz, hsz, hby, hzs⟩ := hS.ex
  have hb := H.Blk hT.has
  have hlen := H.len hI
  have H0 := H
  obtain ⟨ro, g, hro, _, _, _, _, h4⟩ := H.get hI
  have e1 : min x.len dl = min xs.length dl := by rw [hlen]
  rcases h4 with h0 | ⟨b2, o2, ha, hx⟩
  · have hn : xs = [] := List.eq_nil_of_length_eq_zero (by omega)
    subst hn
    refine ⟨_, w, ?_, ((min ([] : List UInt8).length dl : Nat) : Int), rfl, k w ?_⟩
    · have hfc : (Builtin.firstCells i.size 0 (.slice x.a 0 x.cap)).run P w = .ok #[] w := by
        cases x.a <;> simp [Builtin.firstCells, loadCells, loadCellsFrom]
      rw [h0]
      simp [Builtin.copy_, run_underlying hS.ht, sizeOf, typeInfo, hi, Builtin.lenOf, hfc, storeCells]
      rfl
    · have := H.take hT
      simpa using this
  · have hcell : ∀ j (hj : j < xs.length), w.cell? ⟨b2, o2 + j, none⟩ = some (Sc.enc xs[j]) := fun j hj => by
      obtain ⟨cs, hr, hc⟩ := hx j _ (List.getElem?_eq_getElem hj)
      have hr' : cs = [Sc.enc xs[j]] := hr
      subst hr'
      have := roCell.cell hro (hc 0 _ rfl)
      simpa [Rep.n] using this
    have hl : ((xs.take dl).map Sc.enc).length = Nat.min x.len dl := by simp [hlen, Nat.min_comm]; 
    have h1' : ∀ u ∈ (xs.take dl).map (Sc.enc : UInt8 → Value), u.oneCell' = true := fun u hu => by
      obtain ⟨y, _, rfl⟩ := List.mem_map.1 hu; rfl
    have hnews : ∀ (j : Nat) (v : Value), ((xs.take dl).map (Sc.enc : UInt8 → Value))[j]? = some v → w.cell? ((⟨b2, o2, none⟩ : Addr).add j) = some v := fun j v hj => by
      have hj' := List.getElem?_eq_some_iff.1 hj
      obtain ⟨hjl, rfl⟩ := hj'
      have hjl' : j < xs.length := by simp at hjl; omega
      rw [add_mk, hcell j hjl']
      simp
    have hfit' : o + Nat.min x.len dl ≤ cur.toArray.size := by
      have : Nat.min x.len dl ≤ dl := Nat.min_le_right _ _
      rw [List.size_toArray]; omega
    have hr := run_copy_row (P := P) w t t rt e b o dl dc ⟨b2, o2, none⟩ x.len x.cap cur.toArray ty ((xs.take dl).map Sc.enc) hS.ht (by simp [hi, hsz]) hb hl hnews (by rw [hl]; exact hfit') h1'
    rw [← ha] at hr
    have ek : Nat.min x.len dl = min xs.length dl := by rw [hlen]
    refine ⟨_, _, hr, ((min xs.length dl : Nat) : Int), by rw [hl, ek]; rfl, ?_⟩
    rw [hl, ek]
    refine k _ ((H.take hT).upd rfl rfl rfl fun ro h1 _ hle _ hc => ⟨PH.one b (.cells (cur.take o ++ (xs.take dl).map Sc.enc ++ cur.drop (o + min xs.length dl)).toArray ty (0, 0)), by simp [blk, PH.one], fun i x e => ?_, fun kk hk => ?_, fun kk hk hn => ?_⟩)
    · simp only [PH.one] at e
      split at e
      · rename_i hi; subst hi; cases e
        exact setRow_heap w i cur.toArray (cur.take o ++ (xs.take dl).map Sc.enc ++ cur.drop (o + min xs.length dl)).toArray ty (0, 0) hb
      · cases e
    · left
      simp only [PH.one] at hk
      split at hk
      · rename_i hi; subst hi
        have : h1 kk = some (.cells cur.toArray ty (0, 0)) := hc
        rw [this]; simp
      · exact absurd rfl hk
    · have hc' : h1 b = some (.cells cur.toArray ty (0, 0)) := hc
      exact setRow_other w b kk _ fun e => by rw [e, hc'] at hn; cases hn
end
end Go.VC
namespace Go.VC
open Go Go.RowKit
section
variable {F : Bs} {w : World} {l r : List SP} {c : SP}
theorem Heap.dr (H : Heap F w l) (c : SP) (hT : Take l c r := by repeat (first | assumption | constructor)) : Heap F w r := (H.take hT).tl
theorem Heap.immDup {α : Type} [Rep α] {s : Sl} {xs : List α} (H : Heap F w l) (hT : Has l (imm s xs) := by repeat (first | assumption | constructor)) : Heap F w (imm s xs :: l) := H.add hT fun _ _ h => h
end
theorem dT {φ : Prop} [Decidable φ] {A B : Prop} (h : φ) (k : A) : cond (decide φ) A B := by rw [decide_eq_true h]; exact k
theorem dF {φ : Prop} [Decidable φ] {A B : Prop} (h : ¬ φ) (k : B) : cond (decide φ) A B := by rw [decide_eq_false h]; exact k
theorem cT {b : Bool} {A B : Prop} (h : b = true) (k : A) : cond b A B := by rw [h]; exact k
theorem cF {b : Bool} {A B : Prop} (h : b = false) (k : B) : cond b A B := by rw [h]; exact k
/-- both ways -/
theorem cBoth {b : Bool} {A B : Prop} (h : b = true → A) (k : b = false → B) : cond b A B := by cases b; exact k rfl; exact h rfl
theorem dBoth {φ : Prop} [Decidable φ] {A B : Prop} (h : φ → A) (k : ¬ φ → B) : cond (decide φ) A B := by
  by_cases e : φ
  · exact dT e (h e)
  · exact dF e (k e)
theorem i64_id {n : Int} (h : -9223372036854775808 ≤ n ∧ n ≤ 9223372036854775807) : IntKind.wrap .i64 n = n := IntWalk.i64_in n (by omega)
end Go.VC
namespace Go.VC
open Go Go.RowKit
section
variable {α : Type} [Rep α] {F : Bs} {w : World} {l r : List SP} {s : Sl} {xs : List α} {e : TypeId}
theorem Heap.bndO (H : Heap F w l) (hT : Has l (own e s xs) := by repeat (first | assumption | constructor)) : xs.length ≤ 9223372036854775807 := by
  obtain ⟨_, _, _, _, h1, h2⟩ := H.get hT
  rcases h2 with h2 | ⟨_, _, _, _, h3, h4, _⟩
  · rw [h1, h2]; decide
  · simp only [maxLen] at h4; omega
theorem Heap.bndI (H : Heap F w l) (hT : Has l (imm s xs) := by repeat (first | assumption | constructor)) : xs.length ≤ 9223372036854775807 := by
  obtain ⟨_, _, _, _, h1, h2, h3, _⟩ := H.get hT
  simp only [maxLen] at h3; omega
end
end Go.VC
namespace Go.VC
open Go Go.RowKit
section
variable {F : Bs} {w w' : World} {l l' r : List SP} {b n : Nat} {ty : TypeId} {cs cs' : List Value}
theorem lda (H : Heap F w l) {t : Tag1} {x : t.T} {K : t.T → Prop} (k : K x) (hT : Has l (blk b ty cs) := by repeat (first | assumption | constructor)) (hc : CellIs cs n (t.emb x) := by repeat (first | assumption | constructor)) : ldT t w ((⟨b, 0, none⟩ : Addr).add n) K := by
  rw [add_mk, Nat.zero_add]; exact ld H k hT hc
theorem sta (H : Heap F w l) {v : Value} {K : World → Prop} (k : ∀ w', Heap F w' (blk b ty cs' :: l') → K w') (hT : Take l (blk b ty cs) l' := by repeat (first | assumption | constructor)) (hs : SetIs cs n v cs' := by repeat (first | assumption | constructor)) (hv : oneC v = true := by rfl) : stC w ((⟨b, 0, none⟩ : Addr).add n) v K := by
  rw [add_mk, Nat.zero_add]; exact st H k hT hs hv
theorem ld0 (H : Heap F w l) {t : Tag1} {x : t.T} {K : t.T → Prop} (k : K x) (hT : Has l (blk b ty cs) := by repeat (first | assumption | constructor)) (hc : CellIs cs 0 (t.emb x) := by repeat (first | assumption | constructor)) : ldT t w ⟨b, 0, none⟩ K := ld H k hT hc
theorem st0 (H : Heap F w l) {v : Value} {K : World → Prop} (k : ∀ w', Heap F w' (blk b ty cs' :: l') → K w') (hT : Take l (blk b ty cs) l' := by repeat (first | assumption | constructor)) (hs : SetIs cs 0 v cs' := by repeat (first | assumption | constructor)) (hv : oneC v = true := by rfl) : stC w ⟨b, 0, none⟩ v K := st H k hT hs hv
/-- a cell that was read is read again -/
theorem cella (H : Heap F w l) {v : Value} (hT : Has l (blk b ty cs) := by repeat (first | assumption | constructor)) (hc : CellIs cs n v := by repeat (first | assumption | constructor)) : w.cell? ((⟨b, 0, none⟩ : Addr).add n) = some v := by
  rw [add_mk, Nat.zero_add]; exact H.cell hT hc.get
theorem cell0 (H : Heap F w l) {v : Value} (hT : Has l (blk b ty cs) := by repeat (first | assumption | constructor)) (hc : CellIs cs 0 v := by repeat (first | assumption | constructor)) : w.cell? ⟨b, 0, none⟩ = some v := H.cell hT hc.get
end
end Go.VC
