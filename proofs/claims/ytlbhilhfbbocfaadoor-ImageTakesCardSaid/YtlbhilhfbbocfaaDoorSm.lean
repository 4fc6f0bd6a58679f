import Derived.Test.YtlbhilhfbbocfaaDoorSl
import Derived.Laws.StructEq
import Derived.Deep.Slices
import Derived.WideShapes
set_option linter.unusedVariables false
set_option linter.unusedSimpArgs false
namespace Go.VC
open Go Go.RowKit
/-- bytes as a text -/
def bs (l : List UInt8) : ByteArray := ⟨l.toArray⟩
@[simp] theorem bs_size (l : List UInt8) : (bs l).size = l.length := by simp [bs, ByteArray.size]
theorem bs_inj {a b : List UInt8} (h : bs a = bs b) : a = b := by
  have : (bs a).data = (bs b).data := by rw [h]
  simpa [bs] using this
theorem bs_append (a b : List UInt8) : bs a ++ bs b = bs (a ++ b) := by
  apply ByteArray.ext; simp [bs]
theorem loop_toList (l : List UInt8) : ∀ (k i : Nat) (r : List UInt8), k = l.length - i → i ≤ l.length → ByteArray.toList.loop (bs l) i r = r.reverse ++ l.drop i := by
  intro k
  induction k with
  | zero =>
    intro i r hk hi
    rw [ByteArray.toList.loop]
    simp [show ¬ i < l.length by omega, List.drop_of_length_le (show l.length ≤ i by omega)]
  | succ k ih =>
    intro i r hk hi
    rw [ByteArray.toList.loop]
    simp only [bs_size, show i < l.length by omega, if_true]
    rw [ih (i + 1) _ (by omega) (by omega)]
    have e : (bs l).get! i = l[i]'(by omega) := by simp [bs, ByteArray.get!, show i < l.length by omega]
    rw [e, List.reverse_cons, List.append_assoc, List.drop_eq_getElem_cons (show i < l.length by omega)]
    rfl
@[simp] theorem bs_toList (l : List UInt8) : (bs l).toList = l := by
  show ByteArray.toList.loop (bs l) 0 [] = l
  rw [loop_toList l l.length 0 [] (by simp) (by omega)]
  simp
theorem bs_get (l : List UInt8) (i : Nat) : (bs l)[i]? = l[i]? := by
  by_cases h : i < l.length
  · rw [List.getElem?_eq_getElem h]
    have : i < (bs l).size := by simpa using h
    rw [getElem?_pos (bs l) i this]
    simp [bs, ByteArray.getElem_eq_getElem_data]
  · rw [List.getElem?_eq_none (by omega), getElem?_neg (bs l) i (by simpa using h)]
theorem bs_extract (l : List UInt8) (a b : Nat) : (bs l).extract a b = bs ((l.drop a).take (b - a)) := by
  apply ByteArray.ext
  simp [bs, List.extract_toArray]
theorem exists_bs (s : ByteArray) : ∃ l, s = bs l := ⟨s.data.toList, by apply ByteArray.ext; simp [bs]⟩
theorem idxS_bs {l : List UInt8} {i : Int} {K : Int → Prop} (h0 : 0 ≤ i) (h1 : i < l.length) (k : K ((l[i.toNat]'(by omega)).toNat : Int)) : idxS (bs l) i K :=
  ⟨h0, _, by rw [bs_get]; exact List.getElem?_eq_getElem (by omega), k⟩
theorem slcS_bs {l : List UInt8} {lo hi : Int} {K : ByteArray → Prop} (h0 : 0 ≤ lo) (h1 : lo ≤ hi) (h2 : hi ≤ l.length) (k : K (bs ((l.drop lo.toNat).take (hi.toNat - lo.toNat)))) : slcS (bs l) lo hi K :=
  ⟨by omega, by simpa using h2, h0, h1, by rw [bs_extract]; exact k⟩
section
variable {F : Bs} {w w' : World} {l l' r : List SP} {s x : Sl} {e : TypeId}
/-- noughts behind it -/
theorem appZ {α : Type} [Sc α] {P : Program} {t u ty bytes : Nat} {xs : List α} {d : α} (hS : SlZ P t e (Sc.enc d) bytes) (hu : P.underlying u = some (.int .i64)) (H : Heap F w l) {n : Int} (h0 : 0 ≤ n)
    (hb : (xs.length + n.toNat) * bytes ≤ 140737488355328) (hm : xs.length + n.toNat ≤ maxLen) {K : Sl → World → Prop}
    (k : ∀ (s' : Sl) (w' : World), Heap F w' (own e s' (xs ++ List.replicate n.toNat d) :: r) → K s' w') (hT : Take l (own e s xs) r := by repeat (first | assumption | constructor)) :
    runG .sl P w (Builtin.append_ #[t, u] ty #[.slice s.a s.len s.cap, .int .i64 n]) K := by
  obtain ⟨i, z, hi, hz, hsz, hby, hzc⟩ := hS.ex
  refine app_core (ys := List.replicate n.toNat d) (by show 0 < 1; omega) H (fun ro _ _ _ => ⟨List.replicate n.toNat [Sc.enc d], by simp, fun i y hy => ?_, fun olds hxs hown => ?_⟩) k hT
  · have hy' := List.getElem?_eq_some_iff.1 hy
    obtain ⟨hi, rfl⟩ := hy'
    simp at hi
    exact ⟨[Sc.enc d], by simp [hi], by simp [Rep.r]⟩
  · obtain ⟨v', w', h1, h2, h3, h4⟩ := run_append_zero (P := P) w t u ty e i z (Sc.enc d) bytes hS.ht hu hi hz hsz hby hzc (Sc.one d) s.v s.len olds hown n.toNat (by omega) (by rw [← hxs]; exact hb)
    rw [show ((n.toNat : Nat) : Int) = n by omega] at h1
    refine ⟨v', w', h1, ?_, h3, h4⟩
    have e1 : (List.replicate n.toNat [Sc.enc d]).flatten = List.replicate n.toNat (Sc.enc d) := by
      generalize n.toNat = k
      induction k with
      | zero => rfl
      | succ k ih => rw [List.replicate_succ, List.flatten_cons, ih]; rfl
    rw [List.length_replicate, e1]
    exact h2
/-- what the cells of bytes read as -/
theorem conv_run {P : Program} {t st : Nat} (ht : P.underlying t = some (.slice e)) (he : P.underlying e = some (.int .u8)) (hst : P.underlying st = some .string) {xs : List UInt8} (hl : xs.length = s.len)
    (hc : s.len = 0 ∨ ∃ b o, s.a = some ⟨b, o, none⟩ ∧ ∀ (i : Nat) (h : i < xs.length), w.cell? ⟨b, o + i, none⟩ = some (.int .u8 (xs[i].toNat : Int))) :
    (convert t st (.slice s.a s.len s.cap)).run P w = .ok (.string (bs xs)) w := by
  rcases hc with h0 | ⟨b, o, ha, hc⟩
  · have : xs = [] := List.eq_nil_of_length_eq_zero (by omega)
    subst this
    rw [h0]
    rw [run_convert_bytes_string w t st e s.a 0 s.cap ht he hst]
    cases s.a with
    | none => simp [Conv.bytesToString, bs]; rfl
    | some a => 
      have := run_bytesToString (P := P) w a 0 s.cap [] (by simp [loadCells, loadCellsFrom])
      rw [this]; rfl
  · rw [ha, ← hl]
    exact run_convert_bytes_back w t st e ⟨b, o, none⟩ s.cap xs ht he hst fun j hj => by rw [add_mk]; exact hc j hj
theorem cvI {P : Program} {t st : Nat} (H : Heap F w l) {xs : List UInt8} (ht : P.underlying t = some (.slice e)) (he : P.underlying e = some (.int .u8)) (hst : P.underlying st = some .string) (hT : Has l (imm s xs) := by repeat (first | assumption | constructor)) :
    (convert t st (.slice s.a s.len s.cap)).run P w = .ok (.string (bs xs)) w := by
  obtain ⟨ro, g, hro, _, h1, _, _, h4⟩ := H.get hT
  refine conv_run ht he hst h1 (h4.imp id fun ⟨b, o, ha, hx⟩ => ⟨b, o, ha, fun i hi => ?_⟩)
  obtain ⟨cs, hr, hc⟩ := hx i _ (List.getElem?_eq_getElem hi)
  have hr' : cs = [Sc.enc xs[i]] := hr
  subst hr'
  have := roCell.cell hro (hc 0 _ rfl)
  show _ = some (Sc.enc xs[i])
  simpa [Rep.n] using this
theorem cvO {P : Program} {t st e' : Nat} (H : Heap F w l) {xs : List UInt8} (ht : P.underlying t = some (.slice e)) (he : P.underlying e = some (.int .u8)) (hst : P.underlying st = some .string) (hT : Has l (own e' s xs) := by repeat (first | assumption | constructor)) :
    (convert t st (.slice s.a s.len s.cap)).run P w = .ok (.string (bs xs)) w := by
  obtain ⟨ro, g, _, hg, h1, h2⟩ := H.get hT
  refine conv_run ht he hst h1 ?_
  rcases h2 with h2 | ⟨b, cur, ha, hb, _, _, hsz, hx⟩
  · left; rw [h2]
  · right
    refine ⟨b, 0, ha, fun i hi => ?_⟩
    obtain ⟨cs, hr, hc⟩ := hx i _ (List.getElem?_eq_getElem hi)
    have hr' : cs = [Sc.enc xs[i]] := hr
    subst hr'
    have := hc 0 _ rfl
    rw [cell_of_row w b _ cur e' (0, 0) (hg _ _ hb)]
    show _ = some (Sc.enc xs[i])
    simpa [Rep.n] using this
/-- a text as bytes: read alone -/
theorem bytesOf {P : Program} {t st : Nat} (H : Heap F w l) {xs : List UInt8} (ht : P.underlying t = some (.slice e)) (he : P.underlying e = some (.int .u8)) (hst : P.underlying st = some .string) (hm : xs.length ≤ maxLen)
    {K : Sl → World → Prop} (k : ∀ (s' : Sl) (w' : World), Heap F w' (imm s' xs :: l) → K s' w') : runG .sl P w (convert st t (.string (bs xs))) K := by
  have hr := Go.Lib.run_convert_string_bytes (P := P) w st t e (bs xs) hst ht he
  refine ⟨_, _, hr, ⟨some ⟨w.heap.size, 0, none⟩, (bs xs).size, grownCap w (bs xs).size 0 e⟩, rfl, k _ _ ?_⟩
  have X : Ext w (Go.Lib.bytesWorld w e (bs xs)) := ⟨rfl, rfl, rfl, by rw [Go.Lib.bytesWorld_size]; omega, fun j hj _ => Go.Lib.bytesWorld_at_old w e (bs xs) j hj⟩
  have hn := Go.Lib.bytesWorld_at_new w e (bs xs)
  obtain ⟨ro, h, h1, h2, h3, h4, h5, h6, h7, h8⟩ := H
  generalize hO : (Obj.cells (Go.Lib.bytesCells w e (bs xs)) e ((Go.Lib.bytesCells w e (bs xs)).size, (Go.Lib.bytesCells w e (bs xs)).size + 1)) = O at hn
  have keep : ∀ (x : PH), PH.le x (PH.of w) → PH.le x (PH.of (Go.Lib.bytesWorld w e (bs xs))) := fun x hx i o e' => by
    have hi := hx i o e'
    show (Go.Lib.bytesWorld w e (bs xs)).heap[i]? = _
    rw [X.block i (PH.of_lt hi) fun h => h]; exact hi
  have dn : ∀ (x : PH), PH.le x (PH.of w) → x w.heap.size = none := fun x hx => by
    cases e' : x w.heap.size with
    | none => rfl
    | some o => have := PH.of_lt (hx _ _ e'); omega
  have d1 : ∀ (x : PH), PH.le x (PH.of w) → PH.disj x (PH.one w.heap.size O) := fun x hx i => by
    by_cases e' : i = w.heap.size
    · left; rw [e']; exact dn x hx
    · right; simp [PH.one, e']
  refine ⟨PH.join ro (PH.one w.heap.size O), h, h1.trans (PH.le_join_left _ _), PH.disj_join h2 (d1 h h4).symm, PH.join_le (keep _ h3) (fun i o e' => ?_), keep _ h4,
    ⟨PH.emp, h, fun _ => .inl rfl, PH.emp_le _, PH.le.refl _, ?_, h5.mono (PH.le_join_left _ _) (PH.le.refl _)⟩, h6, h7, h8⟩
  · simp only [PH.one] at e'
    split at e'
    · rename_i hi; subst hi; cases e'; exact hn
    · cases e'
  · have hge := grownCap_ge w (bs xs).size 0 e
    have hcm : grownCap w (bs xs).size 0 e ≤ maxLen := grownCap_le_maxLen w (bs xs).size 0 e (by simpa using hm)
    refine ⟨by simp, hge, hcm, .inr ⟨w.heap.size, 0, rfl, fun i y hy => ⟨[Sc.enc y], rfl, fun j u hj => ?_⟩⟩⟩
    cases j with
    | succ j => simp at hj
    | zero =>
      simp at hj; subst hj
      have e1 : (PH.join ro (PH.one w.heap.size O)) w.heap.size = some O := by simp [PH.join, dn ro h3, PH.one]
      have e2 : ∀ k, roCell (PH.join ro (PH.one w.heap.size O)) w.heap.size k = (Go.Lib.bytesCells w e (bs xs))[k]? := fun k => by
        simp only [roCell, e1]; rw [← hO]
      have hi : i < xs.length := (List.getElem?_eq_some_iff.1 hy).1
      rw [e2]
      simp only [Go.Lib.bytesCells, Rep.n, Nat.mul_one, Nat.zero_add, Nat.add_zero]
      rw [Array.getElem?_append_left (by simpa [bs] using hi)]
      simp only [bs, Array.getElem?_map, List.getElem?_toArray, hy, Option.map_some]
      rfl
/-! ### copy -/
theorem copyB {P : Program} {t bytes rt b o dl dc : Nat} {ty : TypeId} {cur : List Value} {xs : List UInt8} (hS : SlT P t e 1 bytes) (H : Heap F w l) (hfit : o + dl ≤ cur.length) {K : Int → World → Prop}
    (k : ∀ w', Heap F w' (blk b ty (cur.take o ++ (xs.take dl).map Sc.enc ++ cur.drop (o + min xs.length dl)) :: r) → K ((min xs.length dl : Nat) : Int) w') (hT : Take l (blk b ty cur) r := by repeat (first | assumption | constructor)) (hI : Has l (imm x xs) := by repeat (first | assumption | constructor)) :
    runG (.int .i64) P w (Builtin.copy_ #[t, t] rt #[.slice (some ⟨b, o, none⟩) dl dc, .slice x.a x.len x.cap]) K := by
  obtain ⟨i, z, hi, hz, hsz, hby, hzs⟩ := hS.ex
  have hb := H.Blk hT.has
  have hlen := H.len hI
  have H0 := H
  obtain ⟨ro, g, hro, _, _, _, _, h4⟩ := H.get hI
  have e1 : min x.len dl = min xs.length dl := by rw [hlen]
  rcases h4 with h0 | ⟨b2, o2, ha, hx⟩
  · have hn : xs = [] := List.eq_nil_of_length_eq_zero (by omega)
    subst hn
    refine ⟨_, w, ?_, ((min ([] : List UInt8).length dl : Nat) : Int), rfl, k w ?_⟩
    · have hfc : (Builtin.firstCells i.size 0 (.slice x.a 0 x.cap)).run P w = .ok #[] w := by
        cases x.a <;> simp [Builtin.firstCells, loadCells, loadCellsFrom]
      rw [h0]
      simp [Builtin.copy_, run_underlying hS.ht, sizeOf, typeInfo, hi, Builtin.lenOf, hfc, storeCells]
      rfl
    · have := H.take hT
      simpa using this
  · have hcell : ∀ j (hj : j < xs.length), w.cell? ⟨b2, o2 + j, none⟩ = some (Sc.enc xs[j]) := fun j hj => by
      obtain ⟨cs, hr, hc⟩ := hx j _ (List.getElem?_eq_getElem hj)
      have hr' : cs = [Sc.enc xs[j]] := hr
      subst hr'
      have := roCell.cell hro (hc 0 _ rfl)
      simpa [Rep.n] using this
    have hl : ((xs.take dl).map Sc.enc).length = Nat.min x.len dl := by simp [hlen, Nat.min_comm]; 
    have h1' : ∀ u ∈ (xs.take dl).map (Sc.enc : UInt8 → Value), u.oneCell' = true := fun u hu => by
      obtain ⟨y, _, rfl⟩ := List.mem_map.1 hu; rfl
    have hnews : ∀ (j : Nat) (v : Value), ((xs.take dl).map (Sc.enc : UInt8 → Value))[j]? = some v → w.cell? ((⟨b2, o2, none⟩ : Addr).add j) = some v := fun j v hj => by
      have hj' := List.getElem?_eq_some_iff.1 hj
      obtain ⟨hjl, rfl⟩ := hj'
      have hjl' : j < xs.length := by simp at hjl; omega
      rw [add_mk, hcell j hjl']
      simp
    have hfit' : o + Nat.min x.len dl ≤ cur.toArray.size := by
      have : Nat.min x.len dl ≤ dl := Nat.min_le_right _ _
      rw [List.size_toArray]; omega
    have hr := run_copy_row (P := P) w t t rt e b o dl dc ⟨b2, o2, none⟩ x.len x.cap cur.toArray ty ((xs.take dl).map Sc.enc) hS.ht (by simp [hi, hsz]) hb hl hnews (by rw [hl]; exact hfit') h1'
    rw [← ha] at hr
    have ek : Nat.min x.len dl = min xs.length dl := by rw [hlen]
    refine ⟨_, _, hr, ((min xs.length dl : Nat) : Int), by rw [hl, ek]; rfl, ?_⟩
    rw [hl, ek]
    refine k _ ((H.take hT).upd rfl rfl rfl fun ro h1 _ hle _ hc => ⟨PH.one b (.cells (cur.take o ++ (xs.take dl).map Sc.enc ++ cur.drop (o + min xs.length dl)).toArray ty (0, 0)), by simp [blk, PH.one], fun i x e => ?_, fun kk hk => ?_, fun kk hk hn => ?_⟩)
    · simp only [PH.one] at e
      split at e
      · rename_i hi; subst hi; cases e
        exact setRow_heap w i cur.toArray (cur.take o ++ (xs.take dl).map Sc.enc ++ cur.drop (o + min xs.length dl)).toArray ty (0, 0) hb
      · cases e
    · left
      simp only [PH.one] at hk
      split at hk
      · rename_i hi; subst hi
        have : h1 kk = some (.cells cur.toArray ty (0, 0)) := hc
        rw [this]; simp
      · exact absurd rfl hk
    · have hc' : h1 b = some (.cells cur.toArray ty (0, 0)) := hc
      exact setRow_other w b kk _ fun e => by rw [e, hc'] at hn; cases hn
end
end Go.VC
namespace Go.VC
open Go Go.RowKit
section
variable {F : Bs} {w : World} {l r : List SP} {c : SP}
theorem Heap.dr (H : Heap F w l) (c : SP) (hT : Take l c r := by repeat (first | assumption | constructor)) : Heap F w r := (H.take hT).tl
theorem Heap.immDup {α : Type} [Rep α] {s : Sl} {xs : List α} (H : Heap F w l) (hT : Has l (imm s xs) := by repeat (first | assumption | constructor)) : Heap F w (imm s xs :: l) := H.add hT fun _ _ h => h
end
theorem dT {φ : Prop} [Decidable φ] {A B : Prop} (h : φ) (k : A) : cond (decide φ) A B := by rw [decide_eq_true h]; exact k
theorem dF {φ : Prop} [Decidable φ] {A B : Prop} (h : ¬ φ) (k : B) : cond (decide φ) A B := by rw [decide_eq_false h]; exact k
theorem cT {b : Bool} {A B : Prop} (h : b = true) (k : A) : cond b A B := by rw [h]; exact k
theorem cF {b : Bool} {A B : Prop} (h : b = false) (k : B) : cond b A B := by rw [h]; exact k
/-- both ways -/
theorem cBoth {b : Bool} {A B : Prop} (h : b = true → A) (k : b = false → B) : cond b A B := by cases b; exact k rfl; exact h rfl
theorem dBoth {φ : Prop} [Decidable φ] {A B : Prop} (h : φ → A) (k : ¬ φ → B) : cond (decide φ) A B := by
  by_cases e : φ
  · exact dT e (h e)
  · exact dF e (k e)
theorem i64_id {n : Int} (h : -9223372036854775808 ≤ n ∧ n ≤ 9223372036854775807) : IntKind.wrap .i64 n = n := IntWalk.i64_in n (by omega)
end Go.VC
namespace Go.VC
open Go Go.RowKit
section
variable {α : Type} [Rep α] {F : Bs} {w : World} {l r : List SP} {s : Sl} {xs : List α} {e : TypeId}
theorem Heap.bndO (H : Heap F w l) (hT : Has l (own e s xs) := by repeat (first | assumption | constructor)) : xs.length ≤ 9223372036854775807 := by
  obtain ⟨_, _, _, _, h1, h2⟩ := H.get hT
  rcases h2 with h2 | ⟨_, _, _, _, h3, h4, _⟩
  · rw [h1, h2]; decide
  · simp only [maxLen] at h4; omega
theorem Heap.bndI (H : Heap F w l) (hT : Has l (imm s xs) := by repeat (first | assumption | constructor)) : xs.length ≤ 9223372036854775807 := by
  obtain ⟨_, _, _, _, h1, h2, h3, _⟩ := H.get hT
  simp only [maxLen] at h3; omega
end
end Go.VC
namespace Go.VC
open Go Go.RowKit
section
variable {F : Bs} {w w' : World} {l l' r : List SP} {b n : Nat} {ty : TypeId} {cs cs' : List Value}
theorem lda (H : Heap F w l) {t : Tag1} {x : t.T} {K : t.T → Prop} (k : K x) (hT : Has l (blk b ty cs) := by repeat (first | assumption | constructor)) (hc : CellIs cs n (t.emb x) := by repeat (first | assumption | constructor)) : ldT t w ((⟨b, 0, none⟩ : Addr).add n) K := by
  rw [add_mk, Nat.zero_add]; exact ld H k hT hc
theorem sta (H : Heap F w l) {v : Value} {K : World → Prop} (k : ∀ w', Heap F w' (blk b ty cs' :: l') → K w') (hT : Take l (blk b ty cs) l' := by repeat (first | assumption | constructor)) (hs : SetIs cs n v cs' := by repeat (first | assumption | constructor)) (hv : oneC v = true := by rfl) : stC w ((⟨b, 0, none⟩ : Addr).add n) v K := by
  rw [add_mk, Nat.zero_add]; exact st H k hT hs hv
theorem ld0 (H : Heap F w l) {t : Tag1} {x : t.T} {K : t.T → Prop} (k : K x) (hT : Has l (blk b ty cs) := by repeat (first | assumption | constructor)) (hc : CellIs cs 0 (t.emb x) := by repeat (first | assumption | constructor)) : ldT t w ⟨b, 0, none⟩ K := ld H k hT hc
theorem st0 (H : Heap F w l) {v : Value} {K : World → Prop} (k : ∀ w', Heap F w' (blk b ty cs' :: l') → K w') (hT : Take l (blk b ty cs) l' := by repeat (first | assumption | constructor)) (hs : SetIs cs 0 v cs' := by repeat (first | assumption | constructor)) (hv : oneC v = true := by rfl) : stC w ⟨b, 0, none⟩ v K := st H k hT hs hv
/-- a cell that was read is read again -/
theorem cella (H : Heap F w l) {v : Value} (hT : Has l (blk b ty cs) := by repeat (first | assumption | constructor)) (hc : CellIs cs n v := by repeat (first | assumption | constructor)) : w.cell? ((⟨b, 0, none⟩ : Addr).add n) = some v := by
  rw [add_mk, Nat.zero_add]; exact H.cell hT hc.get
theorem cell0 (H : Heap F w l) {v : Value} (hT : Has l (blk b ty cs) := by repeat (first | assumption | constructor)) (hc : CellIs cs 0 v := by repeat (first | assumption | constructor)) : w.cell? ⟨b, 0, none⟩ = some v := H.cell hT hc.get
end
end Go.VC

set_option linter.unusedVariables false
set_option linter.unusedSimpArgs false
namespace Go.VC
open Go Go.RowKit
theorem mx {n : Nat} (h : n ≤ 4000000000000) : n ≤ maxLen := by simp only [maxLen]; omega
theorem bnd {n k : Nat} (h : n ≤ 1000000000) (hk : k ≤ 1000) : n * k ≤ 140737488355328 := Nat.le_trans (Nat.mul_le_mul h hk) (by decide)
section
variable {α : Type} [Rep α] {F : Bs} {w w' : World} {l l' r : List SP} {s x : Sl} {xs ys : List α} {e : TypeId}
theorem apI {P : Program} {t bytes ty : Nat} (hS : SlT P t e (Rep.n α) bytes) (H : Heap F w l) (hb : xs.length + ys.length ≤ 1000000000) {K : Sl → World → Prop}
    (k : ∀ (s' : Sl) (w' : World), Heap F w' (own e s' (xs ++ ys) :: r) → K s' w') (hT : Take l (own e s xs) r := by repeat (first | assumption | constructor)) (hI : Has l (imm x ys) := by repeat (first | assumption | constructor)) (hk : bytes ≤ 1000 := by decide) :
    runG .sl P w (Builtin.append_ #[t, t] ty #[.slice s.a s.len s.cap, .slice x.a x.len x.cap]) K := appI hS H (bnd hb hk) (mx (by omega)) k hT hI
/-- a copy, in a row of the call's own -/
theorem cpI {P : Program} {t bytes ty : Nat} (hS : SlT P t e (Rep.n α) bytes) (H : Heap F w l) (hb : ys.length ≤ 1000000000) {K : Sl → World → Prop}
    (k : ∀ (s' : Sl) (w' : World), Heap F w' (own e s' ys :: l) → K s' w') (hI : Has l (imm x ys) := by repeat (first | assumption | constructor)) (hk : bytes ≤ 1000 := by decide) :
    runG .sl P w (Builtin.append_ #[t, t] ty #[.slice none 0 0, .slice x.a x.len x.cap]) K :=
  apI (s := ⟨none, 0, 0⟩) (xs := []) (ys := ys) hS (H.own_nil (α := α) e) (by simpa using hb) k .h (.t hI) hk
/-- what is the call's own is appended -/
theorem apO {P : Program} {t bytes ty e' : Nat} (hS : SlT P t e (Rep.n α) bytes) (H : Heap F w l) (hb : xs.length + ys.length ≤ 1000000000) {K : Sl → World → Prop}
    (k : ∀ (s' : Sl) (w' : World), Heap F w' (own e s' (xs ++ ys) :: r) → K s' w') (hT : Take l (own e s xs) r := by repeat (first | assumption | constructor)) (hI : Has l (own e' x ys) := by repeat (first | assumption | constructor)) (hk : bytes ≤ 1000 := by decide) :
    runG .sl P w (Builtin.append_ #[t, t] ty #[.slice s.a s.len s.cap, .slice x.a x.len x.cap]) K := by
  refine app hS H (fun ro _ hro ⟨g, hs, hg⟩ => ?_) (bnd hb hk) (mx (by omega)) k hT
  obtain ⟨g1, hg1, hc⟩ := sep.has hI hs
  refine ⟨hc.1, ?_⟩
  rcases hc.2 with h | ⟨b, cur, ha, hb, _, _, _, hx⟩
  · left; rw [h]
  · right
    refine ⟨b, 0, ha, fun i y hy => ?_⟩
    obtain ⟨cs, a, f⟩ := hx i y hy
    exact ⟨cs, a, fun j u hj => by rw [cell_of_row w b _ cur e' (0, 0) (hg _ _ (hg1 _ _ hb)), Nat.zero_add]; exact f j u hj⟩
theorem cpO {P : Program} {t bytes ty e' : Nat} (hS : SlT P t e (Rep.n α) bytes) (H : Heap F w l) (hb : ys.length ≤ 1000000000) {K : Sl → World → Prop}
    (k : ∀ (s' : Sl) (w' : World), Heap F w' (own e s' ys :: l) → K s' w') (hI : Has l (own e' x ys) := by repeat (first | assumption | constructor)) (hk : bytes ≤ 1000 := by decide) :
    runG .sl P w (Builtin.append_ #[t, t] ty #[.slice none 0 0, .slice x.a x.len x.cap]) K :=
  apO (s := ⟨none, 0, 0⟩) (xs := []) (ys := ys) hS (H.own_nil (α := α) e) (by simpa using hb) k .h (.t hI) hk
theorem psh {P : Program} {t bytes ty ty2 b : Nat} {cs : List Value} {y : α} (hS : SlT P t e (Rep.n α) bytes) (H : Heap F w l) (hb : xs.length + 1 ≤ 1000000000) {K : Sl → World → Prop}
    (k : ∀ (s' : Sl) (w' : World), Heap F w' (own e s' (xs ++ [y]) :: r) → K s' w') (hT : Take l (own e s xs) r := by repeat (first | assumption | constructor)) (hB : Has l (blk b ty2 cs) := by repeat (first | assumption | constructor)) (hr : Has l (rep cs y) := by repeat (first | assumption | constructor)) (hk : bytes ≤ 1000 := by decide) :
    runG .sl P w (Builtin.append_ #[t, t] ty #[.slice s.a s.len s.cap, .slice (some ⟨b, 0, none⟩) 1 1]) K := push hS H (bnd hb hk) (mx (by omega)) k hT hB hr
end
section
variable {α : Type} [Sc α] {F : Bs} {w w' : World} {l l' r : List SP} {s x : Sl} {xs ys : List α} {e : TypeId}
/-- one more, of one cell -/
theorem psh1 {P : Program} {t bytes ty ty2 b : Nat} (y : α) (hS : SlT P t e 1 bytes) (H : Heap F w l) (hb : xs.length + 1 ≤ 1000000000) {K : Sl → World → Prop}
    (k : ∀ (s' : Sl) (w' : World), Heap F w' (own e s' (xs ++ [y]) :: r) → K s' w') (hT : Take l (own e s xs) r := by repeat (first | assumption | constructor)) (hB : Has l (blk b ty2 [Sc.enc y]) := by repeat (first | assumption | constructor)) (hk : bytes ≤ 1000 := by decide) :
    runG .sl P w (Builtin.append_ #[t, t] ty #[.slice s.a s.len s.cap, .slice (some ⟨b, 0, none⟩) 1 1]) K := by
  have H' : Heap F w (rep [Sc.enc y] y :: l) := H.add0 fun _ => rfl
  exact psh (r := rep [Sc.enc y] y :: r) (y := y) hS H' hb (fun s' w' H => k s' w' (H.dr (rep [Sc.enc y] y) (.t .h))) (.t hT) (.t hB) .h hk
/-- a row of literals -/
theorem apB {P : Program} {t bytes ty ty2 b n m : Nat} (ys : List α) (hS : SlT P t e 1 bytes) (H : Heap F w l) (hb : xs.length + ys.length ≤ 1000000000) {cs : List Value} (hc : cs = ys.map Sc.enc) (hn : ys.length = n) {K : Sl → World → Prop}
    (k : ∀ (s' : Sl) (w' : World), Heap F w' (own e s' (xs ++ ys) :: r) → K s' w') (hT : Take l (own e s xs) r := by repeat (first | assumption | constructor)) (hB : Has l (blk b ty2 cs) := by repeat (first | assumption | constructor)) (hk : bytes ≤ 1000 := by decide) :
    runG .sl P w (Builtin.append_ #[t, t] ty #[.slice s.a s.len s.cap, .slice (some ⟨b, 0, none⟩) n m]) K := by
  have B := H.Blk hB
  refine app (x := ⟨some ⟨b, 0, none⟩, n, m⟩) (ys := ys) hS H (fun ro _ hro _ => ?_) (bnd hb hk) (mx (by omega)) k hT
  refine ⟨hn, .inr ⟨b, 0, rfl, fun i z hz => ⟨[Sc.enc z], rfl, fun j u hj => ?_⟩⟩⟩
  cases j with
  | zero =>
    simp at hj; subst hj
    rw [B.cell, hc]
    simp [Rep.n, hz]
  | succ j => simp at hj
end
end Go.VC

set_option linter.unusedVariables false
set_option linter.unusedSimpArgs false
namespace Go.VC
open Go Go.RowKit
def andO (b : Bool) : Option Bool → Option Bool
  | some r => some (cond b r false)
  | none => none
/-- equality of structs of plain cells -/
def eqFlat (P : Program) (xs ys : Array Value) : List Field → Option Bool
  | [] => some true
  | f :: fs => match f.name == "_" with
    | true => none
    | false => match isAgg? P f.type, P.underlying f.type, xs[f.offset]?, ys[f.offset]? with
      | some false, some (.int _), some (.int k1 a), some (.int k2 b) => (match kindEq k1 k2 with
        | true => andO (a == b) (eqFlat P xs ys fs)
        | false => none)
      | some false, some .bool, some (.bool a), some (.bool b) => andO (a == b) (eqFlat P xs ys fs)
      | some false, some .string, some (.string a), some (.string b) => andO (a.toList == b.toList) (eqFlat P xs ys fs)
      | _, _, _, _ => none
theorem andO_some {b r : Bool} {o : Option Bool} (h : andO b o = some r) : ∃ q, o = some q ∧ r = cond b q false := by
  cases o with
  | none => cases h
  | some q => exact ⟨q, rfl, by simpa [andO] using h.symm⟩
theorem run_part {P : Program} {w : World} {t : TypeId} {cs : Array Value} {o : Nat} {v : Value} (ha : isAgg? P t = some false) (hv : cs[o]? = some v) : (part t cs o).run P w = .ok v w := by
  simp [part, run_isAgg? ha, hv]
theorem eqFlat_run {P : Program} {w : World} {d : Nat} {xs ys : Array Value} : ∀ {fs : List Field} {b : Bool}, eqFlat P xs ys fs = some b → (Op.eqFields (d + 1) xs ys fs).run P w = .ok b w
  | [], b, h => by simp [eqFlat] at h; subst h; rfl
  | f :: fs, b, h => by
    simp only [eqFlat] at h
    split at h
    · cases h
    · rename_i hn
      have hn' : f.name ≠ "_" := by simpa using hn
      simp only [Op.eqFields, if_pos hn', Sem.run_bind]
      split at h
      · rename_i k k1 a k2 b' hg hu hx hy
        split at h
        · rename_i hk
          obtain rfl := kindEq_eq hk
          obtain ⟨q, hq, rfl⟩ := andO_some h
          rw [run_part hg hx, Result.andThen_ok, run_part hg hy, Result.andThen_ok]
          rw [run_equalIn_int w d f.type k1 k a b' hu, Result.andThen_ok]
          cases a == b'
          · rfl
          · simp only [Bool.not_true, Bool.false_eq_true, if_false]; exact eqFlat_run hq
        · cases h
      · rename_i a b' hg hu hx hy
        obtain ⟨q, hq, rfl⟩ := andO_some h
        rw [run_part hg hx, Result.andThen_ok, run_part hg hy, Result.andThen_ok, run_equalIn_bool' w d f.type a b' hu, Result.andThen_ok]
        cases a == b'
        · rfl
        · simp only [Bool.not_true, Bool.false_eq_true, if_false]; exact eqFlat_run hq
      · rename_i a b' hg hu hx hy
        obtain ⟨q, hq, rfl⟩ := andO_some h
        rw [run_part hg hx, Result.andThen_ok, run_part hg hy, Result.andThen_ok, run_equalIn_string w d f.type a b' hu, Result.andThen_ok]
        cases a.toList == b'.toList
        · rfl
        · simp only [Bool.not_true, Bool.false_eq_true, if_false]; exact eqFlat_run hq
      · cases h
/-- a type whose values are compared field by field -/
structure FlatT (P : Program) (t : TypeId) : Prop where
  ht : P.underlying t = some (.struct (P.fieldsOf t))
  hp : P.stoodInHeld t = false
  hm : P.eqGuardType P.depth t = false
theorem flat_eql {P : Program} {w : World} {t : TypeId} {x y : Operand} {xs ys : Array Value} {b : Bool} (hF : FlatT P t) (h : eqFlat P xs ys (P.fieldsOf t).toList = some b) {K : Bool → World → Prop} (k : K b w) :
    runG (.bool) P w (do eqGuard .eql t x y (.agg xs) (.agg ys); binOp .eql t (.agg xs) (.agg ys)) K := by
  refine ⟨.bool b, w, ?_, _, rfl, k⟩
  rw [Sem.run_bind, run_eqGuard_agg w .eql t x y _ _ hF.hm, Result.andThen_ok, run_eql_struct, show (Op.equalIn 10000 t (.agg xs) (.agg ys)).run P w = .ok b w from (run_equalIn_struct w 9999 t xs ys hF.ht hF.hp).trans (eqFlat_run (d := 9998) h)]
  rfl
theorem flat_neq {P : Program} {w : World} {t : TypeId} {x y : Operand} {xs ys : Array Value} {b : Bool} (hF : FlatT P t) (h : eqFlat P xs ys (P.fieldsOf t).toList = some b) {K : Bool → World → Prop} (k : K (!b) w) :
    runG (.bool) P w (do eqGuard .neq t x y (.agg xs) (.agg ys); binOp .neq t (.agg xs) (.agg ys)) K := by
  refine ⟨.bool (!b), w, ?_, _, rfl, k⟩
  rw [Sem.run_bind, run_eqGuard_agg w .neq t x y _ _ hF.hm, Result.andThen_ok, run_neq_struct, show (Op.equalIn 10000 t (.agg xs) (.agg ys)).run P w = .ok b w from (run_equalIn_struct w 9999 t xs ys hF.ht hF.hp).trans (eqFlat_run (d := 9998) h)]
  rfl
section
variable {F : Bs} {w w' : World} {l l' r : List SP} {b n m : Nat} {ty : TypeId} {cs cs' : List Value}
theorem ldaa (H : Heap F w l) {t : Tag1} {x : t.T} {K : t.T → Prop} (k : K x) (hT : Has l (blk b ty cs) := by repeat (first | assumption | constructor)) (hc : CellIs cs (m + n) (t.emb x) := by repeat (first | assumption | constructor)) : ldT t w (((⟨b, 0, none⟩ : Addr).add m).add n) K := by
  rw [add_mk, add_mk, Nat.zero_add]; exact ld H k hT hc
theorem rowB (H : Heap F w l) (hT : Has l (blk b ty cs) := by repeat (first | assumption | constructor)) : RowIs w ⟨b, 0, none⟩ cs.toArray := fun j v hj => by
  rw [add_mk, Nat.zero_add]; exact H.cell hT (by simpa using hj)
theorem Heap.dr2 (H : Heap F w l) (c d : SP) (hT : Takes l [c, d] r := by repeat (first | assumption | constructor)) : Heap F w r := (H.takes hT).tl.tl
end
end Go.VC

set_option linter.unusedVariables false
set_option linter.unusedSimpArgs false
namespace Go.VC
open Go Go.RowKit
/-! ### A slice that is read, whoever has its row -/
inductive Rd {α : Type} [Rep α] : List SP → Sl → List α → Prop
  | i {l : List SP} {s : Sl} {xs : List α} : Has l (imm s xs) → Rd l s xs
  | o {l : List SP} {s : Sl} {xs : List α} {e : TypeId} : Has l (own e s xs) → Rd l s xs
section
variable {α : Type} [Rep α] {F : Bs} {w w' : World} {l l' r : List SP} {s : Sl} {xs : List α} {e : TypeId} {c : SP}
theorem Rd.t (h : Rd l s xs) : Rd (c :: l) s xs := by
  cases h with
  | i h => exact .i (.t h)
  | o h => exact .o (.t h)
theorem Heap.lenR (H : Heap F w l) (hT : Rd l s xs) : xs.length = s.len := by
  cases hT with
  | i h => exact H.len h
  | o h => exact H.lenO h
theorem Heap.bndR (H : Heap F w l) (hT : Rd l s xs) : xs.length ≤ 9223372036854775807 := by
  cases hT with
  | i h => exact H.bndI h
  | o h => exact H.bndO h
theorem idxR_ (H : Heap F w l) {i : Int} (h0 : 0 ≤ i) (h1 : i < xs.length) {K : Addr → Prop}
    (k : ∀ (a : Addr) (cs : List Value), Heap F w (rep cs (xs[i.toNat]'(by omega)) :: l) → At w a cs → K a) (hT : Rd l s xs) : idx s.a s.len i (Rep.n α) K := by
  cases hT with
  | i h => exact idxI H h0 h1 k h
  | o h => exact idxO H h0 h1 k h
end
/-! ### What came in -/
def OpenT (P : Program) (t : TypeId) {α : Type} [Rep α] (G : α → Prop) : Prop :=
  ∀ {H : Type} {enc : TypeId × Value → H} {w : World} {fuel : Nat} {cs : List Value} {d : DataW H} {ps : List MemPlace}, DataW.trod enc P w 0 (fun _ => true) true fuel t cs = some (d, ps) → (d.weights P t).all (· ≤ reachBytes) = true →
    ∃ y : α, Rep.r (PH.of w) cs y ∧ G y
section
variable {P : Program} {t e : TypeId}
theorem openInt (ht : P.underlying t = some (.int .i64)) : OpenT P t (fun n : Int => -9223372036854775808 ≤ n ∧ n ≤ 9223372036854775807) := by
  intro H enc w fuel cs d ps h hwt
  clear hwt
  cases fuel with
  | zero => cases h
  | succ fuel =>
    simp only [DataW.trod, ht] at h
    split at h <;> simp_all
    rename_i k k' n hk
    subst hk
    obtain ⟨⟨rfl, hw⟩, _⟩ := h
    exact ⟨n, rfl, by simp [Lit.wf, IntKind.min, IntKind.max, IntKind.bits, IntKind.signed] at hw; omega⟩
theorem openBool (ht : P.underlying t = some .bool) : OpenT P t (fun _ : Bool => True) := by
  intro H enc w fuel cs d ps h hwt
  clear hwt
  cases fuel with
  | zero => cases h
  | succ fuel =>
    simp only [DataW.trod, ht] at h
    split at h <;> simp_all
    rename_i b
    cases b
    · exact .inl rfl
    · exact .inr rfl
theorem openU8 (ht : P.underlying t = some (.int .u8)) : OpenT P t (fun _ : UInt8 => True) := by
  intro H enc w fuel cs d ps h hwt
  clear hwt
  cases fuel with
  | zero => cases h
  | succ fuel =>
    simp only [DataW.trod, ht] at h
    split at h <;> simp_all
    rename_i k k' n hk
    subst hk
    obtain ⟨⟨rfl, hw⟩, _⟩ := h
    simp [Lit.wf, IntKind.min, IntKind.max, IntKind.bits, IntKind.signed] at hw
    refine ⟨UInt8.ofNat n.toNat, ?_⟩
    show [Value.int .u8 n] = [.int .u8 ((UInt8.ofNat n.toNat).toNat : Int)]
    simp; omega
theorem openU32 (ht : P.underlying t = some (.int .u32)) : OpenT P t (fun _ : UInt32 => True) := by
  intro H enc w fuel cs d ps h hwt
  clear hwt
  cases fuel with
  | zero => cases h
  | succ fuel =>
    simp only [DataW.trod, ht] at h
    split at h <;> simp_all
    rename_i k k' n hk
    subst hk
    obtain ⟨⟨rfl, hw⟩, _⟩ := h
    simp [Lit.wf, IntKind.min, IntKind.max, IntKind.bits, IntKind.signed] at hw
    refine ⟨UInt32.ofNat n.toNat, ?_⟩
    show [Value.int .u32 n] = [.int .u32 ((UInt32.ofNat n.toNat).toNat : Int)]
    simp; omega
theorem mapM_some {α β : Type} {f : α → Option β} : ∀ {l : List α} {ys : List β}, l.mapM f = some ys → ys.length = l.length ∧ ∀ (i : Nat) (x : α), l[i]? = some x → ∃ y, ys[i]? = some y ∧ f x = some y
  | [], ys, h => by simp at h; subst h; exact ⟨rfl, fun i x hx => by simp at hx⟩
  | x :: l, ys, h => by
    rw [List.mapM_cons] at h
    cases hx : f x with
    | none => simp [hx] at h
    | some y =>
      cases hl : l.mapM f with
      | none => simp [hx, hl] at h
      | some zs =>
        simp [hx, hl] at h
        subst h
        obtain ⟨h1, h2⟩ := mapM_some hl
        refine ⟨by simp [h1], fun i x' hi => ?_⟩
        cases i with
        | zero => simp at hi; subst hi; exact ⟨y, rfl, hx⟩
        | succ i => simp at hi; simpa using h2 i x' hi
theorem cells_at {w : World} {a : Addr} {n : Nat} {cs : List Value} (h : w.cells? 0 a n = some cs) : cs.length = n ∧ ∀ (j : Nat) (u : Value), cs[j]? = some u → w.cell? (a.add j) = some u := by
  simp only [World.cells?, Nat.zero_le, if_true] at h
  obtain ⟨h1, h2⟩ := mapM_some h
  have hl : cs.length = n := by rw [h1]; simp
  refine ⟨hl, fun j u hj => ?_⟩
  have hjn : j < n := by rw [← hl]; exact (List.getElem?_eq_some_iff.1 hj).1
  obtain ⟨y, hy, hf⟩ := h2 j j (by simp [hjn])
  rw [hj] at hy; cases hy
  exact hf
theorem roCell_of {w : World} {a : Addr} {u : Value} (h : w.cell? a = some u) : a.spot = none ∧ roCell (PH.of w) a.block a.off = some u := by
  simp only [World.cell?] at h
  simp only [roCell, PH.of]
  cases hb : w.heap[a.block]? with
  | none => rw [hb] at h; cases h
  | some o =>
    rw [hb] at h
    cases o with
    | cells c el fr =>
      simp only at h ⊢
      split at h
      · cases h
      · rename_i hs
        exact ⟨by simpa using hs, h⟩
    | _ => simp at h
theorem weightsAll_mem {H : Type} {l : List (DataW H)} {d : DataW H} (hd : d ∈ l) : ∀ n ∈ d.weights P e, n ∈ DataW.weightsAll P e l := by
  induction l with
  | nil => cases hd
  | cons x l ih =>
    intro n hn
    rw [DataW.weightsAll]
    rcases List.mem_cons.1 hd with rfl | h
    · exact List.mem_append_left _ hn
    · exact List.mem_append_right _ (ih h n hn)
theorem weightsEach_mem {H : Type} : ∀ {ts : List TypeId} {l : List (DataW H)} {i : Nat} {u : TypeId} {d : DataW H}, ts[i]? = some u → l[i]? = some d → ∀ {n : Nat}, n ∈ d.weights P u → n ∈ DataW.weightsEach P ts l
  | [], l, i, u, d, h, _, _, _ => by simp at h
  | t :: ts, [], i, u, d, _, h, _, _ => by simp at h
  | t :: ts, x :: l, 0, u, d, h1, h2, n, hn => by
    simp at h1 h2; subst h1; subst h2
    rw [DataW.weightsEach]; exact List.mem_append_left _ hn
  | t :: ts, x :: l, i + 1, u, d, h1, h2, n, hn => by
    simp at h1 h2
    rw [DataW.weightsEach]; exact List.mem_append_right _ (weightsEach_mem h1 h2 hn)
theorem exists_list {α : Type} {P : Nat → α → Prop} : ∀ {n : Nat}, (∀ i, i < n → ∃ y, P i y) → ∃ ys : List α, ys.length = n ∧ ∀ (i : Nat) (y : α), ys[i]? = some y → P i y
  | 0, _ => ⟨[], rfl, fun i y h => by simp at h⟩
  | n + 1, h => by
    obtain ⟨ys, h1, h2⟩ := exists_list (n := n) fun i hi => h i (by omega)
    obtain ⟨y, hy⟩ := h n (by omega)
    refine ⟨ys ++ [y], by simp [h1], fun i z hz => ?_⟩
    by_cases hi : i < n
    · rw [List.getElem?_append_left (by omega)] at hz; exact h2 i z hz
    · have hlt := (List.getElem?_eq_some_iff.1 hz).1
      simp [h1] at hlt
      obtain rfl : i = n := by omega
      rw [List.getElem?_append_right (by omega), h1, Nat.sub_self] at hz
      simp at hz; subst hz; exact hy
theorem openList {α : Type} [Rep α] {G : α → Prop} {k : Nat} (ht : P.underlying t = some (.slice e)) (hc : P.cellsOf e = Rep.n α) (hn : 0 < Rep.n α) (hb : P.bytesOf e = k) (he : OpenT P e G) : OpenT P t (fun xs : List α => xs.length * k ≤ reachBytes ∧ ∀ x ∈ xs, G x) := by
  intro H enc w fuel cs d ps h hw
  rcases Go.Deep.open_slice ht h with ⟨rfl, h2⟩ | ⟨a, len, cap, m, n, D, Pl, rfl, _, hle, hm, hmm, hx, hel⟩
  · exact ⟨[], ⟨⟨none, 0, 0⟩, rfl, rfl, Nat.le_refl _, by simp, .inl rfl⟩, by simp, by simp⟩
  · simp only [if_true] at hmm
    subst hmm
    obtain ⟨rfl, -⟩ := Prod.mk.inj hx
    simp only [DataW.weights, ht, List.all_cons, Bool.and_eq_true, decide_eq_true_eq, List.length_map, List.length_range, hb] at hw
    obtain ⟨hw1, hw2⟩ := hw
    have hel' : ∀ i, i < len → ∃ (y : α) (cs' : List Value), w.cells? 0 (a.add (i * P.cellsOf e)) (P.cellsOf e) = some cs' ∧ Rep.r (PH.of w) cs' y ∧ G y := fun i hi => by
      obtain ⟨cs', h1, h2⟩ := hel i (by omega)
      obtain ⟨y, h3, h4⟩ := he h2 (by
        rw [List.all_eq_true] at hw2 ⊢
        exact fun n hn => hw2 n (List.mem_append_left _ (weightsAll_mem (List.mem_map.2 ⟨i, by simpa using hi, rfl⟩) n hn)))
      exact ⟨y, cs', h1, h3, h4⟩
    obtain ⟨ys, hyl, hys⟩ := exists_list (P := fun i y => ∃ cs' : List Value, w.cells? 0 (a.add (i * P.cellsOf e)) (P.cellsOf e) = some cs' ∧ Rep.r (PH.of w) cs' y ∧ G y) (n := len) fun i hi => by
      obtain ⟨y, cs', h1⟩ := hel' i hi
      exact ⟨y, cs', h1⟩
    refine ⟨ys, ⟨⟨some a, len, _⟩, rfl, hyl, hle, hm, ?_⟩, ?_, fun x hx => ?_⟩
    · by_cases h0 : len = 0
      · exact .inl h0
      · right
        obtain ⟨y0, cs0, h1, h2, _⟩ := hel' 0 (by omega)
        rw [Nat.zero_mul] at h1
        obtain ⟨g1, g2⟩ := cells_at h1
        have hlt : 0 < cs0.length := by rw [g1, hc]; exact hn
        have hsp := (roCell_of (g2 0 _ (List.getElem?_eq_getElem hlt))).1
        rw [add_zero', add_zero'] at hsp
        obtain ⟨b, o, sp⟩ := a
        simp only at hsp
        subst hsp
        refine ⟨b, o, rfl, fun i x hi => ?_⟩
        obtain ⟨cs', h1, h2, _⟩ := hys i x hi
        obtain ⟨g1, g2⟩ := cells_at h1
        refine ⟨cs', h2, fun j u hj => ?_⟩
        have := (roCell_of (g2 j u hj)).2
        rw [add_mk, add_mk, hc] at this
        exact this
    · rw [hyl]
      exact Nat.le_trans (Nat.mul_le_mul_right _ (by omega)) hw1
    · obtain ⟨i, hi, rfl⟩ := List.getElem_of_mem hx
      obtain ⟨_, _, _, hg⟩ := hys i _ (List.getElem?_eq_getElem hi)
      exact hg
/-- the field i of a struct: its type, its place -/
def fieldAt (P : Program) (t : TypeId) (i : Nat) : Option (TypeId × Nat) := match P.underlying t with
  | some (.struct fs) => fs[i]?.map fun f => (f.type, f.offset)
  | _ => none
theorem openField {H : Type} {enc : TypeId × Value → H} {w : World} {fuel : Nat} {cs : List Value} {d : DataW H} {ps : List MemPlace} (h : DataW.trod enc P w 0 (fun _ => true) true fuel t cs = some (d, ps)) (hw : (d.weights P t).all (· ≤ reachBytes) = true)
    {i : Nat} {u : TypeId} {o : Nat} (hf : fieldAt P t i = some (u, o)) {α : Type} [Rep α] {G : α → Prop} (hu : OpenT P u G) : cs.length = P.cellsOf t ∧ ∃ y : α, Rep.r (PH.of w) ((cs.drop o).take (P.cellsOf u)) y ∧ G y := by
  cases fuel with
  | zero => cases h
  | succ fuel =>
    simp only [fieldAt] at hf
    split at hf
    · rename_i fs ht
      simp only [DataW.trod, ht] at h
      split at h
      · rename_i hl
        cases hm : (fs.toList.mapM fun f => DataW.trod enc P w 0 (fun _ => true) true fuel f.type ((cs.drop f.offset).take (P.cellsOf f.type))) with
        | none => rw [hm] at h; cases h
        | some xs =>
          rw [hm] at h
          simp only [Option.map_some, Option.some.injEq, Prod.mk.injEq] at h
          obtain ⟨rfl, -⟩ := h
          obtain ⟨h1, h2⟩ := mapM_some hm
          cases hfi : fs[i]? with
          | none => rw [hfi] at hf; cases hf
          | some f =>
            rw [hfi] at hf
            simp only [Option.map_some, Option.some.injEq, Prod.mk.injEq] at hf
            obtain ⟨rfl, rfl⟩ := hf
            obtain ⟨⟨d', p'⟩, h3, h4⟩ := h2 i f (by simpa using hfi)
            refine ⟨hl, hu h4 ?_⟩
            simp only [DataW.weights, ht] at hw
            rw [List.all_eq_true] at hw ⊢
            intro n hn
            refine hw n (weightsEach_mem (i := i) ?_ ?_ hn)
            · simp [hfi]
            · simp [h3]
      · cases h
    · cases hf
end
end Go.VC
namespace Go.VC
open Go Go.RowKit
theorem Heap.blk_own1 {α : Type} [Rep α] {F : Bs} {w : World} {l r : List SP} {b : Nat} {e : TypeId} {cs : List Value} (H : Heap F w l) (y : α) (hr : ∀ ro, Rep.r ro cs y) (hT : Take l (blk b e cs) r := by repeat (first | assumption | constructor)) : Heap F w (own e ⟨some ⟨b, 0, none⟩, 1, 1⟩ [y] :: r) :=
  (H.take hT).ent1 fun ro h hb => ⟨rfl, .inr ⟨b, _, rfl, hb, Nat.le_refl _, mx (show 1 ≤ 4000000000000 by decide), by rw [List.size_toArray, Rep.len (hr ro)]; exact (Nat.one_mul _).symm, fun i x hi => by
    cases i with
    | zero => simp at hi; subst hi; exact ⟨cs, hr ro, fun j u hj => by rw [Nat.zero_mul, Nat.zero_add]; simpa using hj⟩
    | succ i => simp at hi⟩⟩
end Go.VC
namespace Go.VC
open Go Go.RowKit
section
variable {F : Bs} {w : World} {l r : List SP} {a b c d e : SP}
theorem Heap.ord2 (H : Heap F w l) (hT : Takes l [a, b] r := by repeat (first | assumption | constructor)) : Heap F w (a :: b :: r) := H.takes hT
theorem Heap.ord3 (H : Heap F w l) (hT : Takes l [a, b, c] r := by repeat (first | assumption | constructor)) : Heap F w (a :: b :: c :: r) := H.takes hT
theorem Heap.ord4 (H : Heap F w l) (hT : Takes l [a, b, c, d] r := by repeat (first | assumption | constructor)) : Heap F w (a :: b :: c :: d :: r) := H.takes hT
theorem Heap.ord5 (H : Heap F w l) (hT : Takes l [a, b, c, d, e] r := by repeat (first | assumption | constructor)) : Heap F w (a :: b :: c :: d :: e :: r) := H.takes hT
end
end Go.VC
namespace Go.VC
open Go Go.RowKit
section
variable {α : Type} [Rep α] {F : Bs} {w w' : World} {l r : List SP} {x : Sl} {ys : List α} {e : TypeId}
/-- a copy of what came in, however long -/
theorem cpIb {P : Program} {t bytes ty : Nat} (hS : SlT P t e (Rep.n α) bytes) (H : Heap F w l) (hb : ys.length * bytes ≤ 140737488355328) {K : Sl → World → Prop}
    (k : ∀ (s' : Sl) (w' : World), Heap F w' (own e s' ys :: l) → K s' w') (hI : Has l (imm x ys) := by repeat (first | assumption | constructor)) :
    runG .sl P w (Builtin.append_ #[t, t] ty #[.slice none 0 0, .slice x.a x.len x.cap]) K :=
  appI (s := ⟨none, 0, 0⟩) (xs := []) (ys := ys) hS (H.own_nil (α := α) e) (by simpa using hb) (by have := H.bndI hI; simp only [List.length_nil, Nat.zero_add, maxLen]; omega) k .h (.t hI)
end
end Go.VC
namespace Go.VC
open Go Go.RowKit
section
variable {F : Bs} {w w' : World} {l : List SP} {b n : Nat} {ty : TypeId} {cs : List Value}
/-- a slice that is nil is read -/
theorem ldaN (H : Heap F w l) {K : Sl → Prop} (k : K ⟨none, 0, 0⟩) (hT : Has l (blk b ty cs) := by repeat (first | assumption | constructor)) (hc : CellIs cs n (.slice none 0 0) := by repeat constructor) : ldT .sl w ((⟨b, 0, none⟩ : Addr).add n) K := lda (t := .sl) (x := ⟨none, 0, 0⟩) H k hT hc
theorem ld0N (H : Heap F w l) {K : Sl → Prop} (k : K ⟨none, 0, 0⟩) (hT : Has l (blk b ty cs) := by repeat (first | assumption | constructor)) (hc : CellIs cs 0 (.slice none 0 0) := by repeat constructor) : ldT .sl w ⟨b, 0, none⟩ K := ld0 (t := .sl) (x := ⟨none, 0, 0⟩) H k hT hc
end
end Go.VC

set_option linter.unusedVariables false
set_option linter.unusedSimpArgs false
namespace Go.VC
open Go Go.RowKit Go.WideShapes
section
variable {F : Bs} {w : World} {l : List SP}
theorem Heap.addRo {α : Type} [Rep α] (H : Heap F w l) {s : Sl} {xs : List α} (h : immL F.h s xs) : Heap F w (imm s xs :: l) := by
  obtain ⟨ro, hh, h1, h2, h3, h4, h5, h6⟩ := H
  exact ⟨ro, hh, h1, h2, h3, h4, ⟨PH.emp, hh, fun _ => .inl rfl, PH.emp_le _, PH.le.refl _, h.mono h1, h5⟩, h6⟩
theorem Heap.addR (H : Heap F w l) (c : SP) (h : c.p F.h PH.emp) : Heap F w (c :: l) := by
  obtain ⟨ro, hh, h1, h2, h3, h4, h5, h6⟩ := H
  exact ⟨ro, hh, h1, h2, h3, h4, ⟨PH.emp, hh, fun _ => .inl rfl, PH.emp_le _, PH.le.refl _, c.mono h1 (PH.le.refl _) h, h5⟩, h6⟩
end
section
variable {P : Program} {W : World} {t e : TypeId} {b0 : Nat} {v : Value} {H : Type} {enc : TypeId × Value → H} {d : DataW H} {ps : List MemPlace}
theorem par_slice {α : Type} [Rep α] {G : List α → Prop} (ht : P.underlying t = some (.slice e)) (hO : OpenT P t G) (hv : Value.okWide P W .any b0 t v) (hd : DataW.Trod enc P W 0 (fun _ => true) true t v d ps) (hw : (d.weights P t).all (· ≤ reachBytes) = true) :
    ∃ (s : Sl) (xs : List α), v = .slice s.a s.len s.cap ∧ immL (PH.of W) s xs ∧ G xs := by
  obtain ⟨a, len, cap, rfl⟩ := okWide_slice ht hv
  obtain ⟨fuel, hd⟩ := hd
  obtain ⟨xs, ⟨s, hs, hi⟩, hg⟩ := hO hd hw
  refine ⟨s, xs, ?_, hi, hg⟩
  simpa [Value.cells] using hs
theorem par_int {k : IntKind} (ht : P.underlying t = some (.int k)) (hv : Value.okWide P W .any b0 t v) : ∃ n : Int, v = .int k n ∧ k.has n := by
  obtain ⟨n, rfl⟩ := okWide_int ht hv
  refine ⟨n, rfl, ?_⟩
  simp only [Value.okWide, ht, Cell.okWide, Cell.ok] at hv
  exact hv.2
end
end Go.VC

set_option linter.unusedVariables false
set_option linter.unusedSimpArgs false
namespace Go.VC
open Go Go.RowKit
section
variable {F : Bs} {w w' : World} {l l' r : List SP} {b o n : Nat} {ty e : TypeId} {cs cs' : List Value}
/-- a row of cells in a block is read at once -/
theorem ldArra (H : Heap F w l) {K : Array Value → Prop} (ho : o + n ≤ cs.length) (k : K ((cs.drop o).take n).toArray) (hT : Has l (blk b ty cs) := by repeat (first | assumption | constructor)) : ldArr w ((⟨b, 0, none⟩ : Addr).add o) n K := by
  refine ⟨_, ?_, fun j v hj => ?_, k⟩
  · simp; omega
  · rw [add_mk, add_mk, Nat.zero_add]
    refine H.cell hT ?_
    rw [List.getElem?_toArray, List.getElem?_take] at hj
    split at hj
    · rw [List.getElem?_drop] at hj; exact hj
    · cases hj
theorem Heap.setL : ∀ (vs : List Value) (i : Nat) {w : World} {cs : List Value}, Heap F w (blk b ty cs :: l) → i + vs.length ≤ cs.length → Heap F (Go.VC.setL ⟨b, 0, none⟩ i vs w) (blk b ty (cs.take i ++ vs ++ cs.drop (i + vs.length)) :: l)
  | [], i, w, cs, H, h => by simpa [Go.VC.setL] using H
  | v :: vs, i, w, cs, H, h => by
    simp only [List.length_cons] at h
    have := Heap.setL vs (i + 1) (H.setCell i v) (by simp; omega)
    rw [Go.VC.setL, add_mk, Nat.zero_add]
    have e : (cs.set i v).take (i + 1) ++ vs ++ (cs.set i v).drop (i + 1 + vs.length) = cs.take i ++ v :: vs ++ cs.drop (i + (v :: vs).length) := by
      have hl : (cs.take i).length = i := by simp; omega
      rw [List.set_eq_take_append_cons_drop, if_pos (by omega)]
      rw [show cs.take i ++ v :: cs.drop (i + 1) = (cs.take i ++ [v]) ++ cs.drop (i + 1) by simp]
      have h2 : (cs.take i ++ [v]).length = i + 1 := by rw [List.length_append, hl]; rfl
      rw [List.take_left' h2, ← List.drop_drop, List.drop_left' h2, List.drop_drop]
      simp only [List.append_assoc, List.singleton_append, List.cons_append, List.nil_append, List.length_cons]
      rw [show i + 1 + vs.length = i + (vs.length + 1) by omega]
    rw [e] at this
    exact this
/-- a block is written whole -/
theorem stArr0 (H : Heap F w l) {c : Array Value} {K : World → Prop} (hc : c.size = n) (hn : cs.length = n) (h1 : ∀ v ∈ c.toList, oneC v = true) (k : ∀ w', Heap F w' (blk b ty c.toList :: l') → K w') (hT : Take l (blk b ty cs) l' := by repeat (first | assumption | constructor)) : stArr w ⟨b, 0, none⟩ c n K := by
  have hb := H.Blk hT.has
  refine ⟨hc, h1, fun j hj => ⟨by rw [add_mk, Nat.zero_add, hb.cell]; simp; omega, by rw [add_mk]; exact hb.free _⟩, k _ ?_⟩
  have := Heap.setL c.toList 0 (H.take hT) (by simp; omega)
  have e : cs.take 0 ++ c.toList ++ cs.drop (0 + c.toList.length) = c.toList := by
    rw [List.drop_eq_nil_of_le (by simp; omega)]; simp
  rw [e] at this
  exact this
theorem slcA0 {a : Addr} {m : Nat} {n : Int} {sz : Nat} {K : Sl → Prop} (hm : n = (m : Int)) (h0 : m ≠ 0) (ha : a.add 0 = a) (k : K ⟨some a, m, m⟩) : slcA a m 0 n sz K := by
  subst hm
  refine ⟨by omega, by omega, by omega, by omega, ?_⟩
  rw [if_neg (by simpa using h0)]
  simpa [ha] using k
end
section
variable {α : Type} [Sc α] {F : Bs} {w w' : World} {l l' r : List SP} {s x : Sl} {xs ys : List α} {e : TypeId}
/-- a row in a block is appended -/
theorem apBo {P : Program} {t bytes ty ty2 b o n m : Nat} {a : Addr} (ys : List α) (hS : SlT P t e 1 bytes) (H : Heap F w l) (ha : a = ⟨b, o, none⟩) (hb : xs.length + ys.length ≤ 1000000000) {cs : List Value} (hc : (cs.drop o).take ys.length = ys.map Sc.enc) (hn : ys.length = n) {K : Sl → World → Prop}
    (k : ∀ (s' : Sl) (w' : World), Heap F w' (own e s' (xs ++ ys) :: r) → K s' w') (hT : Take l (own e s xs) r := by repeat (first | assumption | constructor)) (hB : Has l (blk b ty2 cs) := by repeat (first | assumption | constructor)) (hk : bytes ≤ 1000 := by decide) :
    runG .sl P w (Builtin.append_ #[t, t] ty #[.slice s.a s.len s.cap, .slice (some a) n m]) K := by
  subst ha
  have B := H.Blk hB
  refine app (x := ⟨some ⟨b, o, none⟩, n, m⟩) (ys := ys) hS H (fun ro _ hro _ => ?_) (bnd hb hk) (mx (by omega)) k hT
  refine ⟨hn, .inr ⟨b, o, rfl, fun i z hz => ⟨[Sc.enc z], rfl, fun j u hj => ?_⟩⟩⟩
  cases j with
  | zero =>
    simp at hj; subst hj
    rw [B.cell]
    have hi := (List.getElem?_eq_some_iff.1 hz).1
    have h2 : ((cs.drop o).take ys.length)[i]? = some (Sc.enc z) := by rw [hc]; simp [hz]
    rw [List.getElem?_take, if_pos hi, List.getElem?_drop] at h2
    simpa [Rep.n] using h2
  | succ j => simp at hj
theorem cpBo {P : Program} {t bytes ty ty2 b o n m : Nat} {a : Addr} (ys : List α) (hS : SlT P t e 1 bytes) (H : Heap F w l) (ha : a = ⟨b, o, none⟩) (hb : ys.length ≤ 1000000000) {cs : List Value} (hc : (cs.drop o).take ys.length = ys.map Sc.enc) (hn : ys.length = n) {K : Sl → World → Prop}
    (k : ∀ (s' : Sl) (w' : World), Heap F w' (own e s' ys :: l) → K s' w') (hB : Has l (blk b ty2 cs) := by repeat (first | assumption | constructor)) (hk : bytes ≤ 1000 := by decide) :
    runG .sl P w (Builtin.append_ #[t, t] ty #[.slice none 0 0, .slice (some a) n m]) K :=
  apBo (s := ⟨none, 0, 0⟩) (xs := []) ys hS (H.own_nil (α := α) e) ha (by simpa using hb) hc hn k .h (.t hB) hk
end
/-- bytes are copied into a block -/
theorem copyBa {F : Bs} {w : World} {l r : List SP} {x : Sl} {e : TypeId} {P : Program} {t bytes rt b o dl dc : Nat} {ty : TypeId} {a : Addr} {cur : List Value} {xs : List UInt8} (hS : SlT P t e 1 bytes) (H : Heap F w l) (ha : a = ⟨b, o, none⟩) (hfit : o + dl ≤ cur.length) {K : Int → World → Prop}
    (k : ∀ w', Heap F w' (blk b ty (cur.take o ++ (xs.take dl).map Sc.enc ++ cur.drop (o + min xs.length dl)) :: r) → K ((min xs.length dl : Nat) : Int) w') (hT : Take l (blk b ty cur) r := by repeat (first | assumption | constructor)) (hI : Has l (imm x xs) := by repeat (first | assumption | constructor)) :
    runG (.int .i64) P w (Builtin.copy_ #[t, t] rt #[.slice (some a) dl dc, .slice x.a x.len x.cap]) K := by
  subst ha; exact copyB hS H hfit k hT hI
end Go.VC

set_option linter.unusedVariables false
set_option linter.unusedSimpArgs false
namespace Go.VC
open Go Go.RowKit
/-- bytes that a text was converted to: a row of the call's own, with a mark behind its cells -/
def mrow (e : TypeId) (s : Sl) (xs : List UInt8) : SP := ⟨fun _ h => ∃ (g : Nat) (cur : Array Value) (m : Nat), s.a = some ⟨g, 0, none⟩ ∧ h g = some (.cells cur e (m, m + 1)) ∧ cur.size ≤ m ∧ xs.length = s.len ∧ s.len ≤ s.cap ∧ s.cap ≤ maxLen ∧ s.cap = cur.size ∧ ∀ (i : Nat) (x : UInt8), xs[i]? = some x → cur[i]? = some (Sc.enc x),
  fun _ hh ⟨g, cur, m, a, b, c⟩ => ⟨g, cur, m, a, hh _ _ b, c⟩⟩
section
variable {F : Bs} {w w' : World} {l l' r : List SP} {s x : Sl} {e : TypeId} {xs : List UInt8}
theorem Heap.lenM (H : Heap F w l) (hT : Has l (mrow e s xs) := by repeat (first | assumption | constructor)) : xs.length = s.len := by
  obtain ⟨_, _, _, _, g, cur, m, _, _, _, h, _⟩ := H.get hT
  exact h
theorem bytesOfM {P : Program} {t st : Nat} (H : Heap F w l) (ht : P.underlying t = some (.slice e)) (he : P.underlying e = some (.int .u8)) (hst : P.underlying st = some .string) (hm : xs.length ≤ maxLen)
    {K : Sl → World → Prop} (k : ∀ (s' : Sl) (w' : World), Heap F w' (mrow e s' xs :: l) → K s' w') : runG .sl P w (convert st t (.string (bs xs))) K := by
  have hr := Go.Lib.run_convert_string_bytes (P := P) w st t e (bs xs) hst ht he
  refine ⟨_, _, hr, ⟨some ⟨w.heap.size, 0, none⟩, (bs xs).size, grownCap w (bs xs).size 0 e⟩, rfl, k _ _ ?_⟩
  have X : Ext w (Go.Lib.bytesWorld w e (bs xs)) := ⟨rfl, rfl, rfl, by rw [Go.Lib.bytesWorld_size]; omega, fun j hj _ => Go.Lib.bytesWorld_at_old w e (bs xs) j hj⟩
  have hn := Go.Lib.bytesWorld_at_new w e (bs xs)
  obtain ⟨ro, h, h1, h2, h3, h4, h5, h6, h7, h8⟩ := H
  have keep : ∀ (x : PH), PH.le x (PH.of w) → PH.le x (PH.of (Go.Lib.bytesWorld w e (bs xs))) := fun x hx i o e' => by
    have hi := hx i o e'
    show (Go.Lib.bytesWorld w e (bs xs)).heap[i]? = _
    rw [X.block i (PH.of_lt hi) fun h => h]; exact hi
  have dn : ∀ (x : PH), PH.le x (PH.of w) → x w.heap.size = none := fun x hx => by
    cases e' : x w.heap.size with
    | none => rfl
    | some o => have := PH.of_lt (hx _ _ e'); omega
  have hsz : (Go.Lib.bytesCells w e (bs xs)).size = grownCap w (bs xs).size 0 e := by
    have hge := grownCap_ge w (bs xs).size 0 e
    simp only [Go.Lib.bytesCells, Array.size_append, Array.size_map, Array.size_replicate]
    have : (bs xs).data.size = (bs xs).size := rfl
    omega
  have hcell : ∀ i x, xs[i]? = some x → (Go.Lib.bytesCells w e (bs xs))[i]? = some (Sc.enc x) := fun i y hy => by
    have hi : i < xs.length := (List.getElem?_eq_some_iff.1 hy).1
    simp only [Go.Lib.bytesCells]
    rw [Array.getElem?_append_left (by simpa [bs] using hi)]
    simp only [bs, Array.getElem?_map, List.getElem?_toArray, hy, Option.map_some]
    rfl
  generalize Go.Lib.bytesCells w e (bs xs) = C at hn hsz hcell
  have d1 : ∀ (x : PH), PH.le x (PH.of w) → PH.disj x (PH.one w.heap.size (.cells C e (C.size, C.size + 1))) := fun x hx i => by
    by_cases e' : i = w.heap.size
    · left; rw [e']; exact dn x hx
    · right; simp [PH.one, e']
  refine ⟨ro, PH.join (PH.one w.heap.size (.cells C e (C.size, C.size + 1))) h, h1, (PH.disj_join (d1 ro h3).symm h2.symm).symm, keep _ h3, PH.join_le (fun i o e' => ?_) (keep _ h4),
    ⟨PH.one w.heap.size (.cells C e (C.size, C.size + 1)), h, (d1 h h4).symm, PH.le_join_left _ _, PH.le_join_right (d1 h h4).symm, ?_, h5⟩, h6, h7, h8⟩
  · simp only [PH.one] at e'
    split at e'
    · rename_i hi; subst hi; cases e'; exact hn
    · cases e'
  · have hge := grownCap_ge w (bs xs).size 0 e
    have hcm : grownCap w (bs xs).size 0 e ≤ maxLen := grownCap_le_maxLen w (bs xs).size 0 e (by simpa using hm)
    exact ⟨w.heap.size, C, C.size, rfl, by simp [PH.one], Nat.le_refl _, by simp, hge, hcm, hsz.symm, hcell⟩
theorem cvM {P : Program} {t st : Nat} (H : Heap F w l) (ht : P.underlying t = some (.slice e)) (he : P.underlying e = some (.int .u8)) (hst : P.underlying st = some .string) (hT : Has l (mrow e s xs) := by repeat (first | assumption | constructor)) :
    (convert t st (.slice s.a s.len s.cap)).run P w = .ok (.string (bs xs)) w := by
  obtain ⟨ro, g, _, hg, b, cur, m, ha, hb, _, h1, _, _, _, hx⟩ := H.get hT
  refine conv_run ht he hst h1 (.inr ⟨b, 0, ha, fun i hi => ?_⟩)
  rw [cell_of_row w b _ cur e (m, m + 1) (hg _ _ hb), Nat.zero_add]
  exact hx i _ (List.getElem?_eq_getElem hi)
/-- a part of it, from a place on -/
theorem slcM {n : Int} {hi : Int} (H : Heap F w l) (h0 : 0 ≤ n) (h1 : n < xs.length) (hh : hi = (s.len : Int)) {K : Sl → Prop} (k : ∀ g, s.a = some ⟨g, 0, none⟩ → K ⟨some ⟨g, n.toNat, none⟩, s.len - n.toNat, s.cap - n.toNat⟩) (hT : Has l (mrow e s xs) := by repeat (first | assumption | constructor)) : slcT s n hi 1 K := by
  obtain ⟨ro, g, _, hg, b, cur, m, ha, hb, _, hl, hc, _, _, hx⟩ := H.get hT
  subst hh
  refine ⟨by omega, by omega, h0, by omega, ?_⟩
  have := k b ha
  rw [if_neg (by omega), ha, Int.toNat_natCast]
  simpa [add_mk] using this
theorem store_mrow {P : Program} (g o : Nat) (t : TypeId) (m : Nat) : ∀ (vs : List Value) (i : Nat) (cur : Array Value) (w : World), w.heap[g]? = some (.cells cur t (m, m + 1)) → cur.size ≤ m → o + i + vs.length ≤ cur.size → (∀ v ∈ vs, v.oneCell' = true) →
    (storeCells ⟨g, o, none⟩ vs i).run P w = .ok () (w.setRow g (cur.toList.take (o + i) ++ vs ++ cur.toList.drop (o + i + vs.length)).toArray)
  | [], i, cur, w, hg, _, _, _ => by
    simp only [storeCells, List.append_nil, List.length_nil, Nat.add_zero, List.take_append_drop, Array.toArray_toList]
    rw [setRow_self w g cur t (m, m + 1) hg]
    rfl
  | v :: rest, i, cur, w, hg, hm, hl, h1 => by
    have hi : o + i < cur.size := by simp at hl; omega
    have hadd : (⟨g, o, none⟩ : Addr).add i = ⟨g, o + i, none⟩ := add_mk g o i
    have hcell : w.cell? ⟨g, o + i, none⟩ = some cur[o + i] := by simp [World.cell?, hg, hi]
    have hfro : w.frozen? ⟨g, o + i, none⟩ = false := by simp [World.frozen?, hg]; omega
    have hst : (store ((⟨g, o, none⟩ : Addr).add i) v).run P w = .ok () (w.setRow g (cur.setIfInBounds (o + i) v)) := by
      rw [hadd, run_store P w _ v _ (h1 v (by simp)), hcell]
      simp [hfro, setCell_eq_setRow w g (o + i) cur t (m, m + 1) v hg]
    have ih := store_mrow (P := P) g o t m rest (i + 1) (cur.setIfInBounds (o + i) v) (w.setRow g (cur.setIfInBounds (o + i) v)) (setRow_heap w g cur _ t _ hg) (by simpa using hm) (by simp at hl ⊢; omega) (fun x hx => h1 x (by simp [hx]))
    simp only [storeCells, Sem.run_bind, hst, Result.andThen_ok, ih, setRow_setRow]
    congr 3
    have e := list_seg_step cur.toList (o + i) v rest (by simp at hl ⊢; omega)
    simpa [Array.toList_setIfInBounds, Nat.add_assoc] using e
/-- bytes are copied into it -/
theorem copyM {P : Program} {t bytes rt g o dl dc : Nat} {ys : List UInt8} (hS : SlT P t e 1 bytes) (H : Heap F w l) (ha : s.a = some ⟨g, 0, none⟩) (hfit : o + ys.length ≤ xs.length) (hdl : ys.length ≤ dl) (hne : 0 < ys.length) {K : Int → World → Prop}
    (k : ∀ w', Heap F w' (mrow e s (xs.take o ++ ys ++ xs.drop (o + ys.length)) :: r) → K (ys.length : Int) w') (hT : Take l (mrow e s xs) r := by repeat (first | assumption | constructor)) (hI : Has l (imm x ys) := by repeat (first | assumption | constructor)) :
    runG (.int .i64) P w (Builtin.copy_ #[t, t] rt #[.slice (some ⟨g, o, none⟩) dl dc, .slice x.a x.len x.cap]) K := by
  obtain ⟨i, z, hi, hz, hsz, hby, hzs⟩ := hS.ex
  have hlen := H.len hI
  obtain ⟨ro, gg, hro, _, _, _, _, h4⟩ := H.get hI
  obtain ⟨ro2, gg2, _, hg2, g', cur, m, hga, hgb, hcm, hl1, hl2, hl3, hl4, hx⟩ := H.get hT.has
  rw [ha] at hga
  obtain rfl : g = g' := by simpa using hga
  have hwb : w.heap[g]? = some (.cells cur e (m, m + 1)) := hg2 _ _ hgb
  rcases h4 with h0 | ⟨b2, o2, hxa, hxx⟩
  · omega
  have hcell : ∀ j (hj : j < ys.length), w.cell? ⟨b2, o2 + j, none⟩ = some (Sc.enc ys[j]) := fun j hj => by
    obtain ⟨cs, hr, hc⟩ := hxx j _ (List.getElem?_eq_getElem hj)
    have hr' : cs = [Sc.enc ys[j]] := hr
    subst hr'
    have := roCell.cell hro (hc 0 _ rfl)
    simpa [Rep.n] using this
  have hnews : ∀ (j : Nat) (v : Value), (ys.map (Sc.enc : UInt8 → Value))[j]? = some v → w.cell? ((⟨b2, o2, none⟩ : Addr).add j) = some v := fun j v hj => by
    obtain ⟨hjl, rfl⟩ := List.getElem?_eq_some_iff.1 hj
    have hjl' : j < ys.length := by simpa using hjl
    rw [add_mk, hcell j hjl']
    simp
  have h1' : ∀ u ∈ ys.map (Sc.enc : UInt8 → Value), u.oneCell' = true := fun u hu => by
    obtain ⟨y, _, rfl⟩ := List.mem_map.1 hu; rfl
  have hld := run_loadCells_list (P := P) w ⟨b2, o2, none⟩ (ys.map Sc.enc) hnews
  have hst := store_mrow (P := P) g o e m (ys.map Sc.enc) 0 cur w hwb hcm (by simp; omega) h1'
  have hmin : Nat.min x.len dl = ys.length := by rw [← hlen]; exact Nat.min_eq_left hdl
  have hrun : (Builtin.copy_ #[t, t] rt #[.slice (some ⟨g, o, none⟩) dl dc, .slice x.a x.len x.cap]).run P w = .ok (goInt ys.length) (w.setRow g (cur.toList.take o ++ ys.map Sc.enc ++ cur.toList.drop (o + ys.length)).toArray) := by
    rw [hxa]
    simp only [List.length_map] at hld hst
    have hmin' : min x.len dl = ys.length := hmin
    simp [Builtin.copy_, run_underlying hS.ht, Builtin.lenOf, Builtin.firstCells, sizeOf, typeInfo, hi, hsz, hmin', hld]
    simp at hst
    rw [hst]
    rfl
  refine ⟨_, _, hrun, (ys.length : Int), rfl, k _ ?_⟩
  generalize hC : (cur.toList.take o ++ ys.map Sc.enc ++ cur.toList.drop (o + ys.length)) = C
  have hCl : C.length = cur.size := by
    have : cur.toList.length = cur.size := by simp
    rw [← hC]; simp; omega
  have hCx : ∀ (i : Nat) (y : UInt8), (xs.take o ++ ys ++ xs.drop (o + ys.length))[i]? = some y → C[i]? = some (Sc.enc y) := by
    intro i y hy
    rw [← hC]
    rcases Nat.lt_or_ge i o with h | h
    · have e1 : (xs.take o ++ ys ++ xs.drop (o + ys.length))[i]? = xs[i]? := by
        rw [List.append_assoc, List.getElem?_append_left (by simp; omega), List.getElem?_take, if_pos h]
      rw [e1] at hy
      rw [List.append_assoc, List.getElem?_append_left (by simp; omega), List.getElem?_take, if_pos h]
      simpa using hx i y hy
    · rcases Nat.lt_or_ge i (o + ys.length) with h2 | h2
      · have e1 : (xs.take o ++ ys ++ xs.drop (o + ys.length))[i]? = ys[i - o]? := by
          rw [List.append_assoc, List.getElem?_append_right (by simp; omega), List.length_take, Nat.min_eq_left (by omega), List.getElem?_append_left (by omega)]
        rw [e1] at hy
        rw [List.append_assoc, List.getElem?_append_right (by simp; omega), List.length_take, Nat.min_eq_left (by simp; omega), List.getElem?_append_left (by simp; omega), List.getElem?_map, hy]
        rfl
      · have e1 : (xs.take o ++ ys ++ xs.drop (o + ys.length))[i]? = xs[i]? := by
          rw [List.getElem?_append_right (by simp; omega), List.getElem?_drop]
          congr 1
          simp; omega
        rw [e1] at hy
        rw [List.getElem?_append_right (by simp; omega), List.getElem?_drop]
        have : o + ys.length + (i - (cur.toList.take o ++ ys.map (Sc.enc : UInt8 → Value)).length) = i := by simp; omega
        rw [this]
        simpa using hx i y hy
  refine (H.take hT).upd rfl rfl rfl fun ro h1 _ hle _ hc => ⟨PH.one g (.cells C.toArray e (m, m + 1)), ⟨g, C.toArray, m, ha, by simp [PH.one], by simpa [hCl] using hcm, ?_, hl2, hl3, by simpa [hCl] using hl4, fun i y hy => by simpa using hCx i y hy⟩, fun i x e' => ?_, fun kk hk => ?_, fun kk hk hn => ?_⟩
  · rw [← hl1]; simp; omega
  · simp only [PH.one] at e'
    split at e'
    · rename_i hi; subst hi; cases e'
      exact setRow_heap w i cur C.toArray e (m, m + 1) hwb
    · cases e'
  · left
    simp only [PH.one] at hk
    split at hk
    · rename_i hi; subst hi
      obtain ⟨g2, cur2, m2, ha2, hb2, _⟩ := hc
      rw [ha] at ha2
      obtain rfl : kk = g2 := by simpa using ha2
      rw [hb2]; simp
    · exact absurd rfl hk
  · obtain ⟨g2, cur2, m2, ha2, hb2, _⟩ := hc
    rw [ha] at ha2
    obtain rfl : g = g2 := by simpa using ha2
    exact setRow_other w g kk _ fun e' => by rw [e', hb2] at hn; cases hn
end
end Go.VC

set_option linter.unusedVariables false
set_option linter.unusedSimpArgs false
namespace Go.VC
open Go Go.RowKit
theorem Heap.blk_own0 {α : Type} [Rep α] {F : Bs} {w : World} {l r : List SP} {b : Nat} {e : TypeId} (H : Heap F w l) (hT : Take l (blk b e []) r := by repeat (first | assumption | constructor)) : Heap F w (own e ⟨some ⟨b, 0, none⟩, 0, 0⟩ ([] : List α) :: r) :=
  (H.take hT).ent1 fun ro h hb => ⟨rfl, .inr ⟨b, _, rfl, hb, Nat.le_refl _, mx (show 0 ≤ 4000000000000 by decide), by simp, fun i x hi => by simp at hi⟩⟩
theorem Heap.tln {F : Bs} {w : World} : ∀ (n : Nat) {l : List SP}, Heap F w l → Heap F w (l.drop n)
  | 0, _, H => H
  | n + 1, [], H => H
  | n + 1, _ :: l, H => Heap.tln n H.tl
theorem Heap.kp {F : Bs} {w : World} {c : SP} : ∀ (n : Nat) {l : List SP}, Heap F w (c :: l) → Heap F w (c :: l.drop n)
  | 0, _, H => H
  | n + 1, [], H => H
  | n + 1, a :: l, H => Heap.kp n (H.dr a (.t .h))
theorem ldan {F : Bs} {w : World} {l : List SP} {b n : Nat} {ty : TypeId} {cs : List Value} (H : Heap F w l) {t : Tag1} {x : t.T} {K : t.T → Prop} (hc : cs[n]? = some (t.emb x)) (k : K x) (hT : Has l (blk b ty cs) := by repeat (first | assumption | constructor)) : ldT t w ((⟨b, 0, none⟩ : Addr).add n) K :=
  ⟨x, by rw [add_mk, Nat.zero_add]; exact H.cell hT hc, k⟩
theorem stan {F : Bs} {w : World} {l l' : List SP} {b n : Nat} {ty : TypeId} {cs cs' : List Value} (H : Heap F w l) {v : Value} {K : World → Prop} (hs : cs' = cs.set n v) (ho : n < cs.length) (k : ∀ w', Heap F w' (blk b ty cs' :: l') → K w') (hT : Take l (blk b ty cs) l' := by repeat (first | assumption | constructor)) (hv : oneC v = true := by rfl) : stC w ((⟨b, 0, none⟩ : Addr).add n) v K := by
  subst hs; rw [add_mk, Nat.zero_add]; exact stn H ho k hT hv
theorem ldc {w : World} {a : Addr} {t : Tag1} {x : t.T} {K : t.T → Prop} (h : w.cell? a = some (t.emb x)) (k : K x) : ldT t w a K := ⟨x, h, k⟩
theorem Heap.kp2 {F : Bs} {w : World} {c d : SP} : ∀ (n : Nat) {l : List SP}, Heap F w (c :: d :: l) → Heap F w (c :: d :: l.drop n)
  | 0, _, H => H
  | n + 1, [], H => H
  | n + 1, a :: l, H => Heap.kp2 n (H.dr a (.t (.t .h)))
theorem Heap.kp3 {F : Bs} {w : World} {c d e : SP} : ∀ (n : Nat) {l : List SP}, Heap F w (c :: d :: e :: l) → Heap F w (c :: d :: e :: l.drop n)
  | 0, _, H => H
  | n + 1, [], H => H
  | n + 1, a :: l, H => Heap.kp3 n (H.dr a (.t (.t (.t .h))))
theorem rowN {F : Bs} {w : World} {l : List SP} {b : Nat} {ty : TypeId} {cs : List Value} {arr : Array Value} (n : Nat) (H : Heap F w l) (hT : Has l (blk b ty cs) := by repeat (first | assumption | constructor)) (h : arr = (cs.take n).toArray := by rfl) : RowIs w ⟨b, 0, none⟩ arr := fun j v hj => by
  refine rowB H hT j v ?_
  subst h
  simp only [List.getElem?_toArray, List.getElem?_take] at hj ⊢
  split at hj
  · exact hj
  · cases hj
theorem cvB1 {P : Program} {t st e e' : Nat} {F : Bs} {w : World} {l : List SP} {b n m : Nat} (H : Heap F w l) {xs : List UInt8} (ht : P.underlying t = some (.slice e)) (he : P.underlying e = some (.int .u8)) (hst : P.underlying st = some .string) (hT : Has l (own e' ⟨some ⟨b, 0, none⟩, n, m⟩ xs)) :
    (convert t st (.slice (some ⟨b, 0, none⟩) n m)).run P w = .ok (.string (bs xs)) w := cvO (s := ⟨some ⟨b, 0, none⟩, n, m⟩) H ht he hst hT
theorem imm_re {F : Bs} {w : World} {l : List SP} {α : Type} [Rep α] {s : Sl} {xs : List α} (H : Heap F w l) (hR : Has l (imm s xs)) : Heap F w (imm s xs :: l) := H.add hR fun _ _ h => h
/-- an element of a row that is read alone: its cell, in every world where the row is there -/
theorem idxI1w {α : Type} [Sc α] {F : Bs} {w : World} {l : List SP} {s : Sl} {xs : List α} (H : Heap F w l) {i : Int} (h0 : 0 ≤ i) (h1 : i < xs.length) {K : Addr → Prop}
    (k : ∀ a : Addr, (∀ {F' : Bs} {w' : World} {l' : List SP}, Heap F' w' l' → Has l' (imm s xs) → w'.cell? a = some (Sc.enc (xs[i.toNat]'(by omega)))) → K a) (hT : Has l (imm s xs)) : idx s.a s.len i 1 K := by
  have hl := H.len hT
  obtain ⟨_, _, _, _, ⟨_, _, _, g4⟩⟩ := H.get hT
  refine ⟨h0, by omega, ?_⟩
  rcases g4 with g4 | ⟨b, o, ha, _⟩
  · omega
  refine ⟨_, ha, k _ fun {F' w' l'} H' hT' => ?_⟩
  obtain ⟨ro, g, hro, _, ⟨_, _, _, g4⟩⟩ := H'.get hT'
  rcases g4 with g4 | ⟨b', o', ha', hx'⟩
  · omega
  rw [ha] at ha'
  obtain ⟨rfl, rfl⟩ : b = b' ∧ o = o' := by simpa using ha'
  obtain ⟨cs, hr, hcs⟩ := hx' i.toNat (xs[i.toNat]'(by omega)) (by simp)
  have hr' : cs = [Sc.enc (xs[i.toNat]'(by omega))] := hr
  subst hr'
  have := roCell.cell hro (hcs 0 _ rfl)
  rw [add_mk]
  simpa [Rep.n] using this
theorem Heap.kp5 {F : Bs} {w : World} {c d e f g : SP} : ∀ (n : Nat) {l : List SP}, Heap F w (c :: d :: e :: f :: g :: l) → Heap F w (c :: d :: e :: f :: g :: l.drop n)
  | 0, _, H => H
  | n + 1, [], H => H
  | n + 1, a :: l, H => Heap.kp5 n (H.dr a (.t (.t (.t (.t (.t .h))))))
theorem Heap.kp6 {F : Bs} {w : World} {c d e f g i : SP} : ∀ (n : Nat) {l : List SP}, Heap F w (c :: d :: e :: f :: g :: i :: l) → Heap F w (c :: d :: e :: f :: g :: i :: l.drop n)
  | 0, _, H => H
  | n + 1, [], H => H
  | n + 1, a :: l, H => Heap.kp6 n (H.dr a (.t (.t (.t (.t (.t (.t .h)))))))
theorem Heap.kp8 {F : Bs} {w : World} {c d e f g i j k : SP} : ∀ (n : Nat) {l : List SP}, Heap F w (c :: d :: e :: f :: g :: i :: j :: k :: l) → Heap F w (c :: d :: e :: f :: g :: i :: j :: k :: l.drop n)
  | 0, _, H => H
  | n + 1, [], H => H
  | n + 1, a :: l, H => Heap.kp8 n (H.dr a (.t (.t (.t (.t (.t (.t (.t (.t .h)))))))))
theorem Heap.kp4 {F : Bs} {w : World} {c d e f : SP} : ∀ (n : Nat) {l : List SP}, Heap F w (c :: d :: e :: f :: l) → Heap F w (c :: d :: e :: f :: l.drop n)
  | 0, _, H => H
  | n + 1, [], H => H
  | n + 1, a :: l, H => Heap.kp4 n (H.dr a (.t (.t (.t (.t .h)))))
theorem Heap.kp7 {F : Bs} {w : World} {c d e f g i j : SP} : ∀ (n : Nat) {l : List SP}, Heap F w (c :: d :: e :: f :: g :: i :: j :: l) → Heap F w (c :: d :: e :: f :: g :: i :: j :: l.drop n)
  | 0, _, H => H
  | n + 1, [], H => H
  | n + 1, a :: l, H => Heap.kp7 n (H.dr a (.t (.t (.t (.t (.t (.t (.t .h))))))))
theorem ptr_eql {P : Program} {w : World} {t x : Nat} {p : Option Addr} {K : Bool → World → Prop} (h : P.underlying t = some (.pointer (P.pointee t))) (k : K p.isNone w) :
    runG (.bool) P w (do eqGuard .eql t (.tmp x) (.const (.pointer none)) (.pointer p) (.pointer none); binOp .eql t (.pointer p) (.pointer none)) K :=
  ⟨.bool p.isNone, w, by
    have e : eqGuard .eql t (.tmp x) (.const (.pointer none)) (.pointer p) (.pointer none) = pure () := by cases p <;> rfl
    rw [e, pure_bind]
    exact run_eql_pointer_nil w t p h, _, rfl, k⟩
theorem par_agg {P : Program} {W : World} {t : TypeId} {b0 : Nat} {v : Value} {H : Type} {enc : TypeId × Value → H} {d : DataW H} {ps : List MemPlace} {α : Type} [Rep α] {G : α → Prop} {fs : Array Field} (ht : P.underlying t = some (.struct fs)) (hO : OpenT P t G) (hv : Value.okWide P W .any b0 t v) (hd : DataW.Trod enc P W 0 (fun _ => true) true t v d ps) (hw : (d.weights P t).all (· ≤ reachBytes) = true) :
    ∃ (cs : List Value) (x : α), v = .agg cs.toArray ∧ Rep.r (PH.of W) cs x ∧ G x := by
  obtain ⟨cs, rfl, _⟩ := WideShapes.okWide_struct ht hv
  obtain ⟨fuel, hd⟩ := hd
  obtain ⟨x, hx, hg⟩ := hO hd hw
  exact ⟨cs.toList, x, by simp, by simpa [Value.cells] using hx, hg⟩
/-- cells that nothing writes any more -/
def atc (b o : Nat) (cs : List Value) : SP := ⟨fun ro _ => ∀ (j : Nat) (u : Value), cs[j]? = some u → roCell ro b (o + j) = some u, fun hr _ h j u hj => roCell.mono hr (h j u hj)⟩
section
variable {α : Type} [Rep α] {F : Bs} {w : World} {l : List SP} {s : Sl} {xs : List α}
/-- an element of a row that is read alone, with its cells for good -/
theorem idxIc (H : Heap F w l) {i : Int} (h0 : 0 ≤ i) (h1 : i < xs.length) {K : Addr → Prop}
    (k : ∀ (b o : Nat) (cs : List Value), Heap F w (atc b o cs :: rep cs (xs[i.toNat]'(by omega)) :: l) → K ⟨b, o, none⟩) (hT : Has l (imm s xs)) : idx s.a s.len i (Rep.n α) K := by
  have hl := H.len hT
  obtain ⟨ro2, h2, k1, k2, k3, k4, k5, k6⟩ := H
  obtain ⟨_, _, hc⟩ := sep.has hT k5
  refine ⟨h0, by omega, ?_⟩
  rcases hc.2.2.2 with h4 | ⟨b, o, ha, hx⟩
  · omega
  refine ⟨_, ha, ?_⟩
  have hg : xs[i.toNat]? = some (xs[i.toNat]'(by omega)) := by simp
  obtain ⟨cs, hr, hcs⟩ := hx _ _ hg
  rw [add_mk]
  refine k b (o + i.toNat * Rep.n α) cs ⟨ro2, h2, k1, k2, k3, k4, ⟨PH.emp, h2, fun _ => .inl rfl, PH.emp_le _, PH.le.refl _, fun j u hj => ?_, PH.emp, h2, fun _ => .inl rfl, PH.emp_le _, PH.le.refl _, hr, k5⟩, k6⟩
  exact hcs j u hj
theorem Heap.atc {b o : Nat} {cs : List Value} (H : Heap F w l) (hT : Has l (Go.VC.atc b o cs)) : At w ⟨b, o, none⟩ cs := fun j u hj => by
  obtain ⟨ro, _, hro, _, hc⟩ := H.get hT
  rw [add_mk]; exact roCell.cell hro (hc j u hj)
end
end Go.VC
