import Derived.Test.YtaaegmmcnfeiaaaDoorSa
set_option linter.unusedVariables false
set_option linter.unusedSimpArgs false
namespace Go.VC
open Go Go.RowKit

/-! ### What cells stand for -/
class Rep (α : Type) where
  n : Nat
  r : PH → List Value → α → Prop
  mono : ∀ {ro ro' : PH} {cs : List Value} {x : α}, PH.le ro ro' → r ro cs x → r ro' cs x
  len : ∀ {ro : PH} {cs : List Value} {x : α}, r ro cs x → cs.length = n
  one : ∀ {ro : PH} {cs : List Value} {x : α}, r ro cs x → ∀ u ∈ cs, oneC u = true
/-- one cell -/
class Sc (α : Type) where
  enc : α → Value
  one : ∀ x : α, oneC (enc x) = true
instance {α : Type} [Sc α] : Rep α where
  n := 1
  r := fun _ cs x => cs = [Sc.enc x]
  mono := fun _ h => h
  len := fun h => by rw [h]; rfl
  one := fun h u hu => by rw [h] at hu; simp at hu; rw [hu]; exact Sc.one _
instance : Sc Int := ⟨fun x => .int .i64 x, fun _ => rfl⟩
instance : Sc UInt8 := ⟨fun x => .int .u8 (x.toNat : Int), fun _ => rfl⟩
instance : Sc UInt32 := ⟨fun x => .int .u32 (x.toNat : Int), fun _ => rfl⟩
instance : Sc UInt64 := ⟨fun x => .int .u64 (x.toNat : Int), fun _ => rfl⟩
instance : Sc Bool := ⟨fun x => .bool x, fun _ => rfl⟩
instance : Sc ByteArray := ⟨fun x => .string x, fun _ => rfl⟩
instance : Sc (Option Addr) := ⟨fun x => .pointer x, fun _ => rfl⟩
def roCell (ro : PH) (b o : Nat) : Option Value := match ro b with
  | some (.cells c _ _) => c[o]?
  | _ => none
theorem roCell.mono {ro ro' : PH} {b o : Nat} {v : Value} (h : PH.le ro ro') (hc : roCell ro b o = some v) : roCell ro' b o = some v := by
  simp only [roCell] at hc ⊢
  cases e : ro b with
  | none => rw [e] at hc; cases hc
  | some x => rw [h b x e]; rw [e] at hc; exact hc
theorem roCell.cell {w : World} {ro : PH} {b o : Nat} {v : Value} (h : PH.le ro (PH.of w)) (hc : roCell ro b o = some v) : w.cell? ⟨b, o, none⟩ = some v := by
  have := roCell.mono h hc
  simp only [roCell, PH.of] at this
  simp only [World.cell?]
  cases e : w.heap[b]? with
  | none => rw [e] at this; cases this
  | some x => rw [e] at this; cases x <;> simp_all
section
variable {α : Type} [Rep α]
def immL (ro : PH) (s : Sl) (xs : List α) : Prop :=
  xs.length = s.len ∧ s.len ≤ s.cap ∧ s.cap ≤ maxLen ∧ (s.len = 0 ∨ ∃ b o, s.a = some ⟨b, o, none⟩ ∧ ∀ i x, xs[i]? = some x → ∃ cs, Rep.r ro cs x ∧ ∀ j u, cs[j]? = some u → roCell ro b (o + i * Rep.n α + j) = some u)
theorem immL.mono {ro ro' : PH} {s : Sl} {xs : List α} (h : PH.le ro ro') (hi : immL ro s xs) : immL ro' s xs := by
  obtain ⟨h1, h2, h3, h4⟩ := hi
  refine ⟨h1, h2, h3, h4.imp id fun ⟨b, o, ha, hx⟩ => ⟨b, o, ha, fun i x hi => ?_⟩⟩
  obtain ⟨cs, hr, hc⟩ := hx i x hi
  exact ⟨cs, Rep.mono h hr, fun j u hj => roCell.mono h (hc j u hj)⟩
instance : Rep (List α) where
  n := 1
  r := fun ro cs xs => ∃ s : Sl, cs = [s.v] ∧ immL ro s xs
  mono := fun h ⟨s, e, hi⟩ => ⟨s, e, hi.mono h⟩
  len := fun ⟨s, e, _⟩ => by rw [e]; rfl
  one := fun ⟨s, e, _⟩ u hu => by rw [e] at hu; simp at hu; rw [hu]; rfl
/-- a slice that is read alone -/
def imm (s : Sl) (xs : List α) : SP := ⟨fun ro _ => immL ro s xs, fun hr _ h => h.mono hr⟩
/-- cells stand for it -/
def rep (cs : List Value) (x : α) : SP := ⟨fun ro _ => Rep.r ro cs x, fun hr _ h => Rep.mono hr h⟩
/-- a slice of the call's own: nobody else sees its row -/
def own (e : TypeId) (s : Sl) (xs : List α) : SP :=
  ⟨fun ro h => xs.length = s.len ∧ (s = ⟨none, 0, 0⟩ ∨ ∃ (g : Nat) (cur : Array Value), s.a = some ⟨g, 0, none⟩ ∧ h g = some (.cells cur e (0, 0)) ∧ s.len ≤ s.cap ∧ s.cap ≤ maxLen ∧ cur.size = s.cap * Rep.n α ∧
      ∀ i x, xs[i]? = some x → ∃ cs, Rep.r ro cs x ∧ ∀ j u, cs[j]? = some u → cur[i * Rep.n α + j]? = some u),
   fun hr hh ⟨h1, h2⟩ => ⟨h1, h2.imp id fun ⟨g, cur, a, b, c, d, e, f⟩ => ⟨g, cur, a, hh _ _ b, c, d, e, fun i x hi => by obtain ⟨cs, k1, k2⟩ := f i x hi; exact ⟨cs, Rep.mono hr k1, k2⟩⟩⟩⟩
/-- a place whose cells stand for it, in a world -/
def At (w : World) (a : Addr) (cs : List Value) : Prop := ∀ j u, cs[j]? = some u → w.cell? (a.add j) = some u
variable {F : Bs} {w w' : World} {l l' r : List SP} {s : Sl} {xs : List α} {e : TypeId}
theorem Heap.len (H : Heap F w l) (hT : Has l (imm s xs) := by repeat (first | assumption | constructor)) : xs.length = s.len := H.pure hT fun _ _ h => h.1
theorem Heap.cap (H : Heap F w l) (hT : Has l (imm s xs) := by repeat (first | assumption | constructor)) : s.len ≤ s.cap := H.pure hT fun _ _ h => h.2.1
theorem Heap.lenO (H : Heap F w l) (hT : Has l (own e s xs) := by repeat (first | assumption | constructor)) : xs.length = s.len := H.pure hT fun _ _ h => h.1
theorem Heap.imm_nil (H : Heap F w l) : Heap F w (imm ⟨none, 0, 0⟩ ([] : List α) :: l) := H.add0 fun _ => ⟨rfl, Nat.le_refl _, by simp, .inl rfl⟩
theorem Heap.own_nil (H : Heap F w l) (e : TypeId) : Heap F w (own e ⟨none, 0, 0⟩ ([] : List α) :: l) := H.add0 fun _ => ⟨rfl, .inl rfl⟩
/-- an element's place -/
theorem idxI (H : Heap F w l) {i : Int} (h0 : 0 ≤ i) (h1 : i < xs.length) {K : Addr → Prop}
    (k : ∀ (a : Addr) (cs : List Value), Heap F w (rep cs (xs[i.toNat]'(by omega)) :: l) → At w a cs → K a) (hT : Has l (imm s xs) := by repeat (first | assumption | constructor)) : idx s.a s.len i (Rep.n α) K := by
  have hl := H.len hT
  obtain ⟨ro, g, hro, _, ⟨g1, g2, g3, g4⟩⟩ := H.get hT
  refine ⟨h0, by omega, ?_⟩
  rcases g4 with g4 | ⟨b, o, ha, hx⟩
  · omega
  · refine ⟨_, ha, ?_⟩
    have hg : xs[i.toNat]? = some (xs[i.toNat]'(by omega)) := by simp
    obtain ⟨ro2, h2, k1, k2, k3, k4, k5, k6⟩ := H
    obtain ⟨_, _, hc⟩ := sep.has hT k5
    rcases hc.2.2.2 with h4 | ⟨b', o', ha', hx'⟩
    · omega
    rw [ha] at ha'
    obtain ⟨rfl, rfl⟩ : b = b' ∧ o = o' := by simpa using ha'
    obtain ⟨cs, hr, hcs⟩ := hx' _ _ hg
    refine k _ cs ⟨ro2, h2, k1, k2, k3, k4, ⟨PH.emp, h2, fun _ => .inl rfl, PH.emp_le _, PH.le.refl _, hr, k5⟩, k6⟩ fun j u hj => ?_
    simp only [add_mk]
    exact roCell.cell k3 (hcs j u hj)
theorem idxO (H : Heap F w l) {i : Int} (h0 : 0 ≤ i) (h1 : i < xs.length) {K : Addr → Prop}
    (k : ∀ (a : Addr) (cs : List Value), Heap F w (rep cs (xs[i.toNat]'(by omega)) :: l) → At w a cs → K a) (hT : Has l (own e s xs) := by repeat (first | assumption | constructor)) : idx s.a s.len i (Rep.n α) K := by
  have hl := H.lenO hT
  refine ⟨h0, by omega, ?_⟩
  have hg : xs[i.toNat]? = some (xs[i.toNat]'(by omega)) := by simp
  obtain ⟨ro2, h2, k1, k2, k3, k4, k5, k6⟩ := H
  obtain ⟨h3, hh, hc⟩ := sep.has hT k5
  rcases hc.2 with h4 | ⟨g, cur, ha, hb, _, _, _, hx⟩
  · rw [h4] at hl; simp at hl; subst hl; simp at h1; omega
  refine ⟨_, ha, ?_⟩
  obtain ⟨cs, hr, hcs⟩ := hx _ _ hg
  refine k _ cs ⟨ro2, h2, k1, k2, k3, k4, ⟨PH.emp, h2, fun _ => .inl rfl, PH.emp_le _, PH.le.refl _, hr, k5⟩, k6⟩ fun j u hj => ?_
  simp only [add_mk, Nat.zero_add]
  rw [cell_of_row w g _ cur e (0, 0) (k4 _ _ (hh _ _ hb))]
  exact hcs j u hj
theorem At.ld {a : Addr} {cs : List Value} (h : At w a cs) {o : Nat} {t : Tag1} {x : t.T} {K : t.T → Prop} (k : K x) (hc : CellIs cs o (t.emb x) := by repeat (first | assumption | constructor)) : ldT t w (a.add o) K :=
  ⟨x, h _ _ hc.get, k⟩
theorem At.ld0 {a : Addr} {cs : List Value} (h : At w a cs) {t : Tag1} {x : t.T} {K : t.T → Prop} (k : K x) (hc : CellIs cs 0 (t.emb x) := by repeat (first | assumption | constructor)) : ldT t w a K :=
  ⟨x, by have := h 0 _ hc.get; simpa using this, k⟩
theorem At.drew {a : Addr} {cs : List Value} (h : At w a cs) : At w.drew a cs := h
/-- a piece of a slice that is read alone -/
theorem slcI (H : Heap F w l) {lo hi : Int} (h1 : 0 ≤ lo) (h2 : lo ≤ hi) (h3 : hi ≤ xs.length) {K : Sl → Prop}
    (k : ∀ t : Sl, Heap F w (imm t ((xs.drop lo.toNat).take (hi.toNat - lo.toNat)) :: l) → K t) (hT : Has l (imm s xs) := by repeat (first | assumption | constructor)) : slcT s lo hi (Rep.n α) K := by
  have hl := H.len hT
  have hc := H.cap hT
  refine ⟨by omega, by omega, h1, h2, k _ ?_⟩
  refine H.add hT fun ro g ⟨g1, g2, g3, g4⟩ => ⟨?_, ?_, ?_, ?_⟩
  · simp only [List.length_take, List.length_drop]; omega
  · show hi.toNat - lo.toNat ≤ s.cap - lo.toNat
    omega
  · show s.cap - lo.toNat ≤ maxLen
    omega
  · by_cases h0 : hi.toNat - lo.toNat = 0
    · exact .inl h0
    · right
      rcases g4 with g4 | ⟨b, o, ha, hx⟩
      · omega
      · have hne : ¬ s.cap = lo.toNat := by omega
        refine ⟨b, o + lo.toNat * Rep.n α, by simp [hne, ha], fun i x hi => ?_⟩
        rw [List.getElem?_take] at hi
        split at hi
        · rw [List.getElem?_drop] at hi
          obtain ⟨cs, k1, k2⟩ := hx _ _ hi
          refine ⟨cs, k1, fun j u hj => ?_⟩
          have := k2 j u hj
          rw [Nat.add_mul] at this
          rw [← this]; congr 1; omega
        · cases hi
/-- own is read alone from now on -/
theorem Heap.share (H : Heap F w l) (hT : Take l (own e s xs) r := by repeat (first | assumption | constructor)) : Heap F w (imm s xs :: r) := by
  refine (H.take hT).freeze fun ro h d ⟨h1, h2⟩ => ?_
  rcases h2 with h2 | ⟨g, cur, ha, hb, hc, hm, hs, hx⟩
  · subst h2; exact ⟨h1, Nat.le_refl _, by simp, .inl rfl⟩
  · refine ⟨h1, hc, hm, .inr ⟨g, 0, ha, fun i x hi => ?_⟩⟩
    obtain ⟨cs, k1, k2⟩ := hx i x hi
    refine ⟨cs, Rep.mono (PH.le_join_left _ _) k1, fun j u hj => ?_⟩
    simp only [roCell, PH.le_join_right d _ _ hb, Nat.zero_add]
    exact k2 j u hj
end
section
variable {α : Type} [Sc α] {F : Bs} {w w' : World} {l l' r : List SP} {s : Sl} {xs : List α} {e : TypeId}
theorem idxI1 (H : Heap F w l) {i : Int} (h0 : 0 ≤ i) (h1 : i < xs.length) {K : Addr → Prop}
    (k : ∀ (a : Addr), w.cell? a = some (Sc.enc (xs[i.toNat]'(by omega))) → K a) (hT : Has l (imm s xs) := by repeat (first | assumption | constructor)) : idx s.a s.len i 1 K := by
  refine idxI H h0 h1 (fun a cs H' hA => k a ?_) hT
  have : cs = [Sc.enc (xs[i.toNat]'(by omega))] := H'.pure .h fun _ _ h => h
  subst this
  simpa using hA 0 _ rfl
theorem idxO1 (H : Heap F w l) {i : Int} (h0 : 0 ≤ i) (h1 : i < xs.length) {K : Addr → Prop}
    (k : ∀ (a : Addr), w.cell? a = some (Sc.enc (xs[i.toNat]'(by omega))) → K a) (hT : Has l (own e s xs) := by repeat (first | assumption | constructor)) : idx s.a s.len i 1 K := by
  refine idxO H h0 h1 (fun a cs H' hA => k a ?_) hT
  have : cs = [Sc.enc (xs[i.toNat]'(by omega))] := H'.pure .h fun _ _ h => h
  subst this
  simpa using hA 0 _ rfl
end
/-! ### append -/
/-- what is to be appended, in a world: cells that stand for a list -/
structure Src {α : Type} [Rep α] (w : World) (ro : PH) (x : Sl) (ys : List α) : Prop where
  len : ys.length = x.len
  cells : x.len = 0 ∨ ∃ b o, x.a = some ⟨b, o, none⟩ ∧ ∀ i y, ys[i]? = some y → ∃ cs, Rep.r ro cs y ∧ ∀ j u, cs[j]? = some u → w.cell? ⟨b, o + i * Rep.n α + j, none⟩ = some u
theorem flat_get {n : Nat} : ∀ {L : List (List Value)}, (∀ c ∈ L, c.length = n) → ∀ i c j u, L[i]? = some c → c[j]? = some u → L.flatten[i * n + j]? = some u
  | [], _, i, c, j, u, hi, _ => by simp at hi
  | d :: L, hL, 0, c, j, u, hi, hj => by
    simp at hi; subst hi
    have : j < d.length := (List.getElem?_eq_some_iff.1 hj).1
    rw [Nat.zero_mul, Nat.zero_add, List.flatten_cons, List.getElem?_append_left this]; exact hj
  | d :: L, hL, i + 1, c, j, u, hi, hj => by
    have hd : d.length = n := hL d (by simp)
    simp only [List.getElem?_cons_succ] at hi
    have := flat_get (fun c hc => hL c (by simp [hc])) i c j u hi hj
    rw [List.flatten_cons, List.getElem?_append_right (by rw [hd, Nat.add_mul]; omega), hd, ← this]
    congr 1
    rw [Nat.add_mul]; omega
theorem flat_len {n : Nat} : ∀ {L : List (List Value)}, (∀ c ∈ L, c.length = n) → L.flatten.length = L.length * n
  | [], _ => by simp
  | d :: L, hL => by
    rw [List.flatten_cons, List.length_append, flat_len (fun c hc => hL c (by simp [hc])), hL d (by simp), List.length_cons, Nat.add_mul]; omega
section
variable {α : Type} [Rep α]
/-- rows of cells for a list, one by one -/
theorem rows_of {ro : PH} {R : Nat → List Value → Prop} : ∀ {ys : List α} (k : Nat), (∀ i y, ys[i]? = some y → ∃ cs, Rep.r ro cs y ∧ R (k + i) cs) →
    ∃ L : List (List Value), L.length = ys.length ∧ ∀ i y, ys[i]? = some y → ∃ cs, L[i]? = some cs ∧ Rep.r ro cs y ∧ R (k + i) cs
  | [], k, _ => ⟨[], rfl, fun i y h => by simp at h⟩
  | y :: ys, k, h => by
    obtain ⟨c, hc, hr⟩ := h 0 y rfl
    obtain ⟨L, hl, hL⟩ := rows_of (ys := ys) (k + 1) fun i z hz => by
      obtain ⟨cs, a, b⟩ := h (i + 1) z (by simpa using hz)
      exact ⟨cs, a, by rw [show k + 1 + i = k + (i + 1) by omega]; exact b⟩
    refine ⟨c :: L, by simp [hl], fun i z hz => ?_⟩
    cases i with
    | zero => simp at hz; subst hz; exact ⟨c, rfl, hc, hr⟩
    | succ i =>
      obtain ⟨cs, a, b, d⟩ := hL i z (by simpa using hz)
      exact ⟨cs, by simpa using a, b, by rw [show k + (i + 1) = k + 1 + i by omega]; exact d⟩
variable {F : Bs} {w w' : World} {l l' r : List SP} {s x : Sl} {xs ys : List α} {e : TypeId}
/-- 'S' appends rows that stand for ys to a slice of the call's own -/
theorem app_core {P : Program} (hpos : 0 < Rep.n α) {S : Sem Value} (H : Heap F w l)
    (hrun : ∀ ro, PH.le F.h ro → PH.le ro (PH.of w) → (∃ g, sep l ro g ∧ PH.le g (PH.of w)) → ∃ M : List (List Value), M.length = ys.length ∧ (∀ (i : Nat) (y : α), ys[i]? = some y → ∃ cs : List Value, M[i]? = some cs ∧ Rep.r ro cs y) ∧
      ∀ olds, xs.length = s.len → w.ownsRow 0 e (Rep.n α) s.v s.len olds → ∃ v' w', S.run P w = .ok v' w' ∧ w'.ownsRow 0 e (Rep.n α) v' (s.len + ys.length) (olds ++ M.flatten) ∧ w.grownBy w' s.v.ownBlock ∧ (v'.ownBlock = s.v.ownBlock ∨ v'.ownBlock = some w.heap.size))
    {K : Sl → World → Prop}
    (k : ∀ (s' : Sl) (w' : World), Heap F w' (own e s' (xs ++ ys) :: r) → K s' w') (hT : Take l (own e s xs) r := by repeat (first | assumption | constructor)) :
    runG .sl P w S K := by
  have hxs := H.lenO hT.has
  obtain ⟨ro, h, h1, h2, h3, h4, h5, h6⟩ := H
  obtain ⟨M, hM, hMy, hrun⟩ := hrun ro h1 h3 ⟨h, h5, h4⟩
  obtain ⟨g1, g2, d, l1, l2, hc, hs⟩ := sep.take hT h5
  have dro : PH.disj ro g1 := h2.sub (PH.le.refl _) l1
  have hlen : ∀ (A : List (List Value)) (zs : List α), A.length = zs.length → (∀ (i : Nat) (y : α), zs[i]? = some y → ∃ cs : List Value, A[i]? = some cs ∧ Rep.r ro cs y) → ∀ c ∈ A, c.length = Rep.n α := fun A zs h1 h2 c hc => by
    obtain ⟨i, hi, rfl⟩ := List.getElem_of_mem hc
    obtain ⟨cs, (a : A[i]? = some cs), b⟩ := h2 i (zs[i]'(by omega)) (List.getElem?_eq_getElem _)
    rw [List.getElem?_eq_getElem hi, Option.some.injEq] at a
    rw [a]; exact Rep.len b
  -- the rows of what is there
  have old : ∃ L : List (List Value), L.length = xs.length ∧ (∀ (i : Nat) (y : α), xs[i]? = some y → ∃ cs : List Value, L[i]? = some cs ∧ Rep.r ro cs y) ∧ w.ownsRow 0 e (Rep.n α) s.v s.len L.flatten := by
    rcases hc.2 with h0 | ⟨g, cur, ha, hb, hle, hm, hs, hx⟩
    · subst h0
      have : xs = [] := List.eq_nil_of_length_eq_zero hxs
      subst this
      exact ⟨[], rfl, fun i y h => by simp at h, World.ownsRow_nil _ _ _ _⟩
    · obtain ⟨L, hL, hLx⟩ := rows_of (ro := ro) (R := fun i cs => ∀ j u, cs[j]? = some u → cur[i * Rep.n α + j]? = some u) (ys := xs) 0 fun i y hy => by rw [Nat.zero_add]; exact hx i y hy
      have hn := hlen L xs hL fun i y hy => by obtain ⟨cs, a, b, _⟩ := hLx i y hy; exact ⟨cs, a, b⟩
      refine ⟨L, hL, fun i y hy => by obtain ⟨cs, a, b, _⟩ := hLx i y hy; exact ⟨cs, a, b⟩, by rw [flat_len hn, hL, hxs], .inr ⟨g, s.cap, cur, by simp [Sl.v, ha], Nat.zero_le _, h4 _ _ (l1 _ _ hb), hle, hm, hs, ?_⟩⟩
      apply List.ext_getElem?
      intro m
      by_cases hm : m < s.len * Rep.n α
      · rw [List.getElem?_take, if_pos hm]
        have hq : m / Rep.n α < xs.length := by rw [hxs]; exact (Nat.div_lt_iff_lt_mul hpos).2 hm
        obtain ⟨cs, a, b, c⟩ := hLx (m / Rep.n α) (xs[m / Rep.n α]'hq) (by simp)
        have hr : m % Rep.n α < cs.length := by rw [Rep.len b]; exact Nat.mod_lt _ hpos
        have e1 := flat_get hn _ _ (m % Rep.n α) _ a (List.getElem?_eq_getElem hr)
        have e2 := c (m % Rep.n α) _ (List.getElem?_eq_getElem hr)
        have hm' : m / Rep.n α * Rep.n α + m % Rep.n α = m := by rw [Nat.mul_comm]; exact Nat.div_add_mod _ _
        rw [Nat.zero_add] at e2
        rw [hm'] at e1 e2
        rw [e1]; simpa using e2
      · rw [List.getElem?_take, if_neg hm, List.getElem?_eq_none (by rw [flat_len hn, hL, hxs]; omega)]
  obtain ⟨L, hL, hLx, hown⟩ := old
  have hblk : ∀ b, s.v.ownBlock = some b → g1 b ≠ none := fun b hb => by
    rcases hc.2 with h0 | ⟨g, cur, ha, hbb, _⟩
    · subst h0; cases hb
    · simp only [Sl.v, ha, Value.ownBlock, Option.some.injEq] at hb
      subst hb; rw [hbb]; simp
  obtain ⟨v', w', hrun, ho, hg, hv⟩ := hrun _ hxs hown
  have nL := hlen L xs hL hLx
  have nM := hlen M ys hM hMy
  have hv' : ∃ s' : Sl, v' = s'.v ∧ s'.len = s.len + ys.length := by
    rcases ho.2 with ⟨e, h0⟩ | ⟨g, cap, cur, e, _⟩
    · exact ⟨⟨none, 0, 0⟩, e, h0.symm⟩
    · exact ⟨⟨_, _, _⟩, e, rfl⟩
  obtain ⟨s', rfl, hs'⟩ := hv'
  refine ⟨_, w', hrun, s', rfl, k s' w' ?_⟩
  have k4 : ∀ k, k < w.heap.size → g1 k = none → w'.heap[k]? = w.heap[k]? := fun k hk hn => hg.block k hk fun e => hblk k e.symm hn
  have nLM : ∀ c ∈ L ++ M, c.length = Rep.n α := fun c hc => by
    rcases List.mem_append.1 hc with h | h
    · exact nL c h
    · exact nM c h
  have key : ∀ (i : Nat) (y : α), (xs ++ ys)[i]? = some y → ∃ cs : List Value, (L ++ M)[i]? = some cs ∧ Rep.r ro cs y := fun i y hy => by
    rcases Nat.lt_or_ge i xs.length with h | h
    · rw [List.getElem?_append_left h] at hy
      rw [List.getElem?_append_left (by omega)]
      exact hLx i y hy
    · rw [List.getElem?_append_right h] at hy
      rw [List.getElem?_append_right (by omega), hL]
      exact hMy _ y hy
  have hlen' : (xs ++ ys).length = s'.len := by rw [List.length_append, hs']; omega
  rcases ho.2 with ⟨e0, h0⟩ | ⟨g, cap, cur, e0, _, hgh, hle, hcm, hcs, htk⟩
  · have : s' = ⟨none, 0, 0⟩ := by
      obtain ⟨a, b, c⟩ := s'
      simp only [Sl.v, Value.slice.injEq] at e0
      obtain ⟨rfl, rfl, rfl⟩ := e0; rfl
    exact Heap.upd1 (g := PH.emp) h1 dro (h2.sub (PH.le.refl _) l2) d h3 (l2.trans h4) hs h6 hg.os hg.tape hg.output ⟨hlen', .inl this⟩ (PH.emp_le _) (fun k hk => absurd rfl hk) k4
  · have e1 : s'.a = some ⟨g, 0, none⟩ ∧ s'.cap = cap := by
      simp only [Sl.v, Value.slice.injEq] at e0
      exact ⟨e0.1, e0.2.2⟩
    obtain ⟨ea, rfl⟩ := e1
    refine Heap.upd1 (g := PH.one g (.cells cur e (0, 0))) h1 dro (h2.sub (PH.le.refl _) l2) d h3 (l2.trans h4) hs h6 hg.os hg.tape hg.output ⟨hlen', .inr ⟨g, cur, ea, by simp [PH.one], by omega, hcm, hcs, fun i y hy => ?_⟩⟩ (fun k o hk => ?_) (fun k hk => ?_) k4
    · obtain ⟨cs, a, b⟩ := key i y hy
      refine ⟨cs, b, fun j u hj => ?_⟩
      have := flat_get nLM i cs j u a hj
      rw [List.flatten_append, ← htk, List.getElem?_take] at this
      split at this
      · simpa using this
      · cases this
    · simp only [PH.one] at hk
      split at hk
      · rename_i hi; subst hi; cases hk; exact hgh
      · cases hk
    · have hk' : k = g := by
        simp only [PH.one] at hk
        split at hk
        · assumption
        · exact absurd rfl hk
      subst hk'
      have eb : s'.v.ownBlock = some k := by simp [Sl.v, ea, Value.ownBlock]
      rcases hv with hv | hv
      · left; exact hblk k (by rw [← hv]; exact eb)
      · right; rw [eb] at hv; simp at hv; omega
theorem app {P : Program} {t bytes ty : Nat} (hS : SlT P t e (Rep.n α) bytes) (H : Heap F w l) (hsrc : ∀ ro, PH.le F.h ro → PH.le ro (PH.of w) → (∃ g, sep l ro g ∧ PH.le g (PH.of w)) → Src w ro x ys)
    (hb : (xs.length + ys.length) * bytes ≤ 140737488355328) (hm : xs.length + ys.length ≤ maxLen) {K : Sl → World → Prop}
    (k : ∀ (s' : Sl) (w' : World), Heap F w' (own e s' (xs ++ ys) :: r) → K s' w') (hT : Take l (own e s xs) r := by repeat (first | assumption | constructor)) :
    runG .sl P w (Builtin.append_ #[t, t] ty #[.slice s.a s.len s.cap, .slice x.a x.len x.cap]) K := by
  obtain ⟨i, z, hi, hz, hsz, hby, hzs⟩ := hS.ex
  refine app_core (ys := ys) hS.pos H (fun ro h1 h3 hg => ?_) k hT
  have SRC := hsrc ro h1 h3 hg
  have hyl := SRC.len
  rcases SRC.cells with h0 | ⟨b, o, ha, hx⟩
  · have hn : ys = [] := List.eq_nil_of_length_eq_zero (by omega)
    subst hn
    have e0 : x.v = .slice x.a 0 x.cap := by simp [Sl.v, h0]
    refine ⟨[], rfl, fun i y h => by simp at h, fun olds hxs hown => ⟨s.v, w, ?_, by simpa using hown, ⟨rfl, rfl, rfl, Nat.le_refl _, fun _ _ _ => rfl⟩, .inl rfl⟩⟩
    have hnc : s.len ≤ s.cap := by
      rcases hown.2 with ⟨e, _⟩ | ⟨g, cap, cur, e, _, _, hle, _⟩
      · simp only [Sl.v, Value.slice.injEq] at e; omega
      · simp only [Sl.v, Value.slice.injEq] at e; omega
    have hfc : (Builtin.firstCells i.size 0 (.slice x.a 0 x.cap)).run P w = .ok #[] w := by
      cases x.a <;> simp [Builtin.firstCells, loadCells, loadCellsFrom]
    show (Builtin.append_ #[t, t] ty #[.slice s.a s.len s.cap, x.v]).run P w = .ok (.slice s.a s.len s.cap) w
    rw [e0]
    cases s.a with
    | none => simp [Builtin.append_, run_underlying hS.ht, sizeOf, typeInfo, hi, Builtin.lenOf, hfc, hnc]
    | some a => simp [Builtin.append_, run_underlying hS.ht, sizeOf, typeInfo, hi, Builtin.lenOf, hfc, hnc, storeCells]
  · obtain ⟨M, hM, hMx⟩ := rows_of (ro := ro) (R := fun i cs => ∀ j u, cs[j]? = some u → w.cell? ⟨b, o + i * Rep.n α + j, none⟩ = some u) (ys := ys) 0 fun i y hy => by rw [Nat.zero_add]; exact hx i y hy
    have hMy : ∀ (i : Nat) (y : α), ys[i]? = some y → ∃ cs : List Value, M[i]? = some cs ∧ Rep.r ro cs y := fun i y hy => by obtain ⟨cs, a, b, _⟩ := hMx i y hy; exact ⟨cs, a, b⟩
    have nM : ∀ c ∈ M, c.length = Rep.n α := fun c hc => by
      obtain ⟨i, hi, rfl⟩ := List.getElem_of_mem hc
      obtain ⟨cs, (a : M[i]? = some cs), b⟩ := hMy i (ys[i]'(by omega)) (List.getElem?_eq_getElem _)
      rw [List.getElem?_eq_getElem hi, Option.some.injEq] at a
      rw [a]; exact Rep.len b
    have hcell : ∀ j u, M.flatten[j]? = some u → w.cell? ⟨b, o + j, none⟩ = some u := fun m u hm => by
      have hlt : m < M.flatten.length := (List.getElem?_eq_some_iff.1 hm).1
      rw [flat_len nM, hM] at hlt
      have hpos := hS.pos
      have hq : m / Rep.n α < ys.length := (Nat.div_lt_iff_lt_mul hpos).2 hlt
      obtain ⟨cs, a, c, f⟩ := hMx (m / Rep.n α) (ys[m / Rep.n α]'hq) (by simp)
      have hr : m % Rep.n α < cs.length := by rw [Rep.len c]; exact Nat.mod_lt _ hpos
      have e1 := flat_get nM _ _ (m % Rep.n α) _ a (List.getElem?_eq_getElem hr)
      have hm' : m / Rep.n α * Rep.n α + m % Rep.n α = m := by rw [Nat.mul_comm]; exact Nat.div_add_mod _ _
      rw [hm', hm] at e1
      have := f (m % Rep.n α) u (by rw [List.getElem?_eq_getElem hr]; exact e1.symm)
      rw [Nat.zero_add, Nat.add_assoc, hm'] at this
      exact this
    have one : ∀ u ∈ M.flatten, u.oneCell' = true := fun u hu => by
      obtain ⟨c, hc, huc⟩ := List.mem_flatten.1 hu
      obtain ⟨i, hi, rfl⟩ := List.getElem_of_mem hc
      obtain ⟨cs, a, c2⟩ := hMy i (ys[i]'(by omega)) (List.getElem?_eq_getElem _)
      rw [List.getElem?_eq_getElem hi, Option.some.injEq] at a
      have := Rep.one c2 u (by rw [← a]; exact huc)
      cases u <;> first | rfl | cases this
    refine ⟨M, hM, hMy, fun olds hxs hown => ?_⟩
    obtain ⟨v', w', hr, ho, hg, _, hvb⟩ := run_append_own_at (P := P) (w := w) 0 t ty e i z (Rep.n α) bytes hS.ht hi hz hsz hby hzs hS.pos s.v s.len olds hown ⟨b, o, none⟩ x.len x.cap M.flatten (by rw [flat_len nM, hM, hyl])
      (fun j u hj => by rw [add_mk]; exact hcell j u hj) one (by omega) (by rw [← hxs, ← hyl]; exact hb) (Nat.zero_le _)
    refine ⟨v', w', ?_, by rw [hyl]; exact ho, hg, hvb⟩
    rw [← ha] at hr
    exact hr
/-- what is read alone is appended -/
theorem appI {P : Program} {t bytes ty : Nat} (hS : SlT P t e (Rep.n α) bytes) (H : Heap F w l) 
    (hb : (xs.length + ys.length) * bytes ≤ 140737488355328) (hm : xs.length + ys.length ≤ maxLen) {K : Sl → World → Prop}
    (k : ∀ (s' : Sl) (w' : World), Heap F w' (own e s' (xs ++ ys) :: r) → K s' w') (hT : Take l (own e s xs) r := by repeat (first | assumption | constructor)) (hI : Has l (imm x ys) := by repeat (first | assumption | constructor)) :
    runG .sl P w (Builtin.append_ #[t, t] ty #[.slice s.a s.len s.cap, .slice x.a x.len x.cap]) K := by
  refine app hS H (fun ro _ hro ⟨g, hs, _⟩ => ?_) hb hm k hT
  obtain ⟨_, _, hc⟩ := sep.has hI hs
  exact ⟨hc.1, hc.2.2.2.imp id fun ⟨b, o, ha, hx⟩ => ⟨b, o, ha, fun i y hy => by
    obtain ⟨cs, a, f⟩ := hx i y hy
    exact ⟨cs, a, fun j u hj => roCell.cell hro (f j u hj)⟩⟩⟩
/-- one more -/
theorem push {P : Program} {t bytes ty ty2 b : Nat} {cs : List Value} {y : α} (hS : SlT P t e (Rep.n α) bytes) (H : Heap F w l)
    (hb : (xs.length + 1) * bytes ≤ 140737488355328) (hm : xs.length + 1 ≤ maxLen) {K : Sl → World → Prop}
    (k : ∀ (s' : Sl) (w' : World), Heap F w' (own e s' (xs ++ [y]) :: r) → K s' w') (hT : Take l (own e s xs) r := by repeat (first | assumption | constructor)) (hB : Has l (blk b ty2 cs) := by repeat (first | assumption | constructor)) (hr : Has l (rep cs y) := by repeat (first | assumption | constructor)) :
    runG .sl P w (Builtin.append_ #[t, t] ty #[.slice s.a s.len s.cap, .slice (some ⟨b, 0, none⟩) 1 1]) K := by
  have B := H.Blk hB
  refine app (x := ⟨some ⟨b, 0, none⟩, 1, 1⟩) hS H (fun ro _ hro ⟨g, hs, _⟩ => ?_) hb hm k hT
  obtain ⟨_, _, hc⟩ := sep.has hr hs
  refine ⟨rfl, .inr ⟨b, 0, rfl, fun i z hz => ?_⟩⟩
  cases i with
  | zero => simp at hz; subst hz; exact ⟨cs, hc, fun j u hj => by rw [Nat.zero_mul, Nat.zero_add, B.cell]; simpa using hj⟩
  | succ i => simp at hz
end
end Go.VC
