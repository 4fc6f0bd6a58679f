import Derived.Test.YtkfcmpngcanffaaDoorDj
import Derived.Test.YtkfcmpngcanffaaDoorDe
set_option linter.unusedVariables false
set_option linter.unusedSimpArgs false
namespace Go.VC
open Go Go.RowKit
theorem cvB {P : Program} {t st e' e : Nat} {F : Bs} {w : World} {l : List SP} {b n m : Nat} (H : Heap F w l) {xs : List UInt8} (ht : P.underlying t = some (.slice e)) (he : P.underlying e = some (.int .u8)) (hst : P.underlying st = some .string) (hT : Has l (own e' ⟨some ⟨b, 0, none⟩, n, m⟩ xs) := by repeat (first | assumption | constructor)) :
    (convert t st (.slice (some ⟨b, 0, none⟩) n m)).run P w = .ok (.string (bs xs)) w := cvO (s := ⟨some ⟨b, 0, none⟩, n, m⟩) H ht he hst hT
end Go.VC
namespace Go.Proofs.YtkfcmpngcanffaaDoor.G
open Go Go.VC Go.RowKit Go.Proofs Go.Proofs.YtkfcmpngcanffaaDoor Nac
attribute [local irreducible] Tryd.prog
section
variable {F : Bs} {w : World} {l r : List SP} {b d p : Nat} {D : Disk} {Q : Value → World → Prop} {X : Nac.Ext}
set_option maxHeartbeats 4000000 in
theorem ref_Sector (H : Heap F w l) (n : Nat) (x : Entry) (k : ∀ w', Heap F w' l → Q (.string (bs (asec n x))) w') :
    Does Tryd.prog N_ref20_Sector #[.int .i64 (n : Int), .agg #[.int .i64 x.kind, .int .i64 x.part, .int .u32 (x.version.toNat : Int), .int .i64 x.code]] w Q := by
  refine F_ref20_Sector_does _ _ _ _ _ _ _ ?_
  unfold F_ref20_Sector
  refine al H (cs := [.int .i64 x.kind, .int .i64 x.part, .int .u32 (x.version.toNat : Int), .int .i64 x.code]) (fun a1 w H => ?_) rfl
  intro J hJ
  replace H := H.drew
  refine ld0 H (lda H (lda H (lda H ?_)))
  have fin : ∀ w', Heap F w' l → Does Tryd.prog N_ref16_Noughts #[.int .i64 (IntKind.wrap .i64 (60 - (((((((bs [65] ++ bs (put (u64 n) 4)) ++ bs [b8 x.kind, b8 x.part]) ++ bs (put x.version.toUInt64 4)) ++ bs [b8 x.code])).size : Nat) : Int)))] w' fun r6 w7 => ∃ s8 : ByteArray, r6 = .string (s8) ∧
    ((((((bs [65] ++ bs (put (u64 n) 4)) ++ bs [b8 x.kind, b8 x.part]) ++ bs (put x.version.toUInt64 4)) ++ bs [b8 x.code]).size + (s8).size : Nat) : Int) ≤ 9223372036854775807 ∧
    runG (.sl) Tryd.prog w7 (convert T_string T_l_uint8 (.string (((((bs [65] ++ bs (put (u64 n) 4)) ++ bs [b8 x.kind, b8 x.part]) ++ bs (put x.version.toUInt64 4)) ++ bs [b8 x.code]) ++ s8))) fun l9 w10 =>
    Does Tryd.prog N_ref03_Seal #[.slice (l9.a) (l9.len) (l9.cap)] w10 fun r11 w12 => ∃ l13 : Sl, r11 = .slice (l13.a) (l13.len) (l13.cap) ∧
    lookS Tryd.prog w12 (convert T_l_uint8 T_string (.slice (l13.a) (l13.len) (l13.cap))) fun s14 =>
    Q (.string (s14)) w12 := by
    intro w' H
    simp only [bs_append, bs_size, List.length_append, put_length, List.length_cons, List.length_nil]
    rw [show IntKind.wrap .i64 (60 - ((0 + 1 + 4 + (0 + 1 + 1) + 4 + (0 + 1) : Nat) : Int)) = ((48 : Nat) : Int) by decide]
    refine ref_Noughts16 H (by decide) fun H => ⟨_, rfl, by (try simp only [bs_size, List.length_replicate]); decide, ?_⟩
    rw [bs_append]
    refine bytesOf H und_l8 und_8 und_s (mx (by simp)) fun s w H => ?_
    refine ref_Seal (hI := .h) H (by simp) fun s' w H => ⟨_, rfl, ⟨_, cvO H und_l8 und_8 und_s, ?_⟩⟩
    exact k _ (H.tln 2)

  have e17 : IntKind.wrap .u64 (x.version.toNat : Int) = (x.version.toUInt64.toNat : Int) := Go.VC.wrap64_32 _
  simp only [e17]
  simp only [Go.VC.wrap64, Go.VC.wrap8, show (⟨#[65]⟩ : ByteArray) = bs [65] from rfl]
  repeat (first | exact hJ _ _ (fin _ (H.tln 5)) | refine ref_Put H (k := 4) (by decide) fun s w H => ⟨s, rfl, ?_⟩ | (refine al H (cs := [.int .u8 ((b8 x.kind).toNat : Int), .int .u8 ((b8 x.part).toNat : Int)]) (fun a w H => ?_) rfl; replace H := H.blk_own (α := UInt8) (b := a) (n := 2) [b8 x.kind, b8 x.part] rfl (mx (show 2 ≤ 4000000000000 by decide)) rfl) | (refine al H (cs := [.int .u8 ((b8 x.code).toNat : Int)]) (fun a w H => ?_) rfl; replace H := H.blk_own (α := UInt8) (b := a) (n := 1) [b8 x.code] rfl (mx (show 1 ≤ 4000000000000 by decide)) rfl) | refine ⟨cella H, ?_⟩ | refine ⟨cell0 H, ?_⟩ | refine ⟨cvO H und_l8 und_8 und_s, ?_⟩ | refine ⟨cvB H und_l8 und_8 und_s, ?_⟩ | refine ⟨_, cvO H und_l8 und_8 und_s, ?_⟩ | refine ⟨_, cvB H und_l8 und_8 und_s, ?_⟩ | refine ⟨by simp only [bs_append, bs_size, List.length_append, put_length, List.length_cons, List.length_nil]; omega, ?_⟩ | refine ⟨?_, ?_⟩)
end
end Go.Proofs.YtkfcmpngcanffaaDoor.G
