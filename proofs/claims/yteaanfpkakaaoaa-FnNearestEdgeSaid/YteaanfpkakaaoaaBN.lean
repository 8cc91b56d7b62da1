/- Lists of indices as values of the program's. -/
import Derived.Test.YteaanfpkakaaoaaB1
set_option linter.unusedVariables false
set_option linter.unusedSimpArgs false
namespace Go.Proofs.Yteaanfpkakaaoaa
open Go Go.Ideal Go.Pl

/-! lists of indices -/
def encN (L : List Nat) : List IV := encI (L.map fun n => ((n : Nat) : Int))
def toNs (es : List IV) : List Nat := (toIs es).map Int.toNat
def isNs (es : List IV) : Prop := ∃ L, es = encN L
theorem isNs_enc (L : List Nat) : isNs (encN L) = True := by simp [isNs]; exact ⟨L, rfl⟩
theorem toNs_enc (L : List Nat) : toNs (encN L) = L := by
  rw [toNs, encN, toIs_enc, List.map_map]
  have : (Int.toNat ∘ fun n => ((n : Nat) : Int)) = id := by funext n; simp
  rw [this, List.map_id]
theorem len_encN (L : List Nat) : (encN L).length = L.length := by rw [encN, len_encI, List.length_map]
abbrev nAt (L : List Nat) (i : Nat) : Nat := L.getD i 0
theorem getD_encN {L : List Nat} {i : Nat} (h : i < L.length) : (encN L).getD i .junk = .num .i64 ((nAt L i : Nat) : Int) := by
  rw [encN, getD_encI (by simpa using h)]
  simp [nAt, List.getD, h]
theorem encN_app (L M : List Nat) : encN L ++ encN M = encN (L ++ M) := by rw [encN, encN, encN, encI_app, List.map_append]
theorem encN_one (n : Nat) : [IV.num .i64 ((n : Nat) : Int)] = encN [n] := rfl
theorem encN_nil : encN [] = [] := rfl
theorem encN_take (L : List Nat) (k : Nat) : (encN L).take k = encN (L.take k) := by rw [encN, encI_take, encN, List.map_take]
theorem encN_drop (L : List Nat) (k : Nat) : (encN L).drop k = encN (L.drop k) := by rw [encN, encI_drop, encN, List.map_drop]
theorem take_encN (L : List Nat) : (encN L).take L.length = encN L := List.take_of_length_le (by rw [len_encN]; exact Nat.le_refl _)

theorem noSl_encN : ∀ M : List Nat, noSlL (encN M) = true
  | [] => rfl
  | x :: M => noSl_encN M
end Go.Proofs.Yteaanfpkakaaoaa
