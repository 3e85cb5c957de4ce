/- What the functions that read numbers compute. -/
import Derived.Test.YtjlhnnphfdjmdaaDoorEUF2
import Derived.Test.YtjlhnnphfdjmdaaDoorEUQ0
namespace Go.Proofs.YtjlhnnphfdjmdaaDoor.C
open Go.Abs Go.Uni Go.Plain Go.Deci L0
open Go.Lib (itoa decDigits atoiAll)
set_option maxRecDepth 2000000
set_option maxHeartbeats 20000000
set_option linter.unusedVariables false
set_option linter.unusedSimpArgs false
theorem atoiV_bounds (s : List UInt8) : -9223372036854775808 ≤ atoiV s ∧ atoiV s ≤ 9223372036854775807 := by
  unfold atoiV
  cases h : atoiAll s with
  | ok v => exact Lib.atoiAll_bounds h
  | range => exact Lib.atoiSat_bounds s
  | _ => simp
def readS (s : List UInt8) : Int × Bool := if atoiOk s && isSafe (atoiV s) && (itoa (atoiV s) == s) then (atoiV s, true) else (0, false)
theorem read_itoa {v : Int} (h : isSafe v = true) : readS (itoa v) = (v, true) := by
  have h' := h
  simp only [isSafe, Bool.and_eq_true, decide_eq_true_eq] at h'
  have ha := atoi_itoa (v := v) (by omega) (by omega)
  have h1 : atoiV (itoa v) = v := by rw [atoiV, ha]
  have h2 : atoiOk (itoa v) = true := by rw [atoiOk, ha]
  unfold readS
  rw [h1, h2, h]; simp
theorem read_true {s : List UInt8} (h : (readS s).2 = true) : isSafe (readS s).1 = true ∧ itoa (readS s).1 = s := by
  unfold readS at h ⊢
  split at h
  · rename_i h1
    rw [if_pos h1]
    simp only [Bool.and_eq_true, beq_iff_eq] at h1
    exact ⟨h1.1.2, h1.2⟩
  · cases h
theorem read_false {s : List UInt8} (h : (readS s).2 = false) : readS s = (0, false) := by
  unfold readS at h ⊢
  split at h
  · cases h
  · rename_i h1; rw [if_neg h1]
theorem both (s : List UInt8) : ((rnS s).2 = true ∧ itoa (rnS s).1 = s ∧ readS s = ((rnS s).1, true)) ∨ ((rnS s).2 = true ∧ itoa (rnS s).1 ≠ s ∧ readS s = (0, false)) ∨ ((rnS s).2 = false ∧ readS s = (0, false)) := by
  cases hr : (readS s).2 with
  | true =>
    obtain ⟨h1, h2⟩ := read_true hr
    have h3 := rn_itoa h1
    rw [h2] at h3
    refine .inl ⟨by rw [h3], by rw [h3]; exact h2, ?_⟩
    rw [h3]
    exact Prod.ext rfl hr
  | false =>
    have h0 := read_false hr
    cases hf : (rnS s).2 with
    | false => exact .inr (.inr ⟨rfl, h0⟩)
    | true =>
      refine .inr (.inl ⟨rfl, fun he => ?_, h0⟩)
      have h1 := read_itoa (rn_safe hf)
      rw [he, h0] at h1
      exact absurd (congrArg Prod.snd h1) (by simp)
theorem read_not {v : Int} (h0 : -9223372036854775808 ≤ v) (h1 : v ≤ 9223372036854775807) (h : isSafe v = false) : readS (itoa v) = (0, false) := by
  have ha := atoi_itoa h0 h1
  have h2 : atoiV (itoa v) = v := by rw [atoiV, ha]
  unfold readS
  rw [h2, h]; simp
end Go.Proofs.YtjlhnnphfdjmdaaDoor.C
