/- What the functions that read numbers compute. -/
import Derived.Test.YtjlhnnphfdjmdaaDoorEAF2
import Derived.Test.YtjlhnnphfdjmdaaDoorEAQ0
namespace Go.Proofs.YtjlhnnphfdjmdaaDoor.C
open Go.Abs Go.Uni Go.Plain Go.Deci L0
open Go.Lib (itoa decDigits atoiAll)
set_option maxRecDepth 2000000
set_option maxHeartbeats 20000000
set_option linter.unusedVariables false
set_option linter.unusedSimpArgs false
theorem atoiV_bounds (s : List UInt8) : -9223372036854775808 ≤ atoiV s ∧ atoiV s ≤ 9223372036854775807 := by
  unfold atoiV
  cases h : atoiAll s with
  | ok v => exact Lib.atoiAll_bounds h
  | range => exact Lib.atoiSat_bounds s
  | _ => simp
def readS (s : List UInt8) : Int × Bool := if atoiOk s && isSafe (atoiV s) && (itoa (atoiV s) == s) then (atoiV s, true) else (0, false)
theorem read_eq {s : List UInt8} (hl : s.length ≤ 1000) : numbers_Read s = some (readS s) := by
  have hb := atoiV_bounds s
  have h64 : isI64 (atoiV s) = true := by simp [isI64]; omega
  unfold numbers_Read numbers_Read.k readS numbers_Text numbers_Text.k
  simp (disch := omega) only [ite_t, ite_f, dec_t, dec_f, beq_t, beq_f, bne_t, bne_f, nbeq_t, nbeq_f, nble_t, nble_f, cond_true, cond_false, Bool.not_true, Bool.not_false, Bool.and_true, Bool.true_and, Bool.and_self, room_t, w64, w32, wu8, wu8', wu16, wu32, fdiv_pos, and63i, and1023i, and31i, and15i, and7i, and192i, or64w, or32w, or16w, or4096w, or64r, or64b, or32b, or16b, optK_some, optK_none, toNat_ofNat, append_eq, List.length_cons, List.length_nil, List.length_append, List.length_map, reduceIte, toNat_s, cell_one, isI_u16, isI_i64, getI_n, safe_eq, h64]
  cases atoiOk s with
  | false => rfl
  | true =>
    cases isSafe (atoiV s) with
    | false => rfl
    | true =>
      cases hi : (itoa (atoiV s) == s) with
      | false => rfl
      | true => rfl
theorem read_itoa {v : Int} (h : isSafe v = true) : readS (itoa v) = (v, true) := by
  have h' := h
  simp only [isSafe, Bool.and_eq_true, decide_eq_true_eq] at h'
  have ha := atoi_itoa (v := v) (by omega) (by omega)
  have h1 : atoiV (itoa v) = v := by rw [atoiV, ha]
  have h2 : atoiOk (itoa v) = true := by rw [atoiOk, ha]
  unfold readS
  rw [h1, h2, h]; simp
theorem read_true {s : List UInt8} (h : (readS s).2 = true) : isSafe (readS s).1 = true ∧ itoa (readS s).1 = s := by
  unfold readS at h ⊢
  split at h
  · rename_i h1
    rw [if_pos h1]
    simp only [Bool.and_eq_true, beq_iff_eq] at h1
    exact ⟨h1.1.2, h1.2⟩
  · cases h
theorem read_false {s : List UInt8} (h : (readS s).2 = false) : readS s = (0, false) := by
  unfold readS at h ⊢
  split at h
  · cases h
  · rename_i h1; rw [if_neg h1]
theorem both (s : List UInt8) : ((rnS s).2 = true ∧ itoa (rnS s).1 = s ∧ readS s = ((rnS s).1, true)) ∨ ((rnS s).2 = true ∧ itoa (rnS s).1 ≠ s ∧ readS s = (0, false)) ∨ ((rnS s).2 = false ∧ readS s = (0, false)) := by
  cases hr : (readS s).2 with
  | true =>
    obtain ⟨h1, h2⟩ := read_true hr
    have h3 := rn_itoa h1
    rw [h2] at h3
    refine .inl ⟨by rw [h3], by rw [h3]; exact h2, ?_⟩
    rw [h3]
    exact Prod.ext rfl hr
  | false =>
    have h0 := read_false hr
    cases hf : (rnS s).2 with
    | false => exact .inr (.inr ⟨rfl, h0⟩)
    | true =>
      refine .inr (.inl ⟨rfl, fun he => ?_, h0⟩)
      have h1 := read_itoa (rn_safe hf)
      rw [he, h0] at h1
      exact absurd (congrArg Prod.snd h1) (by simp)
end Go.Proofs.YtjlhnnphfdjmdaaDoor.C
