/- KeysIndex and ArraysLength answer true. -/
import Derived.Test.YtjlhnnphfdjmdaaDoorEAQ2
namespace Go.Proofs.YtjlhnnphfdjmdaaDoor.C
open Go.Abs Go.Uni Go.Plain Go.Deci L0
open Go.Lib (itoa decDigits atoiAll)
set_option maxRecDepth 100000
set_option maxHeartbeats 1000000
set_option linter.unusedVariables false
set_option linter.unusedSimpArgs false
theorem dv_pos {c : UInt8} (r : List UInt8) (h : 49 ≤ c.toNat) : 1 ≤ dv 0 (c :: r) := by
  have := dv_le r (0 * 10 + (c.toNat - 48))
  show 1 ≤ dv (0 * 10 + (c.toNat - 48)) r
  omega
theorem dec_canon : ∀ (k : Nat) (l : List UInt8), l.length = k → l.all isDig = true → l ≠ [] → (l.length = 1 ∨ ∀ c r, l = c :: r → 49 ≤ c.toNat) → decDigits (dv 0 l) = l := by
  intro k
  induction k with
  | zero => intro l hl _ hne _; exact absurd (List.length_eq_zero_iff.1 hl) hne
  | succ k ih =>
    intro l hl hd hne hh
    obtain ⟨l', c, rfl⟩ : ∃ l' c, l = l' ++ [c] := ⟨l.dropLast, l.getLast hne, (List.dropLast_concat_getLast hne).symm⟩
    simp only [List.all_append, List.all_cons, List.all_nil, Bool.and_true, Bool.and_eq_true] at hd
    have hc := hd.2
    simp only [isDig, Bool.and_eq_true, decide_eq_true_eq] at hc
    have hback : UInt8.ofNat (48 + (c.toNat - 48)) = c := by
      rw [show 48 + (c.toNat - 48) = c.toNat by omega]; simp
    rw [dv_append]
    show decDigits (dv 0 l' * 10 + (c.toNat - 48)) = l' ++ [c]
    rcases l' with _ | ⟨a, r⟩
    · show decDigits (0 * 10 + (c.toNat - 48)) = [c]
      rw [dec_small (by omega), Nat.zero_mul, Nat.zero_add, hback]
    · have ha : 49 ≤ a.toNat := by
        rcases hh with h | h
        · simp at h
        · exact h a (r ++ [c]) rfl
      have hp := dv_pos r ha
      have := ih (a :: r) (by simpa using hl) hd.1 (by simp) (.inr fun c' r' e => by rw [← (List.cons.inj e).1]; exact ha)
      generalize dv 0 (a :: r) = m at *
      rw [dec_big (by omega), show (m * 10 + (c.toNat - 48)) / 10 = m by omega, show (m * 10 + (c.toNat - 48)) % 10 = c.toNat - 48 by omega, this, hback]
theorem rnS_cons (a : UInt8) (r : List UInt8) : rnS (a :: r) = if a.toNat = 45 then rnBody true (decide (1 < (a :: r).length)) r else rnBody false (decide (1 < (a :: r).length)) (a :: r) := rfl
theorem rn_canon {s : List UInt8} (h : (rnS s).2 = true) : itoa (rnS s).1 = s := by
  rcases s with _ | ⟨a, r⟩
  · cases h
  · rw [rnS_cons] at h ⊢
    by_cases ha : a.toNat = 45
    · rw [if_pos ha] at h ⊢
      rcases r with _ | ⟨c, r⟩
      · cases h
      · unfold rnBody at h ⊢
        simp only at h ⊢
        split at h
        · cases h
        · rename_i h1
          rw [if_neg h1]
          split at h
          · rename_i hd
            rw [if_pos hd]
            simp only [List.length_cons, Bool.or_eq_true, Bool.and_eq_true, decide_eq_true_eq, not_or, not_and] at h1
            have hc : 48 ≤ c.toNat := by
              have := hd
              simp only [List.all_cons, isDig, Bool.and_eq_true, decide_eq_true_eq] at this
              omega
            have hc9 : 49 ≤ c.toNat := by
              have := h1.2
              omega
            have hp := dv_pos r hc9
            have hcan := dec_canon _ (c :: r) rfl hd (by simp) (.inr fun c' r' e => by rw [← (List.cons.inj e).1]; exact hc9)
            simp only [signed, if_true]
            rw [Lib.itoa_neg _ (by omega), hcan]
            congr 1
            have : a = UInt8.ofNat 45 := by rw [← ha]; simp
            rw [this]; rfl
          · cases h
    · rw [if_neg ha] at h ⊢
      unfold rnBody at h ⊢
      simp only at h ⊢
      split at h
      · cases h
      · rename_i h1
        rw [if_neg h1]
        split at h
        · rename_i hd
          rw [if_pos hd]
          simp only [List.length_cons, Bool.or_eq_true, Bool.and_eq_true, decide_eq_true_eq, not_or, not_and] at h1
          have hcan := dec_canon _ (a :: r) rfl hd (by simp) (by
            by_cases hr : r.length = 0
            · exact .inl (by simp [hr])
            · refine .inr fun c' r' e => ?_
              rw [← (List.cons.inj e).1]
              have := hd
              simp only [List.all_cons, isDig, Bool.and_eq_true, decide_eq_true_eq] at this
              have h2 := h1.2
              omega)
          simp only [signed, Bool.false_eq_true, if_false]
          rw [Lib.itoa_nonneg, hcan]
        · cases h
theorem read_rn (s : List UInt8) : readS s = if (rnS s).2 then ((rnS s).1, true) else (0, false) := by
  rcases both s with ⟨e1, e2, e3⟩ | ⟨e1, e2, e3⟩ | ⟨e1, e3⟩
  · rw [e3, e1]; rfl
  · exact absurd (rn_canon e1) e2
  · rw [e3, e1]; rfl
end Go.Proofs.YtjlhnnphfdjmdaaDoor.C
