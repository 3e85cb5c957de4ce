/- Numbers and their decimal texts, plain. -/
import Derived.Lib.AtoiAll
import Derived.Lib.ItoaNum
import Derived.Lib.ItoaMem
namespace Go.Deci
open Go.Lib
set_option linter.unusedVariables false
def isDig (c : UInt8) : Bool := decide (48 ≤ c.toNat) && decide (c.toNat ≤ 57)
def dv : Nat → List UInt8 → Nat
  | acc, [] => acc
  | acc, c :: r => dv (acc * 10 + (c.toNat - 48)) r
theorem dv_append : ∀ (a b : List UInt8) (acc : Nat), dv acc (a ++ b) = dv (dv acc a) b
  | [], _, _ => rfl
  | c :: r, b, acc => dv_append r b _
theorem dec_small {m : Nat} (h : m < 10) : decDigits m = [UInt8.ofNat (48 + m)] := by rw [decDigits, dif_pos h]
theorem dec_big {m : Nat} (h : ¬ m < 10) : decDigits m = decDigits (m / 10) ++ [UInt8.ofNat (48 + m % 10)] := by rw [decDigits, dif_neg h]
theorem dig_nat {m : Nat} (h : m < 10) : (UInt8.ofNat (48 + m)).toNat = 48 + m := by simp; omega
theorem dec_dv : ∀ m, dv 0 (decDigits m) = m := by
  intro m
  induction m using Nat.strongRecOn with
  | ind m ih =>
    by_cases h : m < 10
    · have h1 := dig_nat h
      rw [dec_small h]
      generalize UInt8.ofNat (48 + m) = c at h1 ⊢
      show 0 * 10 + (c.toNat - 48) = m
      omega
    · have h1 := dig_nat (show m % 10 < 10 by omega)
      rw [dec_big h]
      generalize UInt8.ofNat (48 + m % 10) = c at h1 ⊢
      rw [dv_append, ih (m / 10) (by omega)]
      show m / 10 * 10 + (c.toNat - 48) = m
      omega
theorem dec_all : ∀ m, (decDigits m).all isDig = true := by
  intro m
  induction m using Nat.strongRecOn with
  | ind m ih =>
    by_cases h : m < 10
    · rw [dec_small h]
      have h1 := dig_nat h
      generalize UInt8.ofNat (48 + m) = c at h1
      simp only [List.all_cons, List.all_nil, isDig, h1, Bool.and_true, Bool.and_eq_true, decide_eq_true_eq]; omega
    · rw [dec_big h, List.all_append, ih (m / 10) (by omega)]
      have h1 := dig_nat (show m % 10 < 10 by omega)
      generalize UInt8.ofNat (48 + m % 10) = c at h1
      simp only [List.all_cons, List.all_nil, isDig, h1, Bool.and_true, Bool.true_and, Bool.and_eq_true, decide_eq_true_eq]; omega
theorem dec_head : ∀ m, ∃ c r, decDigits m = c :: r ∧ 48 ≤ c.toNat ∧ c.toNat ≤ 57 ∧ (1 ≤ m → 49 ≤ c.toNat) := by
  intro m
  induction m using Nat.strongRecOn with
  | ind m ih =>
    by_cases h : m < 10
    · exact ⟨_, [], dec_small h, by rw [dig_nat h]; omega, by rw [dig_nat h]; omega, fun h1 => by rw [dig_nat h]; omega⟩
    · obtain ⟨c, r, h1, h2, h3, h4⟩ := ih (m / 10) (by omega)
      exact ⟨c, r ++ [UInt8.ofNat (48 + m % 10)], by rw [dec_big h, h1]; rfl, h2, h3, fun _ => h4 (by omega)⟩
theorem dec_len : ∀ (k m : Nat), m < 10 ^ k → 1 ≤ k → (decDigits m).length ≤ k
  | 0, _, _, h => by omega
  | k + 1, m, h, _ => by
    by_cases h1 : m < 10
    · rw [dec_small h1]; simp
    · have hk : 1 ≤ k := by
        rcases k with _ | k
        · rw [Nat.pow_succ] at h; simp at h; omega
        · omega
      have := dec_len k (m / 10) (by rw [Nat.pow_succ] at h; omega) hk
      rw [dec_big h1, List.length_append]; simp; omega
theorem dv_le : ∀ (l : List UInt8) (acc : Nat), acc ≤ dv acc l
  | [], _ => Nat.le_refl _
  | c :: r, acc => Nat.le_trans (by omega) (dv_le r _)
theorem dv_lt : ∀ (l : List UInt8) (acc k : Nat), l.all isDig = true → acc < 10 ^ k → dv acc l < 10 ^ (k + l.length)
  | [], _, _, _, h => h
  | c :: r, acc, k, hd, h => by
    simp only [List.all_cons, Bool.and_eq_true, isDig, decide_eq_true_eq] at hd
    have := dv_lt r (acc * 10 + (c.toNat - 48)) (k + 1) (by simpa [isDig] using hd.2) (by rw [Nat.pow_succ]; omega)
    rw [show k + 1 + r.length = k + (c :: r).length by simp; omega] at this
    exact this
theorem parse_ok : ∀ (l : List UInt8) (acc : Nat), l.all isDig = true → dv acc l < 18446744073709551616 → parseUint10 acc l = .ok (dv acc l)
  | [], acc, _, _ => rfl
  | c :: r, acc, hd, h => by
    simp only [List.all_cons, Bool.and_eq_true] at hd
    have h1 := dv_le r (acc * 10 + (c.toNat - 48))
    have h2 : dv acc (c :: r) = dv (acc * 10 + (c.toNat - 48)) r := rfl
    have h3 := hd.1
    simp only [isDig, Bool.and_eq_true, decide_eq_true_eq] at h3
    simp only [parseUint10]
    rw [if_pos h3, if_neg (by omega), if_neg (by omega), h2]
    exact parse_ok r _ hd.2 (by omega)
theorem atoi_itoa {v : Int} (h0 : -9223372036854775808 ≤ v) (h1 : v ≤ 9223372036854775807) : atoiAll (itoa v) = .ok v := by
  by_cases hn : v < 0
  · obtain ⟨c, r, hc, _⟩ := dec_head v.natAbs
    have hp : parseMag (decDigits v.natAbs) = .ok v.natAbs := by
      rw [parseMag, if_neg (by rw [hc]; simp), parse_ok _ _ (dec_all _) (by rw [dec_dv]; omega), dec_dv]
    rw [itoa, if_pos hn]
    simp only [atoiAll]
    rw [if_pos (.inr rfl), hp]
    simp only
    rw [if_neg (fun h => h.1 rfl), if_neg (by omega), if_pos (show UInt8.toNat 45 = 45 from rfl)]
    congr 1; omega
  · obtain ⟨c, r, hc, c1, c2, _⟩ := dec_head v.toNat
    have hp : parseMag (decDigits v.toNat) = .ok v.toNat := by
      rw [parseMag, if_neg (by rw [hc]; simp), parse_ok _ _ (dec_all _) (by rw [dec_dv]; omega), dec_dv]
    rw [itoa, if_neg hn]
    rw [hc] at hp ⊢
    simp only [atoiAll]
    rw [if_neg (by omega), hp]
    simp only
    rw [if_neg (by omega), if_neg (by omega), if_neg (by omega)]
    congr 1; omega
/-- the number of a text that the document reads, before it asks whether it is safe -/
def isSafe (n : Int) : Bool := decide (-9007199254740991 ≤ n) && decide (n ≤ 9007199254740991)
end Go.Deci
