/- What the functions of the units, of numbers' texts and of quotes compute. -/
import Derived.Test.YtefenlmpbgdpnaaDoorEaX1
import Derived.Test.YtefenlmpbgdpnaaDoorEa3
namespace Go.Proofs.YtefenlmpbgdpnaaDoor.L
open Go.Abs Go.Uni Go.Plain Go.Deci
open Go.Lib (itoa decDigits)
set_option maxRecDepth 100000
set_option maxHeartbeats 1000000
set_option linter.unusedVariables false
set_option linter.unusedSimpArgs false
theorem digit_at {k : Nat} (h : k < 10) : List.drop k (List.take (k + 1) (Array.toList (#[48, 49, 50, 51, 52, 53, 54, 55, 56, 57] : Array UInt8))) = [UInt8.ofNat (48 + k)] := by
  rcases k with _|_|_|_|_|_|_|_|_|_|k
  all_goals first | rfl | omega
theorem tdiv_n (m : Nat) : Int.tdiv (m : Int) 10 = ((m / 10 : Nat) : Int) := by
  rw [Int.tdiv_eq_ediv_of_nonneg (by omega)]; omega
theorem tmod_n (m : Nat) : Int.tmod (m : Int) 10 = ((m % 10 : Nat) : Int) := by
  rw [Int.tmod_eq_emod_of_nonneg (by omega)]; omega
theorem dec_nat (n : Nat) : ∀ (j m : Nat), m < 10 ^ j → 1 ≤ j → m < 9223372036854775809 → ref1_Dec.r n j (m : Int) = some (decDigits m) := by
  intro j
  induction j with
  | zero => intro m _ h; omega
  | succ j ih =>
    intro m h _ hm
    rw [ref1_Dec.r_succ]
    unfold ref1_Dec.k
    have h10 : m % 10 < 10 := Nat.mod_lt _ (by omega)
    by_cases hs : m < 10
    · simp (disch := omega) only [ite_t, ite_f, dec_t, dec_f, beq_t, beq_f, bne_t, bne_f, nbeq_t, nbeq_f, nble_t, nble_f, cond_true, cond_false, Bool.not_true, Bool.not_false, Bool.and_true, Bool.true_and, Bool.and_self, room_t, w64, w32, wu8, wu8', wu16, wu32, fdiv_pos, and63i, and1023i, and31i, and15i, and7i, and192i, or64w, or32w, or16w, or4096w, or64r, or64b, or32b, or16b, optK_some, optK_none, toNat_ofNat, append_eq, List.length_cons, List.length_nil, List.length_append, List.length_map, reduceIte, toNat_s, cell_one, isI_u16, isI_i64, getI_n, tmod_n, digit_at h10]
      rw [dec_small hs, Nat.mod_eq_of_lt hs]
    · have hj : 1 ≤ j := by
        rcases j with _ | j
        · simp at h; omega
        · omega
      have ih := ih (m / 10) (by rw [Nat.pow_succ] at h; omega) hj (by omega)
      have hlen := dec_len j (m / 10) (by rw [Nat.pow_succ] at h; omega) hj
      have hlen2 := dec_len 19 (m / 10) (by omega) (by omega)
      simp (disch := omega) only [ite_t, ite_f, dec_t, dec_f, beq_t, beq_f, bne_t, bne_f, nbeq_t, nbeq_f, nble_t, nble_f, cond_true, cond_false, Bool.not_true, Bool.not_false, Bool.and_true, Bool.true_and, Bool.and_self, room_t, w64, w32, wu8, wu8', wu16, wu32, fdiv_pos, and63i, and1023i, and31i, and15i, and7i, and192i, or64w, or32w, or16w, or4096w, or64r, or64b, or32b, or16b, optK_some, optK_none, toNat_ofNat, append_eq, List.length_cons, List.length_nil, List.length_append, List.length_map, reduceIte, toNat_s, cell_one, isI_u16, isI_i64, getI_n, tmod_n, tdiv_n, digit_at h10, ih]
      rw [dec_big hs]
theorem tdiv_neg (m : Nat) : Int.tdiv (-(m : Int)) 10 = -((m / 10 : Nat) : Int) := by
  rw [Int.neg_tdiv, tdiv_n]
theorem tmod_neg (m : Nat) : Int.tmod (-(m : Int)) 10 = -((m % 10 : Nat) : Int) := by
  rw [Int.neg_tmod, tmod_n]
theorem dec_zero (m : Nat) : (decDigits m == [(48 : UInt8)]) = decide (m = 0) := by
  rcases Nat.eq_zero_or_pos m with rfl | h
  · rw [dec_small (by omega)]; rfl
  · obtain ⟨c, r, hc, _, _, h4⟩ := dec_head m
    have h4 := h4 h
    rw [hc, decide_eq_false (by omega)]
    have : c ≠ 48 := fun e => by subst e; simp at h4
    show (c :: r == [48]) = false
    simp [this]
theorem zero_sub (x : Int) : 0 - x = -x := by omega
theorem dec_eq {v : Int} (h0 : -9223372036854775808 ≤ v) (h1 : v ≤ 9223372036854775807) {n : Nat} (hn : 2000000 < n) : ref1_Dec n v = some (itoa v) := by
  obtain ⟨j, rfl⟩ : ∃ j, n = (j + 30) + 1 := ⟨n - 31, by omega⟩
  unfold ref1_Dec
  have hp : (9223372036854775809 : Nat) < 10 ^ (j + 30) := by
    rw [Nat.pow_add]
    have : 0 < 10 ^ j := Nat.pow_pos (by omega)
    have : 10 ^ 30 ≤ 10 ^ j * 10 ^ 30 := Nat.le_mul_of_pos_left _ this
    omega
  by_cases hneg : v < 0
  · obtain ⟨m, rfl⟩ : ∃ m : Nat, v = -(m : Int) := ⟨v.natAbs, by omega⟩
    rw [ref1_Dec.r_succ, Lib.itoa_neg m (by omega)]
    unfold ref1_Dec.k
    have h10 : m % 10 < 10 := Nat.mod_lt _ (by omega)
    have ih := dec_nat (j + 30 + 1) (j + 30) (m / 10) (by omega) (by omega) (by omega)
    have hz := dec_zero (m / 10)
    have hlen := dec_len 19 (m / 10) (by omega) (by omega)
    by_cases hs : m < 10
    · have e0 : m / 10 = 0 := by omega
      simp (disch := omega) only [ite_t, ite_f, dec_t, dec_f, beq_t, beq_f, bne_t, bne_f, nbeq_t, nbeq_f, nble_t, nble_f, cond_true, cond_false, Bool.not_true, Bool.not_false, Bool.and_true, Bool.true_and, Bool.and_self, room_t, w64, w32, wu8, wu8', wu16, wu32, fdiv_pos, and63i, and1023i, and31i, and15i, and7i, and192i, or64w, or32w, or16w, or4096w, or64r, or64b, or32b, or16b, optK_some, optK_none, toNat_ofNat, append_eq, List.length_cons, List.length_nil, List.length_append, List.length_map, reduceIte, toNat_s, cell_one, isI_u16, isI_i64, getI_n, tmod_neg, tdiv_neg, zero_sub, Int.neg_neg, digit_at h10, ih, hz]
      rw [dec_small hs, Nat.mod_eq_of_lt hs]
    · simp (disch := omega) only [ite_t, ite_f, dec_t, dec_f, beq_t, beq_f, bne_t, bne_f, nbeq_t, nbeq_f, nble_t, nble_f, cond_true, cond_false, Bool.not_true, Bool.not_false, Bool.and_true, Bool.true_and, Bool.and_self, room_t, w64, w32, wu8, wu8', wu16, wu32, fdiv_pos, and63i, and1023i, and31i, and15i, and7i, and192i, or64w, or32w, or16w, or4096w, or64r, or64b, or32b, or16b, optK_some, optK_none, toNat_ofNat, append_eq, List.length_cons, List.length_nil, List.length_append, List.length_map, reduceIte, toNat_s, cell_one, isI_u16, isI_i64, getI_n, tmod_neg, tdiv_neg, zero_sub, Int.neg_neg, digit_at h10, ih, hz]
      rw [dec_big hs]
  · obtain ⟨m, rfl⟩ : ∃ m : Nat, v = (m : Int) := ⟨v.toNat, by omega⟩
    rw [Lib.itoa_nonneg, dec_nat _ (j + 30 + 1) m (by rw [Nat.pow_succ]; omega) (by omega) (by omega)]
def hexl : List UInt8 := [48, 49, 50, 51, 52, 53, 54, 55, 56, 57, 97, 98, 99, 100, 101, 102]
def hx (k : Nat) : UInt8 := hexl.getD k 0
end Go.Proofs.YtefenlmpbgdpnaaDoor.L
