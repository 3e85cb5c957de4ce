/- NumbersTexts answers true. -/
import Derived.Test.YtlklpdifcpjlpaaDoorN2
import Derived.Test.YtlklpdifcpjlpaaDoorAbsPlain
import Derived.Test.YtlklpdifcpjlpaaDoorAbsDec
namespace Go.Proofs.YtlklpdifcpjlpaaDoor.Nu
open Go.Abs Go.Plain Go.Deci
open Go.Lib (itoa decDigits atoiAll)
set_option maxRecDepth 100000
set_option maxHeartbeats 1000000
set_option linter.unusedVariables false
set_option linter.unusedSimpArgs false
theorem digit_at {k : Nat} (h : k < 10) : List.drop k (List.take (k + 1) (Array.toList #[(48 : UInt8), (49 : UInt8), (50 : UInt8), (51 : UInt8), (52 : UInt8), (53 : UInt8), (54 : UInt8), (55 : UInt8), (56 : UInt8), (57 : UInt8)])) = [UInt8.ofNat (48 + k)] := by
  rcases k with _|_|_|_|_|_|_|_|_|_|k
  all_goals first | rfl | omega
theorem tdiv_n (m : Nat) : Int.tdiv (m : Int) 10 = ((m / 10 : Nat) : Int) := by
  rw [Int.tdiv_eq_ediv_of_nonneg (by omega)]; omega
theorem tmod_n (m : Nat) : Int.tmod (m : Int) 10 = ((m % 10 : Nat) : Int) := by
  rw [Int.tmod_eq_emod_of_nonneg (by omega)]; omega
theorem dec_nat (n : Nat) : ∀ (j m : Nat), m < 10 ^ j → 1 ≤ j → m < 9223372036854775809 → ref1_Dec.r n j (m : Int) = some (decDigits m) := by
  intro j
  induction j with
  | zero => intro m _ h; omega
  | succ j ih =>
    intro m h _ hm
    rw [ref1_Dec.r_succ]
    unfold ref1_Dec.k
    have h10 : m % 10 < 10 := Nat.mod_lt _ (by omega)
    by_cases hs : m < 10
    · simp (disch := omega) only [ite_t, ite_f, dec_t, dec_f, beq_t, beq_f, bne_t, bne_f, nbeq_t, nbeq_f, nble_t, nble_f, cond_true, cond_false, Bool.not_true, Bool.not_false, Bool.and_true, Bool.true_and, Bool.and_self, room_t, w64, w32, wu8, wu8', wu16, wu32, fdiv_pos, and63i, and1023i, and31i, and15i, and7i, and192i, or64w, or32w, or16w, or4096w, or64r, or64b, or32b, or16b, optK_some, optK_none, toNat_ofNat, append_eq, List.length_cons, List.length_nil, List.length_append, List.length_map, reduceIte, toNat_s, cell_one, isI_u16, isI_i64, getI_n, tmod_n, digit_at h10]
      rw [dec_small hs, Nat.mod_eq_of_lt hs]
    · have hj : 1 ≤ j := by
        rcases j with _ | j
        · simp at h; omega
        · omega
      have ih := ih (m / 10) (by rw [Nat.pow_succ] at h; omega) hj (by omega)
      have hlen := dec_len j (m / 10) (by rw [Nat.pow_succ] at h; omega) hj
      have hlen2 := dec_len 19 (m / 10) (by omega) (by omega)
      simp (disch := omega) only [ite_t, ite_f, dec_t, dec_f, beq_t, beq_f, bne_t, bne_f, nbeq_t, nbeq_f, nble_t, nble_f, cond_true, cond_false, Bool.not_true, Bool.not_false, Bool.and_true, Bool.true_and, Bool.and_self, room_t, w64, w32, wu8, wu8', wu16, wu32, fdiv_pos, and63i, and1023i, and31i, and15i, and7i, and192i, or64w, or32w, or16w, or4096w, or64r, or64b, or32b, or16b, optK_some, optK_none, toNat_ofNat, append_eq, List.length_cons, List.length_nil, List.length_append, List.length_map, reduceIte, toNat_s, cell_one, isI_u16, isI_i64, getI_n, tmod_n, tdiv_n, digit_at h10, ih]
      rw [dec_big hs]
theorem tdiv_neg (m : Nat) : Int.tdiv (-(m : Int)) 10 = -((m / 10 : Nat) : Int) := by
  rw [Int.neg_tdiv, tdiv_n]
theorem tmod_neg (m : Nat) : Int.tmod (-(m : Int)) 10 = -((m % 10 : Nat) : Int) := by
  rw [Int.neg_tmod, tmod_n]
theorem dec_zero (m : Nat) : (decDigits m == [(48 : UInt8)]) = decide (m = 0) := by
  rcases Nat.eq_zero_or_pos m with rfl | h
  · rw [dec_small (by omega)]; rfl
  · obtain ⟨c, r, hc, _, _, h4⟩ := dec_head m
    have h4 := h4 h
    rw [hc, decide_eq_false (by omega)]
    have : c ≠ 48 := fun e => by subst e; simp at h4
    show (c :: r == [48]) = false
    simp [this]
theorem zero_sub (x : Int) : 0 - x = -x := by omega
theorem zero_sub' (x : Int) : ((0 : Nat) : Int) - x = -x := by omega
theorem dec_eq {v : Int} (h0 : -9223372036854775808 ≤ v) (h1 : v ≤ 9223372036854775807) {n : Nat} (hn : 100000 < n) : ref1_Dec n v = some (itoa v) := by
  obtain ⟨j, rfl⟩ : ∃ j, n = (j + 30) + 1 := ⟨n - 31, by omega⟩
  unfold ref1_Dec
  have hp : (9223372036854775809 : Nat) < 10 ^ (j + 30) := by
    rw [Nat.pow_add]
    have : 0 < 10 ^ j := Nat.pow_pos (by omega)
    have : 10 ^ 30 ≤ 10 ^ j * 10 ^ 30 := Nat.le_mul_of_pos_left _ this
    omega
  by_cases hneg : v < 0
  · obtain ⟨m, rfl⟩ : ∃ m : Nat, v = -(m : Int) := ⟨v.natAbs, by omega⟩
    rw [ref1_Dec.r_succ, Lib.itoa_neg m (by omega)]
    unfold ref1_Dec.k
    have h10 : m % 10 < 10 := Nat.mod_lt _ (by omega)
    have ih := dec_nat (j + 30 + 1) (j + 30) (m / 10) (by omega) (by omega) (by omega)
    have hz := dec_zero (m / 10)
    have hlen := dec_len 19 (m / 10) (by omega) (by omega)
    by_cases hs : m < 10
    · have e0 : m / 10 = 0 := by omega
      simp (disch := omega) only [ite_t, ite_f, dec_t, dec_f, beq_t, beq_f, bne_t, bne_f, nbeq_t, nbeq_f, nble_t, nble_f, cond_true, cond_false, Bool.not_true, Bool.not_false, Bool.and_true, Bool.true_and, Bool.and_self, room_t, w64, w32, wu8, wu8', wu16, wu32, fdiv_pos, and63i, and1023i, and31i, and15i, and7i, and192i, or64w, or32w, or16w, or4096w, or64r, or64b, or32b, or16b, optK_some, optK_none, toNat_ofNat, append_eq, List.length_cons, List.length_nil, List.length_append, List.length_map, reduceIte, toNat_s, cell_one, isI_u16, isI_i64, getI_n, tmod_neg, tdiv_neg, zero_sub, Int.neg_neg, digit_at h10, ih, hz]
      rw [dec_small hs, Nat.mod_eq_of_lt hs]
    · simp (disch := omega) only [ite_t, ite_f, dec_t, dec_f, beq_t, beq_f, bne_t, bne_f, nbeq_t, nbeq_f, nble_t, nble_f, cond_true, cond_false, Bool.not_true, Bool.not_false, Bool.and_true, Bool.true_and, Bool.and_self, room_t, w64, w32, wu8, wu8', wu16, wu32, fdiv_pos, and63i, and1023i, and31i, and15i, and7i, and192i, or64w, or32w, or16w, or4096w, or64r, or64b, or32b, or16b, optK_some, optK_none, toNat_ofNat, append_eq, List.length_cons, List.length_nil, List.length_append, List.length_map, reduceIte, toNat_s, cell_one, isI_u16, isI_i64, getI_n, tmod_neg, tdiv_neg, zero_sub, Int.neg_neg, digit_at h10, ih, hz]
      rw [dec_big hs]
  · obtain ⟨m, rfl⟩ : ∃ m : Nat, v = (m : Int) := ⟨v.toNat, by omega⟩
    rw [Lib.itoa_nonneg, dec_nat _ (j + 30 + 1) m (by rw [Nat.pow_succ]; omega) (by omega) (by omega)]
theorem safe_eq (n : Int) : numbers_Safe n = some (isSafe n) := by
  unfold numbers_Safe numbers_Safe.k isSafe
  by_cases h : -9007199254740991 ≤ n
  · simp (disch := omega) only [ite_t, ite_f, dec_t, dec_f, beq_t, beq_f, bne_t, bne_f, nbeq_t, nbeq_f, nble_t, nble_f, cond_true, cond_false, Bool.not_true, Bool.not_false, Bool.and_true, Bool.true_and, Bool.and_self, room_t, w64, w32, wu8, wu8', wu16, wu32, fdiv_pos, and63i, and1023i, and31i, and15i, and7i, and192i, or64w, or32w, or16w, or4096w, or64r, or64b, or32b, or16b, optK_some, optK_none, toNat_ofNat, append_eq, List.length_cons, List.length_nil, List.length_append, List.length_map, reduceIte, toNat_s, cell_one, isI_u16, isI_i64, getI_n, ge_iff_le]
  · simp (disch := omega) only [ite_t, ite_f, dec_t, dec_f, beq_t, beq_f, bne_t, bne_f, nbeq_t, nbeq_f, nble_t, nble_f, cond_true, cond_false, Bool.not_true, Bool.not_false, Bool.and_true, Bool.true_and, Bool.and_self, room_t, w64, w32, wu8, wu8', wu16, wu32, fdiv_pos, and63i, and1023i, and31i, and15i, and7i, and192i, or64w, or32w, or16w, or4096w, or64r, or64b, or32b, or16b, optK_some, optK_none, toNat_ofNat, append_eq, List.length_cons, List.length_nil, List.length_append, List.length_map, reduceIte, toNat_s, cell_one, isI_u16, isI_i64, getI_n, ge_iff_le, Bool.false_and]
theorem rsafe_eq (n : Int) : ref1_Safe n = some (isSafe n) := by
  unfold ref1_Safe ref1_Safe.k isSafe
  by_cases h : -9007199254740991 ≤ n
  · simp (disch := omega) only [ite_t, ite_f, dec_t, dec_f, beq_t, beq_f, bne_t, bne_f, nbeq_t, nbeq_f, nble_t, nble_f, cond_true, cond_false, Bool.not_true, Bool.not_false, Bool.and_true, Bool.true_and, Bool.and_self, room_t, w64, w32, wu8, wu8', wu16, wu32, fdiv_pos, and63i, and1023i, and31i, and15i, and7i, and192i, or64w, or32w, or16w, or4096w, or64r, or64b, or32b, or16b, optK_some, optK_none, toNat_ofNat, append_eq, List.length_cons, List.length_nil, List.length_append, List.length_map, reduceIte, toNat_s, cell_one, isI_u16, isI_i64, getI_n, ge_iff_le]
  · simp (disch := omega) only [ite_t, ite_f, dec_t, dec_f, beq_t, beq_f, bne_t, bne_f, nbeq_t, nbeq_f, nble_t, nble_f, cond_true, cond_false, Bool.not_true, Bool.not_false, Bool.and_true, Bool.true_and, Bool.and_self, room_t, w64, w32, wu8, wu8', wu16, wu32, fdiv_pos, and63i, and1023i, and31i, and15i, and7i, and192i, or64w, or32w, or16w, or4096w, or64r, or64b, or32b, or16b, optK_some, optK_none, toNat_ofNat, append_eq, List.length_cons, List.length_nil, List.length_append, List.length_map, reduceIte, toNat_s, cell_one, isI_u16, isI_i64, getI_n, ge_iff_le, Bool.false_and]
theorem atoiV_bounds (s : List UInt8) : -9223372036854775808 ≤ atoiV s ∧ atoiV s ≤ 9223372036854775807 := by
  unfold atoiV
  cases h : atoiAll s with
  | ok v => exact Lib.atoiAll_bounds h
  | range => exact Lib.atoiSat_bounds s
  | _ => simp
/-- what Read tells -/
def readS (s : List UInt8) : Int × Bool := if atoiOk s && isSafe (atoiV s) && (itoa (atoiV s) == s) then (atoiV s, true) else (0, false)
theorem read_eq {s : List UInt8} (hl : s.length ≤ 1000) : numbers_Read s = some (readS s) := by
  have hb := atoiV_bounds s
  have h64 : isI64 (atoiV s) = true := by simp [isI64]; omega
  unfold numbers_Read numbers_Read.k readS numbers_Text numbers_Text.k
  simp (disch := omega) only [ite_t, ite_f, dec_t, dec_f, beq_t, beq_f, bne_t, bne_f, nbeq_t, nbeq_f, nble_t, nble_f, cond_true, cond_false, Bool.not_true, Bool.not_false, Bool.and_true, Bool.true_and, Bool.and_self, room_t, w64, w32, wu8, wu8', wu16, wu32, fdiv_pos, and63i, and1023i, and31i, and15i, and7i, and192i, or64w, or32w, or16w, or4096w, or64r, or64b, or32b, or16b, optK_some, optK_none, toNat_ofNat, append_eq, List.length_cons, List.length_nil, List.length_append, List.length_map, reduceIte, toNat_s, cell_one, isI_u16, isI_i64, getI_n, safe_eq, h64]
  cases atoiOk s with
  | false => rfl
  | true =>
    cases isSafe (atoiV s) with
    | false => rfl
    | true =>
      cases hi : (itoa (atoiV s) == s) with
      | false => rfl
      | true => rfl
theorem read_itoa {v : Int} (h : isSafe v = true) : readS (itoa v) = (v, true) := by
  have h' := h
  simp only [isSafe, Bool.and_eq_true, decide_eq_true_eq] at h'
  have ha := atoi_itoa (v := v) (by omega) (by omega)
  have h1 : atoiV (itoa v) = v := by rw [atoiV, ha]
  have h2 : atoiOk (itoa v) = true := by rw [atoiOk, ha]
  unfold readS
  rw [h1, h2, h]; simp
def rnOut : Int × Int ⊕ Int × Int → Option Int
  | .inl _ => none
  | .inr t => some t.1
theorem rn_loop {s : List UInt8} (hl : s.length ≤ 1000) (n : Nat) (a : Int) (b : Bool) (c0 : Int) : ∀ (l : List UInt8) (i j acc k : Nat), s.drop i = l → l.length < j → acc < 10 ^ k → k + l.length ≤ 17 →
    ∃ x, ref1_ReadNumber.l0 n s a b c0 j (acc : Int) (i : Int) = some x ∧ rnOut x = if l.all isDig then some (dv acc l : Int) else none := by
  intro l
  induction l with
  | nil =>
    intro i j acc k hd hj _ _
    obtain ⟨j, rfl⟩ : ∃ m, j = m + 1 := ⟨j - 1, by simp at hj; omega⟩
    have hi : s.length ≤ i := by
      have := congrArg List.length hd
      simp at this; omega
    rw [ref1_ReadNumber.l0.succ, ref1_ReadNumber.l0.s]
    refine ⟨.inr ((acc : Int), (i : Int)), ?_, rfl⟩
    simp (disch := omega) only [ite_t, ite_f, dec_t, dec_f, beq_t, beq_f, bne_t, bne_f, nbeq_t, nbeq_f, nble_t, nble_f, cond_true, cond_false, Bool.not_true, Bool.not_false, Bool.and_true, Bool.true_and, Bool.and_self, room_t, w64, w32, wu8, wu8', wu16, wu32, fdiv_pos, and63i, and1023i, and31i, and15i, and7i, and192i, or64w, or32w, or16w, or4096w, or64r, or64b, or32b, or16b, optK_some, optK_none, toNat_ofNat, append_eq, List.length_cons, List.length_nil, List.length_append, List.length_map, reduceIte, toNat_s, cell_one, isI_u16, isI_i64, getI_n]
  | cons c r ih =>
    intro i j acc k hd hj ha hk
    obtain ⟨j, rfl⟩ : ∃ m, j = m + 1 := ⟨j - 1, by simp at hj; omega⟩
    obtain ⟨e1, e2, e3⟩ := byteAt_drop hd
    have hc := Go.Uni.b_lt c
    simp only [List.length_cons] at hj hk
    have h16 : acc < 10000000000000000 := Nat.lt_of_lt_of_le ha (show 10 ^ k ≤ 10 ^ 16 from Nat.pow_le_pow_right (by omega) (by omega))
    have hpow : acc * 10 + (c.toNat - 48) < 10 ^ (k + 1) ∨ ¬ c.toNat ≤ 57 := by rw [Nat.pow_succ]; omega
    clear ha
    rw [ref1_ReadNumber.l0.succ, ref1_ReadNumber.l0.s]
    by_cases h1 : 48 ≤ c.toNat
    · by_cases h2 : c.toNat ≤ 57
      · obtain ⟨x, hx, ho⟩ := ih (i + 1) j (acc * 10 + (c.toNat - 48)) (k + 1) e3 (by omega) (hpow.resolve_right (fun h => h h2)) (by omega)
        clear hpow
        refine ⟨x, ?_, ?_⟩
        · have e : (acc : Int) * 10 + (c.toNat : Int) - 48 = ((acc * 10 + (c.toNat - 48) : Nat) : Int) := by omega
          simp (disch := omega) only [ite_t, ite_f, dec_t, dec_f, beq_t, beq_f, bne_t, bne_f, nbeq_t, nbeq_f, nble_t, nble_f, cond_true, cond_false, Bool.not_true, Bool.not_false, Bool.and_true, Bool.true_and, Bool.and_self, room_t, w64, w32, wu8, wu8', wu16, wu32, fdiv_pos, and63i, and1023i, and31i, and15i, and7i, and192i, or64w, or32w, or16w, or4096w, or64r, or64b, or32b, or16b, optK_some, optK_none, toNat_ofNat, append_eq, List.length_cons, List.length_nil, List.length_append, List.length_map, reduceIte, toNat_s, cell_one, isI_u16, isI_i64, getI_n, e1, e]
          exact hx
        · refine ho.trans ?_
          have hdig : isDig c = true := by simp only [isDig, h1, h2, decide_true, Bool.and_self]
          rw [List.all_cons, hdig, Bool.true_and]
          exact congrArg (fun z => if r.all isDig then some z else none) rfl
      · refine ⟨.inl ((acc : Int), (i : Int)), ?_, ?_⟩
        · simp (disch := omega) only [ite_t, ite_f, dec_t, dec_f, beq_t, beq_f, bne_t, bne_f, nbeq_t, nbeq_f, nble_t, nble_f, cond_true, cond_false, Bool.not_true, Bool.not_false, Bool.and_true, Bool.true_and, Bool.and_self, room_t, w64, w32, wu8, wu8', wu16, wu32, fdiv_pos, and63i, and1023i, and31i, and15i, and7i, and192i, or64w, or32w, or16w, or4096w, or64r, or64b, or32b, or16b, optK_some, optK_none, toNat_ofNat, append_eq, List.length_cons, List.length_nil, List.length_append, List.length_map, reduceIte, toNat_s, cell_one, isI_u16, isI_i64, getI_n, e1]
        · have : isDig c = false := by simp [isDig, h2]
          simp [this, rnOut]
    · refine ⟨.inl ((acc : Int), (i : Int)), ?_, ?_⟩
      · simp (disch := omega) only [ite_t, ite_f, dec_t, dec_f, beq_t, beq_f, bne_t, bne_f, nbeq_t, nbeq_f, nble_t, nble_f, cond_true, cond_false, Bool.not_true, Bool.not_false, Bool.and_true, Bool.true_and, Bool.and_self, room_t, w64, w32, wu8, wu8', wu16, wu32, fdiv_pos, and63i, and1023i, and31i, and15i, and7i, and192i, or64w, or32w, or16w, or4096w, or64r, or64b, or32b, or16b, optK_some, optK_none, toNat_ofNat, append_eq, List.length_cons, List.length_nil, List.length_append, List.length_map, reduceIte, toNat_s, cell_one, isI_u16, isI_i64, getI_n, e1]
      · have : isDig c = false := by simp [isDig, h1]
        simp [this, rnOut]
def signed (neg : Bool) (m : Nat) : Int := if neg then -(m : Int) else m
/-- what ReadNumber tells -/
def rnBody (neg : Bool) (long : Bool) (l : List UInt8) : Int × Bool :=
  match l with
  | [] => (0, false)
  | c :: _ => if decide (16 < l.length) || (decide (c.toNat = 48) && long) then (0, false)
    else if l.all isDig then (signed neg (dv 0 l), isSafe (signed neg (dv 0 l))) else (0, false)
def rnS (s : List UInt8) : Int × Bool :=
  match s with
  | [] => (0, false)
  | a :: r => if a.toNat = 45 then rnBody true (decide (1 < s.length)) r else rnBody false (decide (1 < s.length)) s
theorem beq_nil (a : UInt8) (r : List UInt8) : ((a :: r) == Array.toList #[]) = false := rfl
theorem beq_nil' (a : UInt8) (r : List UInt8) : ((a :: r) == ([] : List UInt8)) = false := rfl
theorem b0 (a : UInt8) (r : List UInt8) : byteAt (a :: r) 0 = (a.toNat : Int) := rfl
theorem b1 (a b : UInt8) (r : List UInt8) : byteAt (a :: b :: r) 1 = (b.toNat : Int) := rfl
theorem rn_eq {s : List UInt8} (hl : s.length ≤ 1000) {n : Nat} (hn : 100000 < n) : ref1_ReadNumber n s = some (rnS s) := by
  unfold ref1_ReadNumber ref1_ReadNumber.k
  rcases s with _ | ⟨a, r⟩
  · rfl
  · simp only [List.length_cons] at hl
    have hl' : (a :: r).length ≤ 1000 := by simp only [List.length_cons]; omega
    by_cases ha : a.toNat = 45
    · rcases r with _ | ⟨c, r⟩
      · simp (disch := omega) only [ite_t, ite_f, dec_t, dec_f, beq_t, beq_f, bne_t, bne_f, nbeq_t, nbeq_f, nble_t, nble_f, cond_true, cond_false, Bool.not_true, Bool.not_false, Bool.and_true, Bool.true_and, Bool.and_self, room_t, w64, w32, wu8, wu8', wu16, wu32, fdiv_pos, and63i, and1023i, and31i, and15i, and7i, and192i, or64w, or32w, or16w, or4096w, or64r, or64b, or32b, or16b, optK_some, optK_none, toNat_ofNat, append_eq, List.length_cons, List.length_nil, List.length_append, List.length_map, reduceIte, toNat_s, cell_one, isI_u16, isI_i64, getI_n, beq_nil, beq_nil', b0, rnS, rnBody]
      · simp only [List.length_cons] at hl
        by_cases h16 : r.length + 1 ≤ 16
        · by_cases h0 : c.toNat = 48
          · simp (disch := omega) only [ite_t, ite_f, dec_t, dec_f, beq_t, beq_f, bne_t, bne_f, nbeq_t, nbeq_f, nble_t, nble_f, cond_true, cond_false, Bool.not_true, Bool.not_false, Bool.and_true, Bool.true_and, Bool.and_self, room_t, w64, w32, wu8, wu8', wu16, wu32, fdiv_pos, and63i, and1023i, and31i, and15i, and7i, and192i, or64w, or32w, or16w, or4096w, or64r, or64b, or32b, or16b, optK_some, optK_none, toNat_ofNat, append_eq, List.length_cons, List.length_nil, List.length_append, List.length_map, reduceIte, toNat_s, cell_one, isI_u16, isI_i64, getI_n, beq_nil, beq_nil', b0, b1, rnS, rnBody, Bool.or_true]
          · obtain ⟨x, hx, ho⟩ := rn_loop hl' n 0 false 1 (c :: r) 1 n 0 0 rfl (by simp; omega) (by simp) (by simp; omega)
            simp (disch := omega) only [ite_t, ite_f, dec_t, dec_f, beq_t, beq_f, bne_t, bne_f, nbeq_t, nbeq_f, nble_t, nble_f, cond_true, cond_false, Bool.not_true, Bool.not_false, Bool.and_true, Bool.true_and, Bool.and_self, room_t, w64, w32, wu8, wu8', wu16, wu32, fdiv_pos, and63i, and1023i, and31i, and15i, and7i, and192i, or64w, or32w, or16w, or4096w, or64r, or64b, or32b, or16b, optK_some, optK_none, toNat_ofNat, append_eq, List.length_cons, List.length_nil, List.length_append, List.length_map, reduceIte, toNat_s, cell_one, isI_u16, isI_i64, getI_n, beq_nil, beq_nil', b0, b1, rnS, rnBody, Bool.or_false, Bool.false_and, Bool.false_or, Bool.false_eq_true]
            rw [show (0 : Int) = ((0 : Nat) : Int) from rfl, show (1 : Int) = ((1 : Nat) : Int) from rfl] at hx ⊢
            rw [hx]
            cases hd : (c :: r).all isDig with
            | false =>
              rw [hd] at ho
              rcases x with t | t
              · rfl
              · simp [rnOut] at ho
            | true =>
              rw [hd] at ho
              rcases x with t | t
              · simp [rnOut] at ho
              · simp only [rnOut, if_true, Option.some.injEq] at ho
                have hb := dv_lt (c :: r) 0 0 hd (by simp)
                have hb2 : 10 ^ (0 + (c :: r).length) ≤ 10 ^ 16 := Nat.pow_le_pow_right (by omega) (by simp; omega)
                simp (disch := omega) only [ite_t, ite_f, dec_t, dec_f, beq_t, beq_f, bne_t, bne_f, nbeq_t, nbeq_f, nble_t, nble_f, cond_true, cond_false, Bool.not_true, Bool.not_false, Bool.and_true, Bool.true_and, Bool.and_self, room_t, w64, w32, wu8, wu8', wu16, wu32, fdiv_pos, and63i, and1023i, and31i, and15i, and7i, and192i, or64w, or32w, or16w, or4096w, or64r, or64b, or32b, or16b, optK_some, optK_none, toNat_ofNat, append_eq, List.length_cons, List.length_nil, List.length_append, List.length_map, reduceIte, toNat_s, cell_one, isI_u16, isI_i64, getI_n, sumK, ho, zero_sub, zero_sub', rsafe_eq, signed]
        · simp (disch := omega) only [ite_t, ite_f, dec_t, dec_f, beq_t, beq_f, bne_t, bne_f, nbeq_t, nbeq_f, nble_t, nble_f, cond_true, cond_false, Bool.not_true, Bool.not_false, Bool.and_true, Bool.true_and, Bool.and_self, room_t, w64, w32, wu8, wu8', wu16, wu32, fdiv_pos, and63i, and1023i, and31i, and15i, and7i, and192i, or64w, or32w, or16w, or4096w, or64r, or64b, or32b, or16b, optK_some, optK_none, toNat_ofNat, append_eq, List.length_cons, List.length_nil, List.length_append, List.length_map, reduceIte, toNat_s, cell_one, isI_u16, isI_i64, getI_n, beq_nil, beq_nil', b0, b1, rnS, rnBody, Bool.true_or]
    · by_cases h16 : r.length + 1 ≤ 16
      · by_cases h0 : a.toNat = 48 ∧ 1 ≤ r.length
        · simp (disch := omega) only [ite_t, ite_f, dec_t, dec_f, beq_t, beq_f, bne_t, bne_f, nbeq_t, nbeq_f, nble_t, nble_f, cond_true, cond_false, Bool.not_true, Bool.not_false, Bool.and_true, Bool.true_and, Bool.and_self, room_t, w64, w32, wu8, wu8', wu16, wu32, fdiv_pos, and63i, and1023i, and31i, and15i, and7i, and192i, or64w, or32w, or16w, or4096w, or64r, or64b, or32b, or16b, optK_some, optK_none, toNat_ofNat, append_eq, List.length_cons, List.length_nil, List.length_append, List.length_map, reduceIte, toNat_s, cell_one, isI_u16, isI_i64, getI_n, beq_nil, beq_nil', b0, b1, rnS, rnBody, Bool.or_true]
        · obtain ⟨x, hx, ho⟩ := rn_loop hl' n 0 false 0 (a :: r) 0 n 0 0 rfl (by simp; omega) (by simp) (by simp; omega)
          have hlong : (decide (a.toNat = 48) && decide (1 < r.length + 1)) = false := by
            simp only [Bool.and_eq_false_iff, decide_eq_false_iff_not]; omega
          have hgo : ∀ (X : Option (Int × Bool)), (∀ x, ref1_ReadNumber.l0 n (a :: r) 0 false 0 n 0 0 = some x → True) → True := fun _ _ => trivial
          clear hgo
          have key : (optK (ref1_ReadNumber.l0 n (a :: r) 0 false 0 n 0 0) fun b => sumK b (fun b => some ((0 : Int), false)) fun b => optK (ref1_Safe b.1) fun b_1 => some (b.1, b_1)) = some (if (a :: r).all isDig then (signed false (dv 0 (a :: r)), isSafe (signed false (dv 0 (a :: r)))) else (0, false)) := by
            rw [show ref1_ReadNumber.l0 n (a :: r) 0 false 0 n 0 0 = some x from hx]
            cases hd : (a :: r).all isDig with
            | false =>
              rw [hd] at ho
              rcases x with t | t
              · rfl
              · simp [rnOut] at ho
            | true =>
              rw [hd] at ho
              rcases x with t | t
              · simp [rnOut] at ho
              · simp only [rnOut, if_true, Option.some.injEq] at ho
                simp (disch := omega) only [ite_t, ite_f, dec_t, dec_f, beq_t, beq_f, bne_t, bne_f, nbeq_t, nbeq_f, nble_t, nble_f, cond_true, cond_false, Bool.not_true, Bool.not_false, Bool.and_true, Bool.true_and, Bool.and_self, room_t, w64, w32, wu8, wu8', wu16, wu32, fdiv_pos, and63i, and1023i, and31i, and15i, and7i, and192i, or64w, or32w, or16w, or4096w, or64r, or64b, or32b, or16b, optK_some, optK_none, toNat_ofNat, append_eq, List.length_cons, List.length_nil, List.length_append, List.length_map, reduceIte, toNat_s, cell_one, isI_u16, isI_i64, getI_n, sumK, ho, rsafe_eq, signed, Bool.false_eq_true]
          by_cases h48 : a.toNat = 48
          · simp (disch := omega) only [ite_t, ite_f, dec_t, dec_f, beq_t, beq_f, bne_t, bne_f, nbeq_t, nbeq_f, nble_t, nble_f, cond_true, cond_false, Bool.not_true, Bool.not_false, Bool.and_true, Bool.true_and, Bool.and_self, room_t, w64, w32, wu8, wu8', wu16, wu32, fdiv_pos, and63i, and1023i, and31i, and15i, and7i, and192i, or64w, or32w, or16w, or4096w, or64r, or64b, or32b, or16b, optK_some, optK_none, toNat_ofNat, append_eq, List.length_cons, List.length_nil, List.length_append, List.length_map, reduceIte, toNat_s, cell_one, isI_u16, isI_i64, getI_n, beq_nil, beq_nil', b0, b1, rnS, rnBody, Bool.false_or, Bool.false_and, Bool.and_false, Bool.or_false, Bool.false_eq_true]
            exact key
          · simp (disch := omega) only [ite_t, ite_f, dec_t, dec_f, beq_t, beq_f, bne_t, bne_f, nbeq_t, nbeq_f, nble_t, nble_f, cond_true, cond_false, Bool.not_true, Bool.not_false, Bool.and_true, Bool.true_and, Bool.and_self, room_t, w64, w32, wu8, wu8', wu16, wu32, fdiv_pos, and63i, and1023i, and31i, and15i, and7i, and192i, or64w, or32w, or16w, or4096w, or64r, or64b, or32b, or16b, optK_some, optK_none, toNat_ofNat, append_eq, List.length_cons, List.length_nil, List.length_append, List.length_map, reduceIte, toNat_s, cell_one, isI_u16, isI_i64, getI_n, beq_nil, beq_nil', b0, b1, rnS, rnBody, Bool.false_or, Bool.false_and, Bool.and_false, Bool.or_false, Bool.false_eq_true]
            exact key
      · simp (disch := omega) only [ite_t, ite_f, dec_t, dec_f, beq_t, beq_f, bne_t, bne_f, nbeq_t, nbeq_f, nble_t, nble_f, cond_true, cond_false, Bool.not_true, Bool.not_false, Bool.and_true, Bool.true_and, Bool.and_self, room_t, w64, w32, wu8, wu8', wu16, wu32, fdiv_pos, and63i, and1023i, and31i, and15i, and7i, and192i, or64w, or32w, or16w, or4096w, or64r, or64b, or32b, or16b, optK_some, optK_none, toNat_ofNat, append_eq, List.length_cons, List.length_nil, List.length_append, List.length_map, reduceIte, toNat_s, cell_one, isI_u16, isI_i64, getI_n, beq_nil, beq_nil', b0, b1, rnS, rnBody, Bool.true_or]
theorem rn_itoa {v : Int} (h : isSafe v = true) : rnS (itoa v) = (v, true) := by
  have h' := h
  simp only [isSafe, Bool.and_eq_true, decide_eq_true_eq] at h'
  by_cases hn : v < 0
  · obtain ⟨m, rfl⟩ : ∃ m : Nat, v = -(m : Int) := ⟨v.natAbs, by omega⟩
    obtain ⟨c, r, hc, _, _, c4⟩ := dec_head m
    have c4 := c4 (by omega)
    have hlen := dec_len 16 m (by omega) (by omega)
    have hall := dec_all m
    have hdv := dec_dv m
    rw [Lib.itoa_neg m (by omega)]
    rw [hc] at hlen hall hdv ⊢
    simp only [rnS]
    rw [if_pos (show UInt8.toNat 45 = 45 from rfl)]
    simp only [rnBody]
    rw [if_neg (by simp only [Bool.or_eq_true, Bool.and_eq_true, decide_eq_true_eq]; omega), if_pos hall, hdv]
    simp only [signed, if_true, h]
  · obtain ⟨m, rfl⟩ : ∃ m : Nat, v = (m : Int) := ⟨v.toNat, by omega⟩
    obtain ⟨c, r, hc, c1, c2, c4⟩ := dec_head m
    have hlen := dec_len 16 m (by omega) (by omega)
    have hall := dec_all m
    have hdv := dec_dv m
    have hone : m = 0 → decDigits m = [UInt8.ofNat (48 + m)] := fun e => dec_small (by omega)
    rw [Lib.itoa_nonneg]
    rw [hc] at hlen hall hdv hone ⊢
    simp only [rnS]
    rw [if_neg (by omega)]
    simp only [rnBody]
    have hr : m = 0 → r.length = 0 := fun e => by rw [(List.cons.inj (hone e)).2]; rfl
    rw [if_neg (by simp only [Bool.or_eq_true, Bool.and_eq_true, decide_eq_true_eq, List.length_cons] at hlen ⊢; omega), if_pos hall, hdv]
    simp only [signed, Bool.false_eq_true, if_false, h]
theorem rn_safe {s : List UInt8} (h : (rnS s).2 = true) : isSafe (rnS s).1 = true := by
  have hb : ∀ neg long l, (rnBody neg long l).2 = true → isSafe (rnBody neg long l).1 = true := fun neg long l h => by
    unfold rnBody at h ⊢
    split at h
    · cases h
    · split at h
      · cases h
      · rename_i h1
        rw [if_neg h1]
        split at h
        · rename_i h2
          rw [if_pos h2]; exact h
        · cases h
  unfold rnS at h ⊢
  split at h
  · cases h
  · split at h
    · rename_i h1
      simp only [h1, if_true] at h ⊢; exact hb _ _ _ h
    · rename_i h1
      simp only [h1, if_false] at h ⊢; exact hb _ _ _ h
theorem read_true {s : List UInt8} (h : (readS s).2 = true) : isSafe (readS s).1 = true ∧ itoa (readS s).1 = s := by
  unfold readS at h ⊢
  split at h
  · rename_i h1
    rw [if_pos h1]
    simp only [Bool.and_eq_true, beq_iff_eq] at h1
    exact ⟨h1.1.2, h1.2⟩
  · cases h
theorem read_false {s : List UInt8} (h : (readS s).2 = false) : readS s = (0, false) := by
  unfold readS at h ⊢
  split at h
  · cases h
  · rename_i h1; rw [if_neg h1]
/-- what both tell of a text -/
theorem both (s : List UInt8) : ((rnS s).2 = true ∧ itoa (rnS s).1 = s ∧ readS s = ((rnS s).1, true)) ∨ ((rnS s).2 = true ∧ itoa (rnS s).1 ≠ s ∧ readS s = (0, false)) ∨ ((rnS s).2 = false ∧ readS s = (0, false)) := by
  cases hr : (readS s).2 with
  | true =>
    obtain ⟨h1, h2⟩ := read_true hr
    have h3 := rn_itoa h1
    rw [h2] at h3
    refine .inl ⟨by rw [h3], by rw [h3]; exact h2, ?_⟩
    rw [h3]
    exact Prod.ext rfl hr
  | false =>
    have h0 := read_false hr
    cases hf : (rnS s).2 with
    | false => exact .inr (.inr ⟨rfl, h0⟩)
    | true =>
      refine .inr (.inl ⟨rfl, fun he => ?_, h0⟩)
      have h1 := read_itoa (rn_safe hf)
      rw [he, h0] at h1
      exact absurd (congrArg Prod.snd h1) (by simp)
theorem read_not {v : Int} (h0 : -9223372036854775808 ≤ v) (h1 : v ≤ 9223372036854775807) (h : isSafe v = false) : readS (itoa v) = (0, false) := by
  have ha := atoi_itoa h0 h1
  have h2 : atoiV (itoa v) = v := by rw [atoiV, ha]
  unfold readS
  rw [h2, h]; simp
theorem itoa_len {v : Int} (h0 : -9223372036854775808 ≤ v) (h1 : v ≤ 9223372036854775807) : (itoa v).length ≤ 100 := by
  rw [itoa]
  split
  · have := dec_len 19 v.natAbs (by omega) (by omega)
    simp only [List.length_cons]; omega
  · have := dec_len 19 v.toNat (by omega) (by omega); omega
theorem itoa12 : itoa 12 = [49, 50] := by
  rw [itoa, if_neg (by omega), show Int.toNat 12 = 12 from rfl, dec_big (by omega), dec_small (by omega)]; rfl
theorem text_some {v : Int} (h0 : -9223372036854775808 ≤ v) (h1 : v ≤ 9223372036854775807) : numbers_Text v = some () := by
  unfold numbers_Text numbers_Text.k isI64
  simp (disch := omega) only [ite_t, ite_f, dec_t, dec_f, beq_t, beq_f, bne_t, bne_f, nbeq_t, nbeq_f, nble_t, nble_f, cond_true, cond_false, Bool.not_true, Bool.not_false, Bool.and_true, Bool.true_and, Bool.and_self, room_t, w64, w32, wu8, wu8', wu16, wu32, fdiv_pos, and63i, and1023i, and31i, and15i, and7i, and192i, or64w, or32w, or16w, or4096w, or64r, or64b, or32b, or16b, optK_some, optK_none, toNat_ofNat, append_eq, List.length_cons, List.length_nil, List.length_append, List.length_map, reduceIte, toNat_s, cell_one, isI_u16, isI_i64, getI_n]
theorem alive_eq : law2_alive = some true := by
  unfold law2_alive law2_alive.k
  rw [show numbers_Do [47] (-7) 2 = some (-3, true) by kernel_rfl, safe_eq, text_some (by omega) (by omega), itoa12]
  rfl
theorem itoa_self (v : Int) : (itoa v == itoa v) = true := by simp
theorem NumbersTexts_true {n : Nat} (hn : 100000 < n) {a : Int} (h0 : -9223372036854775808 ≤ a) (h1 : a ≤ 9223372036854775807) (s : List UInt8) : NumbersTexts n a s = some true := by
  unfold NumbersTexts NumbersTexts.k
  by_cases hs : s.length ≤ 100
  · have hi := itoa_len h0 h1
    rw [show (if a < 0 then (45 : UInt8) :: decDigits (Int.natAbs a) else decDigits (Int.toNat a)) = itoa a from rfl]
    rw [alive_eq, text_some h0 h1, read_eq (s := itoa a) (by omega), read_eq (s := s) (by omega), rn_eq (s := s) (by omega) hn, dec_eq h0 h1 hn, safe_eq]
    have hsafe : isSafe a = (decide (a ≥ -9007199254740991) && decide (a ≤ 9007199254740991)) := rfl
    by_cases hA : -9007199254740991 ≤ a
    · by_cases hB : a ≤ 9007199254740991
      · have hS : isSafe a = true := by rw [hsafe, decide_eq_true hA, decide_eq_true hB]; rfl
        rw [read_itoa hS]
        rcases both s with ⟨e1, e2, e3⟩ | ⟨e1, e2, e3⟩ | ⟨e1, e3⟩
        · have hy := rn_safe e1
          simp only [isSafe, Bool.and_eq_true, decide_eq_true_eq] at hy
          simp (disch := omega) only [ite_t, ite_f, dec_t, dec_f, beq_t, beq_f, bne_t, bne_f, nbeq_t, nbeq_f, nble_t, nble_f, cond_true, cond_false, Bool.not_true, Bool.not_false, Bool.and_true, Bool.true_and, Bool.and_self, room_t, w64, w32, wu8, wu8', wu16, wu32, fdiv_pos, and63i, and1023i, and31i, and15i, and7i, and192i, or64w, or32w, or16w, or4096w, or64r, or64b, or32b, or16b, optK_some, optK_none, toNat_ofNat, append_eq, List.length_cons, List.length_nil, List.length_append, List.length_map, reduceIte, toNat_s, cell_one, isI_u16, isI_i64, getI_n, e1, e3, dec_eq (v := (rnS s).1) (by omega) (by omega) hn, e2, hS, itoa_self, beq_self_eq_true, Bool.not_true]
        · have hy := rn_safe e1
          simp only [isSafe, Bool.and_eq_true, decide_eq_true_eq] at hy
          have e4 : (itoa (rnS s).1 == s) = false := by simpa using e2
          simp (disch := omega) only [ite_t, ite_f, dec_t, dec_f, beq_t, beq_f, bne_t, bne_f, nbeq_t, nbeq_f, nble_t, nble_f, cond_true, cond_false, Bool.not_true, Bool.not_false, Bool.and_true, Bool.true_and, Bool.and_self, room_t, w64, w32, wu8, wu8', wu16, wu32, fdiv_pos, and63i, and1023i, and31i, and15i, and7i, and192i, or64w, or32w, or16w, or4096w, or64r, or64b, or32b, or16b, optK_some, optK_none, toNat_ofNat, append_eq, List.length_cons, List.length_nil, List.length_append, List.length_map, reduceIte, toNat_s, cell_one, isI_u16, isI_i64, getI_n, e1, e3, dec_eq (v := (rnS s).1) (by omega) (by omega) hn, e4, hS, itoa_self, beq_self_eq_true, Bool.not_true]
        · simp (disch := omega) only [ite_t, ite_f, dec_t, dec_f, beq_t, beq_f, bne_t, bne_f, nbeq_t, nbeq_f, nble_t, nble_f, cond_true, cond_false, Bool.not_true, Bool.not_false, Bool.and_true, Bool.true_and, Bool.and_self, room_t, w64, w32, wu8, wu8', wu16, wu32, fdiv_pos, and63i, and1023i, and31i, and15i, and7i, and192i, or64w, or32w, or16w, or4096w, or64r, or64b, or32b, or16b, optK_some, optK_none, toNat_ofNat, append_eq, List.length_cons, List.length_nil, List.length_append, List.length_map, reduceIte, toNat_s, cell_one, isI_u16, isI_i64, getI_n, e1, e3, hS, itoa_self, beq_self_eq_true, Bool.not_true]
      · have hS : isSafe a = false := by rw [hsafe, decide_eq_false hB]; simp
        rw [read_not h0 h1 hS]
        rcases both s with ⟨e1, e2, e3⟩ | ⟨e1, e2, e3⟩ | ⟨e1, e3⟩
        · have hy := rn_safe e1
          simp only [isSafe, Bool.and_eq_true, decide_eq_true_eq] at hy
          simp (disch := omega) only [ite_t, ite_f, dec_t, dec_f, beq_t, beq_f, bne_t, bne_f, nbeq_t, nbeq_f, nble_t, nble_f, cond_true, cond_false, Bool.not_true, Bool.not_false, Bool.and_true, Bool.true_and, Bool.and_self, room_t, w64, w32, wu8, wu8', wu16, wu32, fdiv_pos, and63i, and1023i, and31i, and15i, and7i, and192i, or64w, or32w, or16w, or4096w, or64r, or64b, or32b, or16b, optK_some, optK_none, toNat_ofNat, append_eq, List.length_cons, List.length_nil, List.length_append, List.length_map, reduceIte, toNat_s, cell_one, isI_u16, isI_i64, getI_n, e1, e3, dec_eq (v := (rnS s).1) (by omega) (by omega) hn, e2, hS, itoa_self, beq_self_eq_true, Bool.not_true]
        · have hy := rn_safe e1
          simp only [isSafe, Bool.and_eq_true, decide_eq_true_eq] at hy
          have e4 : (itoa (rnS s).1 == s) = false := by simpa using e2
          simp (disch := omega) only [ite_t, ite_f, dec_t, dec_f, beq_t, beq_f, bne_t, bne_f, nbeq_t, nbeq_f, nble_t, nble_f, cond_true, cond_false, Bool.not_true, Bool.not_false, Bool.and_true, Bool.true_and, Bool.and_self, room_t, w64, w32, wu8, wu8', wu16, wu32, fdiv_pos, and63i, and1023i, and31i, and15i, and7i, and192i, or64w, or32w, or16w, or4096w, or64r, or64b, or32b, or16b, optK_some, optK_none, toNat_ofNat, append_eq, List.length_cons, List.length_nil, List.length_append, List.length_map, reduceIte, toNat_s, cell_one, isI_u16, isI_i64, getI_n, e1, e3, dec_eq (v := (rnS s).1) (by omega) (by omega) hn, e4, hS, itoa_self, beq_self_eq_true, Bool.not_true]
        · simp (disch := omega) only [ite_t, ite_f, dec_t, dec_f, beq_t, beq_f, bne_t, bne_f, nbeq_t, nbeq_f, nble_t, nble_f, cond_true, cond_false, Bool.not_true, Bool.not_false, Bool.and_true, Bool.true_and, Bool.and_self, room_t, w64, w32, wu8, wu8', wu16, wu32, fdiv_pos, and63i, and1023i, and31i, and15i, and7i, and192i, or64w, or32w, or16w, or4096w, or64r, or64b, or32b, or16b, optK_some, optK_none, toNat_ofNat, append_eq, List.length_cons, List.length_nil, List.length_append, List.length_map, reduceIte, toNat_s, cell_one, isI_u16, isI_i64, getI_n, e1, e3, hS, itoa_self, beq_self_eq_true, Bool.not_true]
    · have hS : isSafe a = false := by rw [hsafe, decide_eq_false hA]; rfl
      rw [read_not h0 h1 hS]
      rcases both s with ⟨e1, e2, e3⟩ | ⟨e1, e2, e3⟩ | ⟨e1, e3⟩
      · have hy := rn_safe e1
        simp only [isSafe, Bool.and_eq_true, decide_eq_true_eq] at hy
        simp (disch := omega) only [ite_t, ite_f, dec_t, dec_f, beq_t, beq_f, bne_t, bne_f, nbeq_t, nbeq_f, nble_t, nble_f, cond_true, cond_false, Bool.not_true, Bool.not_false, Bool.and_true, Bool.true_and, Bool.and_self, room_t, w64, w32, wu8, wu8', wu16, wu32, fdiv_pos, and63i, and1023i, and31i, and15i, and7i, and192i, or64w, or32w, or16w, or4096w, or64r, or64b, or32b, or16b, optK_some, optK_none, toNat_ofNat, append_eq, List.length_cons, List.length_nil, List.length_append, List.length_map, reduceIte, toNat_s, cell_one, isI_u16, isI_i64, getI_n, e1, e3, dec_eq (v := (rnS s).1) (by omega) (by omega) hn, e2, hS, itoa_self, beq_self_eq_true, Bool.not_true]
      · have hy := rn_safe e1
        simp only [isSafe, Bool.and_eq_true, decide_eq_true_eq] at hy
        have e4 : (itoa (rnS s).1 == s) = false := by simpa using e2
        simp (disch := omega) only [ite_t, ite_f, dec_t, dec_f, beq_t, beq_f, bne_t, bne_f, nbeq_t, nbeq_f, nble_t, nble_f, cond_true, cond_false, Bool.not_true, Bool.not_false, Bool.and_true, Bool.true_and, Bool.and_self, room_t, w64, w32, wu8, wu8', wu16, wu32, fdiv_pos, and63i, and1023i, and31i, and15i, and7i, and192i, or64w, or32w, or16w, or4096w, or64r, or64b, or32b, or16b, optK_some, optK_none, toNat_ofNat, append_eq, List.length_cons, List.length_nil, List.length_append, List.length_map, reduceIte, toNat_s, cell_one, isI_u16, isI_i64, getI_n, e1, e3, dec_eq (v := (rnS s).1) (by omega) (by omega) hn, e4, hS, itoa_self, beq_self_eq_true, Bool.not_true]
      · simp (disch := omega) only [ite_t, ite_f, dec_t, dec_f, beq_t, beq_f, bne_t, bne_f, nbeq_t, nbeq_f, nble_t, nble_f, cond_true, cond_false, Bool.not_true, Bool.not_false, Bool.and_true, Bool.true_and, Bool.and_self, room_t, w64, w32, wu8, wu8', wu16, wu32, fdiv_pos, and63i, and1023i, and31i, and15i, and7i, and192i, or64w, or32w, or16w, or4096w, or64r, or64b, or32b, or16b, optK_some, optK_none, toNat_ofNat, append_eq, List.length_cons, List.length_nil, List.length_append, List.length_map, reduceIte, toNat_s, cell_one, isI_u16, isI_i64, getI_n, e1, e3, hS, itoa_self, beq_self_eq_true, Bool.not_true]
  · rw [alive_eq]
    simp (disch := omega) only [ite_t, ite_f, dec_t, dec_f, beq_t, beq_f, bne_t, bne_f, nbeq_t, nbeq_f, nble_t, nble_f, cond_true, cond_false, Bool.not_true, Bool.not_false, Bool.and_true, Bool.true_and, Bool.and_self, room_t, w64, w32, wu8, wu8', wu16, wu32, fdiv_pos, and63i, and1023i, and31i, and15i, and7i, and192i, or64w, or32w, or16w, or4096w, or64r, or64b, or32b, or16b, optK_some, optK_none, toNat_ofNat, append_eq, List.length_cons, List.length_nil, List.length_append, List.length_map, reduceIte, toNat_s, cell_one, isI_u16, isI_i64, getI_n]
end Go.Proofs.YtlklpdifcpjlpaaDoor.Nu
