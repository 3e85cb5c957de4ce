/- KeysIndex and ArraysLength answer true. -/
import Derived.Test.YtjlhnnphfdjmdaaDoorEUQ2
namespace Go.Proofs.YtjlhnnphfdjmdaaDoor.C
open Go.Abs Go.Uni Go.Plain Go.Deci L0
open Go.Lib (itoa decDigits atoiAll)
set_option maxRecDepth 100000
set_option maxHeartbeats 1000000
set_option linter.unusedVariables false
set_option linter.unusedSimpArgs false
theorem dv_pos {c : UInt8} (r : List UInt8) (h : 49 ≤ c.toNat) : 1 ≤ dv 0 (c :: r) := by
  have := dv_le r (0 * 10 + (c.toNat - 48))
  show 1 ≤ dv (0 * 10 + (c.toNat - 48)) r
  omega
theorem dec_canon : ∀ (k : Nat) (l : List UInt8), l.length = k → l.all isDig = true → l ≠ [] → (l.length = 1 ∨ ∀ c r, l = c :: r → 49 ≤ c.toNat) → decDigits (dv 0 l) = l := by
  intro k
  induction k with
  | zero => intro l hl _ hne _; exact absurd (List.length_eq_zero_iff.1 hl) hne
  | succ k ih =>
    intro l hl hd hne hh
    obtain ⟨l', c, rfl⟩ : ∃ l' c, l = l' ++ [c] := ⟨l.dropLast, l.getLast hne, (List.dropLast_concat_getLast hne).symm⟩
    simp only [List.all_append, List.all_cons, List.all_nil, Bool.and_true, Bool.and_eq_true] at hd
    have hc := hd.2
    simp only [isDig, Bool.and_eq_true, decide_eq_true_eq] at hc
    have hback : UInt8.ofNat (48 + (c.toNat - 48)) = c := by
      rw [show 48 + (c.toNat - 48) = c.toNat by omega]; simp
    rw [dv_append]
    show decDigits (dv 0 l' * 10 + (c.toNat - 48)) = l' ++ [c]
    rcases l' with _ | ⟨a, r⟩
    · show decDigits (0 * 10 + (c.toNat - 48)) = [c]
      rw [dec_small (by omega), Nat.zero_mul, Nat.zero_add, hback]
    · have ha : 49 ≤ a.toNat := by
        rcases hh with h | h
        · simp at h
        · exact h a (r ++ [c]) rfl
      have hp := dv_pos r ha
      have := ih (a :: r) (by simpa using hl) hd.1 (by simp) (.inr fun c' r' e => by rw [← (List.cons.inj e).1]; exact ha)
      generalize dv 0 (a :: r) = m at *
      rw [dec_big (by omega), show (m * 10 + (c.toNat - 48)) / 10 = m by omega, show (m * 10 + (c.toNat - 48)) % 10 = c.toNat - 48 by omega, this, hback]
theorem rnS_cons (a : UInt8) (r : List UInt8) : rnS (a :: r) = if a.toNat = 45 then rnBody true (decide (1 < (a :: r).length)) r else rnBody false (decide (1 < (a :: r).length)) (a :: r) := rfl
theorem rn_canon {s : List UInt8} (h : (rnS s).2 = true) : itoa (rnS s).1 = s := by
  rcases s with _ | ⟨a, r⟩
  · cases h
  · rw [rnS_cons] at h ⊢
    by_cases ha : a.toNat = 45
    · rw [if_pos ha] at h ⊢
      rcases r with _ | ⟨c, r⟩
      · cases h
      · unfold rnBody at h ⊢
        simp only at h ⊢
        split at h
        · cases h
        · rename_i h1
          rw [if_neg h1]
          split at h
          · rename_i hd
            rw [if_pos hd]
            simp only [List.length_cons, Bool.or_eq_true, Bool.and_eq_true, decide_eq_true_eq, not_or, not_and] at h1
            have hc : 48 ≤ c.toNat := by
              have := hd
              simp only [List.all_cons, isDig, Bool.and_eq_true, decide_eq_true_eq] at this
              omega
            have hc9 : 49 ≤ c.toNat := by
              have := h1.2
              omega
            have hp := dv_pos r hc9
            have hcan := dec_canon _ (c :: r) rfl hd (by simp) (.inr fun c' r' e => by rw [← (List.cons.inj e).1]; exact hc9)
            simp only [signed, if_true]
            rw [Lib.itoa_neg _ (by omega), hcan]
            congr 1
            have : a = UInt8.ofNat 45 := by rw [← ha]; simp
            rw [this]; rfl
          · cases h
    · rw [if_neg ha] at h ⊢
      unfold rnBody at h ⊢
      simp only at h ⊢
      split at h
      · cases h
      · rename_i h1
        rw [if_neg h1]
        split at h
        · rename_i hd
          rw [if_pos hd]
          simp only [List.length_cons, Bool.or_eq_true, Bool.and_eq_true, decide_eq_true_eq, not_or, not_and] at h1
          have hcan := dec_canon _ (a :: r) rfl hd (by simp) (by
            by_cases hr : r.length = 0
            · exact .inl (by simp [hr])
            · refine .inr fun c' r' e => ?_
              rw [← (List.cons.inj e).1]
              have := hd
              simp only [List.all_cons, isDig, Bool.and_eq_true, decide_eq_true_eq] at this
              have h2 := h1.2
              omega)
          simp only [signed, Bool.false_eq_true, if_false]
          rw [Lib.itoa_nonneg, hcan]
        · cases h
theorem read_rn (s : List UInt8) : readS s = if (rnS s).2 then ((rnS s).1, true) else (0, false) := by
  rcases both s with ⟨e1, e2, e3⟩ | ⟨e1, e2, e3⟩ | ⟨e1, e3⟩
  · rw [e3, e1]; rfl
  · exact absurd (rn_canon e1) e2
  · rw [e3, e1]; rfl
def idxS (s : List UInt8) (sym : Int) : Int × Bool := if sym = 0 ∧ (readS s).2 = true ∧ 0 ≤ (readS s).1 ∧ (readS s).1 ≤ 4294967294 then ((readS s).1, true) else (0, false)
theorem idx_eq {s : List UInt8} (hl : s.length ≤ 1000) (sym : Int) : keys_Index s sym = some (idxS s sym) := by
  have hb := atoiV_bounds s
  have h64 : isI64 (atoiV s) = true := by simp [isI64]; omega
  unfold keys_Index keys_Index.k idxS readS
  by_cases h0 : sym = 0
  · simp (disch := omega) only [ite_t, ite_f, dec_t, dec_f, beq_t, beq_f, bne_t, bne_f, nbeq_t, nbeq_f, nble_t, nble_f, cond_true, cond_false, Bool.not_true, Bool.not_false, Bool.and_true, Bool.true_and, Bool.and_self, room_t, w64, w32, wu8, wu8', wu16, wu32, fdiv_pos, and63i, and1023i, and31i, and15i, and7i, and192i, or64w, or32w, or16w, or4096w, or64r, or64b, or32b, or16b, optK_some, optK_none, toNat_ofNat, append_eq, List.length_cons, List.length_nil, List.length_append, List.length_map, reduceIte, toNat_s, cell_one, isI_u16, isI_i64, getI_n, h64]
    cases h1 : atoiOk s with
    | false => simp
    | true =>
      by_cases h2 : atoiV s < 0
      · have : ¬ (0 ≤ atoiV s) := by omega
        simp (disch := omega) only [ite_t, ite_f, dec_t, dec_f, beq_t, beq_f, bne_t, bne_f, nbeq_t, nbeq_f, nble_t, nble_f, cond_true, cond_false, Bool.not_true, Bool.not_false, Bool.and_true, Bool.true_and, Bool.and_self, room_t, w64, w32, wu8, wu8', wu16, wu32, fdiv_pos, and63i, and1023i, and31i, and15i, and7i, and192i, or64w, or32w, or16w, or4096w, or64r, or64b, or32b, or16b, optK_some, optK_none, toNat_ofNat, append_eq, List.length_cons, List.length_nil, List.length_append, List.length_map, reduceIte, toNat_s, cell_one, isI_u16, isI_i64, getI_n]
        by_cases hs : isSafe (atoiV s) = true ∧ (itoa (atoiV s) == s) = true
        · simp [hs.1, hs.2, this]
        · simp only [Bool.true_and, Bool.and_eq_true]
          rw [if_neg hs]; simp
      · by_cases h3 : atoiV s > 4294967294
        · have : ¬ (atoiV s ≤ 4294967294) := by omega
          simp (disch := omega) only [ite_t, ite_f, dec_t, dec_f, beq_t, beq_f, bne_t, bne_f, nbeq_t, nbeq_f, nble_t, nble_f, cond_true, cond_false, Bool.not_true, Bool.not_false, Bool.and_true, Bool.true_and, Bool.and_self, room_t, w64, w32, wu8, wu8', wu16, wu32, fdiv_pos, and63i, and1023i, and31i, and15i, and7i, and192i, or64w, or32w, or16w, or4096w, or64r, or64b, or32b, or16b, optK_some, optK_none, toNat_ofNat, append_eq, List.length_cons, List.length_nil, List.length_append, List.length_map, reduceIte, toNat_s, cell_one, isI_u16, isI_i64, getI_n]
          by_cases hs : isSafe (atoiV s) = true ∧ (itoa (atoiV s) == s) = true
          · simp [hs.1, hs.2, this]
          · simp only [Bool.true_and, Bool.and_eq_true]
            rw [if_neg hs]; simp
        · have hs : isSafe (atoiV s) = true := by simp only [isSafe, Bool.and_eq_true, decide_eq_true_eq]; omega
          simp (disch := omega) only [ite_t, ite_f, dec_t, dec_f, beq_t, beq_f, bne_t, bne_f, nbeq_t, nbeq_f, nble_t, nble_f, cond_true, cond_false, Bool.not_true, Bool.not_false, Bool.and_true, Bool.true_and, Bool.and_self, room_t, w64, w32, wu8, wu8', wu16, wu32, fdiv_pos, and63i, and1023i, and31i, and15i, and7i, and192i, or64w, or32w, or16w, or4096w, or64r, or64b, or32b, or16b, optK_some, optK_none, toNat_ofNat, append_eq, List.length_cons, List.length_nil, List.length_append, List.length_map, reduceIte, toNat_s, cell_one, isI_u16, isI_i64, getI_n, hs]
          cases hi : (itoa (atoiV s) == s) with
          | false => simp
          | true => simp; omega
  · simp (disch := omega) only [ite_t, ite_f, dec_t, dec_f, beq_t, beq_f, bne_t, bne_f, nbeq_t, nbeq_f, nble_t, nble_f, cond_true, cond_false, Bool.not_true, Bool.not_false, Bool.and_true, Bool.true_and, Bool.and_self, room_t, w64, w32, wu8, wu8', wu16, wu32, fdiv_pos, and63i, and1023i, and31i, and15i, and7i, and192i, or64w, or32w, or16w, or4096w, or64r, or64b, or32b, or16b, optK_some, optK_none, toNat_ofNat, append_eq, List.length_cons, List.length_nil, List.length_append, List.length_map, reduceIte, toNat_s, cell_one, isI_u16, isI_i64, getI_n] <;> rw [if_neg fun h => h0 h.1]
theorem ridx_eq {s : List UInt8} (hl : s.length ≤ 1000) (sym : Int) {n : Nat} (hn : 2000000 < n) : ref1_Index n s sym = some (idxS s sym) := by
  unfold ref1_Index ref1_Index.k
  rw [rn_eq hl hn]
  unfold idxS
  rw [read_rn]
  by_cases h0 : sym = 0
  · by_cases h10 : (s.length : Int) > 10
    · simp (disch := omega) only [ite_t, ite_f, dec_t, dec_f, beq_t, beq_f, bne_t, bne_f, nbeq_t, nbeq_f, nble_t, nble_f, cond_true, cond_false, Bool.not_true, Bool.not_false, Bool.and_true, Bool.true_and, Bool.and_self, room_t, w64, w32, wu8, wu8', wu16, wu32, fdiv_pos, and63i, and1023i, and31i, and15i, and7i, and192i, or64w, or32w, or16w, or4096w, or64r, or64b, or32b, or16b, optK_some, optK_none, toNat_ofNat, append_eq, List.length_cons, List.length_nil, List.length_append, List.length_map, reduceIte, toNat_s, cell_one, isI_u16, isI_i64, getI_n] <;> rw [if_neg] <;> rintro ⟨_, h1, h2, h3⟩
      split at h1
      · rename_i hr
        rw [if_pos hr] at h2 h3
        simp only at h2 h3
        have hc := rn_canon hr
        obtain ⟨m, hm⟩ := Int.eq_ofNat_of_zero_le h2
        rw [hm, Lib.itoa_nonneg] at hc
        have := dec_len 10 m (by omega) (by omega)
        rw [hc] at this
        omega
      · cases h1
    · rcases s with _ | ⟨a, r⟩
      · subst h0; rfl
      · have e0 : byteAt (a :: r) 0 = (a.toNat : Int) := rfl
        have e1 : ((a :: r) == Array.toList #[]) = false := rfl
        by_cases ha : a.toNat = 45
        · have hne : ¬ 0 ≤ (rnS (a :: r)).1 ∨ (rnS (a :: r)).2 = false := by
            cases hr : (rnS (a :: r)).2 with
            | false => exact .inr rfl
            | true =>
              refine .inl fun h2 => ?_
              have hc := rn_canon hr
              obtain ⟨m, hm⟩ := Int.eq_ofNat_of_zero_le h2
              rw [hm, Lib.itoa_nonneg] at hc
              obtain ⟨c, r', hd, h48, _⟩ := dec_head m
              rw [hd] at hc
              have := (List.cons.inj hc).1
              subst this; omega
          simp (disch := omega) only [ite_t, ite_f, dec_t, dec_f, beq_t, beq_f, bne_t, bne_f, nbeq_t, nbeq_f, nble_t, nble_f, cond_true, cond_false, Bool.not_true, Bool.not_false, Bool.and_true, Bool.true_and, Bool.and_self, room_t, w64, w32, wu8, wu8', wu16, wu32, fdiv_pos, and63i, and1023i, and31i, and15i, and7i, and192i, or64w, or32w, or16w, or4096w, or64r, or64b, or32b, or16b, optK_some, optK_none, toNat_ofNat, append_eq, List.length_cons, List.length_nil, List.length_append, List.length_map, reduceIte, toNat_s, cell_one, isI_u16, isI_i64, getI_n, e0, e1] <;> rw [if_neg] <;> rintro ⟨_, h1, h2, h3⟩
          rcases hne with h | h
          · split at h2
            · exact h h2
            · rename_i hr; rw [if_neg hr] at h1; cases h1
          · rw [h] at h1; cases h1
        · simp (disch := omega) only [ite_t, ite_f, dec_t, dec_f, beq_t, beq_f, bne_t, bne_f, nbeq_t, nbeq_f, nble_t, nble_f, cond_true, cond_false, Bool.not_true, Bool.not_false, Bool.and_true, Bool.true_and, Bool.and_self, room_t, w64, w32, wu8, wu8', wu16, wu32, fdiv_pos, and63i, and1023i, and31i, and15i, and7i, and192i, or64w, or32w, or16w, or4096w, or64r, or64b, or32b, or16b, optK_some, optK_none, toNat_ofNat, append_eq, List.length_cons, List.length_nil, List.length_append, List.length_map, reduceIte, toNat_s, cell_one, isI_u16, isI_i64, getI_n, e0, e1]
          cases hr : (rnS (a :: r)).2 with
          | false => simp
          | true =>
            have hnn : 0 ≤ (rnS (a :: r)).1 := by
              rw [rnS_cons] at hr ⊢
              rw [if_neg ha] at hr ⊢
              unfold rnBody at hr ⊢
              simp only at hr ⊢
              split at hr
              · cases hr
              · rename_i h1
                rw [if_neg h1]
                split at hr
                · rename_i h2; rw [if_pos h2]; simp [signed]
                · cases hr
            by_cases hm : (rnS (a :: r)).1 > 4294967294
            · simp (disch := omega) only [ite_t, ite_f, dec_t, dec_f, beq_t, beq_f, bne_t, bne_f, nbeq_t, nbeq_f, nble_t, nble_f, cond_true, cond_false, Bool.not_true, Bool.not_false, Bool.and_true, Bool.true_and, Bool.and_self, room_t, w64, w32, wu8, wu8', wu16, wu32, fdiv_pos, and63i, and1023i, and31i, and15i, and7i, and192i, or64w, or32w, or16w, or4096w, or64r, or64b, or32b, or16b, optK_some, optK_none, toNat_ofNat, append_eq, List.length_cons, List.length_nil, List.length_append, List.length_map, reduceIte, toNat_s, cell_one, isI_u16, isI_i64, getI_n] <;> (rw [if_neg (by simp; omega)])
            · simp (disch := omega) only [ite_t, ite_f, dec_t, dec_f, beq_t, beq_f, bne_t, bne_f, nbeq_t, nbeq_f, nble_t, nble_f, cond_true, cond_false, Bool.not_true, Bool.not_false, Bool.and_true, Bool.true_and, Bool.and_self, room_t, w64, w32, wu8, wu8', wu16, wu32, fdiv_pos, and63i, and1023i, and31i, and15i, and7i, and192i, or64w, or32w, or16w, or4096w, or64r, or64b, or32b, or16b, optK_some, optK_none, toNat_ofNat, append_eq, List.length_cons, List.length_nil, List.length_append, List.length_map, reduceIte, toNat_s, cell_one, isI_u16, isI_i64, getI_n] <;> (rw [if_pos (by simp; omega)]; try rfl)
  · simp (disch := omega) only [ite_t, ite_f, dec_t, dec_f, beq_t, beq_f, bne_t, bne_f, nbeq_t, nbeq_f, nble_t, nble_f, cond_true, cond_false, Bool.not_true, Bool.not_false, Bool.and_true, Bool.true_and, Bool.and_self, room_t, w64, w32, wu8, wu8', wu16, wu32, fdiv_pos, and63i, and1023i, and31i, and15i, and7i, and192i, or64w, or32w, or16w, or4096w, or64r, or64b, or32b, or16b, optK_some, optK_none, toNat_ofNat, append_eq, List.length_cons, List.length_nil, List.length_append, List.length_map, reduceIte, toNat_s, cell_one, isI_u16, isI_i64, getI_n] <;> rw [if_neg fun h => h0 h.1]
theorem alive3 : law3_alive = some true := by
  unfold law3_alive law3_alive.k
  rw [idx_eq (by decide), idx_eq (by decide)]
  have h1 : idxS [48, 55] 0 = (0, false) := by
    unfold idxS; rw [read_rn, show rnS [48, 55] = (0, false) from rfl]; rfl
  have h2 : idxS [55] 0 = (7, true) := by
    unfold idxS; rw [read_rn, show rnS [55] = (7, true) from rfl]; rfl
  rw [h1, h2]; rfl
theorem KeysIndex_true {n : Nat} (hn : 2000000 < n) (s : List UInt8) (sym : Int) {a : Int} (h0 : -9223372036854775808 ≤ a) (h1 : a ≤ 9223372036854775807) : KeysIndex n s sym a = some true := by
  unfold KeysIndex KeysIndex.k
  rw [alive3]
  by_cases hl : (s.length : Int) > 100
  · simp (disch := omega) only [ite_t, ite_f, dec_t, dec_f, beq_t, beq_f, bne_t, bne_f, nbeq_t, nbeq_f, nble_t, nble_f, cond_true, cond_false, Bool.not_true, Bool.not_false, Bool.and_true, Bool.true_and, Bool.and_self, room_t, w64, w32, wu8, wu8', wu16, wu32, fdiv_pos, and63i, and1023i, and31i, and15i, and7i, and192i, or64w, or32w, or16w, or4096w, or64r, or64b, or32b, or16b, optK_some, optK_none, toNat_ofNat, append_eq, List.length_cons, List.length_nil, List.length_append, List.length_map, reduceIte, toNat_s, cell_one, isI_u16, isI_i64, getI_n]
  · rw [idx_eq (by omega), ridx_eq (by omega) sym hn]
    by_cases ha : a < 0
    · simp (disch := omega) only [ite_t, ite_f, dec_t, dec_f, beq_t, beq_f, bne_t, bne_f, nbeq_t, nbeq_f, nble_t, nble_f, cond_true, cond_false, Bool.not_true, Bool.not_false, Bool.and_true, Bool.true_and, Bool.and_self, room_t, w64, w32, wu8, wu8', wu16, wu32, fdiv_pos, and63i, and1023i, and31i, and15i, and7i, and192i, or64w, or32w, or16w, or4096w, or64r, or64b, or32b, or16b, optK_some, optK_none, toNat_ofNat, append_eq, List.length_cons, List.length_nil, List.length_append, List.length_map, reduceIte, toNat_s, cell_one, isI_u16, isI_i64, getI_n, beq_self_eq_true] <;> rfl
    · have hi := itoa_len h0 h1
      rw [dec_eq h0 h1 hn, optK_some, optK_some, optK_some]
      simp only [optK_some]
      rw [idx_eq (by omega)]
      have key : idxS (itoa a) 0 = if a ≤ 4294967294 then (a, true) else (0, false) := by
        unfold idxS
        by_cases hs : isSafe a = true
        · rw [read_itoa hs]
          by_cases h4 : a ≤ 4294967294
          · rw [if_pos h4, if_pos (by simp; omega)]
          · rw [if_neg h4, if_neg (by simp; omega)]
        · have hs' : isSafe a = false := by simpa using hs
          rw [read_not h0 h1 hs']
          have : ¬ a ≤ 4294967294 := fun h => hs (by simp only [isSafe, Bool.and_eq_true, decide_eq_true_eq]; omega)
          rw [if_neg this, if_neg (by simp)]
      by_cases h4 : a ≤ 4294967294
      · simp (disch := omega) only [ite_t, ite_f, dec_t, dec_f, beq_t, beq_f, bne_t, bne_f, nbeq_t, nbeq_f, nble_t, nble_f, cond_true, cond_false, Bool.not_true, Bool.not_false, Bool.and_true, Bool.true_and, Bool.and_self, room_t, w64, w32, wu8, wu8', wu16, wu32, fdiv_pos, and63i, and1023i, and31i, and15i, and7i, and192i, or64w, or32w, or16w, or4096w, or64r, or64b, or32b, or16b, optK_some, optK_none, toNat_ofNat, append_eq, List.length_cons, List.length_nil, List.length_append, List.length_map, reduceIte, toNat_s, cell_one, isI_u16, isI_i64, getI_n, key, beq_self_eq_true] <;> rfl
      · simp (disch := omega) only [ite_t, ite_f, dec_t, dec_f, beq_t, beq_f, bne_t, bne_f, nbeq_t, nbeq_f, nble_t, nble_f, cond_true, cond_false, Bool.not_true, Bool.not_false, Bool.and_true, Bool.true_and, Bool.and_self, room_t, w64, w32, wu8, wu8', wu16, wu32, fdiv_pos, and63i, and1023i, and31i, and15i, and7i, and192i, or64w, or32w, or16w, or4096w, or64r, or64b, or32b, or16b, optK_some, optK_none, toNat_ofNat, append_eq, List.length_cons, List.length_nil, List.length_append, List.length_map, reduceIte, toNat_s, cell_one, isI_u16, isI_i64, getI_n, key, beq_self_eq_true] <;> rfl
theorem ArraysLength_true (k m : Int) (s : List UInt8) : ArraysLength k m s = some true := by
  have e : arrays_Length k m s = ref1_Length k m s := rfl
  unfold ArraysLength ArraysLength.k
  obtain ⟨x, hx⟩ : ∃ x, ref1_Length k m s = some x := by
    unfold ref1_Length ref1_Length.k
    by_cases h1 : k = 3
    · by_cases h2 : m < 0
      · simp (disch := omega) only [ite_t, ite_f, dec_t, dec_f, beq_t, beq_f, bne_t, bne_f, nbeq_t, nbeq_f, nble_t, nble_f, cond_true, cond_false, Bool.not_true, Bool.not_false, Bool.and_true, Bool.true_and, Bool.and_self, room_t, w64, w32, wu8, wu8', wu16, wu32, fdiv_pos, and63i, and1023i, and31i, and15i, and7i, and192i, or64w, or32w, or16w, or4096w, or64r, or64b, or32b, or16b, optK_some, optK_none, toNat_ofNat, append_eq, List.length_cons, List.length_nil, List.length_append, List.length_map, reduceIte, toNat_s, cell_one, isI_u16, isI_i64, getI_n] <;> exact ⟨_, rfl⟩
      · by_cases h3 : m > 4294967295
        · simp (disch := omega) only [ite_t, ite_f, dec_t, dec_f, beq_t, beq_f, bne_t, bne_f, nbeq_t, nbeq_f, nble_t, nble_f, cond_true, cond_false, Bool.not_true, Bool.not_false, Bool.and_true, Bool.true_and, Bool.and_self, room_t, w64, w32, wu8, wu8', wu16, wu32, fdiv_pos, and63i, and1023i, and31i, and15i, and7i, and192i, or64w, or32w, or16w, or4096w, or64r, or64b, or32b, or16b, optK_some, optK_none, toNat_ofNat, append_eq, List.length_cons, List.length_nil, List.length_append, List.length_map, reduceIte, toNat_s, cell_one, isI_u16, isI_i64, getI_n] <;> exact ⟨_, rfl⟩
        · simp (disch := omega) only [ite_t, ite_f, dec_t, dec_f, beq_t, beq_f, bne_t, bne_f, nbeq_t, nbeq_f, nble_t, nble_f, cond_true, cond_false, Bool.not_true, Bool.not_false, Bool.and_true, Bool.true_and, Bool.and_self, room_t, w64, w32, wu8, wu8', wu16, wu32, fdiv_pos, and63i, and1023i, and31i, and15i, and7i, and192i, or64w, or32w, or16w, or4096w, or64r, or64b, or32b, or16b, optK_some, optK_none, toNat_ofNat, append_eq, List.length_cons, List.length_nil, List.length_append, List.length_map, reduceIte, toNat_s, cell_one, isI_u16, isI_i64, getI_n] <;> exact ⟨_, rfl⟩
    · simp (disch := omega) only [ite_t, ite_f, dec_t, dec_f, beq_t, beq_f, bne_t, bne_f, nbeq_t, nbeq_f, nble_t, nble_f, cond_true, cond_false, Bool.not_true, Bool.not_false, Bool.and_true, Bool.true_and, Bool.and_self, room_t, w64, w32, wu8, wu8', wu16, wu32, fdiv_pos, and63i, and1023i, and31i, and15i, and7i, and192i, or64w, or32w, or16w, or4096w, or64r, or64b, or32b, or16b, optK_some, optK_none, toNat_ofNat, append_eq, List.length_cons, List.length_nil, List.length_append, List.length_map, reduceIte, toNat_s, cell_one, isI_u16, isI_i64, getI_n] <;> exact ⟨_, rfl⟩
  rw [e, hx]
  simp only [optK_some, beq_self_eq_true, cond_true]
end Go.Proofs.YtjlhnnphfdjmdaaDoor.C
