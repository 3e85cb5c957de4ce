/- What the functions of the first layers compute. -/
import Derived.Test.YtjlhnnphfdjmdaaDoorEAF0
import Derived.Test.YtjlhnnphfdjmdaaDoorEA3
namespace Go.Proofs.YtjlhnnphfdjmdaaDoor.L0
open Go.Abs Go.Uni Go.Plain Go.Deci
open Go.Lib (itoa decDigits atoiAll)
set_option maxRecDepth 2000000
set_option maxHeartbeats 20000000
set_option linter.unusedVariables false
set_option linter.unusedSimpArgs false
theorem halfAt_eq (s : List UInt8) : units_halfAt s = some (halfV s, halfB s) := by
  unfold units_halfAt units_halfAt.k
  rcases Nat.lt_or_ge s.length 3 with h3 | h3
  · simp (disch := omega) only [ite_t, ite_f, dec_t, dec_f, beq_t, beq_f, bne_t, bne_f, nbeq_t, nbeq_f, nble_t, nble_f, cond_true, cond_false, Bool.not_true, Bool.not_false, Bool.and_true, Bool.true_and, Bool.and_self, room_t, w64, w32, wu8, wu8', wu16, wu32, fdiv_pos, and63i, and1023i, and31i, and15i, and7i, and192i, or64w, or32w, or16w, or4096w, or64r, or64b, or32b, or16b, optK_some, optK_none, toNat_ofNat, append_eq, List.length_cons, List.length_nil, List.length_append, List.length_map, reduceIte, toNat_s, cell_one, isI_u16, isI_i64, getI_n, halfB_short h3, halfV]
  · match s, h3 with
    | a :: b :: c :: r, _ =>
      have ha := b_lt a
      have hb := b_lt b
      have hc := b_lt c
      have e0 : byteAt (a :: b :: c :: r) 0 = (a.toNat : Int) := rfl
      have e1 : byteAt (a :: b :: c :: r) 1 = (b.toNat : Int) := rfl
      have e2 : byteAt (a :: b :: c :: r) 2 = (c.toNat : Int) := rfl
      have hn : ∀ (h : ¬ (a.toNat = 237 ∧ 160 ≤ b.toNat ∧ b.toNat ≤ 191 ∧ 128 ≤ c.toNat ∧ c.toNat ≤ 191)), halfB (a :: b :: c :: r) = false := fun h => by
        cases e : halfB (a :: b :: c :: r) with
        | false => rfl
        | true => exact absurd (halfB_237 e) h
      rw [e0, e1, e2]
      by_cases h1 : a.toNat = 237
      · by_cases h2 : 160 ≤ b.toNat
        · by_cases h4 : b.toNat ≤ 191
          · by_cases h5 : 128 ≤ c.toNat ∧ c.toNat ≤ 191
            · have e := half_of (r := r) h1 h2 h4 h5.1 h5.2
              have hB : halfB (a :: b :: c :: r) = true := by simp [halfB, e, isHalf]; omega
              simp (disch := omega) only [ite_t, ite_f, dec_t, dec_f, beq_t, beq_f, bne_t, bne_f, nbeq_t, nbeq_f, nble_t, nble_f, cond_true, cond_false, Bool.not_true, Bool.not_false, Bool.and_true, Bool.true_and, Bool.and_self, room_t, w64, w32, wu8, wu8', wu16, wu32, fdiv_pos, and63i, and1023i, and31i, and15i, and7i, and192i, or64w, or32w, or16w, or4096w, or64r, or64b, or32b, or16b, optK_some, optK_none, toNat_ofNat, append_eq, List.length_cons, List.length_nil, List.length_append, List.length_map, reduceIte, toNat_s, cell_one, isI_u16, isI_i64, getI_n, halfV, hB, e]
              congr 2 <;> omega
            · simp (disch := omega) only [ite_t, ite_f, dec_t, dec_f, beq_t, beq_f, bne_t, bne_f, nbeq_t, nbeq_f, nble_t, nble_f, cond_true, cond_false, Bool.not_true, Bool.not_false, Bool.and_true, Bool.true_and, Bool.and_self, room_t, w64, w32, wu8, wu8', wu16, wu32, fdiv_pos, and63i, and1023i, and31i, and15i, and7i, and192i, or64w, or32w, or16w, or4096w, or64r, or64b, or32b, or16b, optK_some, optK_none, toNat_ofNat, append_eq, List.length_cons, List.length_nil, List.length_append, List.length_map, reduceIte, toNat_s, cell_one, isI_u16, isI_i64, getI_n, halfV, hn (by omega)]
          · simp (disch := omega) only [ite_t, ite_f, dec_t, dec_f, beq_t, beq_f, bne_t, bne_f, nbeq_t, nbeq_f, nble_t, nble_f, cond_true, cond_false, Bool.not_true, Bool.not_false, Bool.and_true, Bool.true_and, Bool.and_self, room_t, w64, w32, wu8, wu8', wu16, wu32, fdiv_pos, and63i, and1023i, and31i, and15i, and7i, and192i, or64w, or32w, or16w, or4096w, or64r, or64b, or32b, or16b, optK_some, optK_none, toNat_ofNat, append_eq, List.length_cons, List.length_nil, List.length_append, List.length_map, reduceIte, toNat_s, cell_one, isI_u16, isI_i64, getI_n, halfV, hn (by omega)]
        · simp (disch := omega) only [ite_t, ite_f, dec_t, dec_f, beq_t, beq_f, bne_t, bne_f, nbeq_t, nbeq_f, nble_t, nble_f, cond_true, cond_false, Bool.not_true, Bool.not_false, Bool.and_true, Bool.true_and, Bool.and_self, room_t, w64, w32, wu8, wu8', wu16, wu32, fdiv_pos, and63i, and1023i, and31i, and15i, and7i, and192i, or64w, or32w, or16w, or4096w, or64r, or64b, or32b, or16b, optK_some, optK_none, toNat_ofNat, append_eq, List.length_cons, List.length_nil, List.length_append, List.length_map, reduceIte, toNat_s, cell_one, isI_u16, isI_i64, getI_n, halfV, hn (by omega)]
      · simp (disch := omega) only [ite_t, ite_f, dec_t, dec_f, beq_t, beq_f, bne_t, bne_f, nbeq_t, nbeq_f, nble_t, nble_f, cond_true, cond_false, Bool.not_true, Bool.not_false, Bool.and_true, Bool.true_and, Bool.and_self, room_t, w64, w32, wu8, wu8', wu16, wu32, fdiv_pos, and63i, and1023i, and31i, and15i, and7i, and192i, or64w, or32w, or16w, or4096w, or64r, or64b, or32b, or16b, optK_some, optK_none, toNat_ofNat, append_eq, List.length_cons, List.length_nil, List.length_append, List.length_map, reduceIte, toNat_s, cell_one, isI_u16, isI_i64, getI_n, halfV, hn (by omega)]
theorem ofOne_eq {c : Nat} (hc : c ≤ 1114111) (o : List Nat) (ho : o.length ≤ 20000000) : units_ofOne (c : Int) (o.map unit) = some ((o ++ u16 c).map unit) := by
  unfold units_ofOne units_ofOne.k
  rw [List.map_append]
  by_cases h : c < 65536
  · simp (disch := omega) only [ite_t, ite_f, dec_t, dec_f, beq_t, beq_f, bne_t, bne_f, nbeq_t, nbeq_f, nble_t, nble_f, cond_true, cond_false, Bool.not_true, Bool.not_false, Bool.and_true, Bool.true_and, Bool.and_self, room_t, w64, w32, wu8, wu8', wu16, wu32, fdiv_pos, and63i, and1023i, and31i, and15i, and7i, and192i, or64w, or32w, or16w, or4096w, or64r, or64b, or32b, or16b, optK_some, optK_none, toNat_ofNat, append_eq, List.length_cons, List.length_nil, List.length_append, List.length_map, reduceIte, toNat_s, cell_one, isI_u16, isI_i64, getI_n, u16, List.map_cons, List.map_nil, unit]
  · simp (disch := omega) only [ite_t, ite_f, dec_t, dec_f, beq_t, beq_f, bne_t, bne_f, nbeq_t, nbeq_f, nble_t, nble_f, cond_true, cond_false, Bool.not_true, Bool.not_false, Bool.and_true, Bool.true_and, Bool.and_self, room_t, w64, w32, wu8, wu8', wu16, wu32, fdiv_pos, and63i, and1023i, and31i, and15i, and7i, and192i, or64w, or32w, or16w, or4096w, or64r, or64b, or32b, or16b, optK_some, optK_none, toNat_ofNat, append_eq, List.length_cons, List.length_nil, List.length_append, List.length_map, reduceIte, toNat_s, cell_one, isI_u16, isI_i64, getI_n, u16, List.map_cons, List.map_nil, unit]
    congr 6 <;> omega
theorem app_eq {c : Nat} (h1 : 128 ≤ c) (h : c ≤ 1114111) (hh : isHalf c = false) (o : List UInt8) (ho : o.length ≤ 20000000) : utf8_app (o.map byte) (c : Int) = some ((o ++ enc c).map byte) := by
  unfold utf8_app utf8_app.k
  rw [List.map_append]
  simp only [isHalf, Bool.and_eq_false_iff, decide_eq_false_iff_not] at hh
  by_cases a : c < 2048
  · simp (disch := omega) only [ite_t, ite_f, dec_t, dec_f, beq_t, beq_f, bne_t, bne_f, nbeq_t, nbeq_f, nble_t, nble_f, cond_true, cond_false, Bool.not_true, Bool.not_false, Bool.and_true, Bool.true_and, Bool.and_self, room_t, w64, w32, wu8, wu8', wu16, wu32, fdiv_pos, and63i, and1023i, and31i, and15i, and7i, and192i, or64w, or32w, or16w, or4096w, or64r, or64b, or32b, or16b, optK_some, optK_none, toNat_ofNat, append_eq, List.length_cons, List.length_nil, List.length_append, List.length_map, reduceIte, toNat_s, cell_one, isI_u16, isI_i64, getI_n, enc, List.map_cons, List.map_nil, byte, ob_toNat]
    simp only [Option.some.injEq, List.append_cancel_left_eq, List.cons.injEq, AVal.int.injEq, true_and, and_true]; omega
  · by_cases d : c < 65536
    · by_cases e : c < 55296
      · simp (disch := omega) only [ite_t, ite_f, dec_t, dec_f, beq_t, beq_f, bne_t, bne_f, nbeq_t, nbeq_f, nble_t, nble_f, cond_true, cond_false, Bool.not_true, Bool.not_false, Bool.and_true, Bool.true_and, Bool.and_self, room_t, w64, w32, wu8, wu8', wu16, wu32, fdiv_pos, and63i, and1023i, and31i, and15i, and7i, and192i, or64w, or32w, or16w, or4096w, or64r, or64b, or32b, or16b, optK_some, optK_none, toNat_ofNat, append_eq, List.length_cons, List.length_nil, List.length_append, List.length_map, reduceIte, toNat_s, cell_one, isI_u16, isI_i64, getI_n, enc, List.map_cons, List.map_nil, byte, ob_toNat]
        simp only [Option.some.injEq, List.append_cancel_left_eq, List.cons.injEq, AVal.int.injEq, true_and, and_true]; omega
      · simp (disch := omega) only [ite_t, ite_f, dec_t, dec_f, beq_t, beq_f, bne_t, bne_f, nbeq_t, nbeq_f, nble_t, nble_f, cond_true, cond_false, Bool.not_true, Bool.not_false, Bool.and_true, Bool.true_and, Bool.and_self, room_t, w64, w32, wu8, wu8', wu16, wu32, fdiv_pos, and63i, and1023i, and31i, and15i, and7i, and192i, or64w, or32w, or16w, or4096w, or64r, or64b, or32b, or16b, optK_some, optK_none, toNat_ofNat, append_eq, List.length_cons, List.length_nil, List.length_append, List.length_map, reduceIte, toNat_s, cell_one, isI_u16, isI_i64, getI_n, enc, List.map_cons, List.map_nil, byte, ob_toNat]
        simp only [Option.some.injEq, List.append_cancel_left_eq, List.cons.injEq, AVal.int.injEq, true_and, and_true]; omega
    · simp (disch := omega) only [ite_t, ite_f, dec_t, dec_f, beq_t, beq_f, bne_t, bne_f, nbeq_t, nbeq_f, nble_t, nble_f, cond_true, cond_false, Bool.not_true, Bool.not_false, Bool.and_true, Bool.true_and, Bool.and_self, room_t, w64, w32, wu8, wu8', wu16, wu32, fdiv_pos, and63i, and1023i, and31i, and15i, and7i, and192i, or64w, or32w, or16w, or4096w, or64r, or64b, or32b, or16b, optK_some, optK_none, toNat_ofNat, append_eq, List.length_cons, List.length_nil, List.length_append, List.length_map, reduceIte, toNat_s, cell_one, isI_u16, isI_i64, getI_n, enc, List.map_cons, List.map_nil, byte, ob_toNat]
      simp only [Option.some.injEq, List.append_cancel_left_eq, List.cons.injEq, AVal.int.injEq, true_and, and_true]; omega
theorem App_eq {c : Nat} (h : c ≤ 1114111) (hh : isHalf c = false) (o : List UInt8) (ho : o.length ≤ 20000000) : utf8_App (o.map byte) (c : Int) = some ((o ++ enc c).map byte) := by
  unfold utf8_App utf8_App.k
  by_cases a : c < 128
  · simp (disch := omega) only [ite_t, ite_f, dec_t, dec_f, beq_t, beq_f, bne_t, bne_f, nbeq_t, nbeq_f, nble_t, nble_f, cond_true, cond_false, Bool.not_true, Bool.not_false, Bool.and_true, Bool.true_and, Bool.and_self, room_t, w64, w32, wu8, wu8', wu16, wu32, fdiv_pos, and63i, and1023i, and31i, and15i, and7i, and192i, or64w, or32w, or16w, or4096w, or64r, or64b, or32b, or16b, optK_some, optK_none, toNat_ofNat, append_eq, List.length_cons, List.length_nil, List.length_append, List.length_map, reduceIte, toNat_s, cell_one, isI_u16, isI_i64, getI_n, enc, List.map_append, List.map_cons, List.map_nil, byte, ob_toNat]
  · simp (disch := omega) only [ite_t, ite_f, dec_t, dec_f, beq_t, beq_f, bne_t, bne_f, nbeq_t, nbeq_f, nble_t, nble_f, cond_true, cond_false, Bool.not_true, Bool.not_false, Bool.and_true, Bool.true_and, Bool.and_self, room_t, w64, w32, wu8, wu8', wu16, wu32, fdiv_pos, and63i, and1023i, and31i, and15i, and7i, and192i, or64w, or32w, or16w, or4096w, or64r, or64b, or32b, or16b, optK_some, optK_none, toNat_ofNat, append_eq, List.length_cons, List.length_nil, List.length_append, List.length_map, reduceIte, toNat_s, cell_one, isI_u16, isI_i64, getI_n, app_eq (show 128 ≤ c by omega) h hh o ho]
theorem put_eq {c : Nat} (h : c ≤ 1114111) (o : List UInt8) (ho : o.length ≤ 20000000) : units_put (o.map byte) (c : Int) = some ((o ++ enc c).map byte) := by
  unfold units_put units_put.k
  by_cases a : 55296 ≤ c
  · by_cases d : c < 57344
    · simp (disch := omega) only [ite_t, ite_f, dec_t, dec_f, beq_t, beq_f, bne_t, bne_f, nbeq_t, nbeq_f, nble_t, nble_f, cond_true, cond_false, Bool.not_true, Bool.not_false, Bool.and_true, Bool.true_and, Bool.and_self, room_t, w64, w32, wu8, wu8', wu16, wu32, fdiv_pos, and63i, and1023i, and31i, and15i, and7i, and192i, or64w, or32w, or16w, or4096w, or64r, or64b, or32b, or16b, optK_some, optK_none, toNat_ofNat, append_eq, List.length_cons, List.length_nil, List.length_append, List.length_map, reduceIte, toNat_s, cell_one, isI_u16, isI_i64, getI_n, enc, List.map_append, List.map_cons, List.map_nil, byte, ob_toNat]
      simp only [Option.some.injEq, List.append_cancel_left_eq, List.cons.injEq, AVal.int.injEq, true_and, and_true]; omega
    · simp (disch := omega) only [ite_t, ite_f, dec_t, dec_f, beq_t, beq_f, bne_t, bne_f, nbeq_t, nbeq_f, nble_t, nble_f, cond_true, cond_false, Bool.not_true, Bool.not_false, Bool.and_true, Bool.true_and, Bool.and_self, room_t, w64, w32, wu8, wu8', wu16, wu32, fdiv_pos, and63i, and1023i, and31i, and15i, and7i, and192i, or64w, or32w, or16w, or4096w, or64r, or64b, or32b, or16b, optK_some, optK_none, toNat_ofNat, append_eq, List.length_cons, List.length_nil, List.length_append, List.length_map, reduceIte, toNat_s, cell_one, isI_u16, isI_i64, getI_n, App_eq h (show isHalf c = false by simp [isHalf]; omega) o ho]
  · simp (disch := omega) only [ite_t, ite_f, dec_t, dec_f, beq_t, beq_f, bne_t, bne_f, nbeq_t, nbeq_f, nble_t, nble_f, cond_true, cond_false, Bool.not_true, Bool.not_false, Bool.and_true, Bool.true_and, Bool.and_self, room_t, w64, w32, wu8, wu8', wu16, wu32, fdiv_pos, and63i, and1023i, and31i, and15i, and7i, and192i, or64w, or32w, or16w, or4096w, or64r, or64b, or32b, or16b, optK_some, optK_none, toNat_ofNat, append_eq, List.length_cons, List.length_nil, List.length_append, List.length_map, reduceIte, toNat_s, cell_one, isI_u16, isI_i64, getI_n, App_eq h (show isHalf c = false by simp [isHalf]; omega) o ho]
theorem headCp_one {u : List Nat} {i : Nat} (hi : i < u.length) (h : ∀ (h1 : i + 1 < u.length), ¬ (isLead u[i] = true ∧ isLow u[i + 1] = true)) : headCp (u.drop i) = (u[i], 1) := by
  rw [drop_at u i hi]
  rcases Nat.lt_or_ge (i + 1) u.length with h1 | h1
  · rw [drop_at u (i + 1) h1, headCp, if_neg]
    simpa using h h1
  · rw [List.drop_eq_nil_of_le h1]; rfl
theorem headCp_two {u : List Nat} {i : Nat} (hi : i + 1 < u.length) (h : isLead u[i] = true ∧ isLow u[i + 1] = true) : headCp (u.drop i) = (65536 + (u[i] - 55296) * 1024 + (u[i + 1] - 56320), 2) := by
  rw [drop_at u i (by omega), drop_at u (i + 1) hi, headCp, if_pos]
  simpa using h
theorem text_round {u : List Nat} (hu : ∀ x ∈ u, x < 65536) (hl : u.length ≤ 2000000) {i : Nat} (hi : i < u.length) (n j : Nat) (w : List UInt8) (b : List UInt8) (hb : b.length ≤ 20000000) :
    units_Text.l0 n (u.map unit) w (j + 1) (b.map byte) (i : Int) = units_Text.l0 n (u.map unit) w j ((b ++ enc (headCp (u.drop i)).1).map byte) ((i + (headCp (u.drop i)).2 : Nat) : Int) := by
  have hx := hu u[i] (List.getElem_mem hi)
  rw [units_Text.l0.succ, units_Text.l0.s]
  by_cases h3 : i + 1 < u.length
  · have hy := hu u[i + 1] (List.getElem_mem h3)
    by_cases h1 : 55296 ≤ u[i]
    · by_cases h2 : u[i] < 56320
      · by_cases h4 : 56320 ≤ u[i + 1]
        · by_cases h5 : u[i + 1] < 57344
          · have e : (65536 + ((u[i] : Int) - 55296) * 1024 + (u[i + 1] : Int) - 56320) = ((65536 + (u[i] - 55296) * 1024 + (u[i + 1] - 56320) : Nat) : Int) := by omega
            rw [headCp_two h3 (by simp [isLead, isLow]; omega)]
            simp (disch := omega) only [ite_t, ite_f, dec_t, dec_f, beq_t, beq_f, bne_t, bne_f, nbeq_t, nbeq_f, nble_t, nble_f, cond_true, cond_false, Bool.not_true, Bool.not_false, Bool.and_true, Bool.true_and, Bool.and_self, room_t, w64, w32, wu8, wu8', wu16, wu32, fdiv_pos, and63i, and1023i, and31i, and15i, and7i, and192i, or64w, or32w, or16w, or4096w, or64r, or64b, or32b, or16b, optK_some, optK_none, toNat_ofNat, append_eq, List.length_cons, List.length_nil, List.length_append, List.length_map, reduceIte, toNat_s, cell_one, isI_u16, isI_i64, getI_n, nth_map, unit, e, put_eq (show 65536 + (u[i] - 55296) * 1024 + (u[i + 1] - 56320) ≤ 1114111 by omega) b hb]
            rfl
          · rw [headCp_one hi (by simp [isLead, isLow]; omega)]
            simp (disch := omega) only [ite_t, ite_f, dec_t, dec_f, beq_t, beq_f, bne_t, bne_f, nbeq_t, nbeq_f, nble_t, nble_f, cond_true, cond_false, Bool.not_true, Bool.not_false, Bool.and_true, Bool.true_and, Bool.and_self, room_t, w64, w32, wu8, wu8', wu16, wu32, fdiv_pos, and63i, and1023i, and31i, and15i, and7i, and192i, or64w, or32w, or16w, or4096w, or64r, or64b, or32b, or16b, optK_some, optK_none, toNat_ofNat, append_eq, List.length_cons, List.length_nil, List.length_append, List.length_map, reduceIte, toNat_s, cell_one, isI_u16, isI_i64, getI_n, nth_map, unit, put_eq (show u[i] ≤ 1114111 by omega) b hb]
            rfl
        · rw [headCp_one hi (by simp [isLead, isLow]; omega)]
          simp (disch := omega) only [ite_t, ite_f, dec_t, dec_f, beq_t, beq_f, bne_t, bne_f, nbeq_t, nbeq_f, nble_t, nble_f, cond_true, cond_false, Bool.not_true, Bool.not_false, Bool.and_true, Bool.true_and, Bool.and_self, room_t, w64, w32, wu8, wu8', wu16, wu32, fdiv_pos, and63i, and1023i, and31i, and15i, and7i, and192i, or64w, or32w, or16w, or4096w, or64r, or64b, or32b, or16b, optK_some, optK_none, toNat_ofNat, append_eq, List.length_cons, List.length_nil, List.length_append, List.length_map, reduceIte, toNat_s, cell_one, isI_u16, isI_i64, getI_n, nth_map, unit, put_eq (show u[i] ≤ 1114111 by omega) b hb]
          rfl
      · rw [headCp_one hi (by simp [isLead, isLow]; omega)]
        by_cases h4 : 56320 ≤ u[i + 1]
        · by_cases h5 : u[i + 1] < 57344
          · simp (disch := omega) only [ite_t, ite_f, dec_t, dec_f, beq_t, beq_f, bne_t, bne_f, nbeq_t, nbeq_f, nble_t, nble_f, cond_true, cond_false, Bool.not_true, Bool.not_false, Bool.and_true, Bool.true_and, Bool.and_self, room_t, w64, w32, wu8, wu8', wu16, wu32, fdiv_pos, and63i, and1023i, and31i, and15i, and7i, and192i, or64w, or32w, or16w, or4096w, or64r, or64b, or32b, or16b, optK_some, optK_none, toNat_ofNat, append_eq, List.length_cons, List.length_nil, List.length_append, List.length_map, reduceIte, toNat_s, cell_one, isI_u16, isI_i64, getI_n, nth_map, unit, put_eq (show u[i] ≤ 1114111 by omega) b hb]
            rfl
          · simp (disch := omega) only [ite_t, ite_f, dec_t, dec_f, beq_t, beq_f, bne_t, bne_f, nbeq_t, nbeq_f, nble_t, nble_f, cond_true, cond_false, Bool.not_true, Bool.not_false, Bool.and_true, Bool.true_and, Bool.and_self, room_t, w64, w32, wu8, wu8', wu16, wu32, fdiv_pos, and63i, and1023i, and31i, and15i, and7i, and192i, or64w, or32w, or16w, or4096w, or64r, or64b, or32b, or16b, optK_some, optK_none, toNat_ofNat, append_eq, List.length_cons, List.length_nil, List.length_append, List.length_map, reduceIte, toNat_s, cell_one, isI_u16, isI_i64, getI_n, nth_map, unit, put_eq (show u[i] ≤ 1114111 by omega) b hb]
            rfl
        · simp (disch := omega) only [ite_t, ite_f, dec_t, dec_f, beq_t, beq_f, bne_t, bne_f, nbeq_t, nbeq_f, nble_t, nble_f, cond_true, cond_false, Bool.not_true, Bool.not_false, Bool.and_true, Bool.true_and, Bool.and_self, room_t, w64, w32, wu8, wu8', wu16, wu32, fdiv_pos, and63i, and1023i, and31i, and15i, and7i, and192i, or64w, or32w, or16w, or4096w, or64r, or64b, or32b, or16b, optK_some, optK_none, toNat_ofNat, append_eq, List.length_cons, List.length_nil, List.length_append, List.length_map, reduceIte, toNat_s, cell_one, isI_u16, isI_i64, getI_n, nth_map, unit, put_eq (show u[i] ≤ 1114111 by omega) b hb]
          rfl
    · rw [headCp_one hi (by simp [isLead, isLow]; omega)]
      by_cases h4 : 56320 ≤ u[i + 1]
      · by_cases h5 : u[i + 1] < 57344
        · simp (disch := omega) only [ite_t, ite_f, dec_t, dec_f, beq_t, beq_f, bne_t, bne_f, nbeq_t, nbeq_f, nble_t, nble_f, cond_true, cond_false, Bool.not_true, Bool.not_false, Bool.and_true, Bool.true_and, Bool.and_self, room_t, w64, w32, wu8, wu8', wu16, wu32, fdiv_pos, and63i, and1023i, and31i, and15i, and7i, and192i, or64w, or32w, or16w, or4096w, or64r, or64b, or32b, or16b, optK_some, optK_none, toNat_ofNat, append_eq, List.length_cons, List.length_nil, List.length_append, List.length_map, reduceIte, toNat_s, cell_one, isI_u16, isI_i64, getI_n, nth_map, unit, put_eq (show u[i] ≤ 1114111 by omega) b hb]
          rfl
        · simp (disch := omega) only [ite_t, ite_f, dec_t, dec_f, beq_t, beq_f, bne_t, bne_f, nbeq_t, nbeq_f, nble_t, nble_f, cond_true, cond_false, Bool.not_true, Bool.not_false, Bool.and_true, Bool.true_and, Bool.and_self, room_t, w64, w32, wu8, wu8', wu16, wu32, fdiv_pos, and63i, and1023i, and31i, and15i, and7i, and192i, or64w, or32w, or16w, or4096w, or64r, or64b, or32b, or16b, optK_some, optK_none, toNat_ofNat, append_eq, List.length_cons, List.length_nil, List.length_append, List.length_map, reduceIte, toNat_s, cell_one, isI_u16, isI_i64, getI_n, nth_map, unit, put_eq (show u[i] ≤ 1114111 by omega) b hb]
          rfl
      · simp (disch := omega) only [ite_t, ite_f, dec_t, dec_f, beq_t, beq_f, bne_t, bne_f, nbeq_t, nbeq_f, nble_t, nble_f, cond_true, cond_false, Bool.not_true, Bool.not_false, Bool.and_true, Bool.true_and, Bool.and_self, room_t, w64, w32, wu8, wu8', wu16, wu32, fdiv_pos, and63i, and1023i, and31i, and15i, and7i, and192i, or64w, or32w, or16w, or4096w, or64r, or64b, or32b, or16b, optK_some, optK_none, toNat_ofNat, append_eq, List.length_cons, List.length_nil, List.length_append, List.length_map, reduceIte, toNat_s, cell_one, isI_u16, isI_i64, getI_n, nth_map, unit, put_eq (show u[i] ≤ 1114111 by omega) b hb]
        rfl
  · rw [headCp_one hi (by omega)]
    by_cases h1 : 55296 ≤ u[i]
    · by_cases h2 : u[i] < 56320
      · simp (disch := omega) only [ite_t, ite_f, dec_t, dec_f, beq_t, beq_f, bne_t, bne_f, nbeq_t, nbeq_f, nble_t, nble_f, cond_true, cond_false, Bool.not_true, Bool.not_false, Bool.and_true, Bool.true_and, Bool.and_self, room_t, w64, w32, wu8, wu8', wu16, wu32, fdiv_pos, and63i, and1023i, and31i, and15i, and7i, and192i, or64w, or32w, or16w, or4096w, or64r, or64b, or32b, or16b, optK_some, optK_none, toNat_ofNat, append_eq, List.length_cons, List.length_nil, List.length_append, List.length_map, reduceIte, toNat_s, cell_one, isI_u16, isI_i64, getI_n, nth_map, unit, put_eq (show u[i] ≤ 1114111 by omega) b hb]
        rfl
      · simp (disch := omega) only [ite_t, ite_f, dec_t, dec_f, beq_t, beq_f, bne_t, bne_f, nbeq_t, nbeq_f, nble_t, nble_f, cond_true, cond_false, Bool.not_true, Bool.not_false, Bool.and_true, Bool.true_and, Bool.and_self, room_t, w64, w32, wu8, wu8', wu16, wu32, fdiv_pos, and63i, and1023i, and31i, and15i, and7i, and192i, or64w, or32w, or16w, or4096w, or64r, or64b, or32b, or16b, optK_some, optK_none, toNat_ofNat, append_eq, List.length_cons, List.length_nil, List.length_append, List.length_map, reduceIte, toNat_s, cell_one, isI_u16, isI_i64, getI_n, nth_map, unit, put_eq (show u[i] ≤ 1114111 by omega) b hb]
        rfl
    · simp (disch := omega) only [ite_t, ite_f, dec_t, dec_f, beq_t, beq_f, bne_t, bne_f, nbeq_t, nbeq_f, nble_t, nble_f, cond_true, cond_false, Bool.not_true, Bool.not_false, Bool.and_true, Bool.true_and, Bool.and_self, room_t, w64, w32, wu8, wu8', wu16, wu32, fdiv_pos, and63i, and1023i, and31i, and15i, and7i, and192i, or64w, or32w, or16w, or4096w, or64r, or64b, or32b, or16b, optK_some, optK_none, toNat_ofNat, append_eq, List.length_cons, List.length_nil, List.length_append, List.length_map, reduceIte, toNat_s, cell_one, isI_u16, isI_i64, getI_n, nth_map, unit, put_eq (show u[i] ≤ 1114111 by omega) b hb]
      rfl
theorem text_loop {u : List Nat} (hu : ∀ x ∈ u, x < 65536) (hl : u.length ≤ 2000000) (n : Nat) (w : List UInt8) : ∀ (d i j : Nat) (b : List UInt8), u.length - i = d → i ≤ u.length → d < j → b.length ≤ 4 * i →
    ∃ k, units_Text.l0 n (u.map unit) w j (b.map byte) (i : Int) = some ((b ++ textOf (u.drop i)).map byte, k) := by
  intro d
  induction d using Nat.strongRecOn with
  | ind d ih =>
    intro i j b hn hp hj hb
    obtain ⟨j, rfl⟩ : ∃ i, j = i + 1 := ⟨j - 1, by omega⟩
    rcases Nat.lt_or_ge i u.length with hlt | hge
    · have hne : u.drop i ≠ [] := by simp; exact hlt
      obtain ⟨a1, a2, a3⟩ := headCp_le (l := u.drop i) (fun x hx => hu x (List.drop_subset _ _ hx))
      have a3 := a3 hne
      rw [List.length_drop] at a2
      have a4 := (enc_len (headCp (u.drop i)).1)
      have a5 : (headCp (u.drop i)).2 ≤ 2 := by
        rcases e : u.drop i with _ | ⟨a, _ | ⟨c, r⟩⟩ <;> simp only [headCp] <;> (try split) <;> omega
      obtain ⟨k, h⟩ := ih (u.length - (i + (headCp (u.drop i)).2)) (by omega) (i + (headCp (u.drop i)).2) j (b ++ enc (headCp (u.drop i)).1) rfl (by omega) (by omega) (by rw [List.length_append]; omega)
      refine ⟨k, ?_⟩
      rw [text_round hu hl hlt n j w b (by omega), h, textOf, textOf, cps_head hne, List.flatMap_cons, List.drop_drop, List.append_assoc]
    · refine ⟨(i : Int), ?_⟩
      rw [units_Text.l0.succ, units_Text.l0.s, List.drop_eq_nil_of_le hge]
      simp (disch := omega) only [ite_t, ite_f, dec_t, dec_f, beq_t, beq_f, bne_t, bne_f, nbeq_t, nbeq_f, nble_t, nble_f, cond_true, cond_false, Bool.not_true, Bool.not_false, Bool.and_true, Bool.true_and, Bool.and_self, room_t, w64, w32, wu8, wu8', wu16, wu32, fdiv_pos, and63i, and1023i, and31i, and15i, and7i, and192i, or64w, or32w, or16w, or4096w, or64r, or64b, or32b, or16b, optK_some, optK_none, toNat_ofNat, append_eq, List.length_cons, List.length_nil, List.length_append, List.length_map, reduceIte, toNat_s, cell_one, isI_u16, isI_i64, getI_n, textOf, cps, List.flatMap_nil, List.append_nil]
theorem text_eq {u : List Nat} (hu : ∀ x ∈ u, x < 65536) (hl : u.length ≤ 2000000) {n : Nat} (hn : 2000000 < n) : units_Text n (u.map unit) = some (textOf u) := by
  obtain ⟨k, h⟩ := text_loop hu hl n [] u.length 0 n [] rfl (by omega) (by omega) (by simp)
  unfold units_Text units_Text.k
  rw [show ([] : List (List AVal)) = List.map byte [] from rfl, show (0 : Int) = ((0 : Nat) : Int) from rfl, h, optK_some]
  simp only [allByte_map, bytesL_map, List.nil_append, List.drop_zero, cond_true]
theorem pl_bad {s : List UInt8} {p : Nat} {c : UInt8} {r : List UInt8} (h : s.drop p = c :: r) (hl : s.length ≤ 2000000) (hc : cont c = false) (n j i : Nat) (a b : Int) (w m : Int) (v : Int) (k : Nat) (hk : i + k = p) (hw : (k : Int) < w) :
    ref1_point.l0 n s (i : Int) a b w m (j + 1) v (k : Int) = some (.inl (v, (k : Int))) := by
  obtain ⟨e1, e2, e3⟩ := byteAt_drop h
  have hb := b_lt c
  have e0 : (i : Int) + (k : Int) = (p : Int) := by omega
  simp only [cont, Bool.and_eq_false_iff, decide_eq_false_iff_not] at hc
  rw [ref1_point.l0.succ, ref1_point.l0.s, e0]
  by_cases h1 : 128 ≤ c.toNat
  · simp (disch := omega) only [ite_t, ite_f, dec_t, dec_f, beq_t, beq_f, bne_t, bne_f, nbeq_t, nbeq_f, nble_t, nble_f, cond_true, cond_false, Bool.not_true, Bool.not_false, Bool.and_true, Bool.true_and, Bool.and_self, room_t, w64, w32, wu8, wu8', wu16, wu32, fdiv_pos, and63i, and1023i, and31i, and15i, and7i, and192i, or64w, or32w, or16w, or4096w, or64r, or64b, or32b, or16b, optK_some, optK_none, toNat_ofNat, append_eq, List.length_cons, List.length_nil, List.length_append, List.length_map, reduceIte, toNat_s, cell_one, isI_u16, isI_i64, getI_n, e1]
  · simp (disch := omega) only [ite_t, ite_f, dec_t, dec_f, beq_t, beq_f, bne_t, bne_f, nbeq_t, nbeq_f, nble_t, nble_f, cond_true, cond_false, Bool.not_true, Bool.not_false, Bool.and_true, Bool.true_and, Bool.and_self, room_t, w64, w32, wu8, wu8', wu16, wu32, fdiv_pos, and63i, and1023i, and31i, and15i, and7i, and192i, or64w, or32w, or16w, or4096w, or64r, or64b, or32b, or16b, optK_some, optK_none, toNat_ofNat, append_eq, List.length_cons, List.length_nil, List.length_append, List.length_map, reduceIte, toNat_s, cell_one, isI_u16, isI_i64, getI_n, e1]
theorem pl_good {s : List UInt8} {p : Nat} {c : UInt8} {r : List UInt8} (h : s.drop p = c :: r) (hl : s.length ≤ 2000000) (hc : cont c = true) (n j i : Nat) (a b : Int) (w m : Int) (v k : Nat) (hk : i + k = p) (hw : (k : Int) < w) (hv : v < 20000000) :
    ref1_point.l0 n s (i : Int) a b w m (j + 1) (v : Int) (k : Int) = ref1_point.l0 n s (i : Int) a b w m j ((v * 64 + (c.toNat - 128) : Nat) : Int) ((k + 1 : Nat) : Int) := by
  obtain ⟨e1, e2, e3⟩ := byteAt_drop h
  have hb := b_lt c
  have e0 : (i : Int) + (k : Int) = (p : Int) := by omega
  simp only [cont, Bool.and_eq_true, decide_eq_true_eq] at hc
  rw [ref1_point.l0.succ, ref1_point.l0.s, e0]
  simp (disch := omega) only [ite_t, ite_f, dec_t, dec_f, beq_t, beq_f, bne_t, bne_f, nbeq_t, nbeq_f, nble_t, nble_f, cond_true, cond_false, Bool.not_true, Bool.not_false, Bool.and_true, Bool.true_and, Bool.and_self, room_t, w64, w32, wu8, wu8', wu16, wu32, fdiv_pos, and63i, and1023i, and31i, and15i, and7i, and192i, or64w, or32w, or16w, or4096w, or64r, or64b, or32b, or16b, optK_some, optK_none, toNat_ofNat, append_eq, List.length_cons, List.length_nil, List.length_append, List.length_map, reduceIte, toNat_s, cell_one, isI_u16, isI_i64, getI_n, e1]
  congr 1; omega
theorem pl_end (s : List UInt8) (n j i : Nat) (a b : Int) (w m : Int) (v : Int) (k : Nat) (hw : ¬ (k : Int) < w) :
    ref1_point.l0 n s (i : Int) a b w m (j + 1) v (k : Int) = some (.inr (v, (k : Int))) := by
  rw [ref1_point.l0.succ, ref1_point.l0.s]
  simp (disch := omega) only [ite_t, ite_f, dec_t, dec_f, beq_t, beq_f, bne_t, bne_f, nbeq_t, nbeq_f, nble_t, nble_f, cond_true, cond_false, Bool.not_true, Bool.not_false, Bool.and_true, Bool.true_and, Bool.and_self, room_t, w64, w32, wu8, wu8', wu16, wu32, fdiv_pos, and63i, and1023i, and31i, and15i, and7i, and192i, or64w, or32w, or16w, or4096w, or64r, or64b, or32b, or16b, optK_some, optK_none, toNat_ofNat, append_eq, List.length_cons, List.length_nil, List.length_append, List.length_map, reduceIte, toNat_s, cell_one, isI_u16, isI_i64, getI_n]
theorem point_eq {s : List UInt8} {i : Nat} (h : i < s.length) (hl : s.length ≤ 2000000) {n : Nat} (hn : 2000000 < n) : ref1_point n s (i : Int) = some (((pt (s.drop i)).1 : Int), ((pt (s.drop i)).2 : Int)) := by
  obtain ⟨j, rfl⟩ : ∃ j, n = j + 4 := ⟨n - 4, by omega⟩
  rcases hd : s.drop i with _ | ⟨a, r⟩
  · simp at hd; omega
  have hlen : s.length = i + (r.length + 1) := by
    have := congrArg List.length hd
    simp at this; omega
  obtain ⟨e1, e2, e3⟩ := byteAt_drop hd
  have ha := b_lt a
  unfold ref1_point ref1_point.k
  generalize hN : j + 4 = N
  have g1 : (1 : Int) = ((1 : Nat) : Int) := rfl
  by_cases c0 : a.toNat < 128
  · have hp : pt (a :: r) = (a.toNat, 1) := by simp only [pt]; rw [if_pos c0]
    rw [hp]
    simp (disch := omega) only [ite_t, ite_f, dec_t, dec_f, beq_t, beq_f, bne_t, bne_f, nbeq_t, nbeq_f, nble_t, nble_f, cond_true, cond_false, Bool.not_true, Bool.not_false, Bool.and_true, Bool.true_and, Bool.and_self, room_t, w64, w32, wu8, wu8', wu16, wu32, fdiv_pos, and63i, and1023i, and31i, and15i, and7i, and192i, or64w, or32w, or16w, or4096w, or64r, or64b, or32b, or16b, optK_some, optK_none, toNat_ofNat, append_eq, List.length_cons, List.length_nil, List.length_append, List.length_map, reduceIte, toNat_s, cell_one, isI_u16, isI_i64, getI_n, e1]
    rfl
  by_cases c1 : a.toNat < 194
  · have hp : pt (a :: r) = (0, 0) := by simp only [pt]; rw [if_neg c0, if_neg (by omega), if_neg (by omega), if_neg (by omega)]
    rw [hp]
    simp (disch := omega) only [ite_t, ite_f, dec_t, dec_f, beq_t, beq_f, bne_t, bne_f, nbeq_t, nbeq_f, nble_t, nble_f, cond_true, cond_false, Bool.not_true, Bool.not_false, Bool.and_true, Bool.true_and, Bool.and_self, room_t, w64, w32, wu8, wu8', wu16, wu32, fdiv_pos, and63i, and1023i, and31i, and15i, and7i, and192i, or64w, or32w, or16w, or4096w, or64r, or64b, or32b, or16b, optK_some, optK_none, toNat_ofNat, append_eq, List.length_cons, List.length_nil, List.length_append, List.length_map, reduceIte, toNat_s, cell_one, isI_u16, isI_i64, getI_n, e1]
    rfl
  by_cases c2 : a.toNat ≤ 223
  · rcases r with _ | ⟨b, r⟩
    · simp only [List.length_nil] at hlen
      have hp : pt ([a]) = (0, 0) := by simp only [pt]; rw [if_neg c0, if_pos (by omega)]
      rw [hp]
      simp (disch := omega) only [ite_t, ite_f, dec_t, dec_f, beq_t, beq_f, bne_t, bne_f, nbeq_t, nbeq_f, nble_t, nble_f, cond_true, cond_false, Bool.not_true, Bool.not_false, Bool.and_true, Bool.true_and, Bool.and_self, room_t, w64, w32, wu8, wu8', wu16, wu32, fdiv_pos, and63i, and1023i, and31i, and15i, and7i, and192i, or64w, or32w, or16w, or4096w, or64r, or64b, or32b, or16b, optK_some, optK_none, toNat_ofNat, append_eq, List.length_cons, List.length_nil, List.length_append, List.length_map, reduceIte, toNat_s, cell_one, isI_u16, isI_i64, getI_n, e1, hlen]
      rfl
    · simp only [List.length_cons] at hlen
      have hp : pt (a :: b :: r) = if cont b then ((a.toNat - 192) * 64 + (b.toNat - 128), 2) else (0, 0) := by simp only [pt]; rw [if_neg c0, if_pos (by omega)]
      rw [hp]
      have hb := b_lt b
      rw [← hN]
      cases hc : cont b with
      | false =>
        simp (disch := omega) only [ite_t, ite_f, dec_t, dec_f, beq_t, beq_f, bne_t, bne_f, nbeq_t, nbeq_f, nble_t, nble_f, cond_true, cond_false, Bool.not_true, Bool.not_false, Bool.and_true, Bool.true_and, Bool.and_self, room_t, w64, w32, wu8, wu8', wu16, wu32, fdiv_pos, and63i, and1023i, and31i, and15i, and7i, and192i, or64w, or32w, or16w, or4096w, or64r, or64b, or32b, or16b, optK_some, optK_none, toNat_ofNat, append_eq, List.length_cons, List.length_nil, List.length_append, List.length_map, reduceIte, toNat_s, cell_one, isI_u16, isI_i64, getI_n, e1, hlen, and31i, sumK]
        rw [g1, pl_bad e3 hl hc (j + 4) (j + 3) i 0 0 2 128 _ 1 rfl (by omega)]
        simp (disch := omega) only [ite_t, ite_f, dec_t, dec_f, beq_t, beq_f, bne_t, bne_f, nbeq_t, nbeq_f, nble_t, nble_f, cond_true, cond_false, Bool.not_true, Bool.not_false, Bool.and_true, Bool.true_and, Bool.and_self, room_t, w64, w32, wu8, wu8', wu16, wu32, fdiv_pos, and63i, and1023i, and31i, and15i, and7i, and192i, or64w, or32w, or16w, or4096w, or64r, or64b, or32b, or16b, optK_some, optK_none, toNat_ofNat, append_eq, List.length_cons, List.length_nil, List.length_append, List.length_map, reduceIte, toNat_s, cell_one, isI_u16, isI_i64, getI_n, sumK, Bool.false_eq_true]
        rfl
      | true =>
        have e5 : (a.toNat : Int) % 32 = ((a.toNat - 192 : Nat) : Int) := by omega
        simp (disch := omega) only [ite_t, ite_f, dec_t, dec_f, beq_t, beq_f, bne_t, bne_f, nbeq_t, nbeq_f, nble_t, nble_f, cond_true, cond_false, Bool.not_true, Bool.not_false, Bool.and_true, Bool.true_and, Bool.and_self, room_t, w64, w32, wu8, wu8', wu16, wu32, fdiv_pos, and63i, and1023i, and31i, and15i, and7i, and192i, or64w, or32w, or16w, or4096w, or64r, or64b, or32b, or16b, optK_some, optK_none, toNat_ofNat, append_eq, List.length_cons, List.length_nil, List.length_append, List.length_map, reduceIte, toNat_s, cell_one, isI_u16, isI_i64, getI_n, e1, hlen, and31i, sumK]
        rw [e5, g1, pl_good e3 hl hc (j + 4) (j + 3) i 0 0 2 128 _ 1 rfl (by omega) (by omega), pl_end _ _ _ _ _ _ _ _ _ 2 (by omega)]
        simp (disch := omega) only [ite_t, ite_f, dec_t, dec_f, beq_t, beq_f, bne_t, bne_f, nbeq_t, nbeq_f, nble_t, nble_f, cond_true, cond_false, Bool.not_true, Bool.not_false, Bool.and_true, Bool.true_and, Bool.and_self, room_t, w64, w32, wu8, wu8', wu16, wu32, fdiv_pos, and63i, and1023i, and31i, and15i, and7i, and192i, or64w, or32w, or16w, or4096w, or64r, or64b, or32b, or16b, optK_some, optK_none, toNat_ofNat, append_eq, List.length_cons, List.length_nil, List.length_append, List.length_map, reduceIte, toNat_s, cell_one, isI_u16, isI_i64, getI_n, sumK]
        rfl
  by_cases c3 : a.toNat ≤ 239
  · rcases r with _ | ⟨b, _ | ⟨c, r⟩⟩
    · simp only [List.length_nil] at hlen
      have hp : pt ([a]) = (0, 0) := by simp only [pt]; rw [if_neg c0, if_neg (by omega), if_pos (by omega)]
      rw [hp]
      simp (disch := omega) only [ite_t, ite_f, dec_t, dec_f, beq_t, beq_f, bne_t, bne_f, nbeq_t, nbeq_f, nble_t, nble_f, cond_true, cond_false, Bool.not_true, Bool.not_false, Bool.and_true, Bool.true_and, Bool.and_self, room_t, w64, w32, wu8, wu8', wu16, wu32, fdiv_pos, and63i, and1023i, and31i, and15i, and7i, and192i, or64w, or32w, or16w, or4096w, or64r, or64b, or32b, or16b, optK_some, optK_none, toNat_ofNat, append_eq, List.length_cons, List.length_nil, List.length_append, List.length_map, reduceIte, toNat_s, cell_one, isI_u16, isI_i64, getI_n, e1, hlen]
      rfl
    · simp only [List.length_nil, List.length_cons] at hlen
      have hp : pt ([a, b]) = (0, 0) := by simp only [pt]; rw [if_neg c0, if_neg (by omega), if_pos (by omega)]
      rw [hp]
      simp (disch := omega) only [ite_t, ite_f, dec_t, dec_f, beq_t, beq_f, bne_t, bne_f, nbeq_t, nbeq_f, nble_t, nble_f, cond_true, cond_false, Bool.not_true, Bool.not_false, Bool.and_true, Bool.true_and, Bool.and_self, room_t, w64, w32, wu8, wu8', wu16, wu32, fdiv_pos, and63i, and1023i, and31i, and15i, and7i, and192i, or64w, or32w, or16w, or4096w, or64r, or64b, or32b, or16b, optK_some, optK_none, toNat_ofNat, append_eq, List.length_cons, List.length_nil, List.length_append, List.length_map, reduceIte, toNat_s, cell_one, isI_u16, isI_i64, getI_n, e1, hlen]
      rfl
    · simp only [List.length_cons] at hlen
      have hp : pt (a :: b :: c :: r) = if cont b && cont c then (if (a.toNat - 224) * 4096 + (b.toNat - 128) * 64 + (c.toNat - 128) < 2048 then (0, 0) else ((a.toNat - 224) * 4096 + (b.toNat - 128) * 64 + (c.toNat - 128), 3)) else (0, 0) := by simp only [pt]; rw [if_neg c0, if_neg (by omega), if_pos (by omega)]
      rw [hp]
      have hb := b_lt b
      have hc' := b_lt c
      have e4 := (byteAt_drop e3).2.2
      rw [← hN]
      have e5 : (a.toNat : Int) % 16 = ((a.toNat - 224 : Nat) : Int) := by omega
      simp (disch := omega) only [ite_t, ite_f, dec_t, dec_f, beq_t, beq_f, bne_t, bne_f, nbeq_t, nbeq_f, nble_t, nble_f, cond_true, cond_false, Bool.not_true, Bool.not_false, Bool.and_true, Bool.true_and, Bool.and_self, room_t, w64, w32, wu8, wu8', wu16, wu32, fdiv_pos, and63i, and1023i, and31i, and15i, and7i, and192i, or64w, or32w, or16w, or4096w, or64r, or64b, or32b, or16b, optK_some, optK_none, toNat_ofNat, append_eq, List.length_cons, List.length_nil, List.length_append, List.length_map, reduceIte, toNat_s, cell_one, isI_u16, isI_i64, getI_n, e1, hlen, and15i, sumK]
      rw [e5, g1]
      cases hc : cont b with
      | false =>
        rw [pl_bad e3 hl hc (j + 4) (j + 3) i 0 0 3 2048 _ 1 rfl (by omega)]
        simp (disch := omega) only [ite_t, ite_f, dec_t, dec_f, beq_t, beq_f, bne_t, bne_f, nbeq_t, nbeq_f, nble_t, nble_f, cond_true, cond_false, Bool.not_true, Bool.not_false, Bool.and_true, Bool.true_and, Bool.and_self, room_t, w64, w32, wu8, wu8', wu16, wu32, fdiv_pos, and63i, and1023i, and31i, and15i, and7i, and192i, or64w, or32w, or16w, or4096w, or64r, or64b, or32b, or16b, optK_some, optK_none, toNat_ofNat, append_eq, List.length_cons, List.length_nil, List.length_append, List.length_map, reduceIte, toNat_s, cell_one, isI_u16, isI_i64, getI_n, sumK, Bool.false_and, Bool.false_eq_true]
        rfl
      | true =>
        rw [pl_good e3 hl hc (j + 4) (j + 3) i 0 0 3 2048 _ 1 rfl (by omega) (by omega)]
        cases hd' : cont c with
        | false =>
          rw [pl_bad e4 hl hd' (j + 4) (j + 2) i 0 0 3 2048 _ 2 rfl (by omega)]
          simp (disch := omega) only [ite_t, ite_f, dec_t, dec_f, beq_t, beq_f, bne_t, bne_f, nbeq_t, nbeq_f, nble_t, nble_f, cond_true, cond_false, Bool.not_true, Bool.not_false, Bool.and_true, Bool.true_and, Bool.and_self, room_t, w64, w32, wu8, wu8', wu16, wu32, fdiv_pos, and63i, and1023i, and31i, and15i, and7i, and192i, or64w, or32w, or16w, or4096w, or64r, or64b, or32b, or16b, optK_some, optK_none, toNat_ofNat, append_eq, List.length_cons, List.length_nil, List.length_append, List.length_map, reduceIte, toNat_s, cell_one, isI_u16, isI_i64, getI_n, sumK, Bool.and_false, Bool.false_eq_true]
          rfl
        | true =>
          rw [pl_good e4 hl hd' (j + 4) (j + 2) i 0 0 3 2048 _ 2 rfl (by omega) (by omega), pl_end _ _ _ _ _ _ _ _ _ 3 (by omega)]
          simp only [cont, Bool.and_eq_true, decide_eq_true_eq] at hc hd'
          have e6 : ((a.toNat - 224) * 64 + (b.toNat - 128)) * 64 + (c.toNat - 128) = (a.toNat - 224) * 4096 + (b.toNat - 128) * 64 + (c.toNat - 128) := by omega
          rw [e6]
          by_cases q : (a.toNat - 224) * 4096 + (b.toNat - 128) * 64 + (c.toNat - 128) < 2048
          · simp (disch := omega) only [ite_t, ite_f, dec_t, dec_f, beq_t, beq_f, bne_t, bne_f, nbeq_t, nbeq_f, nble_t, nble_f, cond_true, cond_false, Bool.not_true, Bool.not_false, Bool.and_true, Bool.true_and, Bool.and_self, room_t, w64, w32, wu8, wu8', wu16, wu32, fdiv_pos, and63i, and1023i, and31i, and15i, and7i, and192i, or64w, or32w, or16w, or4096w, or64r, or64b, or32b, or16b, optK_some, optK_none, toNat_ofNat, append_eq, List.length_cons, List.length_nil, List.length_append, List.length_map, reduceIte, toNat_s, cell_one, isI_u16, isI_i64, getI_n, sumK]
            rfl
          · simp (disch := omega) only [ite_t, ite_f, dec_t, dec_f, beq_t, beq_f, bne_t, bne_f, nbeq_t, nbeq_f, nble_t, nble_f, cond_true, cond_false, Bool.not_true, Bool.not_false, Bool.and_true, Bool.true_and, Bool.and_self, room_t, w64, w32, wu8, wu8', wu16, wu32, fdiv_pos, and63i, and1023i, and31i, and15i, and7i, and192i, or64w, or32w, or16w, or4096w, or64r, or64b, or32b, or16b, optK_some, optK_none, toNat_ofNat, append_eq, List.length_cons, List.length_nil, List.length_append, List.length_map, reduceIte, toNat_s, cell_one, isI_u16, isI_i64, getI_n, sumK]
            rfl
  by_cases c4 : a.toNat ≤ 244
  · rcases r with _ | ⟨b, _ | ⟨c, _ | ⟨d, r⟩⟩⟩
    · simp only [List.length_nil] at hlen
      have hp : pt ([a]) = (0, 0) := by simp only [pt]; rw [if_neg c0, if_neg (by omega), if_neg (by omega), if_pos (by omega)]
      rw [hp]
      simp (disch := omega) only [ite_t, ite_f, dec_t, dec_f, beq_t, beq_f, bne_t, bne_f, nbeq_t, nbeq_f, nble_t, nble_f, cond_true, cond_false, Bool.not_true, Bool.not_false, Bool.and_true, Bool.true_and, Bool.and_self, room_t, w64, w32, wu8, wu8', wu16, wu32, fdiv_pos, and63i, and1023i, and31i, and15i, and7i, and192i, or64w, or32w, or16w, or4096w, or64r, or64b, or32b, or16b, optK_some, optK_none, toNat_ofNat, append_eq, List.length_cons, List.length_nil, List.length_append, List.length_map, reduceIte, toNat_s, cell_one, isI_u16, isI_i64, getI_n, e1, hlen]
      rfl
    · simp only [List.length_nil, List.length_cons] at hlen
      have hp : pt ([a, b]) = (0, 0) := by simp only [pt]; rw [if_neg c0, if_neg (by omega), if_neg (by omega), if_pos (by omega)]
      rw [hp]
      simp (disch := omega) only [ite_t, ite_f, dec_t, dec_f, beq_t, beq_f, bne_t, bne_f, nbeq_t, nbeq_f, nble_t, nble_f, cond_true, cond_false, Bool.not_true, Bool.not_false, Bool.and_true, Bool.true_and, Bool.and_self, room_t, w64, w32, wu8, wu8', wu16, wu32, fdiv_pos, and63i, and1023i, and31i, and15i, and7i, and192i, or64w, or32w, or16w, or4096w, or64r, or64b, or32b, or16b, optK_some, optK_none, toNat_ofNat, append_eq, List.length_cons, List.length_nil, List.length_append, List.length_map, reduceIte, toNat_s, cell_one, isI_u16, isI_i64, getI_n, e1, hlen]
      rfl
    · simp only [List.length_nil, List.length_cons] at hlen
      have hp : pt ([a, b, c]) = (0, 0) := by simp only [pt]; rw [if_neg c0, if_neg (by omega), if_neg (by omega), if_pos (by omega)]
      rw [hp]
      simp (disch := omega) only [ite_t, ite_f, dec_t, dec_f, beq_t, beq_f, bne_t, bne_f, nbeq_t, nbeq_f, nble_t, nble_f, cond_true, cond_false, Bool.not_true, Bool.not_false, Bool.and_true, Bool.true_and, Bool.and_self, room_t, w64, w32, wu8, wu8', wu16, wu32, fdiv_pos, and63i, and1023i, and31i, and15i, and7i, and192i, or64w, or32w, or16w, or4096w, or64r, or64b, or32b, or16b, optK_some, optK_none, toNat_ofNat, append_eq, List.length_cons, List.length_nil, List.length_append, List.length_map, reduceIte, toNat_s, cell_one, isI_u16, isI_i64, getI_n, e1, hlen]
      rfl
    · simp only [List.length_cons] at hlen
      have hp : pt (a :: b :: c :: d :: r) = if cont b && cont c && cont d then (if (a.toNat - 240) * 262144 + (b.toNat - 128) * 4096 + (c.toNat - 128) * 64 + (d.toNat - 128) < 65536 ∨ 1114111 < (a.toNat - 240) * 262144 + (b.toNat - 128) * 4096 + (c.toNat - 128) * 64 + (d.toNat - 128) then (0, 0) else ((a.toNat - 240) * 262144 + (b.toNat - 128) * 4096 + (c.toNat - 128) * 64 + (d.toNat - 128), 4)) else (0, 0) := by simp only [pt]; rw [if_neg c0, if_neg (by omega), if_neg (by omega), if_pos (by omega)]
      rw [hp]
      have hb := b_lt b
      have hc' := b_lt c
      have hd' := b_lt d
      have e4 := (byteAt_drop e3).2.2
      have e4' := (byteAt_drop e4).2.2
      rw [← hN]
      have e5 : (a.toNat : Int) % 8 = ((a.toNat - 240 : Nat) : Int) := by omega
      simp (disch := omega) only [ite_t, ite_f, dec_t, dec_f, beq_t, beq_f, bne_t, bne_f, nbeq_t, nbeq_f, nble_t, nble_f, cond_true, cond_false, Bool.not_true, Bool.not_false, Bool.and_true, Bool.true_and, Bool.and_self, room_t, w64, w32, wu8, wu8', wu16, wu32, fdiv_pos, and63i, and1023i, and31i, and15i, and7i, and192i, or64w, or32w, or16w, or4096w, or64r, or64b, or32b, or16b, optK_some, optK_none, toNat_ofNat, append_eq, List.length_cons, List.length_nil, List.length_append, List.length_map, reduceIte, toNat_s, cell_one, isI_u16, isI_i64, getI_n, e1, hlen, and7i, sumK]
      rw [e5, g1]
      cases hc : cont b with
      | false =>
        rw [pl_bad e3 hl hc (j + 4) (j + 3) i 0 0 4 65536 _ 1 rfl (by omega)]
        simp (disch := omega) only [ite_t, ite_f, dec_t, dec_f, beq_t, beq_f, bne_t, bne_f, nbeq_t, nbeq_f, nble_t, nble_f, cond_true, cond_false, Bool.not_true, Bool.not_false, Bool.and_true, Bool.true_and, Bool.and_self, room_t, w64, w32, wu8, wu8', wu16, wu32, fdiv_pos, and63i, and1023i, and31i, and15i, and7i, and192i, or64w, or32w, or16w, or4096w, or64r, or64b, or32b, or16b, optK_some, optK_none, toNat_ofNat, append_eq, List.length_cons, List.length_nil, List.length_append, List.length_map, reduceIte, toNat_s, cell_one, isI_u16, isI_i64, getI_n, sumK, Bool.false_and, Bool.false_eq_true]
        rfl
      | true =>
        rw [pl_good e3 hl hc (j + 4) (j + 3) i 0 0 4 65536 _ 1 rfl (by omega) (by omega)]
        cases hdc : cont c with
        | false =>
          rw [pl_bad e4 hl hdc (j + 4) (j + 2) i 0 0 4 65536 _ 2 rfl (by omega)]
          simp (disch := omega) only [ite_t, ite_f, dec_t, dec_f, beq_t, beq_f, bne_t, bne_f, nbeq_t, nbeq_f, nble_t, nble_f, cond_true, cond_false, Bool.not_true, Bool.not_false, Bool.and_true, Bool.true_and, Bool.and_self, room_t, w64, w32, wu8, wu8', wu16, wu32, fdiv_pos, and63i, and1023i, and31i, and15i, and7i, and192i, or64w, or32w, or16w, or4096w, or64r, or64b, or32b, or16b, optK_some, optK_none, toNat_ofNat, append_eq, List.length_cons, List.length_nil, List.length_append, List.length_map, reduceIte, toNat_s, cell_one, isI_u16, isI_i64, getI_n, sumK, Bool.and_false, Bool.false_and, Bool.false_eq_true]
          rfl
        | true =>
          rw [pl_good e4 hl hdc (j + 4) (j + 2) i 0 0 4 65536 _ 2 rfl (by omega) (by omega)]
          cases hdd : cont d with
          | false =>
            rw [pl_bad e4' hl hdd (j + 4) (j + 1) i 0 0 4 65536 _ 3 rfl (by omega)]
            simp (disch := omega) only [ite_t, ite_f, dec_t, dec_f, beq_t, beq_f, bne_t, bne_f, nbeq_t, nbeq_f, nble_t, nble_f, cond_true, cond_false, Bool.not_true, Bool.not_false, Bool.and_true, Bool.true_and, Bool.and_self, room_t, w64, w32, wu8, wu8', wu16, wu32, fdiv_pos, and63i, and1023i, and31i, and15i, and7i, and192i, or64w, or32w, or16w, or4096w, or64r, or64b, or32b, or16b, optK_some, optK_none, toNat_ofNat, append_eq, List.length_cons, List.length_nil, List.length_append, List.length_map, reduceIte, toNat_s, cell_one, isI_u16, isI_i64, getI_n, sumK, Bool.and_false, Bool.false_eq_true]
            rfl
          | true =>
            rw [pl_good e4' hl hdd (j + 4) (j + 1) i 0 0 4 65536 _ 3 rfl (by omega) (by omega), pl_end _ _ _ _ _ _ _ _ _ 4 (by omega)]
            simp only [cont, Bool.and_eq_true, decide_eq_true_eq] at hc hdc hdd
            have e6 : (((a.toNat - 240) * 64 + (b.toNat - 128)) * 64 + (c.toNat - 128)) * 64 + (d.toNat - 128) = (a.toNat - 240) * 262144 + (b.toNat - 128) * 4096 + (c.toNat - 128) * 64 + (d.toNat - 128) := by omega
            rw [e6]
            generalize (a.toNat - 240) * 262144 + (b.toNat - 128) * 4096 + (c.toNat - 128) * 64 + (d.toNat - 128) = z
            by_cases q : z < 65536
            · simp (disch := omega) only [ite_t, ite_f, dec_t, dec_f, beq_t, beq_f, bne_t, bne_f, nbeq_t, nbeq_f, nble_t, nble_f, cond_true, cond_false, Bool.not_true, Bool.not_false, Bool.and_true, Bool.true_and, Bool.and_self, room_t, w64, w32, wu8, wu8', wu16, wu32, fdiv_pos, and63i, and1023i, and31i, and15i, and7i, and192i, or64w, or32w, or16w, or4096w, or64r, or64b, or32b, or16b, optK_some, optK_none, toNat_ofNat, append_eq, List.length_cons, List.length_nil, List.length_append, List.length_map, reduceIte, toNat_s, cell_one, isI_u16, isI_i64, getI_n, sumK]
              rfl
            · by_cases q2 : 1114111 < z
              · simp (disch := omega) only [ite_t, ite_f, dec_t, dec_f, beq_t, beq_f, bne_t, bne_f, nbeq_t, nbeq_f, nble_t, nble_f, cond_true, cond_false, Bool.not_true, Bool.not_false, Bool.and_true, Bool.true_and, Bool.and_self, room_t, w64, w32, wu8, wu8', wu16, wu32, fdiv_pos, and63i, and1023i, and31i, and15i, and7i, and192i, or64w, or32w, or16w, or4096w, or64r, or64b, or32b, or16b, optK_some, optK_none, toNat_ofNat, append_eq, List.length_cons, List.length_nil, List.length_append, List.length_map, reduceIte, toNat_s, cell_one, isI_u16, isI_i64, getI_n, sumK]
                rfl
              · simp (disch := omega) only [ite_t, ite_f, dec_t, dec_f, beq_t, beq_f, bne_t, bne_f, nbeq_t, nbeq_f, nble_t, nble_f, cond_true, cond_false, Bool.not_true, Bool.not_false, Bool.and_true, Bool.true_and, Bool.and_self, room_t, w64, w32, wu8, wu8', wu16, wu32, fdiv_pos, and63i, and1023i, and31i, and15i, and7i, and192i, or64w, or32w, or16w, or4096w, or64r, or64b, or32b, or16b, optK_some, optK_none, toNat_ofNat, append_eq, List.length_cons, List.length_nil, List.length_append, List.length_map, reduceIte, toNat_s, cell_one, isI_u16, isI_i64, getI_n, sumK]
                rfl
  · have hp : pt (a :: r) = (0, 0) := by simp only [pt]; rw [if_neg c0, if_neg (by omega), if_neg (by omega), if_neg (by omega)]
    rw [hp]
    simp (disch := omega) only [ite_t, ite_f, dec_t, dec_f, beq_t, beq_f, bne_t, bne_f, nbeq_t, nbeq_f, nble_t, nble_f, cond_true, cond_false, Bool.not_true, Bool.not_false, Bool.and_true, Bool.true_and, Bool.and_self, room_t, w64, w32, wu8, wu8', wu16, wu32, fdiv_pos, and63i, and1023i, and31i, and15i, and7i, and192i, or64w, or32w, or16w, or4096w, or64r, or64b, or32b, or16b, optK_some, optK_none, toNat_ofNat, append_eq, List.length_cons, List.length_nil, List.length_append, List.length_map, reduceIte, toNat_s, cell_one, isI_u16, isI_i64, getI_n, e1]
    rfl
theorem toNat_p (n : Nat) : Int.toNat ((n : Int) - 1) = n - 1 := by omega
theorem ahOf_last {cs : List Nat} (h : 0 < cs.length) : ahOf cs = isLead (cs[cs.length - 1]) := by
  rw [ahOf, List.getLast?_eq_getElem?, List.getElem?_eq_getElem (by omega)]
theorem pts_bad {s : List UInt8} {i : Nat} (h : i < s.length) (hl : s.length ≤ 2000000) {n : Nat} (hn : 2000000 < n) (j : Nat) (cs : List Nat) (hc : cs.length ≤ 2000000) (hb : ((pt (s.drop i)).2 = 0 || (ahOf cs && isLow (pt (s.drop i)).1)) = true) :
    ref1_points.l0 n s [] false (j + 1) (cs.map cp) (i : Int) = some (.inl (cs.map cp, (i : Int))) := by
  rw [ref1_points.l0.succ, ref1_points.l0.s]
  have hp := point_eq h hl hn
  by_cases h0 : (pt (s.drop i)).2 = 0
  · simp (disch := omega) only [ite_t, ite_f, dec_t, dec_f, beq_t, beq_f, bne_t, bne_f, nbeq_t, nbeq_f, nble_t, nble_f, cond_true, cond_false, Bool.not_true, Bool.not_false, Bool.and_true, Bool.true_and, Bool.and_self, room_t, w64, w32, wu8, wu8', wu16, wu32, fdiv_pos, and63i, and1023i, and31i, and15i, and7i, and192i, or64w, or32w, or16w, or4096w, or64r, or64b, or32b, or16b, optK_some, optK_none, toNat_ofNat, append_eq, List.length_cons, List.length_nil, List.length_append, List.length_map, reduceIte, toNat_s, cell_one, isI_u16, isI_i64, getI_n, hp, h0]
  · simp only [h0, decide_false, Bool.false_or, Bool.and_eq_true] at hb
    obtain ⟨h1, h2⟩ := hb
    have hne : 0 < cs.length := by
      rcases cs with _ | ⟨a, r⟩
      · simp [ahOf] at h1
      · simp
    rw [ahOf_last hne] at h1
    simp only [isLead, isLow, Bool.and_eq_true, decide_eq_true_eq] at h1 h2
    simp (disch := omega) only [ite_t, ite_f, dec_t, dec_f, beq_t, beq_f, bne_t, bne_f, nbeq_t, nbeq_f, nble_t, nble_f, cond_true, cond_false, Bool.not_true, Bool.not_false, Bool.and_true, Bool.true_and, Bool.and_self, room_t, w64, w32, wu8, wu8', wu16, wu32, fdiv_pos, and63i, and1023i, and31i, and15i, and7i, and192i, or64w, or32w, or16w, or4096w, or64r, or64b, or32b, or16b, optK_some, optK_none, toNat_ofNat, append_eq, List.length_cons, List.length_nil, List.length_append, List.length_map, reduceIte, toNat_s, cell_one, isI_u16, isI_i64, getI_n, hp, toNat_p, nth_map, cp]
theorem pts_good {s : List UInt8} {i : Nat} (h : i < s.length) (hl : s.length ≤ 2000000) {n : Nat} (hn : 2000000 < n) (j : Nat) (cs : List Nat) (hc : cs.length ≤ 2000000) (hb : ((pt (s.drop i)).2 = 0 || (ahOf cs && isLow (pt (s.drop i)).1)) = false) :
    ref1_points.l0 n s [] false (j + 1) (cs.map cp) (i : Int) = ref1_points.l0 n s [] false j ((cs ++ [(pt (s.drop i)).1]).map cp) ((i + (pt (s.drop i)).2 : Nat) : Int) := by
  rw [ref1_points.l0.succ, ref1_points.l0.s]
  have hp := point_eq h hl hn
  have h4 := (pt_width (s.drop i)).2
  simp only [Bool.or_eq_false_iff, decide_eq_false_iff_not] at hb
  obtain ⟨h0, hb⟩ := hb
  rw [List.map_append]
  by_cases q1 : 56320 ≤ (pt (s.drop i)).1
  · by_cases q2 : (pt (s.drop i)).1 ≤ 57343
    · by_cases hne : 0 < cs.length
      · rw [ahOf_last hne] at hb
        simp only [isLead, isLow, Bool.and_eq_false_iff, decide_eq_false_iff_not] at hb
        by_cases q3 : 55296 ≤ cs[cs.length - 1]
        · simp (disch := omega) only [ite_t, ite_f, dec_t, dec_f, beq_t, beq_f, bne_t, bne_f, nbeq_t, nbeq_f, nble_t, nble_f, cond_true, cond_false, Bool.not_true, Bool.not_false, Bool.and_true, Bool.true_and, Bool.and_self, room_t, w64, w32, wu8, wu8', wu16, wu32, fdiv_pos, and63i, and1023i, and31i, and15i, and7i, and192i, or64w, or32w, or16w, or4096w, or64r, or64b, or32b, or16b, optK_some, optK_none, toNat_ofNat, append_eq, List.length_cons, List.length_nil, List.length_append, List.length_map, reduceIte, toNat_s, cell_one, isI_u16, isI_i64, getI_n, hp, toNat_p, nth_map, cp, List.map_cons, List.map_nil]
          rfl
        · by_cases q4 : cs[cs.length - 1] ≤ 56319
          · simp (disch := omega) only [ite_t, ite_f, dec_t, dec_f, beq_t, beq_f, bne_t, bne_f, nbeq_t, nbeq_f, nble_t, nble_f, cond_true, cond_false, Bool.not_true, Bool.not_false, Bool.and_true, Bool.true_and, Bool.and_self, room_t, w64, w32, wu8, wu8', wu16, wu32, fdiv_pos, and63i, and1023i, and31i, and15i, and7i, and192i, or64w, or32w, or16w, or4096w, or64r, or64b, or32b, or16b, optK_some, optK_none, toNat_ofNat, append_eq, List.length_cons, List.length_nil, List.length_append, List.length_map, reduceIte, toNat_s, cell_one, isI_u16, isI_i64, getI_n, hp, toNat_p, nth_map, cp, List.map_cons, List.map_nil]
            rfl
          · exfalso; omega
      · simp (disch := omega) only [ite_t, ite_f, dec_t, dec_f, beq_t, beq_f, bne_t, bne_f, nbeq_t, nbeq_f, nble_t, nble_f, cond_true, cond_false, Bool.not_true, Bool.not_false, Bool.and_true, Bool.true_and, Bool.and_self, room_t, w64, w32, wu8, wu8', wu16, wu32, fdiv_pos, and63i, and1023i, and31i, and15i, and7i, and192i, or64w, or32w, or16w, or4096w, or64r, or64b, or32b, or16b, optK_some, optK_none, toNat_ofNat, append_eq, List.length_cons, List.length_nil, List.length_append, List.length_map, reduceIte, toNat_s, cell_one, isI_u16, isI_i64, getI_n, hp, toNat_p, nth_map, cp, List.map_cons, List.map_nil]
        rfl
    · simp (disch := omega) only [ite_t, ite_f, dec_t, dec_f, beq_t, beq_f, bne_t, bne_f, nbeq_t, nbeq_f, nble_t, nble_f, cond_true, cond_false, Bool.not_true, Bool.not_false, Bool.and_true, Bool.true_and, Bool.and_self, room_t, w64, w32, wu8, wu8', wu16, wu32, fdiv_pos, and63i, and1023i, and31i, and15i, and7i, and192i, or64w, or32w, or16w, or4096w, or64r, or64b, or32b, or16b, optK_some, optK_none, toNat_ofNat, append_eq, List.length_cons, List.length_nil, List.length_append, List.length_map, reduceIte, toNat_s, cell_one, isI_u16, isI_i64, getI_n, hp, toNat_p, cp, List.map_cons, List.map_nil]
      rfl
  · simp (disch := omega) only [ite_t, ite_f, dec_t, dec_f, beq_t, beq_f, bne_t, bne_f, nbeq_t, nbeq_f, nble_t, nble_f, cond_true, cond_false, Bool.not_true, Bool.not_false, Bool.and_true, Bool.true_and, Bool.and_self, room_t, w64, w32, wu8, wu8', wu16, wu32, fdiv_pos, and63i, and1023i, and31i, and15i, and7i, and192i, or64w, or32w, or16w, or4096w, or64r, or64b, or32b, or16b, optK_some, optK_none, toNat_ofNat, append_eq, List.length_cons, List.length_nil, List.length_append, List.length_map, reduceIte, toNat_s, cell_one, isI_u16, isI_i64, getI_n, hp, toNat_p, cp, List.map_cons, List.map_nil]
    rfl
def ptsOut : List (List AVal) × Int ⊕ List (List AVal) × Int → Option (List (List AVal))
  | .inl _ => none
  | .inr t => some t.1
theorem pts_loop {s : List UInt8} (hl : s.length ≤ 2000000) {n : Nat} (hn : 2000000 < n) : ∀ (d f i j : Nat) (cs : List Nat), s.length - i = d → i ≤ s.length → d < j → d ≤ f → cs.length ≤ i →
    ∃ x, ref1_points.l0 n s [] false j (cs.map cp) (i : Int) = some x ∧ ptsOut x = if (scan f (ahOf cs) (s.drop i)).2 then some ((cs ++ (scan f (ahOf cs) (s.drop i)).1).map cp) else none := by
  intro d
  induction d using Nat.strongRecOn with
  | ind d ih =>
    intro f i j cs hd hp hj hf hc
    obtain ⟨j, rfl⟩ : ∃ i, j = i + 1 := ⟨j - 1, by omega⟩
    rcases Nat.lt_or_ge i s.length with hlt | hge
    · obtain ⟨f, rfl⟩ : ∃ i, f = i + 1 := ⟨f - 1, by omega⟩
      have hd := drop_at s i hlt
      have hsc : scan (f + 1) (ahOf cs) (s.drop i) = if (pt (s.drop i)).2 = 0 || (ahOf cs && isLow (pt (s.drop i)).1) then ([], false) else ((pt (s.drop i)).1 :: (scan f (isLead (pt (s.drop i)).1) ((s.drop i).drop (pt (s.drop i)).2)).1, (scan f (isLead (pt (s.drop i)).1) ((s.drop i).drop (pt (s.drop i)).2)).2) := by
        rw [hd]; rfl
      rcases hb : ((pt (s.drop i)).2 = 0 || (ahOf cs && isLow (pt (s.drop i)).1)) with _ | _
      · have hb' := hb
        simp only [Bool.or_eq_false_iff, decide_eq_false_iff_not] at hb'
        have hw := pt_width (s.drop i)
        rw [List.length_drop] at hw
        obtain ⟨x, h, hx⟩ := ih (s.length - (i + (pt (s.drop i)).2)) (by omega) f (i + (pt (s.drop i)).2) j (cs ++ [(pt (s.drop i)).1]) rfl (by omega) (by omega) (by omega) (by simp; omega)
        refine ⟨x, ?_, ?_⟩
        · rw [pts_good hlt hl hn j cs (by omega) hb]; exact h
        · rw [hx, hsc, hb, ahOf_app, List.drop_drop]
          simp only [Bool.false_eq_true, if_false, List.append_assoc, List.singleton_append]
      · refine ⟨_, pts_bad hlt hl hn j cs (by omega) hb, ?_⟩
        rw [hsc, hb]
        simp [ptsOut]
    · refine ⟨.inr (cs.map cp, (i : Int)), ?_, ?_⟩
      · rw [ref1_points.l0.succ, ref1_points.l0.s]
        simp (disch := omega) only [ite_t, ite_f, dec_t, dec_f, beq_t, beq_f, bne_t, bne_f, nbeq_t, nbeq_f, nble_t, nble_f, cond_true, cond_false, Bool.not_true, Bool.not_false, Bool.and_true, Bool.true_and, Bool.and_self, room_t, w64, w32, wu8, wu8', wu16, wu32, fdiv_pos, and63i, and1023i, and31i, and15i, and7i, and192i, or64w, or32w, or16w, or4096w, or64r, or64b, or32b, or16b, optK_some, optK_none, toNat_ofNat, append_eq, List.length_cons, List.length_nil, List.length_append, List.length_map, reduceIte, toNat_s, cell_one, isI_u16, isI_i64, getI_n]
      · have hs : scan f (ahOf cs) [] = ([], true) := by cases f <;> rfl
        rw [List.drop_eq_nil_of_le hge, hs]
        simp [ptsOut]
theorem points_eq {s : List UInt8} (hl : s.length ≤ 2000000) {n : Nat} (hn : 2000000 < n) : ref1_points n s = some (if right s then ((pts s).1.map cp) else [], right s) := by
  obtain ⟨x, h, hx⟩ := pts_loop hl hn s.length s.length 0 n [] rfl (by omega) (by omega) (by omega) (by simp)
  unfold ref1_points ref1_points.k
  simp only [List.map_nil] at h
  rw [show (0 : Int) = ((0 : Nat) : Int) from rfl, h]
  have e : ptsOut x = if right s then some ((pts s).1.map cp) else none := hx
  rcases x with t | t
  · cases hr : right s with
    | false => rfl
    | true => rw [hr] at e; simp [ptsOut] at e
  · cases hr : right s with
    | false => rw [hr] at e; simp [ptsOut] at e
    | true =>
      rw [hr] at e
      simp only [ptsOut, if_true, Option.some.injEq] at e
      simp only [optK_some, sumK, if_true, e]
theorem rright_eq {s : List UInt8} (hl : s.length ≤ 2000000) {n : Nat} (hn : 2000000 < n) : ref1_RightText n s = some (right s) := by
  unfold ref1_RightText ref1_RightText.k
  rw [points_eq hl hn, optK_some]
theorem runits_round {cs : List Nat} (hc : ∀ c ∈ cs, c ≤ 1114111) (hl : cs.length ≤ 2000000) {i : Nat} (hi : i < cs.length) (n j : Nat) (o : List Nat) (ho : o.length ≤ 20000000) :
    ref1_Units.l0 n [] (cs.map cp) true (j + 1) (o.map unit) (i : Int) = ref1_Units.l0 n [] (cs.map cp) true j ((o ++ u16 cs[i]).map unit) ((i + 1 : Nat) : Int) := by
  have hx := hc cs[i] (List.getElem_mem hi)
  rw [ref1_Units.l0.succ, ref1_Units.l0.s, List.map_append]
  by_cases h : 65535 < cs[i]
  · simp (disch := omega) only [ite_t, ite_f, dec_t, dec_f, beq_t, beq_f, bne_t, bne_f, nbeq_t, nbeq_f, nble_t, nble_f, cond_true, cond_false, Bool.not_true, Bool.not_false, Bool.and_true, Bool.true_and, Bool.and_self, room_t, w64, w32, wu8, wu8', wu16, wu32, fdiv_pos, and63i, and1023i, and31i, and15i, and7i, and192i, or64w, or32w, or16w, or4096w, or64r, or64b, or32b, or16b, optK_some, optK_none, toNat_ofNat, append_eq, List.length_cons, List.length_nil, List.length_append, List.length_map, reduceIte, toNat_s, cell_one, isI_u16, isI_i64, getI_n, nth_map, cp, unit, u16, List.map_cons, List.map_nil]
    rw [show 55296 + ((cs[i] : Int) - 65536) / 1024 = ((55296 + (cs[i] - 65536) / 1024 : Nat) : Int) by omega, show 56320 + ((cs[i] : Int) - 65536) % 1024 = ((56320 + (cs[i] - 65536) % 1024 : Nat) : Int) by omega]
    rfl
  · simp (disch := omega) only [ite_t, ite_f, dec_t, dec_f, beq_t, beq_f, bne_t, bne_f, nbeq_t, nbeq_f, nble_t, nble_f, cond_true, cond_false, Bool.not_true, Bool.not_false, Bool.and_true, Bool.true_and, Bool.and_self, room_t, w64, w32, wu8, wu8', wu16, wu32, fdiv_pos, and63i, and1023i, and31i, and15i, and7i, and192i, or64w, or32w, or16w, or4096w, or64r, or64b, or32b, or16b, optK_some, optK_none, toNat_ofNat, append_eq, List.length_cons, List.length_nil, List.length_append, List.length_map, reduceIte, toNat_s, cell_one, isI_u16, isI_i64, getI_n, nth_map, cp, unit, u16, List.map_cons, List.map_nil]
    rfl
theorem runits_loop {cs : List Nat} (hc : ∀ c ∈ cs, c ≤ 1114111) (hl : cs.length ≤ 2000000) (n : Nat) : ∀ (d i j : Nat) (o : List Nat), cs.length - i = d → i ≤ cs.length → d < j → o.length ≤ 2 * i →
    ∃ k, ref1_Units.l0 n [] (cs.map cp) true j (o.map unit) (i : Int) = some ((o ++ (cs.drop i).flatMap u16).map unit, k) := by
  intro d
  induction d with
  | zero =>
    intro i j o hd hi hj ho
    obtain ⟨j, rfl⟩ : ∃ i, j = i + 1 := ⟨j - 1, by omega⟩
    refine ⟨(i : Int), ?_⟩
    rw [ref1_Units.l0.succ, ref1_Units.l0.s, List.drop_eq_nil_of_le (by omega)]
    simp (disch := omega) only [ite_t, ite_f, dec_t, dec_f, beq_t, beq_f, bne_t, bne_f, nbeq_t, nbeq_f, nble_t, nble_f, cond_true, cond_false, Bool.not_true, Bool.not_false, Bool.and_true, Bool.true_and, Bool.and_self, room_t, w64, w32, wu8, wu8', wu16, wu32, fdiv_pos, and63i, and1023i, and31i, and15i, and7i, and192i, or64w, or32w, or16w, or4096w, or64r, or64b, or32b, or16b, optK_some, optK_none, toNat_ofNat, append_eq, List.length_cons, List.length_nil, List.length_append, List.length_map, reduceIte, toNat_s, cell_one, isI_u16, isI_i64, getI_n, List.flatMap_nil, List.append_nil]
  | succ d ih =>
    intro i j o hd hi hj ho
    obtain ⟨j, rfl⟩ : ∃ i, j = i + 1 := ⟨j - 1, by omega⟩
    have hlt : i < cs.length := by omega
    have := u16_len cs[i]
    obtain ⟨k, h⟩ := ih (i + 1) j (o ++ u16 cs[i]) (by omega) (by omega) (by omega) (by rw [List.length_append]; omega)
    refine ⟨k, ?_⟩
    rw [runits_round hc hl hlt n j o (by omega), h, drop_at cs i hlt, List.flatMap_cons, List.append_assoc]
theorem runits_eq {s : List UInt8} (hl : s.length ≤ 2000000) {n : Nat} (hn : 2000000 < n) : ref1_Units n s = some ((unitsOf s).map unit) := by
  unfold ref1_Units ref1_Units.k
  rw [points_eq hl hn, optK_some]
  cases hr : right s with
  | false =>
    obtain ⟨j, rfl⟩ : ∃ i, n = i + 1 := ⟨n - 1, by omega⟩
    rw [ref1_Units.l0.succ, ref1_Units.l0.s, unitsOf, hr]
    rfl
  | true =>
    have hlen : (pts s).1.length ≤ 2000000 := Nat.le_trans (scan_len _ _ _) hl
    have hc : ∀ c ∈ (pts s).1, c ≤ 1114111 := okc_lt (scan_ok s.length false s (pts s).1 (pts_right hr)).1
    obtain ⟨k, h⟩ := runits_loop hc hlen n (pts s).1.length 0 n [] rfl (by omega) (by omega) (by simp)
    rw [if_pos rfl, show (0 : Int) = ((0 : Nat) : Int) from rfl, show ([] : List (List AVal)) = List.map unit [] from rfl]
    simp only [List.map_nil] at h ⊢
    rw [h, unitsOf, hr, if_pos rfl]
    rfl
theorem digit_at {k : Nat} (h : k < 10) : List.drop k (List.take (k + 1) (Array.toList (#[48, 49, 50, 51, 52, 53, 54, 55, 56, 57] : Array UInt8))) = [UInt8.ofNat (48 + k)] := by
  rcases k with _|_|_|_|_|_|_|_|_|_|k
  all_goals first | rfl | omega
theorem tdiv_n (m : Nat) : Int.tdiv (m : Int) 10 = ((m / 10 : Nat) : Int) := by
  rw [Int.tdiv_eq_ediv_of_nonneg (by omega)]; omega
theorem tmod_n (m : Nat) : Int.tmod (m : Int) 10 = ((m % 10 : Nat) : Int) := by
  rw [Int.tmod_eq_emod_of_nonneg (by omega)]; omega
theorem dec_nat (n : Nat) : ∀ (j m : Nat), m < 10 ^ j → 1 ≤ j → m < 9223372036854775809 → ref1_Dec.r n j (m : Int) = some (decDigits m) := by
  intro j
  induction j with
  | zero => intro m _ h; omega
  | succ j ih =>
    intro m h _ hm
    rw [ref1_Dec.r_succ]
    unfold ref1_Dec.k
    have h10 : m % 10 < 10 := Nat.mod_lt _ (by omega)
    by_cases hs : m < 10
    · simp (disch := omega) only [ite_t, ite_f, dec_t, dec_f, beq_t, beq_f, bne_t, bne_f, nbeq_t, nbeq_f, nble_t, nble_f, cond_true, cond_false, Bool.not_true, Bool.not_false, Bool.and_true, Bool.true_and, Bool.and_self, room_t, w64, w32, wu8, wu8', wu16, wu32, fdiv_pos, and63i, and1023i, and31i, and15i, and7i, and192i, or64w, or32w, or16w, or4096w, or64r, or64b, or32b, or16b, optK_some, optK_none, toNat_ofNat, append_eq, List.length_cons, List.length_nil, List.length_append, List.length_map, reduceIte, toNat_s, cell_one, isI_u16, isI_i64, getI_n, tmod_n, digit_at h10]
      rw [dec_small hs, Nat.mod_eq_of_lt hs]
    · have hj : 1 ≤ j := by
        rcases j with _ | j
        · simp at h; omega
        · omega
      have ih := ih (m / 10) (by rw [Nat.pow_succ] at h; omega) hj (by omega)
      have hlen := dec_len j (m / 10) (by rw [Nat.pow_succ] at h; omega) hj
      have hlen2 := dec_len 19 (m / 10) (by omega) (by omega)
      simp (disch := omega) only [ite_t, ite_f, dec_t, dec_f, beq_t, beq_f, bne_t, bne_f, nbeq_t, nbeq_f, nble_t, nble_f, cond_true, cond_false, Bool.not_true, Bool.not_false, Bool.and_true, Bool.true_and, Bool.and_self, room_t, w64, w32, wu8, wu8', wu16, wu32, fdiv_pos, and63i, and1023i, and31i, and15i, and7i, and192i, or64w, or32w, or16w, or4096w, or64r, or64b, or32b, or16b, optK_some, optK_none, toNat_ofNat, append_eq, List.length_cons, List.length_nil, List.length_append, List.length_map, reduceIte, toNat_s, cell_one, isI_u16, isI_i64, getI_n, tmod_n, tdiv_n, digit_at h10, ih]
      rw [dec_big hs]
theorem tdiv_neg (m : Nat) : Int.tdiv (-(m : Int)) 10 = -((m / 10 : Nat) : Int) := by
  rw [Int.neg_tdiv, tdiv_n]
theorem tmod_neg (m : Nat) : Int.tmod (-(m : Int)) 10 = -((m % 10 : Nat) : Int) := by
  rw [Int.neg_tmod, tmod_n]
theorem dec_zero (m : Nat) : (decDigits m == [(48 : UInt8)]) = decide (m = 0) := by
  rcases Nat.eq_zero_or_pos m with rfl | h
  · rw [dec_small (by omega)]; rfl
  · obtain ⟨c, r, hc, _, _, h4⟩ := dec_head m
    have h4 := h4 h
    rw [hc, decide_eq_false (by omega)]
    have : c ≠ 48 := fun e => by subst e; simp at h4
    show (c :: r == [48]) = false
    simp [this]
theorem zero_sub (x : Int) : 0 - x = -x := by omega
theorem zero_sub' (x : Int) : ((0 : Nat) : Int) - x = -x := by omega
theorem dec_eq {v : Int} (h0 : -9223372036854775808 ≤ v) (h1 : v ≤ 9223372036854775807) {n : Nat} (hn : 2000000 < n) : ref1_Dec n v = some (itoa v) := by
  obtain ⟨j, rfl⟩ : ∃ j, n = (j + 30) + 1 := ⟨n - 31, by omega⟩
  unfold ref1_Dec
  have hp : (9223372036854775809 : Nat) < 10 ^ (j + 30) := by
    rw [Nat.pow_add]
    have : 0 < 10 ^ j := Nat.pow_pos (by omega)
    have : 10 ^ 30 ≤ 10 ^ j * 10 ^ 30 := Nat.le_mul_of_pos_left _ this
    omega
  by_cases hneg : v < 0
  · obtain ⟨m, rfl⟩ : ∃ m : Nat, v = -(m : Int) := ⟨v.natAbs, by omega⟩
    rw [ref1_Dec.r_succ, Lib.itoa_neg m (by omega)]
    unfold ref1_Dec.k
    have h10 : m % 10 < 10 := Nat.mod_lt _ (by omega)
    have ih := dec_nat (j + 30 + 1) (j + 30) (m / 10) (by omega) (by omega) (by omega)
    have hz := dec_zero (m / 10)
    have hlen := dec_len 19 (m / 10) (by omega) (by omega)
    by_cases hs : m < 10
    · have e0 : m / 10 = 0 := by omega
      simp (disch := omega) only [ite_t, ite_f, dec_t, dec_f, beq_t, beq_f, bne_t, bne_f, nbeq_t, nbeq_f, nble_t, nble_f, cond_true, cond_false, Bool.not_true, Bool.not_false, Bool.and_true, Bool.true_and, Bool.and_self, room_t, w64, w32, wu8, wu8', wu16, wu32, fdiv_pos, and63i, and1023i, and31i, and15i, and7i, and192i, or64w, or32w, or16w, or4096w, or64r, or64b, or32b, or16b, optK_some, optK_none, toNat_ofNat, append_eq, List.length_cons, List.length_nil, List.length_append, List.length_map, reduceIte, toNat_s, cell_one, isI_u16, isI_i64, getI_n, tmod_neg, tdiv_neg, zero_sub, Int.neg_neg, digit_at h10, ih, hz]
      rw [dec_small hs, Nat.mod_eq_of_lt hs]
    · simp (disch := omega) only [ite_t, ite_f, dec_t, dec_f, beq_t, beq_f, bne_t, bne_f, nbeq_t, nbeq_f, nble_t, nble_f, cond_true, cond_false, Bool.not_true, Bool.not_false, Bool.and_true, Bool.true_and, Bool.and_self, room_t, w64, w32, wu8, wu8', wu16, wu32, fdiv_pos, and63i, and1023i, and31i, and15i, and7i, and192i, or64w, or32w, or16w, or4096w, or64r, or64b, or32b, or16b, optK_some, optK_none, toNat_ofNat, append_eq, List.length_cons, List.length_nil, List.length_append, List.length_map, reduceIte, toNat_s, cell_one, isI_u16, isI_i64, getI_n, tmod_neg, tdiv_neg, zero_sub, Int.neg_neg, digit_at h10, ih, hz]
      rw [dec_big hs]
  · obtain ⟨m, rfl⟩ : ∃ m : Nat, v = (m : Int) := ⟨v.toNat, by omega⟩
    rw [Lib.itoa_nonneg, dec_nat _ (j + 30 + 1) m (by rw [Nat.pow_succ]; omega) (by omega) (by omega)]
theorem safe_eq (n : Int) : numbers_Safe n = some (isSafe n) := by
  unfold numbers_Safe numbers_Safe.k isSafe
  by_cases h : -9007199254740991 ≤ n
  · simp (disch := omega) only [ite_t, ite_f, dec_t, dec_f, beq_t, beq_f, bne_t, bne_f, nbeq_t, nbeq_f, nble_t, nble_f, cond_true, cond_false, Bool.not_true, Bool.not_false, Bool.and_true, Bool.true_and, Bool.and_self, room_t, w64, w32, wu8, wu8', wu16, wu32, fdiv_pos, and63i, and1023i, and31i, and15i, and7i, and192i, or64w, or32w, or16w, or4096w, or64r, or64b, or32b, or16b, optK_some, optK_none, toNat_ofNat, append_eq, List.length_cons, List.length_nil, List.length_append, List.length_map, reduceIte, toNat_s, cell_one, isI_u16, isI_i64, getI_n, ge_iff_le]
  · simp (disch := omega) only [ite_t, ite_f, dec_t, dec_f, beq_t, beq_f, bne_t, bne_f, nbeq_t, nbeq_f, nble_t, nble_f, cond_true, cond_false, Bool.not_true, Bool.not_false, Bool.and_true, Bool.true_and, Bool.and_self, room_t, w64, w32, wu8, wu8', wu16, wu32, fdiv_pos, and63i, and1023i, and31i, and15i, and7i, and192i, or64w, or32w, or16w, or4096w, or64r, or64b, or32b, or16b, optK_some, optK_none, toNat_ofNat, append_eq, List.length_cons, List.length_nil, List.length_append, List.length_map, reduceIte, toNat_s, cell_one, isI_u16, isI_i64, getI_n, ge_iff_le, Bool.false_and]
theorem rsafe_eq (n : Int) : ref1_Safe n = some (isSafe n) := by
  unfold ref1_Safe ref1_Safe.k isSafe
  by_cases h : -9007199254740991 ≤ n
  · simp (disch := omega) only [ite_t, ite_f, dec_t, dec_f, beq_t, beq_f, bne_t, bne_f, nbeq_t, nbeq_f, nble_t, nble_f, cond_true, cond_false, Bool.not_true, Bool.not_false, Bool.and_true, Bool.true_and, Bool.and_self, room_t, w64, w32, wu8, wu8', wu16, wu32, fdiv_pos, and63i, and1023i, and31i, and15i, and7i, and192i, or64w, or32w, or16w, or4096w, or64r, or64b, or32b, or16b, optK_some, optK_none, toNat_ofNat, append_eq, List.length_cons, List.length_nil, List.length_append, List.length_map, reduceIte, toNat_s, cell_one, isI_u16, isI_i64, getI_n, ge_iff_le]
  · simp (disch := omega) only [ite_t, ite_f, dec_t, dec_f, beq_t, beq_f, bne_t, bne_f, nbeq_t, nbeq_f, nble_t, nble_f, cond_true, cond_false, Bool.not_true, Bool.not_false, Bool.and_true, Bool.true_and, Bool.and_self, room_t, w64, w32, wu8, wu8', wu16, wu32, fdiv_pos, and63i, and1023i, and31i, and15i, and7i, and192i, or64w, or32w, or16w, or4096w, or64r, or64b, or32b, or16b, optK_some, optK_none, toNat_ofNat, append_eq, List.length_cons, List.length_nil, List.length_append, List.length_map, reduceIte, toNat_s, cell_one, isI_u16, isI_i64, getI_n, ge_iff_le, Bool.false_and]
def rnOut : Int × Int ⊕ Int × Int → Option Int
  | .inl _ => none
  | .inr t => some t.1
theorem rn_loop {s : List UInt8} (hl : s.length ≤ 1000) (n : Nat) (a : Int) (b : Bool) (c0 : Int) : ∀ (l : List UInt8) (i j acc k : Nat), s.drop i = l → l.length < j → acc < 10 ^ k → k + l.length ≤ 17 →
    ∃ x, ref1_ReadNumber.l0 n s a b c0 j (acc : Int) (i : Int) = some x ∧ rnOut x = if l.all isDig then some (dv acc l : Int) else none := by
  intro l
  induction l with
  | nil =>
    intro i j acc k hd hj _ _
    obtain ⟨j, rfl⟩ : ∃ m, j = m + 1 := ⟨j - 1, by simp at hj; omega⟩
    have hi : s.length ≤ i := by
      have := congrArg List.length hd
      simp at this; omega
    rw [ref1_ReadNumber.l0.succ, ref1_ReadNumber.l0.s]
    refine ⟨.inr ((acc : Int), (i : Int)), ?_, rfl⟩
    simp (disch := omega) only [ite_t, ite_f, dec_t, dec_f, beq_t, beq_f, bne_t, bne_f, nbeq_t, nbeq_f, nble_t, nble_f, cond_true, cond_false, Bool.not_true, Bool.not_false, Bool.and_true, Bool.true_and, Bool.and_self, room_t, w64, w32, wu8, wu8', wu16, wu32, fdiv_pos, and63i, and1023i, and31i, and15i, and7i, and192i, or64w, or32w, or16w, or4096w, or64r, or64b, or32b, or16b, optK_some, optK_none, toNat_ofNat, append_eq, List.length_cons, List.length_nil, List.length_append, List.length_map, reduceIte, toNat_s, cell_one, isI_u16, isI_i64, getI_n]
  | cons c r ih =>
    intro i j acc k hd hj ha hk
    obtain ⟨j, rfl⟩ : ∃ m, j = m + 1 := ⟨j - 1, by simp at hj; omega⟩
    obtain ⟨e1, e2, e3⟩ := byteAt_drop hd
    have hc := Go.Uni.b_lt c
    simp only [List.length_cons] at hj hk
    have h16 : acc < 10000000000000000 := Nat.lt_of_lt_of_le ha (show 10 ^ k ≤ 10 ^ 16 from Nat.pow_le_pow_right (by omega) (by omega))
    have hpow : acc * 10 + (c.toNat - 48) < 10 ^ (k + 1) ∨ ¬ c.toNat ≤ 57 := by rw [Nat.pow_succ]; omega
    clear ha
    rw [ref1_ReadNumber.l0.succ, ref1_ReadNumber.l0.s]
    by_cases h1 : 48 ≤ c.toNat
    · by_cases h2 : c.toNat ≤ 57
      · obtain ⟨x, hx, ho⟩ := ih (i + 1) j (acc * 10 + (c.toNat - 48)) (k + 1) e3 (by omega) (hpow.resolve_right (fun h => h h2)) (by omega)
        clear hpow
        refine ⟨x, ?_, ?_⟩
        · have e : (acc : Int) * 10 + (c.toNat : Int) - 48 = ((acc * 10 + (c.toNat - 48) : Nat) : Int) := by omega
          simp (disch := omega) only [ite_t, ite_f, dec_t, dec_f, beq_t, beq_f, bne_t, bne_f, nbeq_t, nbeq_f, nble_t, nble_f, cond_true, cond_false, Bool.not_true, Bool.not_false, Bool.and_true, Bool.true_and, Bool.and_self, room_t, w64, w32, wu8, wu8', wu16, wu32, fdiv_pos, and63i, and1023i, and31i, and15i, and7i, and192i, or64w, or32w, or16w, or4096w, or64r, or64b, or32b, or16b, optK_some, optK_none, toNat_ofNat, append_eq, List.length_cons, List.length_nil, List.length_append, List.length_map, reduceIte, toNat_s, cell_one, isI_u16, isI_i64, getI_n, e1, e]
          exact hx
        · refine ho.trans ?_
          have hdig : isDig c = true := by simp only [isDig, h1, h2, decide_true, Bool.and_self]
          rw [List.all_cons, hdig, Bool.true_and]
          exact congrArg (fun z => if r.all isDig then some z else none) rfl
      · refine ⟨.inl ((acc : Int), (i : Int)), ?_, ?_⟩
        · simp (disch := omega) only [ite_t, ite_f, dec_t, dec_f, beq_t, beq_f, bne_t, bne_f, nbeq_t, nbeq_f, nble_t, nble_f, cond_true, cond_false, Bool.not_true, Bool.not_false, Bool.and_true, Bool.true_and, Bool.and_self, room_t, w64, w32, wu8, wu8', wu16, wu32, fdiv_pos, and63i, and1023i, and31i, and15i, and7i, and192i, or64w, or32w, or16w, or4096w, or64r, or64b, or32b, or16b, optK_some, optK_none, toNat_ofNat, append_eq, List.length_cons, List.length_nil, List.length_append, List.length_map, reduceIte, toNat_s, cell_one, isI_u16, isI_i64, getI_n, e1]
        · have : isDig c = false := by simp [isDig, h2]
          simp [this, rnOut]
    · refine ⟨.inl ((acc : Int), (i : Int)), ?_, ?_⟩
      · simp (disch := omega) only [ite_t, ite_f, dec_t, dec_f, beq_t, beq_f, bne_t, bne_f, nbeq_t, nbeq_f, nble_t, nble_f, cond_true, cond_false, Bool.not_true, Bool.not_false, Bool.and_true, Bool.true_and, Bool.and_self, room_t, w64, w32, wu8, wu8', wu16, wu32, fdiv_pos, and63i, and1023i, and31i, and15i, and7i, and192i, or64w, or32w, or16w, or4096w, or64r, or64b, or32b, or16b, optK_some, optK_none, toNat_ofNat, append_eq, List.length_cons, List.length_nil, List.length_append, List.length_map, reduceIte, toNat_s, cell_one, isI_u16, isI_i64, getI_n, e1]
      · have : isDig c = false := by simp [isDig, h1]
        simp [this, rnOut]
def signed (neg : Bool) (m : Nat) : Int := if neg then -(m : Int) else m
def rnBody (neg : Bool) (long : Bool) (l : List UInt8) : Int × Bool :=
  match l with
  | [] => (0, false)
  | c :: _ => if decide (16 < l.length) || (decide (c.toNat = 48) && long) then (0, false)
    else if l.all isDig then (signed neg (dv 0 l), isSafe (signed neg (dv 0 l))) else (0, false)
def rnS (s : List UInt8) : Int × Bool :=
  match s with
  | [] => (0, false)
  | a :: r => if a.toNat = 45 then rnBody true (decide (1 < s.length)) r else rnBody false (decide (1 < s.length)) s
theorem beq_nil (a : UInt8) (r : List UInt8) : ((a :: r) == Array.toList #[]) = false := rfl
theorem beq_nil' (a : UInt8) (r : List UInt8) : ((a :: r) == ([] : List UInt8)) = false := rfl
theorem b0 (a : UInt8) (r : List UInt8) : byteAt (a :: r) 0 = (a.toNat : Int) := rfl
theorem b1 (a b : UInt8) (r : List UInt8) : byteAt (a :: b :: r) 1 = (b.toNat : Int) := rfl
theorem rn_eq {s : List UInt8} (hl : s.length ≤ 1000) {n : Nat} (hn : 2000000 < n) : ref1_ReadNumber n s = some (rnS s) := by
  unfold ref1_ReadNumber ref1_ReadNumber.k
  rcases s with _ | ⟨a, r⟩
  · rfl
  · simp only [List.length_cons] at hl
    have hl' : (a :: r).length ≤ 1000 := by simp only [List.length_cons]; omega
    by_cases ha : a.toNat = 45
    · rcases r with _ | ⟨c, r⟩
      · simp (disch := omega) only [ite_t, ite_f, dec_t, dec_f, beq_t, beq_f, bne_t, bne_f, nbeq_t, nbeq_f, nble_t, nble_f, cond_true, cond_false, Bool.not_true, Bool.not_false, Bool.and_true, Bool.true_and, Bool.and_self, room_t, w64, w32, wu8, wu8', wu16, wu32, fdiv_pos, and63i, and1023i, and31i, and15i, and7i, and192i, or64w, or32w, or16w, or4096w, or64r, or64b, or32b, or16b, optK_some, optK_none, toNat_ofNat, append_eq, List.length_cons, List.length_nil, List.length_append, List.length_map, reduceIte, toNat_s, cell_one, isI_u16, isI_i64, getI_n, beq_nil, beq_nil', b0, rnS, rnBody]
      · simp only [List.length_cons] at hl
        by_cases h16 : r.length + 1 ≤ 16
        · by_cases h0 : c.toNat = 48
          · simp (disch := omega) only [ite_t, ite_f, dec_t, dec_f, beq_t, beq_f, bne_t, bne_f, nbeq_t, nbeq_f, nble_t, nble_f, cond_true, cond_false, Bool.not_true, Bool.not_false, Bool.and_true, Bool.true_and, Bool.and_self, room_t, w64, w32, wu8, wu8', wu16, wu32, fdiv_pos, and63i, and1023i, and31i, and15i, and7i, and192i, or64w, or32w, or16w, or4096w, or64r, or64b, or32b, or16b, optK_some, optK_none, toNat_ofNat, append_eq, List.length_cons, List.length_nil, List.length_append, List.length_map, reduceIte, toNat_s, cell_one, isI_u16, isI_i64, getI_n, beq_nil, beq_nil', b0, b1, rnS, rnBody, Bool.or_true]
          · obtain ⟨x, hx, ho⟩ := rn_loop hl' n 0 false 1 (c :: r) 1 n 0 0 rfl (by simp; omega) (by simp) (by simp; omega)
            simp (disch := omega) only [ite_t, ite_f, dec_t, dec_f, beq_t, beq_f, bne_t, bne_f, nbeq_t, nbeq_f, nble_t, nble_f, cond_true, cond_false, Bool.not_true, Bool.not_false, Bool.and_true, Bool.true_and, Bool.and_self, room_t, w64, w32, wu8, wu8', wu16, wu32, fdiv_pos, and63i, and1023i, and31i, and15i, and7i, and192i, or64w, or32w, or16w, or4096w, or64r, or64b, or32b, or16b, optK_some, optK_none, toNat_ofNat, append_eq, List.length_cons, List.length_nil, List.length_append, List.length_map, reduceIte, toNat_s, cell_one, isI_u16, isI_i64, getI_n, beq_nil, beq_nil', b0, b1, rnS, rnBody, Bool.or_false, Bool.false_and, Bool.false_or, Bool.false_eq_true]
            rw [show (0 : Int) = ((0 : Nat) : Int) from rfl, show (1 : Int) = ((1 : Nat) : Int) from rfl] at hx ⊢
            rw [hx]
            cases hd : (c :: r).all isDig with
            | false =>
              rw [hd] at ho
              rcases x with t | t
              · rfl
              · simp [rnOut] at ho
            | true =>
              rw [hd] at ho
              rcases x with t | t
              · simp [rnOut] at ho
              · simp only [rnOut, if_true, Option.some.injEq] at ho
                have hb := dv_lt (c :: r) 0 0 hd (by simp)
                have hb2 : 10 ^ (0 + (c :: r).length) ≤ 10 ^ 16 := Nat.pow_le_pow_right (by omega) (by simp; omega)
                simp (disch := omega) only [ite_t, ite_f, dec_t, dec_f, beq_t, beq_f, bne_t, bne_f, nbeq_t, nbeq_f, nble_t, nble_f, cond_true, cond_false, Bool.not_true, Bool.not_false, Bool.and_true, Bool.true_and, Bool.and_self, room_t, w64, w32, wu8, wu8', wu16, wu32, fdiv_pos, and63i, and1023i, and31i, and15i, and7i, and192i, or64w, or32w, or16w, or4096w, or64r, or64b, or32b, or16b, optK_some, optK_none, toNat_ofNat, append_eq, List.length_cons, List.length_nil, List.length_append, List.length_map, reduceIte, toNat_s, cell_one, isI_u16, isI_i64, getI_n, sumK, ho, zero_sub, zero_sub', rsafe_eq, signed]
        · simp (disch := omega) only [ite_t, ite_f, dec_t, dec_f, beq_t, beq_f, bne_t, bne_f, nbeq_t, nbeq_f, nble_t, nble_f, cond_true, cond_false, Bool.not_true, Bool.not_false, Bool.and_true, Bool.true_and, Bool.and_self, room_t, w64, w32, wu8, wu8', wu16, wu32, fdiv_pos, and63i, and1023i, and31i, and15i, and7i, and192i, or64w, or32w, or16w, or4096w, or64r, or64b, or32b, or16b, optK_some, optK_none, toNat_ofNat, append_eq, List.length_cons, List.length_nil, List.length_append, List.length_map, reduceIte, toNat_s, cell_one, isI_u16, isI_i64, getI_n, beq_nil, beq_nil', b0, b1, rnS, rnBody, Bool.true_or]
    · by_cases h16 : r.length + 1 ≤ 16
      · by_cases h0 : a.toNat = 48 ∧ 1 ≤ r.length
        · simp (disch := omega) only [ite_t, ite_f, dec_t, dec_f, beq_t, beq_f, bne_t, bne_f, nbeq_t, nbeq_f, nble_t, nble_f, cond_true, cond_false, Bool.not_true, Bool.not_false, Bool.and_true, Bool.true_and, Bool.and_self, room_t, w64, w32, wu8, wu8', wu16, wu32, fdiv_pos, and63i, and1023i, and31i, and15i, and7i, and192i, or64w, or32w, or16w, or4096w, or64r, or64b, or32b, or16b, optK_some, optK_none, toNat_ofNat, append_eq, List.length_cons, List.length_nil, List.length_append, List.length_map, reduceIte, toNat_s, cell_one, isI_u16, isI_i64, getI_n, beq_nil, beq_nil', b0, b1, rnS, rnBody, Bool.or_true]
        · obtain ⟨x, hx, ho⟩ := rn_loop hl' n 0 false 0 (a :: r) 0 n 0 0 rfl (by simp; omega) (by simp) (by simp; omega)
          have hlong : (decide (a.toNat = 48) && decide (1 < r.length + 1)) = false := by
            simp only [Bool.and_eq_false_iff, decide_eq_false_iff_not]; omega
          have hgo : ∀ (X : Option (Int × Bool)), (∀ x, ref1_ReadNumber.l0 n (a :: r) 0 false 0 n 0 0 = some x → True) → True := fun _ _ => trivial
          clear hgo
          have key : (optK (ref1_ReadNumber.l0 n (a :: r) 0 false 0 n 0 0) fun b => sumK b (fun b => some ((0 : Int), false)) fun b => optK (ref1_Safe b.1) fun b_1 => some (b.1, b_1)) = some (if (a :: r).all isDig then (signed false (dv 0 (a :: r)), isSafe (signed false (dv 0 (a :: r)))) else (0, false)) := by
            rw [show ref1_ReadNumber.l0 n (a :: r) 0 false 0 n 0 0 = some x from hx]
            cases hd : (a :: r).all isDig with
            | false =>
              rw [hd] at ho
              rcases x with t | t
              · rfl
              · simp [rnOut] at ho
            | true =>
              rw [hd] at ho
              rcases x with t | t
              · simp [rnOut] at ho
              · simp only [rnOut, if_true, Option.some.injEq] at ho
                simp (disch := omega) only [ite_t, ite_f, dec_t, dec_f, beq_t, beq_f, bne_t, bne_f, nbeq_t, nbeq_f, nble_t, nble_f, cond_true, cond_false, Bool.not_true, Bool.not_false, Bool.and_true, Bool.true_and, Bool.and_self, room_t, w64, w32, wu8, wu8', wu16, wu32, fdiv_pos, and63i, and1023i, and31i, and15i, and7i, and192i, or64w, or32w, or16w, or4096w, or64r, or64b, or32b, or16b, optK_some, optK_none, toNat_ofNat, append_eq, List.length_cons, List.length_nil, List.length_append, List.length_map, reduceIte, toNat_s, cell_one, isI_u16, isI_i64, getI_n, sumK, ho, rsafe_eq, signed, Bool.false_eq_true]
          by_cases h48 : a.toNat = 48
          · simp (disch := omega) only [ite_t, ite_f, dec_t, dec_f, beq_t, beq_f, bne_t, bne_f, nbeq_t, nbeq_f, nble_t, nble_f, cond_true, cond_false, Bool.not_true, Bool.not_false, Bool.and_true, Bool.true_and, Bool.and_self, room_t, w64, w32, wu8, wu8', wu16, wu32, fdiv_pos, and63i, and1023i, and31i, and15i, and7i, and192i, or64w, or32w, or16w, or4096w, or64r, or64b, or32b, or16b, optK_some, optK_none, toNat_ofNat, append_eq, List.length_cons, List.length_nil, List.length_append, List.length_map, reduceIte, toNat_s, cell_one, isI_u16, isI_i64, getI_n, beq_nil, beq_nil', b0, b1, rnS, rnBody, Bool.false_or, Bool.false_and, Bool.and_false, Bool.or_false, Bool.false_eq_true]
            exact key
          · simp (disch := omega) only [ite_t, ite_f, dec_t, dec_f, beq_t, beq_f, bne_t, bne_f, nbeq_t, nbeq_f, nble_t, nble_f, cond_true, cond_false, Bool.not_true, Bool.not_false, Bool.and_true, Bool.true_and, Bool.and_self, room_t, w64, w32, wu8, wu8', wu16, wu32, fdiv_pos, and63i, and1023i, and31i, and15i, and7i, and192i, or64w, or32w, or16w, or4096w, or64r, or64b, or32b, or16b, optK_some, optK_none, toNat_ofNat, append_eq, List.length_cons, List.length_nil, List.length_append, List.length_map, reduceIte, toNat_s, cell_one, isI_u16, isI_i64, getI_n, beq_nil, beq_nil', b0, b1, rnS, rnBody, Bool.false_or, Bool.false_and, Bool.and_false, Bool.or_false, Bool.false_eq_true]
            exact key
      · simp (disch := omega) only [ite_t, ite_f, dec_t, dec_f, beq_t, beq_f, bne_t, bne_f, nbeq_t, nbeq_f, nble_t, nble_f, cond_true, cond_false, Bool.not_true, Bool.not_false, Bool.and_true, Bool.true_and, Bool.and_self, room_t, w64, w32, wu8, wu8', wu16, wu32, fdiv_pos, and63i, and1023i, and31i, and15i, and7i, and192i, or64w, or32w, or16w, or4096w, or64r, or64b, or32b, or16b, optK_some, optK_none, toNat_ofNat, append_eq, List.length_cons, List.length_nil, List.length_append, List.length_map, reduceIte, toNat_s, cell_one, isI_u16, isI_i64, getI_n, beq_nil, beq_nil', b0, b1, rnS, rnBody, Bool.true_or]
theorem rn_itoa {v : Int} (h : isSafe v = true) : rnS (itoa v) = (v, true) := by
  have h' := h
  simp only [isSafe, Bool.and_eq_true, decide_eq_true_eq] at h'
  by_cases hn : v < 0
  · obtain ⟨m, rfl⟩ : ∃ m : Nat, v = -(m : Int) := ⟨v.natAbs, by omega⟩
    obtain ⟨c, r, hc, _, _, c4⟩ := dec_head m
    have c4 := c4 (by omega)
    have hlen := dec_len 16 m (by omega) (by omega)
    have hall := dec_all m
    have hdv := dec_dv m
    rw [Lib.itoa_neg m (by omega)]
    rw [hc] at hlen hall hdv ⊢
    simp only [rnS]
    rw [if_pos (show UInt8.toNat 45 = 45 from rfl)]
    simp only [rnBody]
    rw [if_neg (by simp only [Bool.or_eq_true, Bool.and_eq_true, decide_eq_true_eq]; omega), if_pos hall, hdv]
    simp only [signed, if_true, h]
  · obtain ⟨m, rfl⟩ : ∃ m : Nat, v = (m : Int) := ⟨v.toNat, by omega⟩
    obtain ⟨c, r, hc, c1, c2, c4⟩ := dec_head m
    have hlen := dec_len 16 m (by omega) (by omega)
    have hall := dec_all m
    have hdv := dec_dv m
    have hone : m = 0 → decDigits m = [UInt8.ofNat (48 + m)] := fun e => dec_small (by omega)
    rw [Lib.itoa_nonneg]
    rw [hc] at hlen hall hdv hone ⊢
    simp only [rnS]
    rw [if_neg (by omega)]
    simp only [rnBody]
    have hr : m = 0 → r.length = 0 := fun e => by rw [(List.cons.inj (hone e)).2]; rfl
    rw [if_neg (by simp only [Bool.or_eq_true, Bool.and_eq_true, decide_eq_true_eq, List.length_cons] at hlen ⊢; omega), if_pos hall, hdv]
    simp only [signed, Bool.false_eq_true, if_false, h]
theorem rn_safe {s : List UInt8} (h : (rnS s).2 = true) : isSafe (rnS s).1 = true := by
  have hb : ∀ neg long l, (rnBody neg long l).2 = true → isSafe (rnBody neg long l).1 = true := fun neg long l h => by
    unfold rnBody at h ⊢
    split at h
    · cases h
    · split at h
      · cases h
      · rename_i h1
        rw [if_neg h1]
        split at h
        · rename_i h2
          rw [if_pos h2]; exact h
        · cases h
  unfold rnS at h ⊢
  split at h
  · cases h
  · split at h
    · rename_i h1
      simp only [h1, if_true] at h ⊢; exact hb _ _ _ h
    · rename_i h1
      simp only [h1, if_false] at h ⊢; exact hb _ _ _ h
theorem itoa_len {v : Int} (h0 : -9223372036854775808 ≤ v) (h1 : v ≤ 9223372036854775807) : (itoa v).length ≤ 100 := by
  rw [itoa]
  split
  · have := dec_len 19 v.natAbs (by omega) (by omega)
    simp only [List.length_cons]; omega
  · have := dec_len 19 v.toNat (by omega) (by omega); omega
theorem text_some {v : Int} (h0 : -9223372036854775808 ≤ v) (h1 : v ≤ 9223372036854775807) : numbers_Text v = some () := by
  unfold numbers_Text numbers_Text.k isI64
  simp (disch := omega) only [ite_t, ite_f, dec_t, dec_f, beq_t, beq_f, bne_t, bne_f, nbeq_t, nbeq_f, nble_t, nble_f, cond_true, cond_false, Bool.not_true, Bool.not_false, Bool.and_true, Bool.true_and, Bool.and_self, room_t, w64, w32, wu8, wu8', wu16, wu32, fdiv_pos, and63i, and1023i, and31i, and15i, and7i, and192i, or64w, or32w, or16w, or4096w, or64r, or64b, or32b, or16b, optK_some, optK_none, toNat_ofNat, append_eq, List.length_cons, List.length_nil, List.length_append, List.length_map, reduceIte, toNat_s, cell_one, isI_u16, isI_i64, getI_n]
end Go.Proofs.YtjlhnnphfdjmdaaDoor.L0
