/- What the functions of the units, of numbers' texts and of quotes compute. -/
import Derived.Test.YtefenlmpbgdpnaaDoorEbX1
import Derived.Test.YtefenlmpbgdpnaaDoorEb3
namespace Go.Proofs.YtefenlmpbgdpnaaDoor.L
open Go.Abs Go.Uni Go.Plain Go.Deci
open Go.Lib (itoa decDigits)
set_option maxRecDepth 100000
set_option maxHeartbeats 1000000
set_option linter.unusedVariables false
set_option linter.unusedSimpArgs false
theorem halfAt_eq (s : List UInt8) : units_halfAt s = some (halfV s, halfB s) := by
  unfold units_halfAt units_halfAt.k
  rcases Nat.lt_or_ge s.length 3 with h3 | h3
  · simp (disch := omega) only [ite_t, ite_f, dec_t, dec_f, beq_t, beq_f, bne_t, bne_f, nbeq_t, nbeq_f, nble_t, nble_f, cond_true, cond_false, Bool.not_true, Bool.not_false, Bool.and_true, Bool.true_and, Bool.and_self, room_t, w64, w32, wu8, wu8', wu16, wu32, fdiv_pos, and63i, and1023i, and31i, and15i, and7i, and192i, or64w, or32w, or16w, or4096w, or64r, or64b, or32b, or16b, optK_some, optK_none, toNat_ofNat, append_eq, List.length_cons, List.length_nil, List.length_append, List.length_map, reduceIte, toNat_s, cell_one, isI_u16, isI_i64, getI_n, halfB_short h3, halfV]
  · match s, h3 with
    | a :: b :: c :: r, _ =>
      have ha := b_lt a
      have hb := b_lt b
      have hc := b_lt c
      have e0 : byteAt (a :: b :: c :: r) 0 = (a.toNat : Int) := rfl
      have e1 : byteAt (a :: b :: c :: r) 1 = (b.toNat : Int) := rfl
      have e2 : byteAt (a :: b :: c :: r) 2 = (c.toNat : Int) := rfl
      have hn : ∀ (h : ¬ (a.toNat = 237 ∧ 160 ≤ b.toNat ∧ b.toNat ≤ 191 ∧ 128 ≤ c.toNat ∧ c.toNat ≤ 191)), halfB (a :: b :: c :: r) = false := fun h => by
        cases e : halfB (a :: b :: c :: r) with
        | false => rfl
        | true => exact absurd (halfB_237 e) h
      rw [e0, e1, e2]
      by_cases h1 : a.toNat = 237
      · by_cases h2 : 160 ≤ b.toNat
        · by_cases h4 : b.toNat ≤ 191
          · by_cases h5 : 128 ≤ c.toNat ∧ c.toNat ≤ 191
            · have e := half_of (r := r) h1 h2 h4 h5.1 h5.2
              have hB : halfB (a :: b :: c :: r) = true := by simp [halfB, e, isHalf]; omega
              simp (disch := omega) only [ite_t, ite_f, dec_t, dec_f, beq_t, beq_f, bne_t, bne_f, nbeq_t, nbeq_f, nble_t, nble_f, cond_true, cond_false, Bool.not_true, Bool.not_false, Bool.and_true, Bool.true_and, Bool.and_self, room_t, w64, w32, wu8, wu8', wu16, wu32, fdiv_pos, and63i, and1023i, and31i, and15i, and7i, and192i, or64w, or32w, or16w, or4096w, or64r, or64b, or32b, or16b, optK_some, optK_none, toNat_ofNat, append_eq, List.length_cons, List.length_nil, List.length_append, List.length_map, reduceIte, toNat_s, cell_one, isI_u16, isI_i64, getI_n, halfV, hB, e]
              congr 2 <;> omega
            · simp (disch := omega) only [ite_t, ite_f, dec_t, dec_f, beq_t, beq_f, bne_t, bne_f, nbeq_t, nbeq_f, nble_t, nble_f, cond_true, cond_false, Bool.not_true, Bool.not_false, Bool.and_true, Bool.true_and, Bool.and_self, room_t, w64, w32, wu8, wu8', wu16, wu32, fdiv_pos, and63i, and1023i, and31i, and15i, and7i, and192i, or64w, or32w, or16w, or4096w, or64r, or64b, or32b, or16b, optK_some, optK_none, toNat_ofNat, append_eq, List.length_cons, List.length_nil, List.length_append, List.length_map, reduceIte, toNat_s, cell_one, isI_u16, isI_i64, getI_n, halfV, hn (by omega)]
          · simp (disch := omega) only [ite_t, ite_f, dec_t, dec_f, beq_t, beq_f, bne_t, bne_f, nbeq_t, nbeq_f, nble_t, nble_f, cond_true, cond_false, Bool.not_true, Bool.not_false, Bool.and_true, Bool.true_and, Bool.and_self, room_t, w64, w32, wu8, wu8', wu16, wu32, fdiv_pos, and63i, and1023i, and31i, and15i, and7i, and192i, or64w, or32w, or16w, or4096w, or64r, or64b, or32b, or16b, optK_some, optK_none, toNat_ofNat, append_eq, List.length_cons, List.length_nil, List.length_append, List.length_map, reduceIte, toNat_s, cell_one, isI_u16, isI_i64, getI_n, halfV, hn (by omega)]
        · simp (disch := omega) only [ite_t, ite_f, dec_t, dec_f, beq_t, beq_f, bne_t, bne_f, nbeq_t, nbeq_f, nble_t, nble_f, cond_true, cond_false, Bool.not_true, Bool.not_false, Bool.and_true, Bool.true_and, Bool.and_self, room_t, w64, w32, wu8, wu8', wu16, wu32, fdiv_pos, and63i, and1023i, and31i, and15i, and7i, and192i, or64w, or32w, or16w, or4096w, or64r, or64b, or32b, or16b, optK_some, optK_none, toNat_ofNat, append_eq, List.length_cons, List.length_nil, List.length_append, List.length_map, reduceIte, toNat_s, cell_one, isI_u16, isI_i64, getI_n, halfV, hn (by omega)]
      · simp (disch := omega) only [ite_t, ite_f, dec_t, dec_f, beq_t, beq_f, bne_t, bne_f, nbeq_t, nbeq_f, nble_t, nble_f, cond_true, cond_false, Bool.not_true, Bool.not_false, Bool.and_true, Bool.true_and, Bool.and_self, room_t, w64, w32, wu8, wu8', wu16, wu32, fdiv_pos, and63i, and1023i, and31i, and15i, and7i, and192i, or64w, or32w, or16w, or4096w, or64r, or64b, or32b, or16b, optK_some, optK_none, toNat_ofNat, append_eq, List.length_cons, List.length_nil, List.length_append, List.length_map, reduceIte, toNat_s, cell_one, isI_u16, isI_i64, getI_n, halfV, hn (by omega)]
theorem ofOne_eq {c : Nat} (hc : c ≤ 1114111) (o : List Nat) (ho : o.length ≤ 20000000) : units_ofOne (c : Int) (o.map unit) = some ((o ++ u16 c).map unit) := by
  unfold units_ofOne units_ofOne.k
  rw [List.map_append]
  by_cases h : c < 65536
  · simp (disch := omega) only [ite_t, ite_f, dec_t, dec_f, beq_t, beq_f, bne_t, bne_f, nbeq_t, nbeq_f, nble_t, nble_f, cond_true, cond_false, Bool.not_true, Bool.not_false, Bool.and_true, Bool.true_and, Bool.and_self, room_t, w64, w32, wu8, wu8', wu16, wu32, fdiv_pos, and63i, and1023i, and31i, and15i, and7i, and192i, or64w, or32w, or16w, or4096w, or64r, or64b, or32b, or16b, optK_some, optK_none, toNat_ofNat, append_eq, List.length_cons, List.length_nil, List.length_append, List.length_map, reduceIte, toNat_s, cell_one, isI_u16, isI_i64, getI_n, u16, List.map_cons, List.map_nil, unit]
  · simp (disch := omega) only [ite_t, ite_f, dec_t, dec_f, beq_t, beq_f, bne_t, bne_f, nbeq_t, nbeq_f, nble_t, nble_f, cond_true, cond_false, Bool.not_true, Bool.not_false, Bool.and_true, Bool.true_and, Bool.and_self, room_t, w64, w32, wu8, wu8', wu16, wu32, fdiv_pos, and63i, and1023i, and31i, and15i, and7i, and192i, or64w, or32w, or16w, or4096w, or64r, or64b, or32b, or16b, optK_some, optK_none, toNat_ofNat, append_eq, List.length_cons, List.length_nil, List.length_append, List.length_map, reduceIte, toNat_s, cell_one, isI_u16, isI_i64, getI_n, u16, List.map_cons, List.map_nil, unit]
    congr 6 <;> omega
theorem app_eq {c : Nat} (h1 : 128 ≤ c) (h : c ≤ 1114111) (hh : isHalf c = false) (o : List UInt8) (ho : o.length ≤ 20000000) : utf8_app (o.map byte) (c : Int) = some ((o ++ enc c).map byte) := by
  unfold utf8_app utf8_app.k
  rw [List.map_append]
  simp only [isHalf, Bool.and_eq_false_iff, decide_eq_false_iff_not] at hh
  by_cases a : c < 2048
  · simp (disch := omega) only [ite_t, ite_f, dec_t, dec_f, beq_t, beq_f, bne_t, bne_f, nbeq_t, nbeq_f, nble_t, nble_f, cond_true, cond_false, Bool.not_true, Bool.not_false, Bool.and_true, Bool.true_and, Bool.and_self, room_t, w64, w32, wu8, wu8', wu16, wu32, fdiv_pos, and63i, and1023i, and31i, and15i, and7i, and192i, or64w, or32w, or16w, or4096w, or64r, or64b, or32b, or16b, optK_some, optK_none, toNat_ofNat, append_eq, List.length_cons, List.length_nil, List.length_append, List.length_map, reduceIte, toNat_s, cell_one, isI_u16, isI_i64, getI_n, enc, List.map_cons, List.map_nil, byte, ob_toNat]
    simp only [Option.some.injEq, List.append_cancel_left_eq, List.cons.injEq, AVal.int.injEq, true_and, and_true]; omega
  · by_cases d : c < 65536
    · by_cases e : c < 55296
      · simp (disch := omega) only [ite_t, ite_f, dec_t, dec_f, beq_t, beq_f, bne_t, bne_f, nbeq_t, nbeq_f, nble_t, nble_f, cond_true, cond_false, Bool.not_true, Bool.not_false, Bool.and_true, Bool.true_and, Bool.and_self, room_t, w64, w32, wu8, wu8', wu16, wu32, fdiv_pos, and63i, and1023i, and31i, and15i, and7i, and192i, or64w, or32w, or16w, or4096w, or64r, or64b, or32b, or16b, optK_some, optK_none, toNat_ofNat, append_eq, List.length_cons, List.length_nil, List.length_append, List.length_map, reduceIte, toNat_s, cell_one, isI_u16, isI_i64, getI_n, enc, List.map_cons, List.map_nil, byte, ob_toNat]
        simp only [Option.some.injEq, List.append_cancel_left_eq, List.cons.injEq, AVal.int.injEq, true_and, and_true]; omega
      · simp (disch := omega) only [ite_t, ite_f, dec_t, dec_f, beq_t, beq_f, bne_t, bne_f, nbeq_t, nbeq_f, nble_t, nble_f, cond_true, cond_false, Bool.not_true, Bool.not_false, Bool.and_true, Bool.true_and, Bool.and_self, room_t, w64, w32, wu8, wu8', wu16, wu32, fdiv_pos, and63i, and1023i, and31i, and15i, and7i, and192i, or64w, or32w, or16w, or4096w, or64r, or64b, or32b, or16b, optK_some, optK_none, toNat_ofNat, append_eq, List.length_cons, List.length_nil, List.length_append, List.length_map, reduceIte, toNat_s, cell_one, isI_u16, isI_i64, getI_n, enc, List.map_cons, List.map_nil, byte, ob_toNat]
        simp only [Option.some.injEq, List.append_cancel_left_eq, List.cons.injEq, AVal.int.injEq, true_and, and_true]; omega
    · simp (disch := omega) only [ite_t, ite_f, dec_t, dec_f, beq_t, beq_f, bne_t, bne_f, nbeq_t, nbeq_f, nble_t, nble_f, cond_true, cond_false, Bool.not_true, Bool.not_false, Bool.and_true, Bool.true_and, Bool.and_self, room_t, w64, w32, wu8, wu8', wu16, wu32, fdiv_pos, and63i, and1023i, and31i, and15i, and7i, and192i, or64w, or32w, or16w, or4096w, or64r, or64b, or32b, or16b, optK_some, optK_none, toNat_ofNat, append_eq, List.length_cons, List.length_nil, List.length_append, List.length_map, reduceIte, toNat_s, cell_one, isI_u16, isI_i64, getI_n, enc, List.map_cons, List.map_nil, byte, ob_toNat]
      simp only [Option.some.injEq, List.append_cancel_left_eq, List.cons.injEq, AVal.int.injEq, true_and, and_true]; omega
theorem App_eq {c : Nat} (h : c ≤ 1114111) (hh : isHalf c = false) (o : List UInt8) (ho : o.length ≤ 20000000) : utf8_App (o.map byte) (c : Int) = some ((o ++ enc c).map byte) := by
  unfold utf8_App utf8_App.k
  by_cases a : c < 128
  · simp (disch := omega) only [ite_t, ite_f, dec_t, dec_f, beq_t, beq_f, bne_t, bne_f, nbeq_t, nbeq_f, nble_t, nble_f, cond_true, cond_false, Bool.not_true, Bool.not_false, Bool.and_true, Bool.true_and, Bool.and_self, room_t, w64, w32, wu8, wu8', wu16, wu32, fdiv_pos, and63i, and1023i, and31i, and15i, and7i, and192i, or64w, or32w, or16w, or4096w, or64r, or64b, or32b, or16b, optK_some, optK_none, toNat_ofNat, append_eq, List.length_cons, List.length_nil, List.length_append, List.length_map, reduceIte, toNat_s, cell_one, isI_u16, isI_i64, getI_n, enc, List.map_append, List.map_cons, List.map_nil, byte, ob_toNat]
  · simp (disch := omega) only [ite_t, ite_f, dec_t, dec_f, beq_t, beq_f, bne_t, bne_f, nbeq_t, nbeq_f, nble_t, nble_f, cond_true, cond_false, Bool.not_true, Bool.not_false, Bool.and_true, Bool.true_and, Bool.and_self, room_t, w64, w32, wu8, wu8', wu16, wu32, fdiv_pos, and63i, and1023i, and31i, and15i, and7i, and192i, or64w, or32w, or16w, or4096w, or64r, or64b, or32b, or16b, optK_some, optK_none, toNat_ofNat, append_eq, List.length_cons, List.length_nil, List.length_append, List.length_map, reduceIte, toNat_s, cell_one, isI_u16, isI_i64, getI_n, app_eq (show 128 ≤ c by omega) h hh o ho]
theorem put_eq {c : Nat} (h : c ≤ 1114111) (o : List UInt8) (ho : o.length ≤ 20000000) : units_put (o.map byte) (c : Int) = some ((o ++ enc c).map byte) := by
  unfold units_put units_put.k
  by_cases a : 55296 ≤ c
  · by_cases d : c < 57344
    · simp (disch := omega) only [ite_t, ite_f, dec_t, dec_f, beq_t, beq_f, bne_t, bne_f, nbeq_t, nbeq_f, nble_t, nble_f, cond_true, cond_false, Bool.not_true, Bool.not_false, Bool.and_true, Bool.true_and, Bool.and_self, room_t, w64, w32, wu8, wu8', wu16, wu32, fdiv_pos, and63i, and1023i, and31i, and15i, and7i, and192i, or64w, or32w, or16w, or4096w, or64r, or64b, or32b, or16b, optK_some, optK_none, toNat_ofNat, append_eq, List.length_cons, List.length_nil, List.length_append, List.length_map, reduceIte, toNat_s, cell_one, isI_u16, isI_i64, getI_n, enc, List.map_append, List.map_cons, List.map_nil, byte, ob_toNat]
      simp only [Option.some.injEq, List.append_cancel_left_eq, List.cons.injEq, AVal.int.injEq, true_and, and_true]; omega
    · simp (disch := omega) only [ite_t, ite_f, dec_t, dec_f, beq_t, beq_f, bne_t, bne_f, nbeq_t, nbeq_f, nble_t, nble_f, cond_true, cond_false, Bool.not_true, Bool.not_false, Bool.and_true, Bool.true_and, Bool.and_self, room_t, w64, w32, wu8, wu8', wu16, wu32, fdiv_pos, and63i, and1023i, and31i, and15i, and7i, and192i, or64w, or32w, or16w, or4096w, or64r, or64b, or32b, or16b, optK_some, optK_none, toNat_ofNat, append_eq, List.length_cons, List.length_nil, List.length_append, List.length_map, reduceIte, toNat_s, cell_one, isI_u16, isI_i64, getI_n, App_eq h (show isHalf c = false by simp [isHalf]; omega) o ho]
  · simp (disch := omega) only [ite_t, ite_f, dec_t, dec_f, beq_t, beq_f, bne_t, bne_f, nbeq_t, nbeq_f, nble_t, nble_f, cond_true, cond_false, Bool.not_true, Bool.not_false, Bool.and_true, Bool.true_and, Bool.and_self, room_t, w64, w32, wu8, wu8', wu16, wu32, fdiv_pos, and63i, and1023i, and31i, and15i, and7i, and192i, or64w, or32w, or16w, or4096w, or64r, or64b, or32b, or16b, optK_some, optK_none, toNat_ofNat, append_eq, List.length_cons, List.length_nil, List.length_append, List.length_map, reduceIte, toNat_s, cell_one, isI_u16, isI_i64, getI_n, App_eq h (show isHalf c = false by simp [isHalf]; omega) o ho]
theorem headCp_one {u : List Nat} {i : Nat} (hi : i < u.length) (h : ∀ (h1 : i + 1 < u.length), ¬ (isLead u[i] = true ∧ isLow u[i + 1] = true)) : headCp (u.drop i) = (u[i], 1) := by
  rw [drop_at u i hi]
  rcases Nat.lt_or_ge (i + 1) u.length with h1 | h1
  · rw [drop_at u (i + 1) h1, headCp, if_neg]
    simpa using h h1
  · rw [List.drop_eq_nil_of_le h1]; rfl
theorem headCp_two {u : List Nat} {i : Nat} (hi : i + 1 < u.length) (h : isLead u[i] = true ∧ isLow u[i + 1] = true) : headCp (u.drop i) = (65536 + (u[i] - 55296) * 1024 + (u[i + 1] - 56320), 2) := by
  rw [drop_at u i (by omega), drop_at u (i + 1) hi, headCp, if_pos]
  simpa using h
theorem text_round {u : List Nat} (hu : ∀ x ∈ u, x < 65536) (hl : u.length ≤ 2000000) {i : Nat} (hi : i < u.length) (n j : Nat) (w : List UInt8) (b : List UInt8) (hb : b.length ≤ 20000000) :
    units_Text.l0 n (u.map unit) w (j + 1) (b.map byte) (i : Int) = units_Text.l0 n (u.map unit) w j ((b ++ enc (headCp (u.drop i)).1).map byte) ((i + (headCp (u.drop i)).2 : Nat) : Int) := by
  have hx := hu u[i] (List.getElem_mem hi)
  rw [units_Text.l0.succ, units_Text.l0.s]
  by_cases h3 : i + 1 < u.length
  · have hy := hu u[i + 1] (List.getElem_mem h3)
    by_cases h1 : 55296 ≤ u[i]
    · by_cases h2 : u[i] < 56320
      · by_cases h4 : 56320 ≤ u[i + 1]
        · by_cases h5 : u[i + 1] < 57344
          · have e : (65536 + ((u[i] : Int) - 55296) * 1024 + (u[i + 1] : Int) - 56320) = ((65536 + (u[i] - 55296) * 1024 + (u[i + 1] - 56320) : Nat) : Int) := by omega
            rw [headCp_two h3 (by simp [isLead, isLow]; omega)]
            simp (disch := omega) only [ite_t, ite_f, dec_t, dec_f, beq_t, beq_f, bne_t, bne_f, nbeq_t, nbeq_f, nble_t, nble_f, cond_true, cond_false, Bool.not_true, Bool.not_false, Bool.and_true, Bool.true_and, Bool.and_self, room_t, w64, w32, wu8, wu8', wu16, wu32, fdiv_pos, and63i, and1023i, and31i, and15i, and7i, and192i, or64w, or32w, or16w, or4096w, or64r, or64b, or32b, or16b, optK_some, optK_none, toNat_ofNat, append_eq, List.length_cons, List.length_nil, List.length_append, List.length_map, reduceIte, toNat_s, cell_one, isI_u16, isI_i64, getI_n, nth_map, unit, e, put_eq (show 65536 + (u[i] - 55296) * 1024 + (u[i + 1] - 56320) ≤ 1114111 by omega) b hb]
            rfl
          · rw [headCp_one hi (by simp [isLead, isLow]; omega)]
            simp (disch := omega) only [ite_t, ite_f, dec_t, dec_f, beq_t, beq_f, bne_t, bne_f, nbeq_t, nbeq_f, nble_t, nble_f, cond_true, cond_false, Bool.not_true, Bool.not_false, Bool.and_true, Bool.true_and, Bool.and_self, room_t, w64, w32, wu8, wu8', wu16, wu32, fdiv_pos, and63i, and1023i, and31i, and15i, and7i, and192i, or64w, or32w, or16w, or4096w, or64r, or64b, or32b, or16b, optK_some, optK_none, toNat_ofNat, append_eq, List.length_cons, List.length_nil, List.length_append, List.length_map, reduceIte, toNat_s, cell_one, isI_u16, isI_i64, getI_n, nth_map, unit, put_eq (show u[i] ≤ 1114111 by omega) b hb]
            rfl
        · rw [headCp_one hi (by simp [isLead, isLow]; omega)]
          simp (disch := omega) only [ite_t, ite_f, dec_t, dec_f, beq_t, beq_f, bne_t, bne_f, nbeq_t, nbeq_f, nble_t, nble_f, cond_true, cond_false, Bool.not_true, Bool.not_false, Bool.and_true, Bool.true_and, Bool.and_self, room_t, w64, w32, wu8, wu8', wu16, wu32, fdiv_pos, and63i, and1023i, and31i, and15i, and7i, and192i, or64w, or32w, or16w, or4096w, or64r, or64b, or32b, or16b, optK_some, optK_none, toNat_ofNat, append_eq, List.length_cons, List.length_nil, List.length_append, List.length_map, reduceIte, toNat_s, cell_one, isI_u16, isI_i64, getI_n, nth_map, unit, put_eq (show u[i] ≤ 1114111 by omega) b hb]
          rfl
      · rw [headCp_one hi (by simp [isLead, isLow]; omega)]
        by_cases h4 : 56320 ≤ u[i + 1]
        · by_cases h5 : u[i + 1] < 57344
          · simp (disch := omega) only [ite_t, ite_f, dec_t, dec_f, beq_t, beq_f, bne_t, bne_f, nbeq_t, nbeq_f, nble_t, nble_f, cond_true, cond_false, Bool.not_true, Bool.not_false, Bool.and_true, Bool.true_and, Bool.and_self, room_t, w64, w32, wu8, wu8', wu16, wu32, fdiv_pos, and63i, and1023i, and31i, and15i, and7i, and192i, or64w, or32w, or16w, or4096w, or64r, or64b, or32b, or16b, optK_some, optK_none, toNat_ofNat, append_eq, List.length_cons, List.length_nil, List.length_append, List.length_map, reduceIte, toNat_s, cell_one, isI_u16, isI_i64, getI_n, nth_map, unit, put_eq (show u[i] ≤ 1114111 by omega) b hb]
            rfl
          · simp (disch := omega) only [ite_t, ite_f, dec_t, dec_f, beq_t, beq_f, bne_t, bne_f, nbeq_t, nbeq_f, nble_t, nble_f, cond_true, cond_false, Bool.not_true, Bool.not_false, Bool.and_true, Bool.true_and, Bool.and_self, room_t, w64, w32, wu8, wu8', wu16, wu32, fdiv_pos, and63i, and1023i, and31i, and15i, and7i, and192i, or64w, or32w, or16w, or4096w, or64r, or64b, or32b, or16b, optK_some, optK_none, toNat_ofNat, append_eq, List.length_cons, List.length_nil, List.length_append, List.length_map, reduceIte, toNat_s, cell_one, isI_u16, isI_i64, getI_n, nth_map, unit, put_eq (show u[i] ≤ 1114111 by omega) b hb]
            rfl
        · simp (disch := omega) only [ite_t, ite_f, dec_t, dec_f, beq_t, beq_f, bne_t, bne_f, nbeq_t, nbeq_f, nble_t, nble_f, cond_true, cond_false, Bool.not_true, Bool.not_false, Bool.and_true, Bool.true_and, Bool.and_self, room_t, w64, w32, wu8, wu8', wu16, wu32, fdiv_pos, and63i, and1023i, and31i, and15i, and7i, and192i, or64w, or32w, or16w, or4096w, or64r, or64b, or32b, or16b, optK_some, optK_none, toNat_ofNat, append_eq, List.length_cons, List.length_nil, List.length_append, List.length_map, reduceIte, toNat_s, cell_one, isI_u16, isI_i64, getI_n, nth_map, unit, put_eq (show u[i] ≤ 1114111 by omega) b hb]
          rfl
    · rw [headCp_one hi (by simp [isLead, isLow]; omega)]
      by_cases h4 : 56320 ≤ u[i + 1]
      · by_cases h5 : u[i + 1] < 57344
        · simp (disch := omega) only [ite_t, ite_f, dec_t, dec_f, beq_t, beq_f, bne_t, bne_f, nbeq_t, nbeq_f, nble_t, nble_f, cond_true, cond_false, Bool.not_true, Bool.not_false, Bool.and_true, Bool.true_and, Bool.and_self, room_t, w64, w32, wu8, wu8', wu16, wu32, fdiv_pos, and63i, and1023i, and31i, and15i, and7i, and192i, or64w, or32w, or16w, or4096w, or64r, or64b, or32b, or16b, optK_some, optK_none, toNat_ofNat, append_eq, List.length_cons, List.length_nil, List.length_append, List.length_map, reduceIte, toNat_s, cell_one, isI_u16, isI_i64, getI_n, nth_map, unit, put_eq (show u[i] ≤ 1114111 by omega) b hb]
          rfl
        · simp (disch := omega) only [ite_t, ite_f, dec_t, dec_f, beq_t, beq_f, bne_t, bne_f, nbeq_t, nbeq_f, nble_t, nble_f, cond_true, cond_false, Bool.not_true, Bool.not_false, Bool.and_true, Bool.true_and, Bool.and_self, room_t, w64, w32, wu8, wu8', wu16, wu32, fdiv_pos, and63i, and1023i, and31i, and15i, and7i, and192i, or64w, or32w, or16w, or4096w, or64r, or64b, or32b, or16b, optK_some, optK_none, toNat_ofNat, append_eq, List.length_cons, List.length_nil, List.length_append, List.length_map, reduceIte, toNat_s, cell_one, isI_u16, isI_i64, getI_n, nth_map, unit, put_eq (show u[i] ≤ 1114111 by omega) b hb]
          rfl
      · simp (disch := omega) only [ite_t, ite_f, dec_t, dec_f, beq_t, beq_f, bne_t, bne_f, nbeq_t, nbeq_f, nble_t, nble_f, cond_true, cond_false, Bool.not_true, Bool.not_false, Bool.and_true, Bool.true_and, Bool.and_self, room_t, w64, w32, wu8, wu8', wu16, wu32, fdiv_pos, and63i, and1023i, and31i, and15i, and7i, and192i, or64w, or32w, or16w, or4096w, or64r, or64b, or32b, or16b, optK_some, optK_none, toNat_ofNat, append_eq, List.length_cons, List.length_nil, List.length_append, List.length_map, reduceIte, toNat_s, cell_one, isI_u16, isI_i64, getI_n, nth_map, unit, put_eq (show u[i] ≤ 1114111 by omega) b hb]
        rfl
  · rw [headCp_one hi (by omega)]
    by_cases h1 : 55296 ≤ u[i]
    · by_cases h2 : u[i] < 56320
      · simp (disch := omega) only [ite_t, ite_f, dec_t, dec_f, beq_t, beq_f, bne_t, bne_f, nbeq_t, nbeq_f, nble_t, nble_f, cond_true, cond_false, Bool.not_true, Bool.not_false, Bool.and_true, Bool.true_and, Bool.and_self, room_t, w64, w32, wu8, wu8', wu16, wu32, fdiv_pos, and63i, and1023i, and31i, and15i, and7i, and192i, or64w, or32w, or16w, or4096w, or64r, or64b, or32b, or16b, optK_some, optK_none, toNat_ofNat, append_eq, List.length_cons, List.length_nil, List.length_append, List.length_map, reduceIte, toNat_s, cell_one, isI_u16, isI_i64, getI_n, nth_map, unit, put_eq (show u[i] ≤ 1114111 by omega) b hb]
        rfl
      · simp (disch := omega) only [ite_t, ite_f, dec_t, dec_f, beq_t, beq_f, bne_t, bne_f, nbeq_t, nbeq_f, nble_t, nble_f, cond_true, cond_false, Bool.not_true, Bool.not_false, Bool.and_true, Bool.true_and, Bool.and_self, room_t, w64, w32, wu8, wu8', wu16, wu32, fdiv_pos, and63i, and1023i, and31i, and15i, and7i, and192i, or64w, or32w, or16w, or4096w, or64r, or64b, or32b, or16b, optK_some, optK_none, toNat_ofNat, append_eq, List.length_cons, List.length_nil, List.length_append, List.length_map, reduceIte, toNat_s, cell_one, isI_u16, isI_i64, getI_n, nth_map, unit, put_eq (show u[i] ≤ 1114111 by omega) b hb]
        rfl
    · simp (disch := omega) only [ite_t, ite_f, dec_t, dec_f, beq_t, beq_f, bne_t, bne_f, nbeq_t, nbeq_f, nble_t, nble_f, cond_true, cond_false, Bool.not_true, Bool.not_false, Bool.and_true, Bool.true_and, Bool.and_self, room_t, w64, w32, wu8, wu8', wu16, wu32, fdiv_pos, and63i, and1023i, and31i, and15i, and7i, and192i, or64w, or32w, or16w, or4096w, or64r, or64b, or32b, or16b, optK_some, optK_none, toNat_ofNat, append_eq, List.length_cons, List.length_nil, List.length_append, List.length_map, reduceIte, toNat_s, cell_one, isI_u16, isI_i64, getI_n, nth_map, unit, put_eq (show u[i] ≤ 1114111 by omega) b hb]
      rfl
theorem text_loop {u : List Nat} (hu : ∀ x ∈ u, x < 65536) (hl : u.length ≤ 2000000) (n : Nat) (w : List UInt8) : ∀ (d i j : Nat) (b : List UInt8), u.length - i = d → i ≤ u.length → d < j → b.length ≤ 4 * i →
    ∃ k, units_Text.l0 n (u.map unit) w j (b.map byte) (i : Int) = some ((b ++ textOf (u.drop i)).map byte, k) := by
  intro d
  induction d using Nat.strongRecOn with
  | ind d ih =>
    intro i j b hn hp hj hb
    obtain ⟨j, rfl⟩ : ∃ i, j = i + 1 := ⟨j - 1, by omega⟩
    rcases Nat.lt_or_ge i u.length with hlt | hge
    · have hne : u.drop i ≠ [] := by simp; exact hlt
      obtain ⟨a1, a2, a3⟩ := headCp_le (l := u.drop i) (fun x hx => hu x (List.drop_subset _ _ hx))
      have a3 := a3 hne
      rw [List.length_drop] at a2
      have a4 := (enc_len (headCp (u.drop i)).1)
      have a5 : (headCp (u.drop i)).2 ≤ 2 := by
        rcases e : u.drop i with _ | ⟨a, _ | ⟨c, r⟩⟩ <;> simp only [headCp] <;> (try split) <;> omega
      obtain ⟨k, h⟩ := ih (u.length - (i + (headCp (u.drop i)).2)) (by omega) (i + (headCp (u.drop i)).2) j (b ++ enc (headCp (u.drop i)).1) rfl (by omega) (by omega) (by rw [List.length_append]; omega)
      refine ⟨k, ?_⟩
      rw [text_round hu hl hlt n j w b (by omega), h, textOf, textOf, cps_head hne, List.flatMap_cons, List.drop_drop, List.append_assoc]
    · refine ⟨(i : Int), ?_⟩
      rw [units_Text.l0.succ, units_Text.l0.s, List.drop_eq_nil_of_le hge]
      simp (disch := omega) only [ite_t, ite_f, dec_t, dec_f, beq_t, beq_f, bne_t, bne_f, nbeq_t, nbeq_f, nble_t, nble_f, cond_true, cond_false, Bool.not_true, Bool.not_false, Bool.and_true, Bool.true_and, Bool.and_self, room_t, w64, w32, wu8, wu8', wu16, wu32, fdiv_pos, and63i, and1023i, and31i, and15i, and7i, and192i, or64w, or32w, or16w, or4096w, or64r, or64b, or32b, or16b, optK_some, optK_none, toNat_ofNat, append_eq, List.length_cons, List.length_nil, List.length_append, List.length_map, reduceIte, toNat_s, cell_one, isI_u16, isI_i64, getI_n, textOf, cps, List.flatMap_nil, List.append_nil]
theorem text_eq {u : List Nat} (hu : ∀ x ∈ u, x < 65536) (hl : u.length ≤ 2000000) {n : Nat} (hn : 2000000 < n) : units_Text n (u.map unit) = some (textOf u) := by
  obtain ⟨k, h⟩ := text_loop hu hl n [] u.length 0 n [] rfl (by omega) (by omega) (by simp)
  unfold units_Text units_Text.k
  rw [show ([] : List (List AVal)) = List.map byte [] from rfl, show (0 : Int) = ((0 : Nat) : Int) from rfl, h, optK_some]
  simp only [allByte_map, bytesL_map, List.nil_append, List.drop_zero, cond_true]
theorem pl_bad {s : List UInt8} {p : Nat} {c : UInt8} {r : List UInt8} (h : s.drop p = c :: r) (hl : s.length ≤ 2000000) (hc : cont c = false) (n j i : Nat) (a b : Int) (w m : Int) (v : Int) (k : Nat) (hk : i + k = p) (hw : (k : Int) < w) :
    ref1_point.l0 n s (i : Int) a b w m (j + 1) v (k : Int) = some (.inl (v, (k : Int))) := by
  obtain ⟨e1, e2, e3⟩ := byteAt_drop h
  have hb := b_lt c
  have e0 : (i : Int) + (k : Int) = (p : Int) := by omega
  simp only [cont, Bool.and_eq_false_iff, decide_eq_false_iff_not] at hc
  rw [ref1_point.l0.succ, ref1_point.l0.s, e0]
  by_cases h1 : 128 ≤ c.toNat
  · simp (disch := omega) only [ite_t, ite_f, dec_t, dec_f, beq_t, beq_f, bne_t, bne_f, nbeq_t, nbeq_f, nble_t, nble_f, cond_true, cond_false, Bool.not_true, Bool.not_false, Bool.and_true, Bool.true_and, Bool.and_self, room_t, w64, w32, wu8, wu8', wu16, wu32, fdiv_pos, and63i, and1023i, and31i, and15i, and7i, and192i, or64w, or32w, or16w, or4096w, or64r, or64b, or32b, or16b, optK_some, optK_none, toNat_ofNat, append_eq, List.length_cons, List.length_nil, List.length_append, List.length_map, reduceIte, toNat_s, cell_one, isI_u16, isI_i64, getI_n, e1]
  · simp (disch := omega) only [ite_t, ite_f, dec_t, dec_f, beq_t, beq_f, bne_t, bne_f, nbeq_t, nbeq_f, nble_t, nble_f, cond_true, cond_false, Bool.not_true, Bool.not_false, Bool.and_true, Bool.true_and, Bool.and_self, room_t, w64, w32, wu8, wu8', wu16, wu32, fdiv_pos, and63i, and1023i, and31i, and15i, and7i, and192i, or64w, or32w, or16w, or4096w, or64r, or64b, or32b, or16b, optK_some, optK_none, toNat_ofNat, append_eq, List.length_cons, List.length_nil, List.length_append, List.length_map, reduceIte, toNat_s, cell_one, isI_u16, isI_i64, getI_n, e1]
theorem pl_good {s : List UInt8} {p : Nat} {c : UInt8} {r : List UInt8} (h : s.drop p = c :: r) (hl : s.length ≤ 2000000) (hc : cont c = true) (n j i : Nat) (a b : Int) (w m : Int) (v k : Nat) (hk : i + k = p) (hw : (k : Int) < w) (hv : v < 20000000) :
    ref1_point.l0 n s (i : Int) a b w m (j + 1) (v : Int) (k : Int) = ref1_point.l0 n s (i : Int) a b w m j ((v * 64 + (c.toNat - 128) : Nat) : Int) ((k + 1 : Nat) : Int) := by
  obtain ⟨e1, e2, e3⟩ := byteAt_drop h
  have hb := b_lt c
  have e0 : (i : Int) + (k : Int) = (p : Int) := by omega
  simp only [cont, Bool.and_eq_true, decide_eq_true_eq] at hc
  rw [ref1_point.l0.succ, ref1_point.l0.s, e0]
  simp (disch := omega) only [ite_t, ite_f, dec_t, dec_f, beq_t, beq_f, bne_t, bne_f, nbeq_t, nbeq_f, nble_t, nble_f, cond_true, cond_false, Bool.not_true, Bool.not_false, Bool.and_true, Bool.true_and, Bool.and_self, room_t, w64, w32, wu8, wu8', wu16, wu32, fdiv_pos, and63i, and1023i, and31i, and15i, and7i, and192i, or64w, or32w, or16w, or4096w, or64r, or64b, or32b, or16b, optK_some, optK_none, toNat_ofNat, append_eq, List.length_cons, List.length_nil, List.length_append, List.length_map, reduceIte, toNat_s, cell_one, isI_u16, isI_i64, getI_n, e1]
  congr 1; omega
theorem pl_end (s : List UInt8) (n j i : Nat) (a b : Int) (w m : Int) (v : Int) (k : Nat) (hw : ¬ (k : Int) < w) :
    ref1_point.l0 n s (i : Int) a b w m (j + 1) v (k : Int) = some (.inr (v, (k : Int))) := by
  rw [ref1_point.l0.succ, ref1_point.l0.s]
  simp (disch := omega) only [ite_t, ite_f, dec_t, dec_f, beq_t, beq_f, bne_t, bne_f, nbeq_t, nbeq_f, nble_t, nble_f, cond_true, cond_false, Bool.not_true, Bool.not_false, Bool.and_true, Bool.true_and, Bool.and_self, room_t, w64, w32, wu8, wu8', wu16, wu32, fdiv_pos, and63i, and1023i, and31i, and15i, and7i, and192i, or64w, or32w, or16w, or4096w, or64r, or64b, or32b, or16b, optK_some, optK_none, toNat_ofNat, append_eq, List.length_cons, List.length_nil, List.length_append, List.length_map, reduceIte, toNat_s, cell_one, isI_u16, isI_i64, getI_n]
theorem point_eq {s : List UInt8} {i : Nat} (h : i < s.length) (hl : s.length ≤ 2000000) {n : Nat} (hn : 2000000 < n) : ref1_point n s (i : Int) = some (((pt (s.drop i)).1 : Int), ((pt (s.drop i)).2 : Int)) := by
  obtain ⟨j, rfl⟩ : ∃ j, n = j + 4 := ⟨n - 4, by omega⟩
  rcases hd : s.drop i with _ | ⟨a, r⟩
  · simp at hd; omega
  have hlen : s.length = i + (r.length + 1) := by
    have := congrArg List.length hd
    simp at this; omega
  obtain ⟨e1, e2, e3⟩ := byteAt_drop hd
  have ha := b_lt a
  unfold ref1_point ref1_point.k
  generalize hN : j + 4 = N
  have g1 : (1 : Int) = ((1 : Nat) : Int) := rfl
  by_cases c0 : a.toNat < 128
  · have hp : pt (a :: r) = (a.toNat, 1) := by simp only [pt]; rw [if_pos c0]
    rw [hp]
    simp (disch := omega) only [ite_t, ite_f, dec_t, dec_f, beq_t, beq_f, bne_t, bne_f, nbeq_t, nbeq_f, nble_t, nble_f, cond_true, cond_false, Bool.not_true, Bool.not_false, Bool.and_true, Bool.true_and, Bool.and_self, room_t, w64, w32, wu8, wu8', wu16, wu32, fdiv_pos, and63i, and1023i, and31i, and15i, and7i, and192i, or64w, or32w, or16w, or4096w, or64r, or64b, or32b, or16b, optK_some, optK_none, toNat_ofNat, append_eq, List.length_cons, List.length_nil, List.length_append, List.length_map, reduceIte, toNat_s, cell_one, isI_u16, isI_i64, getI_n, e1]
    rfl
  by_cases c1 : a.toNat < 194
  · have hp : pt (a :: r) = (0, 0) := by simp only [pt]; rw [if_neg c0, if_neg (by omega), if_neg (by omega), if_neg (by omega)]
    rw [hp]
    simp (disch := omega) only [ite_t, ite_f, dec_t, dec_f, beq_t, beq_f, bne_t, bne_f, nbeq_t, nbeq_f, nble_t, nble_f, cond_true, cond_false, Bool.not_true, Bool.not_false, Bool.and_true, Bool.true_and, Bool.and_self, room_t, w64, w32, wu8, wu8', wu16, wu32, fdiv_pos, and63i, and1023i, and31i, and15i, and7i, and192i, or64w, or32w, or16w, or4096w, or64r, or64b, or32b, or16b, optK_some, optK_none, toNat_ofNat, append_eq, List.length_cons, List.length_nil, List.length_append, List.length_map, reduceIte, toNat_s, cell_one, isI_u16, isI_i64, getI_n, e1]
    rfl
  by_cases c2 : a.toNat ≤ 223
  · rcases r with _ | ⟨b, r⟩
    · simp only [List.length_nil] at hlen
      have hp : pt ([a]) = (0, 0) := by simp only [pt]; rw [if_neg c0, if_pos (by omega)]
      rw [hp]
      simp (disch := omega) only [ite_t, ite_f, dec_t, dec_f, beq_t, beq_f, bne_t, bne_f, nbeq_t, nbeq_f, nble_t, nble_f, cond_true, cond_false, Bool.not_true, Bool.not_false, Bool.and_true, Bool.true_and, Bool.and_self, room_t, w64, w32, wu8, wu8', wu16, wu32, fdiv_pos, and63i, and1023i, and31i, and15i, and7i, and192i, or64w, or32w, or16w, or4096w, or64r, or64b, or32b, or16b, optK_some, optK_none, toNat_ofNat, append_eq, List.length_cons, List.length_nil, List.length_append, List.length_map, reduceIte, toNat_s, cell_one, isI_u16, isI_i64, getI_n, e1, hlen]
      rfl
    · simp only [List.length_cons] at hlen
      have hp : pt (a :: b :: r) = if cont b then ((a.toNat - 192) * 64 + (b.toNat - 128), 2) else (0, 0) := by simp only [pt]; rw [if_neg c0, if_pos (by omega)]
      rw [hp]
      have hb := b_lt b
      rw [← hN]
      cases hc : cont b with
      | false =>
        simp (disch := omega) only [ite_t, ite_f, dec_t, dec_f, beq_t, beq_f, bne_t, bne_f, nbeq_t, nbeq_f, nble_t, nble_f, cond_true, cond_false, Bool.not_true, Bool.not_false, Bool.and_true, Bool.true_and, Bool.and_self, room_t, w64, w32, wu8, wu8', wu16, wu32, fdiv_pos, and63i, and1023i, and31i, and15i, and7i, and192i, or64w, or32w, or16w, or4096w, or64r, or64b, or32b, or16b, optK_some, optK_none, toNat_ofNat, append_eq, List.length_cons, List.length_nil, List.length_append, List.length_map, reduceIte, toNat_s, cell_one, isI_u16, isI_i64, getI_n, e1, hlen, and31i, sumK]
        rw [g1, pl_bad e3 hl hc (j + 4) (j + 3) i 0 0 2 128 _ 1 rfl (by omega)]
        simp (disch := omega) only [ite_t, ite_f, dec_t, dec_f, beq_t, beq_f, bne_t, bne_f, nbeq_t, nbeq_f, nble_t, nble_f, cond_true, cond_false, Bool.not_true, Bool.not_false, Bool.and_true, Bool.true_and, Bool.and_self, room_t, w64, w32, wu8, wu8', wu16, wu32, fdiv_pos, and63i, and1023i, and31i, and15i, and7i, and192i, or64w, or32w, or16w, or4096w, or64r, or64b, or32b, or16b, optK_some, optK_none, toNat_ofNat, append_eq, List.length_cons, List.length_nil, List.length_append, List.length_map, reduceIte, toNat_s, cell_one, isI_u16, isI_i64, getI_n, sumK, Bool.false_eq_true]
        rfl
      | true =>
        have e5 : (a.toNat : Int) % 32 = ((a.toNat - 192 : Nat) : Int) := by omega
        simp (disch := omega) only [ite_t, ite_f, dec_t, dec_f, beq_t, beq_f, bne_t, bne_f, nbeq_t, nbeq_f, nble_t, nble_f, cond_true, cond_false, Bool.not_true, Bool.not_false, Bool.and_true, Bool.true_and, Bool.and_self, room_t, w64, w32, wu8, wu8', wu16, wu32, fdiv_pos, and63i, and1023i, and31i, and15i, and7i, and192i, or64w, or32w, or16w, or4096w, or64r, or64b, or32b, or16b, optK_some, optK_none, toNat_ofNat, append_eq, List.length_cons, List.length_nil, List.length_append, List.length_map, reduceIte, toNat_s, cell_one, isI_u16, isI_i64, getI_n, e1, hlen, and31i, sumK]
        rw [e5, g1, pl_good e3 hl hc (j + 4) (j + 3) i 0 0 2 128 _ 1 rfl (by omega) (by omega), pl_end _ _ _ _ _ _ _ _ _ 2 (by omega)]
        simp (disch := omega) only [ite_t, ite_f, dec_t, dec_f, beq_t, beq_f, bne_t, bne_f, nbeq_t, nbeq_f, nble_t, nble_f, cond_true, cond_false, Bool.not_true, Bool.not_false, Bool.and_true, Bool.true_and, Bool.and_self, room_t, w64, w32, wu8, wu8', wu16, wu32, fdiv_pos, and63i, and1023i, and31i, and15i, and7i, and192i, or64w, or32w, or16w, or4096w, or64r, or64b, or32b, or16b, optK_some, optK_none, toNat_ofNat, append_eq, List.length_cons, List.length_nil, List.length_append, List.length_map, reduceIte, toNat_s, cell_one, isI_u16, isI_i64, getI_n, sumK]
        rfl
  by_cases c3 : a.toNat ≤ 239
  · rcases r with _ | ⟨b, _ | ⟨c, r⟩⟩
    · simp only [List.length_nil] at hlen
      have hp : pt ([a]) = (0, 0) := by simp only [pt]; rw [if_neg c0, if_neg (by omega), if_pos (by omega)]
      rw [hp]
      simp (disch := omega) only [ite_t, ite_f, dec_t, dec_f, beq_t, beq_f, bne_t, bne_f, nbeq_t, nbeq_f, nble_t, nble_f, cond_true, cond_false, Bool.not_true, Bool.not_false, Bool.and_true, Bool.true_and, Bool.and_self, room_t, w64, w32, wu8, wu8', wu16, wu32, fdiv_pos, and63i, and1023i, and31i, and15i, and7i, and192i, or64w, or32w, or16w, or4096w, or64r, or64b, or32b, or16b, optK_some, optK_none, toNat_ofNat, append_eq, List.length_cons, List.length_nil, List.length_append, List.length_map, reduceIte, toNat_s, cell_one, isI_u16, isI_i64, getI_n, e1, hlen]
      rfl
    · simp only [List.length_nil, List.length_cons] at hlen
      have hp : pt ([a, b]) = (0, 0) := by simp only [pt]; rw [if_neg c0, if_neg (by omega), if_pos (by omega)]
      rw [hp]
      simp (disch := omega) only [ite_t, ite_f, dec_t, dec_f, beq_t, beq_f, bne_t, bne_f, nbeq_t, nbeq_f, nble_t, nble_f, cond_true, cond_false, Bool.not_true, Bool.not_false, Bool.and_true, Bool.true_and, Bool.and_self, room_t, w64, w32, wu8, wu8', wu16, wu32, fdiv_pos, and63i, and1023i, and31i, and15i, and7i, and192i, or64w, or32w, or16w, or4096w, or64r, or64b, or32b, or16b, optK_some, optK_none, toNat_ofNat, append_eq, List.length_cons, List.length_nil, List.length_append, List.length_map, reduceIte, toNat_s, cell_one, isI_u16, isI_i64, getI_n, e1, hlen]
      rfl
    · simp only [List.length_cons] at hlen
      have hp : pt (a :: b :: c :: r) = if cont b && cont c then (if (a.toNat - 224) * 4096 + (b.toNat - 128) * 64 + (c.toNat - 128) < 2048 then (0, 0) else ((a.toNat - 224) * 4096 + (b.toNat - 128) * 64 + (c.toNat - 128), 3)) else (0, 0) := by simp only [pt]; rw [if_neg c0, if_neg (by omega), if_pos (by omega)]
      rw [hp]
      have hb := b_lt b
      have hc' := b_lt c
      have e4 := (byteAt_drop e3).2.2
      rw [← hN]
      have e5 : (a.toNat : Int) % 16 = ((a.toNat - 224 : Nat) : Int) := by omega
      simp (disch := omega) only [ite_t, ite_f, dec_t, dec_f, beq_t, beq_f, bne_t, bne_f, nbeq_t, nbeq_f, nble_t, nble_f, cond_true, cond_false, Bool.not_true, Bool.not_false, Bool.and_true, Bool.true_and, Bool.and_self, room_t, w64, w32, wu8, wu8', wu16, wu32, fdiv_pos, and63i, and1023i, and31i, and15i, and7i, and192i, or64w, or32w, or16w, or4096w, or64r, or64b, or32b, or16b, optK_some, optK_none, toNat_ofNat, append_eq, List.length_cons, List.length_nil, List.length_append, List.length_map, reduceIte, toNat_s, cell_one, isI_u16, isI_i64, getI_n, e1, hlen, and15i, sumK]
      rw [e5, g1]
      cases hc : cont b with
      | false =>
        rw [pl_bad e3 hl hc (j + 4) (j + 3) i 0 0 3 2048 _ 1 rfl (by omega)]
        simp (disch := omega) only [ite_t, ite_f, dec_t, dec_f, beq_t, beq_f, bne_t, bne_f, nbeq_t, nbeq_f, nble_t, nble_f, cond_true, cond_false, Bool.not_true, Bool.not_false, Bool.and_true, Bool.true_and, Bool.and_self, room_t, w64, w32, wu8, wu8', wu16, wu32, fdiv_pos, and63i, and1023i, and31i, and15i, and7i, and192i, or64w, or32w, or16w, or4096w, or64r, or64b, or32b, or16b, optK_some, optK_none, toNat_ofNat, append_eq, List.length_cons, List.length_nil, List.length_append, List.length_map, reduceIte, toNat_s, cell_one, isI_u16, isI_i64, getI_n, sumK, Bool.false_and, Bool.false_eq_true]
        rfl
      | true =>
        rw [pl_good e3 hl hc (j + 4) (j + 3) i 0 0 3 2048 _ 1 rfl (by omega) (by omega)]
        cases hd' : cont c with
        | false =>
          rw [pl_bad e4 hl hd' (j + 4) (j + 2) i 0 0 3 2048 _ 2 rfl (by omega)]
          simp (disch := omega) only [ite_t, ite_f, dec_t, dec_f, beq_t, beq_f, bne_t, bne_f, nbeq_t, nbeq_f, nble_t, nble_f, cond_true, cond_false, Bool.not_true, Bool.not_false, Bool.and_true, Bool.true_and, Bool.and_self, room_t, w64, w32, wu8, wu8', wu16, wu32, fdiv_pos, and63i, and1023i, and31i, and15i, and7i, and192i, or64w, or32w, or16w, or4096w, or64r, or64b, or32b, or16b, optK_some, optK_none, toNat_ofNat, append_eq, List.length_cons, List.length_nil, List.length_append, List.length_map, reduceIte, toNat_s, cell_one, isI_u16, isI_i64, getI_n, sumK, Bool.and_false, Bool.false_eq_true]
          rfl
        | true =>
          rw [pl_good e4 hl hd' (j + 4) (j + 2) i 0 0 3 2048 _ 2 rfl (by omega) (by omega), pl_end _ _ _ _ _ _ _ _ _ 3 (by omega)]
          simp only [cont, Bool.and_eq_true, decide_eq_true_eq] at hc hd'
          have e6 : ((a.toNat - 224) * 64 + (b.toNat - 128)) * 64 + (c.toNat - 128) = (a.toNat - 224) * 4096 + (b.toNat - 128) * 64 + (c.toNat - 128) := by omega
          rw [e6]
          by_cases q : (a.toNat - 224) * 4096 + (b.toNat - 128) * 64 + (c.toNat - 128) < 2048
          · simp (disch := omega) only [ite_t, ite_f, dec_t, dec_f, beq_t, beq_f, bne_t, bne_f, nbeq_t, nbeq_f, nble_t, nble_f, cond_true, cond_false, Bool.not_true, Bool.not_false, Bool.and_true, Bool.true_and, Bool.and_self, room_t, w64, w32, wu8, wu8', wu16, wu32, fdiv_pos, and63i, and1023i, and31i, and15i, and7i, and192i, or64w, or32w, or16w, or4096w, or64r, or64b, or32b, or16b, optK_some, optK_none, toNat_ofNat, append_eq, List.length_cons, List.length_nil, List.length_append, List.length_map, reduceIte, toNat_s, cell_one, isI_u16, isI_i64, getI_n, sumK]
            rfl
          · simp (disch := omega) only [ite_t, ite_f, dec_t, dec_f, beq_t, beq_f, bne_t, bne_f, nbeq_t, nbeq_f, nble_t, nble_f, cond_true, cond_false, Bool.not_true, Bool.not_false, Bool.and_true, Bool.true_and, Bool.and_self, room_t, w64, w32, wu8, wu8', wu16, wu32, fdiv_pos, and63i, and1023i, and31i, and15i, and7i, and192i, or64w, or32w, or16w, or4096w, or64r, or64b, or32b, or16b, optK_some, optK_none, toNat_ofNat, append_eq, List.length_cons, List.length_nil, List.length_append, List.length_map, reduceIte, toNat_s, cell_one, isI_u16, isI_i64, getI_n, sumK]
            rfl
  by_cases c4 : a.toNat ≤ 244
  · rcases r with _ | ⟨b, _ | ⟨c, _ | ⟨d, r⟩⟩⟩
    · simp only [List.length_nil] at hlen
      have hp : pt ([a]) = (0, 0) := by simp only [pt]; rw [if_neg c0, if_neg (by omega), if_neg (by omega), if_pos (by omega)]
      rw [hp]
      simp (disch := omega) only [ite_t, ite_f, dec_t, dec_f, beq_t, beq_f, bne_t, bne_f, nbeq_t, nbeq_f, nble_t, nble_f, cond_true, cond_false, Bool.not_true, Bool.not_false, Bool.and_true, Bool.true_and, Bool.and_self, room_t, w64, w32, wu8, wu8', wu16, wu32, fdiv_pos, and63i, and1023i, and31i, and15i, and7i, and192i, or64w, or32w, or16w, or4096w, or64r, or64b, or32b, or16b, optK_some, optK_none, toNat_ofNat, append_eq, List.length_cons, List.length_nil, List.length_append, List.length_map, reduceIte, toNat_s, cell_one, isI_u16, isI_i64, getI_n, e1, hlen]
      rfl
    · simp only [List.length_nil, List.length_cons] at hlen
      have hp : pt ([a, b]) = (0, 0) := by simp only [pt]; rw [if_neg c0, if_neg (by omega), if_neg (by omega), if_pos (by omega)]
      rw [hp]
      simp (disch := omega) only [ite_t, ite_f, dec_t, dec_f, beq_t, beq_f, bne_t, bne_f, nbeq_t, nbeq_f, nble_t, nble_f, cond_true, cond_false, Bool.not_true, Bool.not_false, Bool.and_true, Bool.true_and, Bool.and_self, room_t, w64, w32, wu8, wu8', wu16, wu32, fdiv_pos, and63i, and1023i, and31i, and15i, and7i, and192i, or64w, or32w, or16w, or4096w, or64r, or64b, or32b, or16b, optK_some, optK_none, toNat_ofNat, append_eq, List.length_cons, List.length_nil, List.length_append, List.length_map, reduceIte, toNat_s, cell_one, isI_u16, isI_i64, getI_n, e1, hlen]
      rfl
    · simp only [List.length_nil, List.length_cons] at hlen
      have hp : pt ([a, b, c]) = (0, 0) := by simp only [pt]; rw [if_neg c0, if_neg (by omega), if_neg (by omega), if_pos (by omega)]
      rw [hp]
      simp (disch := omega) only [ite_t, ite_f, dec_t, dec_f, beq_t, beq_f, bne_t, bne_f, nbeq_t, nbeq_f, nble_t, nble_f, cond_true, cond_false, Bool.not_true, Bool.not_false, Bool.and_true, Bool.true_and, Bool.and_self, room_t, w64, w32, wu8, wu8', wu16, wu32, fdiv_pos, and63i, and1023i, and31i, and15i, and7i, and192i, or64w, or32w, or16w, or4096w, or64r, or64b, or32b, or16b, optK_some, optK_none, toNat_ofNat, append_eq, List.length_cons, List.length_nil, List.length_append, List.length_map, reduceIte, toNat_s, cell_one, isI_u16, isI_i64, getI_n, e1, hlen]
      rfl
    · simp only [List.length_cons] at hlen
      have hp : pt (a :: b :: c :: d :: r) = if cont b && cont c && cont d then (if (a.toNat - 240) * 262144 + (b.toNat - 128) * 4096 + (c.toNat - 128) * 64 + (d.toNat - 128) < 65536 ∨ 1114111 < (a.toNat - 240) * 262144 + (b.toNat - 128) * 4096 + (c.toNat - 128) * 64 + (d.toNat - 128) then (0, 0) else ((a.toNat - 240) * 262144 + (b.toNat - 128) * 4096 + (c.toNat - 128) * 64 + (d.toNat - 128), 4)) else (0, 0) := by simp only [pt]; rw [if_neg c0, if_neg (by omega), if_neg (by omega), if_pos (by omega)]
      rw [hp]
      have hb := b_lt b
      have hc' := b_lt c
      have hd' := b_lt d
      have e4 := (byteAt_drop e3).2.2
      have e4' := (byteAt_drop e4).2.2
      rw [← hN]
      have e5 : (a.toNat : Int) % 8 = ((a.toNat - 240 : Nat) : Int) := by omega
      simp (disch := omega) only [ite_t, ite_f, dec_t, dec_f, beq_t, beq_f, bne_t, bne_f, nbeq_t, nbeq_f, nble_t, nble_f, cond_true, cond_false, Bool.not_true, Bool.not_false, Bool.and_true, Bool.true_and, Bool.and_self, room_t, w64, w32, wu8, wu8', wu16, wu32, fdiv_pos, and63i, and1023i, and31i, and15i, and7i, and192i, or64w, or32w, or16w, or4096w, or64r, or64b, or32b, or16b, optK_some, optK_none, toNat_ofNat, append_eq, List.length_cons, List.length_nil, List.length_append, List.length_map, reduceIte, toNat_s, cell_one, isI_u16, isI_i64, getI_n, e1, hlen, and7i, sumK]
      rw [e5, g1]
      cases hc : cont b with
      | false =>
        rw [pl_bad e3 hl hc (j + 4) (j + 3) i 0 0 4 65536 _ 1 rfl (by omega)]
        simp (disch := omega) only [ite_t, ite_f, dec_t, dec_f, beq_t, beq_f, bne_t, bne_f, nbeq_t, nbeq_f, nble_t, nble_f, cond_true, cond_false, Bool.not_true, Bool.not_false, Bool.and_true, Bool.true_and, Bool.and_self, room_t, w64, w32, wu8, wu8', wu16, wu32, fdiv_pos, and63i, and1023i, and31i, and15i, and7i, and192i, or64w, or32w, or16w, or4096w, or64r, or64b, or32b, or16b, optK_some, optK_none, toNat_ofNat, append_eq, List.length_cons, List.length_nil, List.length_append, List.length_map, reduceIte, toNat_s, cell_one, isI_u16, isI_i64, getI_n, sumK, Bool.false_and, Bool.false_eq_true]
        rfl
      | true =>
        rw [pl_good e3 hl hc (j + 4) (j + 3) i 0 0 4 65536 _ 1 rfl (by omega) (by omega)]
        cases hdc : cont c with
        | false =>
          rw [pl_bad e4 hl hdc (j + 4) (j + 2) i 0 0 4 65536 _ 2 rfl (by omega)]
          simp (disch := omega) only [ite_t, ite_f, dec_t, dec_f, beq_t, beq_f, bne_t, bne_f, nbeq_t, nbeq_f, nble_t, nble_f, cond_true, cond_false, Bool.not_true, Bool.not_false, Bool.and_true, Bool.true_and, Bool.and_self, room_t, w64, w32, wu8, wu8', wu16, wu32, fdiv_pos, and63i, and1023i, and31i, and15i, and7i, and192i, or64w, or32w, or16w, or4096w, or64r, or64b, or32b, or16b, optK_some, optK_none, toNat_ofNat, append_eq, List.length_cons, List.length_nil, List.length_append, List.length_map, reduceIte, toNat_s, cell_one, isI_u16, isI_i64, getI_n, sumK, Bool.and_false, Bool.false_and, Bool.false_eq_true]
          rfl
        | true =>
          rw [pl_good e4 hl hdc (j + 4) (j + 2) i 0 0 4 65536 _ 2 rfl (by omega) (by omega)]
          cases hdd : cont d with
          | false =>
            rw [pl_bad e4' hl hdd (j + 4) (j + 1) i 0 0 4 65536 _ 3 rfl (by omega)]
            simp (disch := omega) only [ite_t, ite_f, dec_t, dec_f, beq_t, beq_f, bne_t, bne_f, nbeq_t, nbeq_f, nble_t, nble_f, cond_true, cond_false, Bool.not_true, Bool.not_false, Bool.and_true, Bool.true_and, Bool.and_self, room_t, w64, w32, wu8, wu8', wu16, wu32, fdiv_pos, and63i, and1023i, and31i, and15i, and7i, and192i, or64w, or32w, or16w, or4096w, or64r, or64b, or32b, or16b, optK_some, optK_none, toNat_ofNat, append_eq, List.length_cons, List.length_nil, List.length_append, List.length_map, reduceIte, toNat_s, cell_one, isI_u16, isI_i64, getI_n, sumK, Bool.and_false, Bool.false_eq_true]
            rfl
          | true =>
            rw [pl_good e4' hl hdd (j + 4) (j + 1) i 0 0 4 65536 _ 3 rfl (by omega) (by omega), pl_end _ _ _ _ _ _ _ _ _ 4 (by omega)]
            simp only [cont, Bool.and_eq_true, decide_eq_true_eq] at hc hdc hdd
            have e6 : (((a.toNat - 240) * 64 + (b.toNat - 128)) * 64 + (c.toNat - 128)) * 64 + (d.toNat - 128) = (a.toNat - 240) * 262144 + (b.toNat - 128) * 4096 + (c.toNat - 128) * 64 + (d.toNat - 128) := by omega
            rw [e6]
            generalize (a.toNat - 240) * 262144 + (b.toNat - 128) * 4096 + (c.toNat - 128) * 64 + (d.toNat - 128) = z
            by_cases q : z < 65536
            · simp (disch := omega) only [ite_t, ite_f, dec_t, dec_f, beq_t, beq_f, bne_t, bne_f, nbeq_t, nbeq_f, nble_t, nble_f, cond_true, cond_false, Bool.not_true, Bool.not_false, Bool.and_true, Bool.true_and, Bool.and_self, room_t, w64, w32, wu8, wu8', wu16, wu32, fdiv_pos, and63i, and1023i, and31i, and15i, and7i, and192i, or64w, or32w, or16w, or4096w, or64r, or64b, or32b, or16b, optK_some, optK_none, toNat_ofNat, append_eq, List.length_cons, List.length_nil, List.length_append, List.length_map, reduceIte, toNat_s, cell_one, isI_u16, isI_i64, getI_n, sumK]
              rfl
            · by_cases q2 : 1114111 < z
              · simp (disch := omega) only [ite_t, ite_f, dec_t, dec_f, beq_t, beq_f, bne_t, bne_f, nbeq_t, nbeq_f, nble_t, nble_f, cond_true, cond_false, Bool.not_true, Bool.not_false, Bool.and_true, Bool.true_and, Bool.and_self, room_t, w64, w32, wu8, wu8', wu16, wu32, fdiv_pos, and63i, and1023i, and31i, and15i, and7i, and192i, or64w, or32w, or16w, or4096w, or64r, or64b, or32b, or16b, optK_some, optK_none, toNat_ofNat, append_eq, List.length_cons, List.length_nil, List.length_append, List.length_map, reduceIte, toNat_s, cell_one, isI_u16, isI_i64, getI_n, sumK]
                rfl
              · simp (disch := omega) only [ite_t, ite_f, dec_t, dec_f, beq_t, beq_f, bne_t, bne_f, nbeq_t, nbeq_f, nble_t, nble_f, cond_true, cond_false, Bool.not_true, Bool.not_false, Bool.and_true, Bool.true_and, Bool.and_self, room_t, w64, w32, wu8, wu8', wu16, wu32, fdiv_pos, and63i, and1023i, and31i, and15i, and7i, and192i, or64w, or32w, or16w, or4096w, or64r, or64b, or32b, or16b, optK_some, optK_none, toNat_ofNat, append_eq, List.length_cons, List.length_nil, List.length_append, List.length_map, reduceIte, toNat_s, cell_one, isI_u16, isI_i64, getI_n, sumK]
                rfl
  · have hp : pt (a :: r) = (0, 0) := by simp only [pt]; rw [if_neg c0, if_neg (by omega), if_neg (by omega), if_neg (by omega)]
    rw [hp]
    simp (disch := omega) only [ite_t, ite_f, dec_t, dec_f, beq_t, beq_f, bne_t, bne_f, nbeq_t, nbeq_f, nble_t, nble_f, cond_true, cond_false, Bool.not_true, Bool.not_false, Bool.and_true, Bool.true_and, Bool.and_self, room_t, w64, w32, wu8, wu8', wu16, wu32, fdiv_pos, and63i, and1023i, and31i, and15i, and7i, and192i, or64w, or32w, or16w, or4096w, or64r, or64b, or32b, or16b, optK_some, optK_none, toNat_ofNat, append_eq, List.length_cons, List.length_nil, List.length_append, List.length_map, reduceIte, toNat_s, cell_one, isI_u16, isI_i64, getI_n, e1]
    rfl
theorem toNat_p (n : Nat) : Int.toNat ((n : Int) - 1) = n - 1 := by omega
theorem ahOf_last {cs : List Nat} (h : 0 < cs.length) : ahOf cs = isLead (cs[cs.length - 1]) := by
  rw [ahOf, List.getLast?_eq_getElem?, List.getElem?_eq_getElem (by omega)]
theorem pts_bad {s : List UInt8} {i : Nat} (h : i < s.length) (hl : s.length ≤ 2000000) {n : Nat} (hn : 2000000 < n) (j : Nat) (cs : List Nat) (hc : cs.length ≤ 2000000) (hb : ((pt (s.drop i)).2 = 0 || (ahOf cs && isLow (pt (s.drop i)).1)) = true) :
    ref1_points.l0 n s [] false (j + 1) (cs.map cp) (i : Int) = some (.inl (cs.map cp, (i : Int))) := by
  rw [ref1_points.l0.succ, ref1_points.l0.s]
  have hp := point_eq h hl hn
  by_cases h0 : (pt (s.drop i)).2 = 0
  · simp (disch := omega) only [ite_t, ite_f, dec_t, dec_f, beq_t, beq_f, bne_t, bne_f, nbeq_t, nbeq_f, nble_t, nble_f, cond_true, cond_false, Bool.not_true, Bool.not_false, Bool.and_true, Bool.true_and, Bool.and_self, room_t, w64, w32, wu8, wu8', wu16, wu32, fdiv_pos, and63i, and1023i, and31i, and15i, and7i, and192i, or64w, or32w, or16w, or4096w, or64r, or64b, or32b, or16b, optK_some, optK_none, toNat_ofNat, append_eq, List.length_cons, List.length_nil, List.length_append, List.length_map, reduceIte, toNat_s, cell_one, isI_u16, isI_i64, getI_n, hp, h0]
  · simp only [h0, decide_false, Bool.false_or, Bool.and_eq_true] at hb
    obtain ⟨h1, h2⟩ := hb
    have hne : 0 < cs.length := by
      rcases cs with _ | ⟨a, r⟩
      · simp [ahOf] at h1
      · simp
    rw [ahOf_last hne] at h1
    simp only [isLead, isLow, Bool.and_eq_true, decide_eq_true_eq] at h1 h2
    simp (disch := omega) only [ite_t, ite_f, dec_t, dec_f, beq_t, beq_f, bne_t, bne_f, nbeq_t, nbeq_f, nble_t, nble_f, cond_true, cond_false, Bool.not_true, Bool.not_false, Bool.and_true, Bool.true_and, Bool.and_self, room_t, w64, w32, wu8, wu8', wu16, wu32, fdiv_pos, and63i, and1023i, and31i, and15i, and7i, and192i, or64w, or32w, or16w, or4096w, or64r, or64b, or32b, or16b, optK_some, optK_none, toNat_ofNat, append_eq, List.length_cons, List.length_nil, List.length_append, List.length_map, reduceIte, toNat_s, cell_one, isI_u16, isI_i64, getI_n, hp, toNat_p, nth_map, cp]
theorem pts_good {s : List UInt8} {i : Nat} (h : i < s.length) (hl : s.length ≤ 2000000) {n : Nat} (hn : 2000000 < n) (j : Nat) (cs : List Nat) (hc : cs.length ≤ 2000000) (hb : ((pt (s.drop i)).2 = 0 || (ahOf cs && isLow (pt (s.drop i)).1)) = false) :
    ref1_points.l0 n s [] false (j + 1) (cs.map cp) (i : Int) = ref1_points.l0 n s [] false j ((cs ++ [(pt (s.drop i)).1]).map cp) ((i + (pt (s.drop i)).2 : Nat) : Int) := by
  rw [ref1_points.l0.succ, ref1_points.l0.s]
  have hp := point_eq h hl hn
  have h4 := (pt_width (s.drop i)).2
  simp only [Bool.or_eq_false_iff, decide_eq_false_iff_not] at hb
  obtain ⟨h0, hb⟩ := hb
  rw [List.map_append]
  by_cases q1 : 56320 ≤ (pt (s.drop i)).1
  · by_cases q2 : (pt (s.drop i)).1 ≤ 57343
    · by_cases hne : 0 < cs.length
      · rw [ahOf_last hne] at hb
        simp only [isLead, isLow, Bool.and_eq_false_iff, decide_eq_false_iff_not] at hb
        by_cases q3 : 55296 ≤ cs[cs.length - 1]
        · simp (disch := omega) only [ite_t, ite_f, dec_t, dec_f, beq_t, beq_f, bne_t, bne_f, nbeq_t, nbeq_f, nble_t, nble_f, cond_true, cond_false, Bool.not_true, Bool.not_false, Bool.and_true, Bool.true_and, Bool.and_self, room_t, w64, w32, wu8, wu8', wu16, wu32, fdiv_pos, and63i, and1023i, and31i, and15i, and7i, and192i, or64w, or32w, or16w, or4096w, or64r, or64b, or32b, or16b, optK_some, optK_none, toNat_ofNat, append_eq, List.length_cons, List.length_nil, List.length_append, List.length_map, reduceIte, toNat_s, cell_one, isI_u16, isI_i64, getI_n, hp, toNat_p, nth_map, cp, List.map_cons, List.map_nil]
          rfl
        · by_cases q4 : cs[cs.length - 1] ≤ 56319
          · simp (disch := omega) only [ite_t, ite_f, dec_t, dec_f, beq_t, beq_f, bne_t, bne_f, nbeq_t, nbeq_f, nble_t, nble_f, cond_true, cond_false, Bool.not_true, Bool.not_false, Bool.and_true, Bool.true_and, Bool.and_self, room_t, w64, w32, wu8, wu8', wu16, wu32, fdiv_pos, and63i, and1023i, and31i, and15i, and7i, and192i, or64w, or32w, or16w, or4096w, or64r, or64b, or32b, or16b, optK_some, optK_none, toNat_ofNat, append_eq, List.length_cons, List.length_nil, List.length_append, List.length_map, reduceIte, toNat_s, cell_one, isI_u16, isI_i64, getI_n, hp, toNat_p, nth_map, cp, List.map_cons, List.map_nil]
            rfl
          · exfalso; omega
      · simp (disch := omega) only [ite_t, ite_f, dec_t, dec_f, beq_t, beq_f, bne_t, bne_f, nbeq_t, nbeq_f, nble_t, nble_f, cond_true, cond_false, Bool.not_true, Bool.not_false, Bool.and_true, Bool.true_and, Bool.and_self, room_t, w64, w32, wu8, wu8', wu16, wu32, fdiv_pos, and63i, and1023i, and31i, and15i, and7i, and192i, or64w, or32w, or16w, or4096w, or64r, or64b, or32b, or16b, optK_some, optK_none, toNat_ofNat, append_eq, List.length_cons, List.length_nil, List.length_append, List.length_map, reduceIte, toNat_s, cell_one, isI_u16, isI_i64, getI_n, hp, toNat_p, nth_map, cp, List.map_cons, List.map_nil]
        rfl
    · simp (disch := omega) only [ite_t, ite_f, dec_t, dec_f, beq_t, beq_f, bne_t, bne_f, nbeq_t, nbeq_f, nble_t, nble_f, cond_true, cond_false, Bool.not_true, Bool.not_false, Bool.and_true, Bool.true_and, Bool.and_self, room_t, w64, w32, wu8, wu8', wu16, wu32, fdiv_pos, and63i, and1023i, and31i, and15i, and7i, and192i, or64w, or32w, or16w, or4096w, or64r, or64b, or32b, or16b, optK_some, optK_none, toNat_ofNat, append_eq, List.length_cons, List.length_nil, List.length_append, List.length_map, reduceIte, toNat_s, cell_one, isI_u16, isI_i64, getI_n, hp, toNat_p, cp, List.map_cons, List.map_nil]
      rfl
  · simp (disch := omega) only [ite_t, ite_f, dec_t, dec_f, beq_t, beq_f, bne_t, bne_f, nbeq_t, nbeq_f, nble_t, nble_f, cond_true, cond_false, Bool.not_true, Bool.not_false, Bool.and_true, Bool.true_and, Bool.and_self, room_t, w64, w32, wu8, wu8', wu16, wu32, fdiv_pos, and63i, and1023i, and31i, and15i, and7i, and192i, or64w, or32w, or16w, or4096w, or64r, or64b, or32b, or16b, optK_some, optK_none, toNat_ofNat, append_eq, List.length_cons, List.length_nil, List.length_append, List.length_map, reduceIte, toNat_s, cell_one, isI_u16, isI_i64, getI_n, hp, toNat_p, cp, List.map_cons, List.map_nil]
    rfl
def ptsOut : List (List AVal) × Int ⊕ List (List AVal) × Int → Option (List (List AVal))
  | .inl _ => none
  | .inr t => some t.1
theorem pts_loop {s : List UInt8} (hl : s.length ≤ 2000000) {n : Nat} (hn : 2000000 < n) : ∀ (d f i j : Nat) (cs : List Nat), s.length - i = d → i ≤ s.length → d < j → d ≤ f → cs.length ≤ i →
    ∃ x, ref1_points.l0 n s [] false j (cs.map cp) (i : Int) = some x ∧ ptsOut x = if (scan f (ahOf cs) (s.drop i)).2 then some ((cs ++ (scan f (ahOf cs) (s.drop i)).1).map cp) else none := by
  intro d
  induction d using Nat.strongRecOn with
  | ind d ih =>
    intro f i j cs hd hp hj hf hc
    obtain ⟨j, rfl⟩ : ∃ i, j = i + 1 := ⟨j - 1, by omega⟩
    rcases Nat.lt_or_ge i s.length with hlt | hge
    · obtain ⟨f, rfl⟩ : ∃ i, f = i + 1 := ⟨f - 1, by omega⟩
      have hd := drop_at s i hlt
      have hsc : scan (f + 1) (ahOf cs) (s.drop i) = if (pt (s.drop i)).2 = 0 || (ahOf cs && isLow (pt (s.drop i)).1) then ([], false) else ((pt (s.drop i)).1 :: (scan f (isLead (pt (s.drop i)).1) ((s.drop i).drop (pt (s.drop i)).2)).1, (scan f (isLead (pt (s.drop i)).1) ((s.drop i).drop (pt (s.drop i)).2)).2) := by
        rw [hd]; rfl
      rcases hb : ((pt (s.drop i)).2 = 0 || (ahOf cs && isLow (pt (s.drop i)).1)) with _ | _
      · have hb' := hb
        simp only [Bool.or_eq_false_iff, decide_eq_false_iff_not] at hb'
        have hw := pt_width (s.drop i)
        rw [List.length_drop] at hw
        obtain ⟨x, h, hx⟩ := ih (s.length - (i + (pt (s.drop i)).2)) (by omega) f (i + (pt (s.drop i)).2) j (cs ++ [(pt (s.drop i)).1]) rfl (by omega) (by omega) (by omega) (by simp; omega)
        refine ⟨x, ?_, ?_⟩
        · rw [pts_good hlt hl hn j cs (by omega) hb]; exact h
        · rw [hx, hsc, hb, ahOf_app, List.drop_drop]
          simp only [Bool.false_eq_true, if_false, List.append_assoc, List.singleton_append]
      · refine ⟨_, pts_bad hlt hl hn j cs (by omega) hb, ?_⟩
        rw [hsc, hb]
        simp [ptsOut]
    · refine ⟨.inr (cs.map cp, (i : Int)), ?_, ?_⟩
      · rw [ref1_points.l0.succ, ref1_points.l0.s]
        simp (disch := omega) only [ite_t, ite_f, dec_t, dec_f, beq_t, beq_f, bne_t, bne_f, nbeq_t, nbeq_f, nble_t, nble_f, cond_true, cond_false, Bool.not_true, Bool.not_false, Bool.and_true, Bool.true_and, Bool.and_self, room_t, w64, w32, wu8, wu8', wu16, wu32, fdiv_pos, and63i, and1023i, and31i, and15i, and7i, and192i, or64w, or32w, or16w, or4096w, or64r, or64b, or32b, or16b, optK_some, optK_none, toNat_ofNat, append_eq, List.length_cons, List.length_nil, List.length_append, List.length_map, reduceIte, toNat_s, cell_one, isI_u16, isI_i64, getI_n]
      · have hs : scan f (ahOf cs) [] = ([], true) := by cases f <;> rfl
        rw [List.drop_eq_nil_of_le hge, hs]
        simp [ptsOut]
theorem points_eq {s : List UInt8} (hl : s.length ≤ 2000000) {n : Nat} (hn : 2000000 < n) : ref1_points n s = some (if right s then ((pts s).1.map cp) else [], right s) := by
  obtain ⟨x, h, hx⟩ := pts_loop hl hn s.length s.length 0 n [] rfl (by omega) (by omega) (by omega) (by simp)
  unfold ref1_points ref1_points.k
  simp only [List.map_nil] at h
  rw [show (0 : Int) = ((0 : Nat) : Int) from rfl, h]
  have e : ptsOut x = if right s then some ((pts s).1.map cp) else none := hx
  rcases x with t | t
  · cases hr : right s with
    | false => rfl
    | true => rw [hr] at e; simp [ptsOut] at e
  · cases hr : right s with
    | false => rw [hr] at e; simp [ptsOut] at e
    | true =>
      rw [hr] at e
      simp only [ptsOut, if_true, Option.some.injEq] at e
      simp only [optK_some, sumK, if_true, e]
theorem rright_eq {s : List UInt8} (hl : s.length ≤ 2000000) {n : Nat} (hn : 2000000 < n) : ref1_RightText n s = some (right s) := by
  unfold ref1_RightText ref1_RightText.k
  rw [points_eq hl hn, optK_some]
theorem runits_round {cs : List Nat} (hc : ∀ c ∈ cs, c ≤ 1114111) (hl : cs.length ≤ 2000000) {i : Nat} (hi : i < cs.length) (n j : Nat) (o : List Nat) (ho : o.length ≤ 20000000) :
    ref1_Units.l0 n [] (cs.map cp) true (j + 1) (o.map unit) (i : Int) = ref1_Units.l0 n [] (cs.map cp) true j ((o ++ u16 cs[i]).map unit) ((i + 1 : Nat) : Int) := by
  have hx := hc cs[i] (List.getElem_mem hi)
  rw [ref1_Units.l0.succ, ref1_Units.l0.s, List.map_append]
  by_cases h : 65535 < cs[i]
  · simp (disch := omega) only [ite_t, ite_f, dec_t, dec_f, beq_t, beq_f, bne_t, bne_f, nbeq_t, nbeq_f, nble_t, nble_f, cond_true, cond_false, Bool.not_true, Bool.not_false, Bool.and_true, Bool.true_and, Bool.and_self, room_t, w64, w32, wu8, wu8', wu16, wu32, fdiv_pos, and63i, and1023i, and31i, and15i, and7i, and192i, or64w, or32w, or16w, or4096w, or64r, or64b, or32b, or16b, optK_some, optK_none, toNat_ofNat, append_eq, List.length_cons, List.length_nil, List.length_append, List.length_map, reduceIte, toNat_s, cell_one, isI_u16, isI_i64, getI_n, nth_map, cp, unit, u16, List.map_cons, List.map_nil]
    rw [show 55296 + ((cs[i] : Int) - 65536) / 1024 = ((55296 + (cs[i] - 65536) / 1024 : Nat) : Int) by omega, show 56320 + ((cs[i] : Int) - 65536) % 1024 = ((56320 + (cs[i] - 65536) % 1024 : Nat) : Int) by omega]
    rfl
  · simp (disch := omega) only [ite_t, ite_f, dec_t, dec_f, beq_t, beq_f, bne_t, bne_f, nbeq_t, nbeq_f, nble_t, nble_f, cond_true, cond_false, Bool.not_true, Bool.not_false, Bool.and_true, Bool.true_and, Bool.and_self, room_t, w64, w32, wu8, wu8', wu16, wu32, fdiv_pos, and63i, and1023i, and31i, and15i, and7i, and192i, or64w, or32w, or16w, or4096w, or64r, or64b, or32b, or16b, optK_some, optK_none, toNat_ofNat, append_eq, List.length_cons, List.length_nil, List.length_append, List.length_map, reduceIte, toNat_s, cell_one, isI_u16, isI_i64, getI_n, nth_map, cp, unit, u16, List.map_cons, List.map_nil]
    rfl
theorem runits_loop {cs : List Nat} (hc : ∀ c ∈ cs, c ≤ 1114111) (hl : cs.length ≤ 2000000) (n : Nat) : ∀ (d i j : Nat) (o : List Nat), cs.length - i = d → i ≤ cs.length → d < j → o.length ≤ 2 * i →
    ∃ k, ref1_Units.l0 n [] (cs.map cp) true j (o.map unit) (i : Int) = some ((o ++ (cs.drop i).flatMap u16).map unit, k) := by
  intro d
  induction d with
  | zero =>
    intro i j o hd hi hj ho
    obtain ⟨j, rfl⟩ : ∃ i, j = i + 1 := ⟨j - 1, by omega⟩
    refine ⟨(i : Int), ?_⟩
    rw [ref1_Units.l0.succ, ref1_Units.l0.s, List.drop_eq_nil_of_le (by omega)]
    simp (disch := omega) only [ite_t, ite_f, dec_t, dec_f, beq_t, beq_f, bne_t, bne_f, nbeq_t, nbeq_f, nble_t, nble_f, cond_true, cond_false, Bool.not_true, Bool.not_false, Bool.and_true, Bool.true_and, Bool.and_self, room_t, w64, w32, wu8, wu8', wu16, wu32, fdiv_pos, and63i, and1023i, and31i, and15i, and7i, and192i, or64w, or32w, or16w, or4096w, or64r, or64b, or32b, or16b, optK_some, optK_none, toNat_ofNat, append_eq, List.length_cons, List.length_nil, List.length_append, List.length_map, reduceIte, toNat_s, cell_one, isI_u16, isI_i64, getI_n, List.flatMap_nil, List.append_nil]
  | succ d ih =>
    intro i j o hd hi hj ho
    obtain ⟨j, rfl⟩ : ∃ i, j = i + 1 := ⟨j - 1, by omega⟩
    have hlt : i < cs.length := by omega
    have := u16_len cs[i]
    obtain ⟨k, h⟩ := ih (i + 1) j (o ++ u16 cs[i]) (by omega) (by omega) (by omega) (by rw [List.length_append]; omega)
    refine ⟨k, ?_⟩
    rw [runits_round hc hl hlt n j o (by omega), h, drop_at cs i hlt, List.flatMap_cons, List.append_assoc]
theorem runits_eq {s : List UInt8} (hl : s.length ≤ 2000000) {n : Nat} (hn : 2000000 < n) : ref1_Units n s = some ((unitsOf s).map unit) := by
  unfold ref1_Units ref1_Units.k
  rw [points_eq hl hn, optK_some]
  cases hr : right s with
  | false =>
    obtain ⟨j, rfl⟩ : ∃ i, n = i + 1 := ⟨n - 1, by omega⟩
    rw [ref1_Units.l0.succ, ref1_Units.l0.s, unitsOf, hr]
    rfl
  | true =>
    have hlen : (pts s).1.length ≤ 2000000 := Nat.le_trans (scan_len _ _ _) hl
    have hc : ∀ c ∈ (pts s).1, c ≤ 1114111 := okc_lt (scan_ok s.length false s (pts s).1 (pts_right hr)).1
    obtain ⟨k, h⟩ := runits_loop hc hlen n (pts s).1.length 0 n [] rfl (by omega) (by omega) (by simp)
    rw [if_pos rfl, show (0 : Int) = ((0 : Nat) : Int) from rfl, show ([] : List (List AVal)) = List.map unit [] from rfl]
    simp only [List.map_nil] at h ⊢
    rw [h, unitsOf, hr, if_pos rfl]
    rfl
theorem digit_at {k : Nat} (h : k < 10) : List.drop k (List.take (k + 1) (Array.toList (#[48, 49, 50, 51, 52, 53, 54, 55, 56, 57] : Array UInt8))) = [UInt8.ofNat (48 + k)] := by
  rcases k with _|_|_|_|_|_|_|_|_|_|k
  all_goals first | rfl | omega
theorem tdiv_n (m : Nat) : Int.tdiv (m : Int) 10 = ((m / 10 : Nat) : Int) := by
  rw [Int.tdiv_eq_ediv_of_nonneg (by omega)]; omega
theorem tmod_n (m : Nat) : Int.tmod (m : Int) 10 = ((m % 10 : Nat) : Int) := by
  rw [Int.tmod_eq_emod_of_nonneg (by omega)]; omega
theorem dec_nat (n : Nat) : ∀ (j m : Nat), m < 10 ^ j → 1 ≤ j → m < 9223372036854775809 → ref1_Dec.r n j (m : Int) = some (decDigits m) := by
  intro j
  induction j with
  | zero => intro m _ h; omega
  | succ j ih =>
    intro m h _ hm
    rw [ref1_Dec.r_succ]
    unfold ref1_Dec.k
    have h10 : m % 10 < 10 := Nat.mod_lt _ (by omega)
    by_cases hs : m < 10
    · simp (disch := omega) only [ite_t, ite_f, dec_t, dec_f, beq_t, beq_f, bne_t, bne_f, nbeq_t, nbeq_f, nble_t, nble_f, cond_true, cond_false, Bool.not_true, Bool.not_false, Bool.and_true, Bool.true_and, Bool.and_self, room_t, w64, w32, wu8, wu8', wu16, wu32, fdiv_pos, and63i, and1023i, and31i, and15i, and7i, and192i, or64w, or32w, or16w, or4096w, or64r, or64b, or32b, or16b, optK_some, optK_none, toNat_ofNat, append_eq, List.length_cons, List.length_nil, List.length_append, List.length_map, reduceIte, toNat_s, cell_one, isI_u16, isI_i64, getI_n, tmod_n, digit_at h10]
      rw [dec_small hs, Nat.mod_eq_of_lt hs]
    · have hj : 1 ≤ j := by
        rcases j with _ | j
        · simp at h; omega
        · omega
      have ih := ih (m / 10) (by rw [Nat.pow_succ] at h; omega) hj (by omega)
      have hlen := dec_len j (m / 10) (by rw [Nat.pow_succ] at h; omega) hj
      have hlen2 := dec_len 19 (m / 10) (by omega) (by omega)
      simp (disch := omega) only [ite_t, ite_f, dec_t, dec_f, beq_t, beq_f, bne_t, bne_f, nbeq_t, nbeq_f, nble_t, nble_f, cond_true, cond_false, Bool.not_true, Bool.not_false, Bool.and_true, Bool.true_and, Bool.and_self, room_t, w64, w32, wu8, wu8', wu16, wu32, fdiv_pos, and63i, and1023i, and31i, and15i, and7i, and192i, or64w, or32w, or16w, or4096w, or64r, or64b, or32b, or16b, optK_some, optK_none, toNat_ofNat, append_eq, List.length_cons, List.length_nil, List.length_append, List.length_map, reduceIte, toNat_s, cell_one, isI_u16, isI_i64, getI_n, tmod_n, tdiv_n, digit_at h10, ih]
      rw [dec_big hs]
theorem tdiv_neg (m : Nat) : Int.tdiv (-(m : Int)) 10 = -((m / 10 : Nat) : Int) := by
  rw [Int.neg_tdiv, tdiv_n]
theorem tmod_neg (m : Nat) : Int.tmod (-(m : Int)) 10 = -((m % 10 : Nat) : Int) := by
  rw [Int.neg_tmod, tmod_n]
theorem dec_zero (m : Nat) : (decDigits m == [(48 : UInt8)]) = decide (m = 0) := by
  rcases Nat.eq_zero_or_pos m with rfl | h
  · rw [dec_small (by omega)]; rfl
  · obtain ⟨c, r, hc, _, _, h4⟩ := dec_head m
    have h4 := h4 h
    rw [hc, decide_eq_false (by omega)]
    have : c ≠ 48 := fun e => by subst e; simp at h4
    show (c :: r == [48]) = false
    simp [this]
theorem zero_sub (x : Int) : 0 - x = -x := by omega
theorem dec_eq {v : Int} (h0 : -9223372036854775808 ≤ v) (h1 : v ≤ 9223372036854775807) {n : Nat} (hn : 2000000 < n) : ref1_Dec n v = some (itoa v) := by
  obtain ⟨j, rfl⟩ : ∃ j, n = (j + 30) + 1 := ⟨n - 31, by omega⟩
  unfold ref1_Dec
  have hp : (9223372036854775809 : Nat) < 10 ^ (j + 30) := by
    rw [Nat.pow_add]
    have : 0 < 10 ^ j := Nat.pow_pos (by omega)
    have : 10 ^ 30 ≤ 10 ^ j * 10 ^ 30 := Nat.le_mul_of_pos_left _ this
    omega
  by_cases hneg : v < 0
  · obtain ⟨m, rfl⟩ : ∃ m : Nat, v = -(m : Int) := ⟨v.natAbs, by omega⟩
    rw [ref1_Dec.r_succ, Lib.itoa_neg m (by omega)]
    unfold ref1_Dec.k
    have h10 : m % 10 < 10 := Nat.mod_lt _ (by omega)
    have ih := dec_nat (j + 30 + 1) (j + 30) (m / 10) (by omega) (by omega) (by omega)
    have hz := dec_zero (m / 10)
    have hlen := dec_len 19 (m / 10) (by omega) (by omega)
    by_cases hs : m < 10
    · have e0 : m / 10 = 0 := by omega
      simp (disch := omega) only [ite_t, ite_f, dec_t, dec_f, beq_t, beq_f, bne_t, bne_f, nbeq_t, nbeq_f, nble_t, nble_f, cond_true, cond_false, Bool.not_true, Bool.not_false, Bool.and_true, Bool.true_and, Bool.and_self, room_t, w64, w32, wu8, wu8', wu16, wu32, fdiv_pos, and63i, and1023i, and31i, and15i, and7i, and192i, or64w, or32w, or16w, or4096w, or64r, or64b, or32b, or16b, optK_some, optK_none, toNat_ofNat, append_eq, List.length_cons, List.length_nil, List.length_append, List.length_map, reduceIte, toNat_s, cell_one, isI_u16, isI_i64, getI_n, tmod_neg, tdiv_neg, zero_sub, Int.neg_neg, digit_at h10, ih, hz]
      rw [dec_small hs, Nat.mod_eq_of_lt hs]
    · simp (disch := omega) only [ite_t, ite_f, dec_t, dec_f, beq_t, beq_f, bne_t, bne_f, nbeq_t, nbeq_f, nble_t, nble_f, cond_true, cond_false, Bool.not_true, Bool.not_false, Bool.and_true, Bool.true_and, Bool.and_self, room_t, w64, w32, wu8, wu8', wu16, wu32, fdiv_pos, and63i, and1023i, and31i, and15i, and7i, and192i, or64w, or32w, or16w, or4096w, or64r, or64b, or32b, or16b, optK_some, optK_none, toNat_ofNat, append_eq, List.length_cons, List.length_nil, List.length_append, List.length_map, reduceIte, toNat_s, cell_one, isI_u16, isI_i64, getI_n, tmod_neg, tdiv_neg, zero_sub, Int.neg_neg, digit_at h10, ih, hz]
      rw [dec_big hs]
  · obtain ⟨m, rfl⟩ : ∃ m : Nat, v = (m : Int) := ⟨v.toNat, by omega⟩
    rw [Lib.itoa_nonneg, dec_nat _ (j + 30 + 1) m (by rw [Nat.pow_succ]; omega) (by omega) (by omega)]
def eachOOut : (Int × Bool × Nat × List (List AVal)) ⊕ (Int × Bool × Nat × List (List AVal)) → Bool × List (List AVal)
  | .inl t => (false, t.2.2.2)
  | .inr t => (true, t.2.2.2)
theorem eachO_skip {s : List UInt8} {pos : Nat} (h : pos < s.length) (n j : Nat) (b ah : Bool) {k : Int} (hk : 0 < k ∧ k < 10) (o : List Nat) :
    units_EachO.l0 n s b s (j + 1) k ah pos (o.map unit) = units_EachO.l0 n s b s j (k - 1) ah (pos + (dec (s.drop pos)).2) (o.map unit) := by
  rw [units_EachO.l0.succ, units_EachO.l0.s]
  simp (disch := omega) only [ite_t, ite_f, dec_t, dec_f, beq_t, beq_f, bne_t, bne_f, nbeq_t, nbeq_f, nble_t, nble_f, cond_true, cond_false, Bool.not_true, Bool.not_false, Bool.and_true, Bool.true_and, Bool.and_self, room_t, w64, w32, wu8, wu8', wu16, wu32, fdiv_pos, and63i, and1023i, and31i, and15i, and7i, and192i, or64w, or32w, or16w, or4096w, or64r, or64b, or32b, or16b, optK_some, optK_none, toNat_ofNat, append_eq, List.length_cons, List.length_nil, List.length_append, List.length_map, reduceIte, toNat_s, cell_one, isI_u16, isI_i64, getI_n, h, decode_eq s pos h]
theorem eachO_end {s : List UInt8} {pos : Nat} (h : ¬ pos < s.length) (n j : Nat) (b ah : Bool) (k : Int) (o : List Nat) :
    units_EachO.l0 n s b s (j + 1) k ah pos (o.map unit) = some (.inr (k, ah, pos, o.map unit)) := by
  rw [units_EachO.l0.succ, units_EachO.l0.s]
  simp (disch := omega) only [ite_t, ite_f, dec_t, dec_f, beq_t, beq_f, bne_t, bne_f, nbeq_t, nbeq_f, nble_t, nble_f, cond_true, cond_false, Bool.not_true, Bool.not_false, Bool.and_true, Bool.true_and, Bool.and_self, room_t, w64, w32, wu8, wu8', wu16, wu32, fdiv_pos, and63i, and1023i, and31i, and15i, and7i, and192i, or64w, or32w, or16w, or4096w, or64r, or64b, or32b, or16b, optK_some, optK_none, toNat_ofNat, append_eq, List.length_cons, List.length_nil, List.length_append, List.length_map, reduceIte, toNat_s, cell_one, isI_u16, isI_i64, getI_n, h]
theorem eachO_bad {s : List UInt8} {pos : Nat} (h : pos < s.length) (n j : Nat) (b ah : Bool) (o : List Nat) (hb : ((pt (s.drop pos)).2 = 0 || (ah && isLow (pt (s.drop pos)).1)) = true) :
    units_EachO.l0 n s b s (j + 1) 0 ah pos (o.map unit) = some (.inl (0, ah, pos + 1, o.map unit)) := by
  have hne : s.drop pos ≠ [] := by simp; exact h
  rw [units_EachO.l0.succ, units_EachO.l0.s]
  by_cases p : (pt (s.drop pos)).2 = 0
  · simp (disch := omega) only [ite_t, ite_f, dec_t, dec_f, beq_t, beq_f, bne_t, bne_f, nbeq_t, nbeq_f, nble_t, nble_f, cond_true, cond_false, Bool.not_true, Bool.not_false, Bool.and_true, Bool.true_and, Bool.and_self, room_t, w64, w32, wu8, wu8', wu16, wu32, fdiv_pos, and63i, and1023i, and31i, and15i, and7i, and192i, or64w, or32w, or16w, or4096w, or64r, or64b, or32b, or16b, optK_some, optK_none, toNat_ofNat, append_eq, List.length_cons, List.length_nil, List.length_append, List.length_map, reduceIte, toNat_s, cell_one, isI_u16, isI_i64, getI_n, h, decode_eq s pos h, List.take_length, dec_bad p, decS_ne hne, halfAt_eq, halfB_bad p]
  · simp only [p, decide_false, Bool.false_or, Bool.and_eq_true] at hb
    obtain ⟨rfl, hb⟩ := hb
    have hh := low_half hb
    simp only [isLow, Bool.and_eq_true, decide_eq_true_eq] at hb
    simp (disch := omega) only [ite_t, ite_f, dec_t, dec_f, beq_t, beq_f, bne_t, bne_f, nbeq_t, nbeq_f, nble_t, nble_f, cond_true, cond_false, Bool.not_true, Bool.not_false, Bool.and_true, Bool.true_and, Bool.and_self, room_t, w64, w32, wu8, wu8', wu16, wu32, fdiv_pos, and63i, and1023i, and31i, and15i, and7i, and192i, or64w, or32w, or16w, or4096w, or64r, or64b, or32b, or16b, optK_some, optK_none, toNat_ofNat, append_eq, List.length_cons, List.length_nil, List.length_append, List.length_map, reduceIte, toNat_s, cell_one, isI_u16, isI_i64, getI_n, h, decode_eq s pos h, List.take_length, dec_half hh, decS_ne hne, halfAt_eq, halfB_half hh, halfV_half hh]
theorem eachO_half {s : List UInt8} {pos : Nat} (h : pos < s.length) (n j : Nat) (b ah : Bool) (o : List Nat) (ho : o.length ≤ 20000000) (hh : isHalf (pt (s.drop pos)).1 = true) (hb : (ah && isLow (pt (s.drop pos)).1) = false) :
    units_EachO.l0 n s b s (j + 1) 0 ah pos (o.map unit) = units_EachO.l0 n s b s j 2 (isLead (pt (s.drop pos)).1) (pos + 1) ((o ++ u16 (pt (s.drop pos)).1).map unit) := by
  have hne : s.drop pos ≠ [] := by simp; exact h
  have hlt := pt_lt (s.drop pos)
  have hh' := hh
  simp only [isHalf, Bool.and_eq_true, decide_eq_true_eq] at hh'
  have g2 : decide (((pt (s.drop pos)).1 : Int) < 56320) = isLead (pt (s.drop pos)).1 := by
    simp only [isLead, ← Bool.decide_and]; apply decide_eq_decide.2; omega
  rw [units_EachO.l0.succ, units_EachO.l0.s]
  rw [← g2]
  cases ah with
  | false => simp (disch := omega) only [ite_t, ite_f, beq_t, beq_f, cond_true, cond_false, Bool.not_true, Bool.not_false, w64, optK_some, optK_none, toNat_ofNat, dec_f, ge_iff_le, dec_t, reduceIte, h, decode_eq s pos h, List.take_length, dec_half hh, decS_ne hne, halfAt_eq, halfB_half hh, halfV_half hh, ofOne_eq hlt o ho]
  | true =>
    simp only [isLow, Bool.true_and, Bool.and_eq_false_iff, decide_eq_false_iff_not] at hb
    simp (disch := omega) only [ite_t, ite_f, beq_t, beq_f, cond_true, cond_false, Bool.not_true, Bool.not_false, w64, optK_some, optK_none, toNat_ofNat, dec_f, ge_iff_le, dec_t, reduceIte, h, decode_eq s pos h, List.take_length, dec_half hh, decS_ne hne, halfAt_eq, halfB_half hh, halfV_half hh, ofOne_eq hlt o ho]
theorem eachO_plain {s : List UInt8} {pos : Nat} (h : pos < s.length) (n j : Nat) (b ah : Bool) (o : List Nat) (ho : o.length ≤ 20000000) (h0 : (pt (s.drop pos)).2 ≠ 0) (hh : isHalf (pt (s.drop pos)).1 = false) :
    units_EachO.l0 n s b s (j + 1) 0 ah pos (o.map unit) = units_EachO.l0 n s b s j 0 (isLead (pt (s.drop pos)).1) (pos + (pt (s.drop pos)).2) ((o ++ u16 (pt (s.drop pos)).1).map unit) := by
  have hne : s.drop pos ≠ [] := by simp; exact h
  have hlt := pt_lt (s.drop pos)
  have hd := dec_plain h0 hh
  simp only [isHalf, Bool.and_eq_false_iff, decide_eq_false_iff_not] at hh
  have g0 : isLead (pt (s.drop pos)).1 = false := by simp only [isLead, Bool.and_eq_false_iff, decide_eq_false_iff_not]; omega
  rw [units_EachO.l0.succ, units_EachO.l0.s, g0]
  by_cases p : (pt (s.drop pos)).1 = 65533
  · have h3 := plain_3 p h0
    simp (disch := omega) only [ite_t, ite_f, dec_t, dec_f, beq_t, beq_f, bne_t, bne_f, nbeq_t, nbeq_f, nble_t, nble_f, cond_true, cond_false, Bool.not_true, Bool.not_false, Bool.and_true, Bool.true_and, Bool.and_self, room_t, w64, w32, wu8, wu8', wu16, wu32, fdiv_pos, and63i, and1023i, and31i, and15i, and7i, and192i, or64w, or32w, or16w, or4096w, or64r, or64b, or32b, or16b, optK_some, optK_none, toNat_ofNat, append_eq, List.length_cons, List.length_nil, List.length_append, List.length_map, reduceIte, toNat_s, cell_one, isI_u16, isI_i64, getI_n, h, decode_eq s pos h, List.take_length, hd, decS_ne hne, ofOne_eq hlt o ho]
  · by_cases p2 : 55296 ≤ (pt (s.drop pos)).1
    · simp (disch := omega) only [ite_t, ite_f, dec_t, dec_f, beq_t, beq_f, bne_t, bne_f, nbeq_t, nbeq_f, nble_t, nble_f, cond_true, cond_false, Bool.not_true, Bool.not_false, Bool.and_true, Bool.true_and, Bool.and_self, room_t, w64, w32, wu8, wu8', wu16, wu32, fdiv_pos, and63i, and1023i, and31i, and15i, and7i, and192i, or64w, or32w, or16w, or4096w, or64r, or64b, or32b, or16b, optK_some, optK_none, toNat_ofNat, append_eq, List.length_cons, List.length_nil, List.length_append, List.length_map, reduceIte, toNat_s, cell_one, isI_u16, isI_i64, getI_n, h, decode_eq s pos h, List.take_length, hd, decS_ne hne, ofOne_eq hlt o ho]
    · simp (disch := omega) only [ite_t, ite_f, dec_t, dec_f, beq_t, beq_f, bne_t, bne_f, nbeq_t, nbeq_f, nble_t, nble_f, cond_true, cond_false, Bool.not_true, Bool.not_false, Bool.and_true, Bool.true_and, Bool.and_self, room_t, w64, w32, wu8, wu8', wu16, wu32, fdiv_pos, and63i, and1023i, and31i, and15i, and7i, and192i, or64w, or32w, or16w, or4096w, or64r, or64b, or32b, or16b, optK_some, optK_none, toNat_ofNat, append_eq, List.length_cons, List.length_nil, List.length_append, List.length_map, reduceIte, toNat_s, cell_one, isI_u16, isI_i64, getI_n, h, decode_eq s pos h, List.take_length, hd, decS_ne hne, ofOne_eq hlt o ho]
theorem eachO_loop {s : List UInt8} (hl : s.length ≤ 2000000) (n : Nat) (b : Bool) : ∀ (d f pos j : Nat) (ah : Bool) (o : List Nat), s.length - pos = d → pos ≤ s.length → d < j → d ≤ f → o.length ≤ 2 * pos →
    ∃ x, units_EachO.l0 n s b s j 0 ah pos (o.map unit) = some x ∧ eachOOut x = ((scan f ah (s.drop pos)).2, (o ++ (scan f ah (s.drop pos)).1.flatMap u16).map unit) := by
  intro d
  induction d using Nat.strongRecOn with
  | ind d ih =>
    intro f pos j ah o hn hp hj hf ho
    obtain ⟨j, rfl⟩ : ∃ i, j = i + 1 := ⟨j - 1, by omega⟩
    rcases Nat.lt_or_ge pos s.length with hlt | hge
    · obtain ⟨f, rfl⟩ : ∃ i, f = i + 1 := ⟨f - 1, by omega⟩
      have hd := drop_at s pos hlt
      have hsc : scan (f + 1) ah (s.drop pos) = if (pt (s.drop pos)).2 = 0 || (ah && isLow (pt (s.drop pos)).1) then ([], false) else ((pt (s.drop pos)).1 :: (scan f (isLead (pt (s.drop pos)).1) ((s.drop pos).drop (pt (s.drop pos)).2)).1, (scan f (isLead (pt (s.drop pos)).1) ((s.drop pos).drop (pt (s.drop pos)).2)).2) := by
        rw [hd]; rfl
      by_cases hb : ((pt (s.drop pos)).2 = 0 || (ah && isLow (pt (s.drop pos)).1)) = true
      · refine ⟨_, eachO_bad hlt n j b ah o hb, ?_⟩
        rw [hsc, if_pos hb]
        simp [eachOOut]
      · have hb' := hb
        simp only [Bool.or_eq_true, decide_eq_true_eq, not_or, Bool.not_eq_true] at hb'
        have hw := pt_width (s.drop pos)
        rw [List.length_drop] at hw
        have hu := u16_len (pt (s.drop pos)).1
        rw [hsc, if_neg hb, List.drop_drop]
        rcases hh : isHalf (pt (s.drop pos)).1 with _ | _
        · obtain ⟨x, h, hx⟩ := ih (s.length - (pos + (pt (s.drop pos)).2)) (by omega) f (pos + (pt (s.drop pos)).2) j (isLead (pt (s.drop pos)).1) (o ++ u16 (pt (s.drop pos)).1) rfl (by omega) (by omega) (by omega) (by rw [List.length_append]; omega)
          refine ⟨x, ?_, ?_⟩
          · rw [eachO_plain hlt n j b ah o (by omega) hb'.1 hh]; exact h
          · rw [hx, List.flatMap_cons, List.append_assoc]
        · obtain ⟨c1, c2, c3⟩ := half_conts hh
          have h3 := half_w hh
          rw [List.drop_drop] at c1 c2
          rw [List.length_drop] at c3
          obtain ⟨j, rfl⟩ : ∃ i, j = i + 2 := ⟨j - 2, by omega⟩
          obtain ⟨x, h, hx⟩ := ih (s.length - (pos + 3)) (by omega) f (pos + 3) j (isLead (pt (s.drop pos)).1) (o ++ u16 (pt (s.drop pos)).1) rfl (by omega) (by omega) (by omega) (by rw [List.length_append]; omega)
          refine ⟨x, ?_, ?_⟩
          · rw [eachO_half hlt n (j + 2) b ah o (by omega) hh hb'.2, eachO_skip (by omega) n (j + 1) b _ (by omega) _, c1, show (2 : Int) - 1 = 1 from rfl, eachO_skip (by omega) n j b _ (by omega) _, c2]
            exact h
          · rw [hx, List.flatMap_cons, List.append_assoc, h3]
    · refine ⟨_, eachO_end (by omega) n j b ah 0 o, ?_⟩
      have hd : s.drop pos = [] := by simp; omega
      have hs : scan f ah [] = ([], true) := by cases f <;> rfl
      rw [hd, hs]
      simp [eachOOut]
theorem of_eq {s : List UInt8} (hl : s.length ≤ 2000000) {n : Nat} (hn : 2000000 < n) : units_Of n s = some ((unitsOf s).map unit) := by
  obtain ⟨x, h, hx⟩ := eachO_loop hl n false s.length s.length 0 n false [] rfl (by omega) (by omega) (by omega) (by simp)
  unfold units_Of units_Of.k units_EachO units_EachO.k
  rw [show ([] : List (List AVal)) = List.map unit [] from rfl, h]
  have e : eachOOut x = (right s, ((pts s).1.flatMap u16).map unit) := hx
  rcases x with t | t
  · rw [unitsOf, show right s = false from (congrArg Prod.fst e).symm]; rfl
  · rw [unitsOf, show right s = true from (congrArg Prod.fst e).symm, if_pos rfl, ← (show t.2.2.2 = ((pts s).1.flatMap u16).map unit from congrArg Prod.snd e)]; rfl
def hexl : List UInt8 := [48, 49, 50, 51, 52, 53, 54, 55, 56, 57, 97, 98, 99, 100, 101, 102]
def hx (k : Nat) : UInt8 := hexl.getD k 0
def escU (u : Nat) : List UInt8 := [92, 117, hx (u / 4096 % 16), hx (u / 256 % 16), hx (u / 16 % 16), hx (u % 16)]
def qu (u : Nat) : List UInt8 := if 32 ≤ u ∧ u ≤ 126 ∧ u ≠ 34 ∧ u ≠ 92 then [UInt8.ofNat u] else escU u
theorem qu_len (u : Nat) : (qu u).length ≤ 6 := by
  unfold qu; split <;> simp [escU]
theorem qus_len (l : List Nat) : (l.flatMap qu).length ≤ 6 * l.length := by
  induction l with
  | nil => simp
  | cons a r ih =>
    have := qu_len a
    rw [List.flatMap_cons, List.length_append, List.length_cons]; omega
def quote (u : List Nat) : List UInt8 := 34 :: (u.flatMap qu ++ [34])
theorem hex_cut {k : Nat} (h : k < 16) : List.drop k (List.take (k + 1) ([48, 49, 50, 51, 52, 53, 54, 55, 56, 57, 97, 98, 99, 100, 101, 102] : List UInt8)) = [hx k] := by
  rcases k with _|_|_|_|_|_|_|_|_|_|_|_|_|_|_|_|k
  all_goals first | rfl | omega
abbrev hexL : List UInt8 := ([48, 49, 50, 51, 52, 53, 54, 55, 56, 57, 97, 98, 99, 100, 101, 102] : List UInt8)
theorem q1_round (n : Nat) (v2 : List UInt8) (v3 : List (List AVal)) (v5 : Int) {u : Nat} (hu : u < 65536) (j : Nat) {o : List UInt8} (ho : o.length ≤ 100000000) {sh : Int} {p : Nat} (hp : (2 : Int) ^ min (Int.toNat sh) 64 = (p : Int)) (hw : IntKind.wrap .u64 sh = sh) (hsh : 0 ≤ sh ∧ sh < 100) (hp0 : 0 < p) :
    ref1_Quote.l0.l1 n v2 v3 v5 (u : Int) hexL (j + 1) o sh = ref1_Quote.l0.l1 n v2 v3 v5 (u : Int) hexL j (o ++ [hx (u / p % 16)]) (sh - 4) := by
  rw [ref1_Quote.l0.l1.succ, ref1_Quote.l0.l1.s, hw]
  have h16 : u / p % 16 < 16 := Nat.mod_lt _ (by omega)
  have hq : u / p ≤ u := Nat.div_le_self _ _
  have e1 : Int.fdiv (u : Int) (p : Int) = ((u / p : Nat) : Int) := by rw [Int.fdiv_eq_ediv_of_nonneg _ (by omega)]; rfl
  have e2 : ((u / p : Nat) : Int) % 16 = ((u / p % 16 : Nat) : Int) := by omega
  rw [hp, e1]
  generalize hqq : u / p = q at *
  have e3 : ((q % 16 : Nat) : Int) + 1 = ((q % 16 + 1 : Nat) : Int) := rfl
  simp (disch := omega) only [ite_t, ite_f, dec_t, dec_f, beq_t, beq_f, bne_t, bne_f, nbeq_t, nbeq_f, nble_t, nble_f, cond_true, cond_false, Bool.not_true, Bool.not_false, Bool.and_true, Bool.true_and, Bool.and_self, room_t, w64, w32, wu8, wu8', wu16, wu32, fdiv_pos, and63i, and1023i, and31i, and15i, and7i, and192i, or64w, or32w, or16w, or4096w, or64r, or64b, or32b, or16b, optK_some, optK_none, toNat_ofNat, append_eq, List.length_cons, List.length_nil, List.length_append, List.length_map, reduceIte, toNat_s, cell_one, isI_u16, isI_i64, getI_n, e2, e3, hex_cut h16, ge_iff_le]
theorem q1_eq (n : Nat) (v2 : List UInt8) (v3 : List (List AVal)) (v5 : Int) {u : Nat} (hu : u < 65536) {o : List UInt8} (ho : o.length ≤ 90000000) (hn : 100 < n) :
    ∃ t, ref1_Quote.l0.l1 n v2 v3 v5 (u : Int) hexL n (o ++ [92, 117]) 12 = some (o ++ escU u, t) := by
  obtain ⟨k, hk⟩ : ∃ k, n = k + 5 := ⟨n - 5, by omega⟩
  have h5 : ref1_Quote.l0.l1 n v2 v3 v5 (u : Int) hexL (k + 5) (o ++ [92, 117]) 12 = some (o ++ escU u, (-4 : Int)) := by
    rw [q1_round n v2 v3 v5 hu _ (by simp; omega) (p := 4096) rfl rfl (by omega) (by omega), q1_round n v2 v3 v5 hu _ (by simp; omega) (p := 256) rfl rfl (by omega) (by omega), q1_round n v2 v3 v5 hu _ (by simp; omega) (p := 16) rfl rfl (by omega) (by omega), q1_round n v2 v3 v5 hu _ (by simp; omega) (p := 1) rfl rfl (by omega) (by omega)]
    rw [ref1_Quote.l0.l1.succ, ref1_Quote.l0.l1.s]
    simp (disch := omega) only [ite_t, ite_f, dec_t, dec_f, beq_t, beq_f, bne_t, bne_f, nbeq_t, nbeq_f, nble_t, nble_f, cond_true, cond_false, Bool.not_true, Bool.not_false, Bool.and_true, Bool.true_and, Bool.and_self, room_t, w64, w32, wu8, wu8', wu16, wu32, fdiv_pos, and63i, and1023i, and31i, and15i, and7i, and192i, or64w, or32w, or16w, or4096w, or64r, or64b, or32b, or16b, optK_some, optK_none, toNat_ofNat, append_eq, List.length_cons, List.length_nil, List.length_append, List.length_map, reduceIte, toNat_s, cell_one, isI_u16, isI_i64, getI_n, ge_iff_le]
    congr 1
    simp [escU]
  exact ⟨_, by rw [hk] at h5 ⊢; exact h5⟩
theorem q0_loop {n : Nat} (hn : 100 < n) {l : List Nat} (hl : ∀ x ∈ l, x < 65536) (hll : l.length ≤ 1000000) : ∀ (d i j : Nat) (o : List UInt8), l.length - i = d → i ≤ l.length → d < j → o.length ≤ 6 * i + 1 →
    ∃ t, ref1_Quote.l0 n j [] (l.map unit) o (i : Int) = some ([], l.map unit, o ++ (l.drop i).flatMap qu, t) := by
  intro d
  induction d with
  | zero =>
    intro i j o hd hi hj ho
    obtain ⟨j, rfl⟩ : ∃ k, j = k + 1 := ⟨j - 1, by omega⟩
    refine ⟨(i : Int), ?_⟩
    rw [ref1_Quote.l0.succ, ref1_Quote.l0.s, List.drop_eq_nil_of_le (by omega)]
    have hlen : ((l.map unit).length : Int) = (l.length : Int) := by simp
    simp (disch := omega) only [ite_t, ite_f, dec_t, dec_f, beq_t, beq_f, bne_t, bne_f, nbeq_t, nbeq_f, nble_t, nble_f, cond_true, cond_false, Bool.not_true, Bool.not_false, Bool.and_true, Bool.true_and, Bool.and_self, room_t, w64, w32, wu8, wu8', wu16, wu32, fdiv_pos, and63i, and1023i, and31i, and15i, and7i, and192i, or64w, or32w, or16w, or4096w, or64r, or64b, or32b, or16b, optK_some, optK_none, toNat_ofNat, append_eq, List.length_cons, List.length_nil, List.length_append, List.length_map, reduceIte, toNat_s, cell_one, isI_u16, isI_i64, getI_n, List.flatMap_nil, List.append_nil]
  | succ d ih =>
    intro i j o hd hi hj ho
    obtain ⟨j, rfl⟩ : ∃ k, j = k + 1 := ⟨j - 1, by omega⟩
    have hil : i < l.length := by omega
    have hx := hl l[i] (List.getElem_mem hil)
    have hq := qu_len l[i]
    obtain ⟨t, ht⟩ := ih (i + 1) j (o ++ qu l[i]) (by omega) (by omega) (by omega) (by rw [List.length_append]; omega)
    refine ⟨t, ?_⟩
    rw [List.drop_eq_getElem_cons hil, List.flatMap_cons, ← List.append_assoc, ← ht]
    rw [ref1_Quote.l0.succ, ref1_Quote.l0.s]
    have hn1 : nthL (l.map unit) i = unit l[i] := nth_map unit l i hil
    obtain ⟨t1, h1⟩ := q1_eq n [] (l.map unit) (i : Int) hx (o := o) (by omega) hn
    have e92 : List.append o (Array.toList (#[92, 117] : Array UInt8)) = o ++ [92, 117] := rfl
    generalize hg : l[i] = u at *
    by_cases a1 : u < 32
    · have hqe : qu u = escU u := by unfold qu; rw [if_neg (by omega)]
      simp (disch := omega) only [ite_t, ite_f, dec_t, dec_f, beq_t, beq_f, bne_t, bne_f, nbeq_t, nbeq_f, nble_t, nble_f, cond_true, cond_false, Bool.not_true, Bool.not_false, Bool.and_true, Bool.true_and, Bool.and_self, room_t, w64, w32, wu8, wu8', wu16, wu32, fdiv_pos, and63i, and1023i, and31i, and15i, and7i, and192i, or64w, or32w, or16w, or4096w, or64r, or64b, or32b, or16b, optK_some, optK_none, toNat_ofNat, append_eq, List.length_cons, List.length_nil, List.length_append, List.length_map, reduceIte, toNat_s, cell_one, isI_u16, isI_i64, getI_n, hn1, unit, e92, h1, hqe] <;> rfl
    · by_cases a2 : u ≤ 126
      · by_cases a3 : u = 34
        · have hqe : qu u = escU u := by unfold qu; rw [if_neg (by omega)]
          simp (disch := omega) only [ite_t, ite_f, dec_t, dec_f, beq_t, beq_f, bne_t, bne_f, nbeq_t, nbeq_f, nble_t, nble_f, cond_true, cond_false, Bool.not_true, Bool.not_false, Bool.and_true, Bool.true_and, Bool.and_self, room_t, w64, w32, wu8, wu8', wu16, wu32, fdiv_pos, and63i, and1023i, and31i, and15i, and7i, and192i, or64w, or32w, or16w, or4096w, or64r, or64b, or32b, or16b, optK_some, optK_none, toNat_ofNat, append_eq, List.length_cons, List.length_nil, List.length_append, List.length_map, reduceIte, toNat_s, cell_one, isI_u16, isI_i64, getI_n, hn1, unit, e92, h1, hqe, gt_iff_lt] <;> rfl
        · by_cases a4 : u = 92
          · have hqe : qu u = escU u := by unfold qu; rw [if_neg (by omega)]
            simp (disch := omega) only [ite_t, ite_f, dec_t, dec_f, beq_t, beq_f, bne_t, bne_f, nbeq_t, nbeq_f, nble_t, nble_f, cond_true, cond_false, Bool.not_true, Bool.not_false, Bool.and_true, Bool.true_and, Bool.and_self, room_t, w64, w32, wu8, wu8', wu16, wu32, fdiv_pos, and63i, and1023i, and31i, and15i, and7i, and192i, or64w, or32w, or16w, or4096w, or64r, or64b, or32b, or16b, optK_some, optK_none, toNat_ofNat, append_eq, List.length_cons, List.length_nil, List.length_append, List.length_map, reduceIte, toNat_s, cell_one, isI_u16, isI_i64, getI_n, hn1, unit, e92, h1, hqe, gt_iff_lt] <;> rfl
          · have hqe : qu u = [UInt8.ofNat u] := by unfold qu; rw [if_pos (by omega)]
            have hb : [[AVal.int IntKind.u8 (u : Int)]] = List.map byte [UInt8.ofNat u] := by
              simp [byte]; omega
            simp (disch := omega) only [ite_t, ite_f, dec_t, dec_f, beq_t, beq_f, bne_t, bne_f, nbeq_t, nbeq_f, nble_t, nble_f, cond_true, cond_false, Bool.not_true, Bool.not_false, Bool.and_true, Bool.true_and, Bool.and_self, room_t, w64, w32, wu8, wu8', wu16, wu32, fdiv_pos, and63i, and1023i, and31i, and15i, and7i, and192i, or64w, or32w, or16w, or4096w, or64r, or64b, or32b, or16b, optK_some, optK_none, toNat_ofNat, append_eq, List.length_cons, List.length_nil, List.length_append, List.length_map, reduceIte, toNat_s, cell_one, isI_u16, isI_i64, getI_n, hn1, unit, hqe, gt_iff_lt, hb, allByte_map, bytesL_map] <;> rfl
      · have hqe : qu u = escU u := by unfold qu; rw [if_neg (by omega)]
        simp (disch := omega) only [ite_t, ite_f, dec_t, dec_f, beq_t, beq_f, bne_t, bne_f, nbeq_t, nbeq_f, nble_t, nble_f, cond_true, cond_false, Bool.not_true, Bool.not_false, Bool.and_true, Bool.true_and, Bool.and_self, room_t, w64, w32, wu8, wu8', wu16, wu32, fdiv_pos, and63i, and1023i, and31i, and15i, and7i, and192i, or64w, or32w, or16w, or4096w, or64r, or64b, or32b, or16b, optK_some, optK_none, toNat_ofNat, append_eq, List.length_cons, List.length_nil, List.length_append, List.length_map, reduceIte, toNat_s, cell_one, isI_u16, isI_i64, getI_n, hn1, unit, e92, h1, hqe, gt_iff_lt] <;> rfl
theorem rquote_eq {s : List UInt8} (hl : s.length ≤ 1000000) {n : Nat} (hn : 2000000 < n) : ref1_Quote n s = some (quote (unitsOf s)) := by
  unfold ref1_Quote ref1_Quote.k
  rw [runits_eq (by omega) hn, optK_some]
  have hu := units_len s
  obtain ⟨t, ht⟩ := q0_loop (n := n) (by omega) (units_lt s) (by omega) _ 0 n [34] rfl (by omega) (by omega) (by simp)
  rw [show (0 : Int) = ((0 : Nat) : Int) from rfl, ht, optK_some]
  have hq := qus_len (unitsOf s)
  simp only [List.drop_zero]
  rw [if_pos (by rw [List.length_append, List.length_singleton]; omega)]
  simp [quote]
end Go.Proofs.YtefenlmpbgdpnaaDoor.L
