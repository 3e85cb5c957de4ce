/- What the functions of the units, of numbers' texts and of quotes compute. -/
import Derived.Test.YtefenlmpbgdpnaaDoorEsX1
import Derived.Test.YtefenlmpbgdpnaaDoorEs3
namespace Go.Proofs.YtefenlmpbgdpnaaDoor.L
open Go.Abs Go.Uni Go.Plain Go.Deci
open Go.Lib (itoa decDigits)
set_option maxRecDepth 100000
set_option maxHeartbeats 1000000
set_option linter.unusedVariables false
set_option linter.unusedSimpArgs false
theorem halfAt_eq (s : List UInt8) : units_halfAt s = some (halfV s, halfB s) := by
  unfold units_halfAt units_halfAt.k
  rcases Nat.lt_or_ge s.length 3 with h3 | h3
  · simp (disch := omega) only [ite_t, ite_f, dec_t, dec_f, beq_t, beq_f, bne_t, bne_f, nbeq_t, nbeq_f, nble_t, nble_f, cond_true, cond_false, Bool.not_true, Bool.not_false, Bool.and_true, Bool.true_and, Bool.and_self, room_t, w64, w32, wu8, wu8', wu16, wu32, fdiv_pos, and63i, and1023i, and31i, and15i, and7i, and192i, or64w, or32w, or16w, or4096w, or64r, or64b, or32b, or16b, optK_some, optK_none, toNat_ofNat, append_eq, List.length_cons, List.length_nil, List.length_append, List.length_map, reduceIte, toNat_s, cell_one, isI_u16, isI_i64, getI_n, halfB_short h3, halfV]
  · match s, h3 with
    | a :: b :: c :: r, _ =>
      have ha := b_lt a
      have hb := b_lt b
      have hc := b_lt c
      have e0 : byteAt (a :: b :: c :: r) 0 = (a.toNat : Int) := rfl
      have e1 : byteAt (a :: b :: c :: r) 1 = (b.toNat : Int) := rfl
      have e2 : byteAt (a :: b :: c :: r) 2 = (c.toNat : Int) := rfl
      have hn : ∀ (h : ¬ (a.toNat = 237 ∧ 160 ≤ b.toNat ∧ b.toNat ≤ 191 ∧ 128 ≤ c.toNat ∧ c.toNat ≤ 191)), halfB (a :: b :: c :: r) = false := fun h => by
        cases e : halfB (a :: b :: c :: r) with
        | false => rfl
        | true => exact absurd (halfB_237 e) h
      rw [e0, e1, e2]
      by_cases h1 : a.toNat = 237
      · by_cases h2 : 160 ≤ b.toNat
        · by_cases h4 : b.toNat ≤ 191
          · by_cases h5 : 128 ≤ c.toNat ∧ c.toNat ≤ 191
            · have e := half_of (r := r) h1 h2 h4 h5.1 h5.2
              have hB : halfB (a :: b :: c :: r) = true := by simp [halfB, e, isHalf]; omega
              simp (disch := omega) only [ite_t, ite_f, dec_t, dec_f, beq_t, beq_f, bne_t, bne_f, nbeq_t, nbeq_f, nble_t, nble_f, cond_true, cond_false, Bool.not_true, Bool.not_false, Bool.and_true, Bool.true_and, Bool.and_self, room_t, w64, w32, wu8, wu8', wu16, wu32, fdiv_pos, and63i, and1023i, and31i, and15i, and7i, and192i, or64w, or32w, or16w, or4096w, or64r, or64b, or32b, or16b, optK_some, optK_none, toNat_ofNat, append_eq, List.length_cons, List.length_nil, List.length_append, List.length_map, reduceIte, toNat_s, cell_one, isI_u16, isI_i64, getI_n, halfV, hB, e]
              congr 2 <;> omega
            · simp (disch := omega) only [ite_t, ite_f, dec_t, dec_f, beq_t, beq_f, bne_t, bne_f, nbeq_t, nbeq_f, nble_t, nble_f, cond_true, cond_false, Bool.not_true, Bool.not_false, Bool.and_true, Bool.true_and, Bool.and_self, room_t, w64, w32, wu8, wu8', wu16, wu32, fdiv_pos, and63i, and1023i, and31i, and15i, and7i, and192i, or64w, or32w, or16w, or4096w, or64r, or64b, or32b, or16b, optK_some, optK_none, toNat_ofNat, append_eq, List.length_cons, List.length_nil, List.length_append, List.length_map, reduceIte, toNat_s, cell_one, isI_u16, isI_i64, getI_n, halfV, hn (by omega)]
          · simp (disch := omega) only [ite_t, ite_f, dec_t, dec_f, beq_t, beq_f, bne_t, bne_f, nbeq_t, nbeq_f, nble_t, nble_f, cond_true, cond_false, Bool.not_true, Bool.not_false, Bool.and_true, Bool.true_and, Bool.and_self, room_t, w64, w32, wu8, wu8', wu16, wu32, fdiv_pos, and63i, and1023i, and31i, and15i, and7i, and192i, or64w, or32w, or16w, or4096w, or64r, or64b, or32b, or16b, optK_some, optK_none, toNat_ofNat, append_eq, List.length_cons, List.length_nil, List.length_append, List.length_map, reduceIte, toNat_s, cell_one, isI_u16, isI_i64, getI_n, halfV, hn (by omega)]
        · simp (disch := omega) only [ite_t, ite_f, dec_t, dec_f, beq_t, beq_f, bne_t, bne_f, nbeq_t, nbeq_f, nble_t, nble_f, cond_true, cond_false, Bool.not_true, Bool.not_false, Bool.and_true, Bool.true_and, Bool.and_self, room_t, w64, w32, wu8, wu8', wu16, wu32, fdiv_pos, and63i, and1023i, and31i, and15i, and7i, and192i, or64w, or32w, or16w, or4096w, or64r, or64b, or32b, or16b, optK_some, optK_none, toNat_ofNat, append_eq, List.length_cons, List.length_nil, List.length_append, List.length_map, reduceIte, toNat_s, cell_one, isI_u16, isI_i64, getI_n, halfV, hn (by omega)]
      · simp (disch := omega) only [ite_t, ite_f, dec_t, dec_f, beq_t, beq_f, bne_t, bne_f, nbeq_t, nbeq_f, nble_t, nble_f, cond_true, cond_false, Bool.not_true, Bool.not_false, Bool.and_true, Bool.true_and, Bool.and_self, room_t, w64, w32, wu8, wu8', wu16, wu32, fdiv_pos, and63i, and1023i, and31i, and15i, and7i, and192i, or64w, or32w, or16w, or4096w, or64r, or64b, or32b, or16b, optK_some, optK_none, toNat_ofNat, append_eq, List.length_cons, List.length_nil, List.length_append, List.length_map, reduceIte, toNat_s, cell_one, isI_u16, isI_i64, getI_n, halfV, hn (by omega)]
theorem ofOne_eq {c : Nat} (hc : c ≤ 1114111) (o : List Nat) (ho : o.length ≤ 20000000) : units_ofOne (c : Int) (o.map unit) = some ((o ++ u16 c).map unit) := by
  unfold units_ofOne units_ofOne.k
  rw [List.map_append]
  by_cases h : c < 65536
  · simp (disch := omega) only [ite_t, ite_f, dec_t, dec_f, beq_t, beq_f, bne_t, bne_f, nbeq_t, nbeq_f, nble_t, nble_f, cond_true, cond_false, Bool.not_true, Bool.not_false, Bool.and_true, Bool.true_and, Bool.and_self, room_t, w64, w32, wu8, wu8', wu16, wu32, fdiv_pos, and63i, and1023i, and31i, and15i, and7i, and192i, or64w, or32w, or16w, or4096w, or64r, or64b, or32b, or16b, optK_some, optK_none, toNat_ofNat, append_eq, List.length_cons, List.length_nil, List.length_append, List.length_map, reduceIte, toNat_s, cell_one, isI_u16, isI_i64, getI_n, u16, List.map_cons, List.map_nil, unit]
  · simp (disch := omega) only [ite_t, ite_f, dec_t, dec_f, beq_t, beq_f, bne_t, bne_f, nbeq_t, nbeq_f, nble_t, nble_f, cond_true, cond_false, Bool.not_true, Bool.not_false, Bool.and_true, Bool.true_and, Bool.and_self, room_t, w64, w32, wu8, wu8', wu16, wu32, fdiv_pos, and63i, and1023i, and31i, and15i, and7i, and192i, or64w, or32w, or16w, or4096w, or64r, or64b, or32b, or16b, optK_some, optK_none, toNat_ofNat, append_eq, List.length_cons, List.length_nil, List.length_append, List.length_map, reduceIte, toNat_s, cell_one, isI_u16, isI_i64, getI_n, u16, List.map_cons, List.map_nil, unit]
    congr 6 <;> omega
theorem app_eq {c : Nat} (h1 : 128 ≤ c) (h : c ≤ 1114111) (hh : isHalf c = false) (o : List UInt8) (ho : o.length ≤ 20000000) : utf8_app (o.map byte) (c : Int) = some ((o ++ enc c).map byte) := by
  unfold utf8_app utf8_app.k
  rw [List.map_append]
  simp only [isHalf, Bool.and_eq_false_iff, decide_eq_false_iff_not] at hh
  by_cases a : c < 2048
  · simp (disch := omega) only [ite_t, ite_f, dec_t, dec_f, beq_t, beq_f, bne_t, bne_f, nbeq_t, nbeq_f, nble_t, nble_f, cond_true, cond_false, Bool.not_true, Bool.not_false, Bool.and_true, Bool.true_and, Bool.and_self, room_t, w64, w32, wu8, wu8', wu16, wu32, fdiv_pos, and63i, and1023i, and31i, and15i, and7i, and192i, or64w, or32w, or16w, or4096w, or64r, or64b, or32b, or16b, optK_some, optK_none, toNat_ofNat, append_eq, List.length_cons, List.length_nil, List.length_append, List.length_map, reduceIte, toNat_s, cell_one, isI_u16, isI_i64, getI_n, enc, List.map_cons, List.map_nil, byte, ob_toNat]
    simp only [Option.some.injEq, List.append_cancel_left_eq, List.cons.injEq, AVal.int.injEq, true_and, and_true]; omega
  · by_cases d : c < 65536
    · by_cases e : c < 55296
      · simp (disch := omega) only [ite_t, ite_f, dec_t, dec_f, beq_t, beq_f, bne_t, bne_f, nbeq_t, nbeq_f, nble_t, nble_f, cond_true, cond_false, Bool.not_true, Bool.not_false, Bool.and_true, Bool.true_and, Bool.and_self, room_t, w64, w32, wu8, wu8', wu16, wu32, fdiv_pos, and63i, and1023i, and31i, and15i, and7i, and192i, or64w, or32w, or16w, or4096w, or64r, or64b, or32b, or16b, optK_some, optK_none, toNat_ofNat, append_eq, List.length_cons, List.length_nil, List.length_append, List.length_map, reduceIte, toNat_s, cell_one, isI_u16, isI_i64, getI_n, enc, List.map_cons, List.map_nil, byte, ob_toNat]
        simp only [Option.some.injEq, List.append_cancel_left_eq, List.cons.injEq, AVal.int.injEq, true_and, and_true]; omega
      · simp (disch := omega) only [ite_t, ite_f, dec_t, dec_f, beq_t, beq_f, bne_t, bne_f, nbeq_t, nbeq_f, nble_t, nble_f, cond_true, cond_false, Bool.not_true, Bool.not_false, Bool.and_true, Bool.true_and, Bool.and_self, room_t, w64, w32, wu8, wu8', wu16, wu32, fdiv_pos, and63i, and1023i, and31i, and15i, and7i, and192i, or64w, or32w, or16w, or4096w, or64r, or64b, or32b, or16b, optK_some, optK_none, toNat_ofNat, append_eq, List.length_cons, List.length_nil, List.length_append, List.length_map, reduceIte, toNat_s, cell_one, isI_u16, isI_i64, getI_n, enc, List.map_cons, List.map_nil, byte, ob_toNat]
        simp only [Option.some.injEq, List.append_cancel_left_eq, List.cons.injEq, AVal.int.injEq, true_and, and_true]; omega
    · simp (disch := omega) only [ite_t, ite_f, dec_t, dec_f, beq_t, beq_f, bne_t, bne_f, nbeq_t, nbeq_f, nble_t, nble_f, cond_true, cond_false, Bool.not_true, Bool.not_false, Bool.and_true, Bool.true_and, Bool.and_self, room_t, w64, w32, wu8, wu8', wu16, wu32, fdiv_pos, and63i, and1023i, and31i, and15i, and7i, and192i, or64w, or32w, or16w, or4096w, or64r, or64b, or32b, or16b, optK_some, optK_none, toNat_ofNat, append_eq, List.length_cons, List.length_nil, List.length_append, List.length_map, reduceIte, toNat_s, cell_one, isI_u16, isI_i64, getI_n, enc, List.map_cons, List.map_nil, byte, ob_toNat]
      simp only [Option.some.injEq, List.append_cancel_left_eq, List.cons.injEq, AVal.int.injEq, true_and, and_true]; omega
theorem App_eq {c : Nat} (h : c ≤ 1114111) (hh : isHalf c = false) (o : List UInt8) (ho : o.length ≤ 20000000) : utf8_App (o.map byte) (c : Int) = some ((o ++ enc c).map byte) := by
  unfold utf8_App utf8_App.k
  by_cases a : c < 128
  · simp (disch := omega) only [ite_t, ite_f, dec_t, dec_f, beq_t, beq_f, bne_t, bne_f, nbeq_t, nbeq_f, nble_t, nble_f, cond_true, cond_false, Bool.not_true, Bool.not_false, Bool.and_true, Bool.true_and, Bool.and_self, room_t, w64, w32, wu8, wu8', wu16, wu32, fdiv_pos, and63i, and1023i, and31i, and15i, and7i, and192i, or64w, or32w, or16w, or4096w, or64r, or64b, or32b, or16b, optK_some, optK_none, toNat_ofNat, append_eq, List.length_cons, List.length_nil, List.length_append, List.length_map, reduceIte, toNat_s, cell_one, isI_u16, isI_i64, getI_n, enc, List.map_append, List.map_cons, List.map_nil, byte, ob_toNat]
  · simp (disch := omega) only [ite_t, ite_f, dec_t, dec_f, beq_t, beq_f, bne_t, bne_f, nbeq_t, nbeq_f, nble_t, nble_f, cond_true, cond_false, Bool.not_true, Bool.not_false, Bool.and_true, Bool.true_and, Bool.and_self, room_t, w64, w32, wu8, wu8', wu16, wu32, fdiv_pos, and63i, and1023i, and31i, and15i, and7i, and192i, or64w, or32w, or16w, or4096w, or64r, or64b, or32b, or16b, optK_some, optK_none, toNat_ofNat, append_eq, List.length_cons, List.length_nil, List.length_append, List.length_map, reduceIte, toNat_s, cell_one, isI_u16, isI_i64, getI_n, app_eq (show 128 ≤ c by omega) h hh o ho]
theorem put_eq {c : Nat} (h : c ≤ 1114111) (o : List UInt8) (ho : o.length ≤ 20000000) : units_put (o.map byte) (c : Int) = some ((o ++ enc c).map byte) := by
  unfold units_put units_put.k
  by_cases a : 55296 ≤ c
  · by_cases d : c < 57344
    · simp (disch := omega) only [ite_t, ite_f, dec_t, dec_f, beq_t, beq_f, bne_t, bne_f, nbeq_t, nbeq_f, nble_t, nble_f, cond_true, cond_false, Bool.not_true, Bool.not_false, Bool.and_true, Bool.true_and, Bool.and_self, room_t, w64, w32, wu8, wu8', wu16, wu32, fdiv_pos, and63i, and1023i, and31i, and15i, and7i, and192i, or64w, or32w, or16w, or4096w, or64r, or64b, or32b, or16b, optK_some, optK_none, toNat_ofNat, append_eq, List.length_cons, List.length_nil, List.length_append, List.length_map, reduceIte, toNat_s, cell_one, isI_u16, isI_i64, getI_n, enc, List.map_append, List.map_cons, List.map_nil, byte, ob_toNat]
      simp only [Option.some.injEq, List.append_cancel_left_eq, List.cons.injEq, AVal.int.injEq, true_and, and_true]; omega
    · simp (disch := omega) only [ite_t, ite_f, dec_t, dec_f, beq_t, beq_f, bne_t, bne_f, nbeq_t, nbeq_f, nble_t, nble_f, cond_true, cond_false, Bool.not_true, Bool.not_false, Bool.and_true, Bool.true_and, Bool.and_self, room_t, w64, w32, wu8, wu8', wu16, wu32, fdiv_pos, and63i, and1023i, and31i, and15i, and7i, and192i, or64w, or32w, or16w, or4096w, or64r, or64b, or32b, or16b, optK_some, optK_none, toNat_ofNat, append_eq, List.length_cons, List.length_nil, List.length_append, List.length_map, reduceIte, toNat_s, cell_one, isI_u16, isI_i64, getI_n, App_eq h (show isHalf c = false by simp [isHalf]; omega) o ho]
  · simp (disch := omega) only [ite_t, ite_f, dec_t, dec_f, beq_t, beq_f, bne_t, bne_f, nbeq_t, nbeq_f, nble_t, nble_f, cond_true, cond_false, Bool.not_true, Bool.not_false, Bool.and_true, Bool.true_and, Bool.and_self, room_t, w64, w32, wu8, wu8', wu16, wu32, fdiv_pos, and63i, and1023i, and31i, and15i, and7i, and192i, or64w, or32w, or16w, or4096w, or64r, or64b, or32b, or16b, optK_some, optK_none, toNat_ofNat, append_eq, List.length_cons, List.length_nil, List.length_append, List.length_map, reduceIte, toNat_s, cell_one, isI_u16, isI_i64, getI_n, App_eq h (show isHalf c = false by simp [isHalf]; omega) o ho]
theorem headCp_one {u : List Nat} {i : Nat} (hi : i < u.length) (h : ∀ (h1 : i + 1 < u.length), ¬ (isLead u[i] = true ∧ isLow u[i + 1] = true)) : headCp (u.drop i) = (u[i], 1) := by
  rw [drop_at u i hi]
  rcases Nat.lt_or_ge (i + 1) u.length with h1 | h1
  · rw [drop_at u (i + 1) h1, headCp, if_neg]
    simpa using h h1
  · rw [List.drop_eq_nil_of_le h1]; rfl
theorem headCp_two {u : List Nat} {i : Nat} (hi : i + 1 < u.length) (h : isLead u[i] = true ∧ isLow u[i + 1] = true) : headCp (u.drop i) = (65536 + (u[i] - 55296) * 1024 + (u[i + 1] - 56320), 2) := by
  rw [drop_at u i (by omega), drop_at u (i + 1) hi, headCp, if_pos]
  simpa using h
theorem text_round {u : List Nat} (hu : ∀ x ∈ u, x < 65536) (hl : u.length ≤ 2000000) {i : Nat} (hi : i < u.length) (n j : Nat) (w : List UInt8) (b : List UInt8) (hb : b.length ≤ 20000000) :
    units_Text.l0 n (u.map unit) w (j + 1) (b.map byte) (i : Int) = units_Text.l0 n (u.map unit) w j ((b ++ enc (headCp (u.drop i)).1).map byte) ((i + (headCp (u.drop i)).2 : Nat) : Int) := by
  have hx := hu u[i] (List.getElem_mem hi)
  rw [units_Text.l0.succ, units_Text.l0.s]
  by_cases h3 : i + 1 < u.length
  · have hy := hu u[i + 1] (List.getElem_mem h3)
    by_cases h1 : 55296 ≤ u[i]
    · by_cases h2 : u[i] < 56320
      · by_cases h4 : 56320 ≤ u[i + 1]
        · by_cases h5 : u[i + 1] < 57344
          · have e : (65536 + ((u[i] : Int) - 55296) * 1024 + (u[i + 1] : Int) - 56320) = ((65536 + (u[i] - 55296) * 1024 + (u[i + 1] - 56320) : Nat) : Int) := by omega
            rw [headCp_two h3 (by simp [isLead, isLow]; omega)]
            simp (disch := omega) only [ite_t, ite_f, dec_t, dec_f, beq_t, beq_f, bne_t, bne_f, nbeq_t, nbeq_f, nble_t, nble_f, cond_true, cond_false, Bool.not_true, Bool.not_false, Bool.and_true, Bool.true_and, Bool.and_self, room_t, w64, w32, wu8, wu8', wu16, wu32, fdiv_pos, and63i, and1023i, and31i, and15i, and7i, and192i, or64w, or32w, or16w, or4096w, or64r, or64b, or32b, or16b, optK_some, optK_none, toNat_ofNat, append_eq, List.length_cons, List.length_nil, List.length_append, List.length_map, reduceIte, toNat_s, cell_one, isI_u16, isI_i64, getI_n, nth_map, unit, e, put_eq (show 65536 + (u[i] - 55296) * 1024 + (u[i + 1] - 56320) ≤ 1114111 by omega) b hb]
            rfl
          · rw [headCp_one hi (by simp [isLead, isLow]; omega)]
            simp (disch := omega) only [ite_t, ite_f, dec_t, dec_f, beq_t, beq_f, bne_t, bne_f, nbeq_t, nbeq_f, nble_t, nble_f, cond_true, cond_false, Bool.not_true, Bool.not_false, Bool.and_true, Bool.true_and, Bool.and_self, room_t, w64, w32, wu8, wu8', wu16, wu32, fdiv_pos, and63i, and1023i, and31i, and15i, and7i, and192i, or64w, or32w, or16w, or4096w, or64r, or64b, or32b, or16b, optK_some, optK_none, toNat_ofNat, append_eq, List.length_cons, List.length_nil, List.length_append, List.length_map, reduceIte, toNat_s, cell_one, isI_u16, isI_i64, getI_n, nth_map, unit, put_eq (show u[i] ≤ 1114111 by omega) b hb]
            rfl
        · rw [headCp_one hi (by simp [isLead, isLow]; omega)]
          simp (disch := omega) only [ite_t, ite_f, dec_t, dec_f, beq_t, beq_f, bne_t, bne_f, nbeq_t, nbeq_f, nble_t, nble_f, cond_true, cond_false, Bool.not_true, Bool.not_false, Bool.and_true, Bool.true_and, Bool.and_self, room_t, w64, w32, wu8, wu8', wu16, wu32, fdiv_pos, and63i, and1023i, and31i, and15i, and7i, and192i, or64w, or32w, or16w, or4096w, or64r, or64b, or32b, or16b, optK_some, optK_none, toNat_ofNat, append_eq, List.length_cons, List.length_nil, List.length_append, List.length_map, reduceIte, toNat_s, cell_one, isI_u16, isI_i64, getI_n, nth_map, unit, put_eq (show u[i] ≤ 1114111 by omega) b hb]
          rfl
      · rw [headCp_one hi (by simp [isLead, isLow]; omega)]
        by_cases h4 : 56320 ≤ u[i + 1]
        · by_cases h5 : u[i + 1] < 57344
          · simp (disch := omega) only [ite_t, ite_f, dec_t, dec_f, beq_t, beq_f, bne_t, bne_f, nbeq_t, nbeq_f, nble_t, nble_f, cond_true, cond_false, Bool.not_true, Bool.not_false, Bool.and_true, Bool.true_and, Bool.and_self, room_t, w64, w32, wu8, wu8', wu16, wu32, fdiv_pos, and63i, and1023i, and31i, and15i, and7i, and192i, or64w, or32w, or16w, or4096w, or64r, or64b, or32b, or16b, optK_some, optK_none, toNat_ofNat, append_eq, List.length_cons, List.length_nil, List.length_append, List.length_map, reduceIte, toNat_s, cell_one, isI_u16, isI_i64, getI_n, nth_map, unit, put_eq (show u[i] ≤ 1114111 by omega) b hb]
            rfl
          · simp (disch := omega) only [ite_t, ite_f, dec_t, dec_f, beq_t, beq_f, bne_t, bne_f, nbeq_t, nbeq_f, nble_t, nble_f, cond_true, cond_false, Bool.not_true, Bool.not_false, Bool.and_true, Bool.true_and, Bool.and_self, room_t, w64, w32, wu8, wu8', wu16, wu32, fdiv_pos, and63i, and1023i, and31i, and15i, and7i, and192i, or64w, or32w, or16w, or4096w, or64r, or64b, or32b, or16b, optK_some, optK_none, toNat_ofNat, append_eq, List.length_cons, List.length_nil, List.length_append, List.length_map, reduceIte, toNat_s, cell_one, isI_u16, isI_i64, getI_n, nth_map, unit, put_eq (show u[i] ≤ 1114111 by omega) b hb]
            rfl
        · simp (disch := omega) only [ite_t, ite_f, dec_t, dec_f, beq_t, beq_f, bne_t, bne_f, nbeq_t, nbeq_f, nble_t, nble_f, cond_true, cond_false, Bool.not_true, Bool.not_false, Bool.and_true, Bool.true_and, Bool.and_self, room_t, w64, w32, wu8, wu8', wu16, wu32, fdiv_pos, and63i, and1023i, and31i, and15i, and7i, and192i, or64w, or32w, or16w, or4096w, or64r, or64b, or32b, or16b, optK_some, optK_none, toNat_ofNat, append_eq, List.length_cons, List.length_nil, List.length_append, List.length_map, reduceIte, toNat_s, cell_one, isI_u16, isI_i64, getI_n, nth_map, unit, put_eq (show u[i] ≤ 1114111 by omega) b hb]
          rfl
    · rw [headCp_one hi (by simp [isLead, isLow]; omega)]
      by_cases h4 : 56320 ≤ u[i + 1]
      · by_cases h5 : u[i + 1] < 57344
        · simp (disch := omega) only [ite_t, ite_f, dec_t, dec_f, beq_t, beq_f, bne_t, bne_f, nbeq_t, nbeq_f, nble_t, nble_f, cond_true, cond_false, Bool.not_true, Bool.not_false, Bool.and_true, Bool.true_and, Bool.and_self, room_t, w64, w32, wu8, wu8', wu16, wu32, fdiv_pos, and63i, and1023i, and31i, and15i, and7i, and192i, or64w, or32w, or16w, or4096w, or64r, or64b, or32b, or16b, optK_some, optK_none, toNat_ofNat, append_eq, List.length_cons, List.length_nil, List.length_append, List.length_map, reduceIte, toNat_s, cell_one, isI_u16, isI_i64, getI_n, nth_map, unit, put_eq (show u[i] ≤ 1114111 by omega) b hb]
          rfl
        · simp (disch := omega) only [ite_t, ite_f, dec_t, dec_f, beq_t, beq_f, bne_t, bne_f, nbeq_t, nbeq_f, nble_t, nble_f, cond_true, cond_false, Bool.not_true, Bool.not_false, Bool.and_true, Bool.true_and, Bool.and_self, room_t, w64, w32, wu8, wu8', wu16, wu32, fdiv_pos, and63i, and1023i, and31i, and15i, and7i, and192i, or64w, or32w, or16w, or4096w, or64r, or64b, or32b, or16b, optK_some, optK_none, toNat_ofNat, append_eq, List.length_cons, List.length_nil, List.length_append, List.length_map, reduceIte, toNat_s, cell_one, isI_u16, isI_i64, getI_n, nth_map, unit, put_eq (show u[i] ≤ 1114111 by omega) b hb]
          rfl
      · simp (disch := omega) only [ite_t, ite_f, dec_t, dec_f, beq_t, beq_f, bne_t, bne_f, nbeq_t, nbeq_f, nble_t, nble_f, cond_true, cond_false, Bool.not_true, Bool.not_false, Bool.and_true, Bool.true_and, Bool.and_self, room_t, w64, w32, wu8, wu8', wu16, wu32, fdiv_pos, and63i, and1023i, and31i, and15i, and7i, and192i, or64w, or32w, or16w, or4096w, or64r, or64b, or32b, or16b, optK_some, optK_none, toNat_ofNat, append_eq, List.length_cons, List.length_nil, List.length_append, List.length_map, reduceIte, toNat_s, cell_one, isI_u16, isI_i64, getI_n, nth_map, unit, put_eq (show u[i] ≤ 1114111 by omega) b hb]
        rfl
  · rw [headCp_one hi (by omega)]
    by_cases h1 : 55296 ≤ u[i]
    · by_cases h2 : u[i] < 56320
      · simp (disch := omega) only [ite_t, ite_f, dec_t, dec_f, beq_t, beq_f, bne_t, bne_f, nbeq_t, nbeq_f, nble_t, nble_f, cond_true, cond_false, Bool.not_true, Bool.not_false, Bool.and_true, Bool.true_and, Bool.and_self, room_t, w64, w32, wu8, wu8', wu16, wu32, fdiv_pos, and63i, and1023i, and31i, and15i, and7i, and192i, or64w, or32w, or16w, or4096w, or64r, or64b, or32b, or16b, optK_some, optK_none, toNat_ofNat, append_eq, List.length_cons, List.length_nil, List.length_append, List.length_map, reduceIte, toNat_s, cell_one, isI_u16, isI_i64, getI_n, nth_map, unit, put_eq (show u[i] ≤ 1114111 by omega) b hb]
        rfl
      · simp (disch := omega) only [ite_t, ite_f, dec_t, dec_f, beq_t, beq_f, bne_t, bne_f, nbeq_t, nbeq_f, nble_t, nble_f, cond_true, cond_false, Bool.not_true, Bool.not_false, Bool.and_true, Bool.true_and, Bool.and_self, room_t, w64, w32, wu8, wu8', wu16, wu32, fdiv_pos, and63i, and1023i, and31i, and15i, and7i, and192i, or64w, or32w, or16w, or4096w, or64r, or64b, or32b, or16b, optK_some, optK_none, toNat_ofNat, append_eq, List.length_cons, List.length_nil, List.length_append, List.length_map, reduceIte, toNat_s, cell_one, isI_u16, isI_i64, getI_n, nth_map, unit, put_eq (show u[i] ≤ 1114111 by omega) b hb]
        rfl
    · simp (disch := omega) only [ite_t, ite_f, dec_t, dec_f, beq_t, beq_f, bne_t, bne_f, nbeq_t, nbeq_f, nble_t, nble_f, cond_true, cond_false, Bool.not_true, Bool.not_false, Bool.and_true, Bool.true_and, Bool.and_self, room_t, w64, w32, wu8, wu8', wu16, wu32, fdiv_pos, and63i, and1023i, and31i, and15i, and7i, and192i, or64w, or32w, or16w, or4096w, or64r, or64b, or32b, or16b, optK_some, optK_none, toNat_ofNat, append_eq, List.length_cons, List.length_nil, List.length_append, List.length_map, reduceIte, toNat_s, cell_one, isI_u16, isI_i64, getI_n, nth_map, unit, put_eq (show u[i] ≤ 1114111 by omega) b hb]
      rfl
theorem text_loop {u : List Nat} (hu : ∀ x ∈ u, x < 65536) (hl : u.length ≤ 2000000) (n : Nat) (w : List UInt8) : ∀ (d i j : Nat) (b : List UInt8), u.length - i = d → i ≤ u.length → d < j → b.length ≤ 4 * i →
    ∃ k, units_Text.l0 n (u.map unit) w j (b.map byte) (i : Int) = some ((b ++ textOf (u.drop i)).map byte, k) := by
  intro d
  induction d using Nat.strongRecOn with
  | ind d ih =>
    intro i j b hn hp hj hb
    obtain ⟨j, rfl⟩ : ∃ i, j = i + 1 := ⟨j - 1, by omega⟩
    rcases Nat.lt_or_ge i u.length with hlt | hge
    · have hne : u.drop i ≠ [] := by simp; exact hlt
      obtain ⟨a1, a2, a3⟩ := headCp_le (l := u.drop i) (fun x hx => hu x (List.drop_subset _ _ hx))
      have a3 := a3 hne
      rw [List.length_drop] at a2
      have a4 := (enc_len (headCp (u.drop i)).1)
      have a5 : (headCp (u.drop i)).2 ≤ 2 := by
        rcases e : u.drop i with _ | ⟨a, _ | ⟨c, r⟩⟩ <;> simp only [headCp] <;> (try split) <;> omega
      obtain ⟨k, h⟩ := ih (u.length - (i + (headCp (u.drop i)).2)) (by omega) (i + (headCp (u.drop i)).2) j (b ++ enc (headCp (u.drop i)).1) rfl (by omega) (by omega) (by rw [List.length_append]; omega)
      refine ⟨k, ?_⟩
      rw [text_round hu hl hlt n j w b (by omega), h, textOf, textOf, cps_head hne, List.flatMap_cons, List.drop_drop, List.append_assoc]
    · refine ⟨(i : Int), ?_⟩
      rw [units_Text.l0.succ, units_Text.l0.s, List.drop_eq_nil_of_le hge]
      simp (disch := omega) only [ite_t, ite_f, dec_t, dec_f, beq_t, beq_f, bne_t, bne_f, nbeq_t, nbeq_f, nble_t, nble_f, cond_true, cond_false, Bool.not_true, Bool.not_false, Bool.and_true, Bool.true_and, Bool.and_self, room_t, w64, w32, wu8, wu8', wu16, wu32, fdiv_pos, and63i, and1023i, and31i, and15i, and7i, and192i, or64w, or32w, or16w, or4096w, or64r, or64b, or32b, or16b, optK_some, optK_none, toNat_ofNat, append_eq, List.length_cons, List.length_nil, List.length_append, List.length_map, reduceIte, toNat_s, cell_one, isI_u16, isI_i64, getI_n, textOf, cps, List.flatMap_nil, List.append_nil]
theorem text_eq {u : List Nat} (hu : ∀ x ∈ u, x < 65536) (hl : u.length ≤ 2000000) {n : Nat} (hn : 2000000 < n) : units_Text n (u.map unit) = some (textOf u) := by
  obtain ⟨k, h⟩ := text_loop hu hl n [] u.length 0 n [] rfl (by omega) (by omega) (by simp)
  unfold units_Text units_Text.k
  rw [show ([] : List (List AVal)) = List.map byte [] from rfl, show (0 : Int) = ((0 : Nat) : Int) from rfl, h, optK_some]
  simp only [allByte_map, bytesL_map, List.nil_append, List.drop_zero, cond_true]
def eachOOut : (Int × Bool × Nat × List (List AVal)) ⊕ (Int × Bool × Nat × List (List AVal)) → Bool × List (List AVal)
  | .inl t => (false, t.2.2.2)
  | .inr t => (true, t.2.2.2)
theorem eachO_skip {s : List UInt8} {pos : Nat} (h : pos < s.length) (n j : Nat) (b ah : Bool) {k : Int} (hk : 0 < k ∧ k < 10) (o : List Nat) :
    units_EachO.l0 n s b s (j + 1) k ah pos (o.map unit) = units_EachO.l0 n s b s j (k - 1) ah (pos + (dec (s.drop pos)).2) (o.map unit) := by
  rw [units_EachO.l0.succ, units_EachO.l0.s]
  simp (disch := omega) only [ite_t, ite_f, dec_t, dec_f, beq_t, beq_f, bne_t, bne_f, nbeq_t, nbeq_f, nble_t, nble_f, cond_true, cond_false, Bool.not_true, Bool.not_false, Bool.and_true, Bool.true_and, Bool.and_self, room_t, w64, w32, wu8, wu8', wu16, wu32, fdiv_pos, and63i, and1023i, and31i, and15i, and7i, and192i, or64w, or32w, or16w, or4096w, or64r, or64b, or32b, or16b, optK_some, optK_none, toNat_ofNat, append_eq, List.length_cons, List.length_nil, List.length_append, List.length_map, reduceIte, toNat_s, cell_one, isI_u16, isI_i64, getI_n, h, decode_eq s pos h]
theorem eachO_end {s : List UInt8} {pos : Nat} (h : ¬ pos < s.length) (n j : Nat) (b ah : Bool) (k : Int) (o : List Nat) :
    units_EachO.l0 n s b s (j + 1) k ah pos (o.map unit) = some (.inr (k, ah, pos, o.map unit)) := by
  rw [units_EachO.l0.succ, units_EachO.l0.s]
  simp (disch := omega) only [ite_t, ite_f, dec_t, dec_f, beq_t, beq_f, bne_t, bne_f, nbeq_t, nbeq_f, nble_t, nble_f, cond_true, cond_false, Bool.not_true, Bool.not_false, Bool.and_true, Bool.true_and, Bool.and_self, room_t, w64, w32, wu8, wu8', wu16, wu32, fdiv_pos, and63i, and1023i, and31i, and15i, and7i, and192i, or64w, or32w, or16w, or4096w, or64r, or64b, or32b, or16b, optK_some, optK_none, toNat_ofNat, append_eq, List.length_cons, List.length_nil, List.length_append, List.length_map, reduceIte, toNat_s, cell_one, isI_u16, isI_i64, getI_n, h]
theorem eachO_bad {s : List UInt8} {pos : Nat} (h : pos < s.length) (n j : Nat) (b ah : Bool) (o : List Nat) (hb : ((pt (s.drop pos)).2 = 0 || (ah && isLow (pt (s.drop pos)).1)) = true) :
    units_EachO.l0 n s b s (j + 1) 0 ah pos (o.map unit) = some (.inl (0, ah, pos + 1, o.map unit)) := by
  have hne : s.drop pos ≠ [] := by simp; exact h
  rw [units_EachO.l0.succ, units_EachO.l0.s]
  by_cases p : (pt (s.drop pos)).2 = 0
  · simp (disch := omega) only [ite_t, ite_f, dec_t, dec_f, beq_t, beq_f, bne_t, bne_f, nbeq_t, nbeq_f, nble_t, nble_f, cond_true, cond_false, Bool.not_true, Bool.not_false, Bool.and_true, Bool.true_and, Bool.and_self, room_t, w64, w32, wu8, wu8', wu16, wu32, fdiv_pos, and63i, and1023i, and31i, and15i, and7i, and192i, or64w, or32w, or16w, or4096w, or64r, or64b, or32b, or16b, optK_some, optK_none, toNat_ofNat, append_eq, List.length_cons, List.length_nil, List.length_append, List.length_map, reduceIte, toNat_s, cell_one, isI_u16, isI_i64, getI_n, h, decode_eq s pos h, List.take_length, dec_bad p, decS_ne hne, halfAt_eq, halfB_bad p]
  · simp only [p, decide_false, Bool.false_or, Bool.and_eq_true] at hb
    obtain ⟨rfl, hb⟩ := hb
    have hh := low_half hb
    simp only [isLow, Bool.and_eq_true, decide_eq_true_eq] at hb
    simp (disch := omega) only [ite_t, ite_f, dec_t, dec_f, beq_t, beq_f, bne_t, bne_f, nbeq_t, nbeq_f, nble_t, nble_f, cond_true, cond_false, Bool.not_true, Bool.not_false, Bool.and_true, Bool.true_and, Bool.and_self, room_t, w64, w32, wu8, wu8', wu16, wu32, fdiv_pos, and63i, and1023i, and31i, and15i, and7i, and192i, or64w, or32w, or16w, or4096w, or64r, or64b, or32b, or16b, optK_some, optK_none, toNat_ofNat, append_eq, List.length_cons, List.length_nil, List.length_append, List.length_map, reduceIte, toNat_s, cell_one, isI_u16, isI_i64, getI_n, h, decode_eq s pos h, List.take_length, dec_half hh, decS_ne hne, halfAt_eq, halfB_half hh, halfV_half hh]
theorem eachO_half {s : List UInt8} {pos : Nat} (h : pos < s.length) (n j : Nat) (b ah : Bool) (o : List Nat) (ho : o.length ≤ 20000000) (hh : isHalf (pt (s.drop pos)).1 = true) (hb : (ah && isLow (pt (s.drop pos)).1) = false) :
    units_EachO.l0 n s b s (j + 1) 0 ah pos (o.map unit) = units_EachO.l0 n s b s j 2 (isLead (pt (s.drop pos)).1) (pos + 1) ((o ++ u16 (pt (s.drop pos)).1).map unit) := by
  have hne : s.drop pos ≠ [] := by simp; exact h
  have hlt := pt_lt (s.drop pos)
  have hh' := hh
  simp only [isHalf, Bool.and_eq_true, decide_eq_true_eq] at hh'
  have g2 : decide (((pt (s.drop pos)).1 : Int) < 56320) = isLead (pt (s.drop pos)).1 := by
    simp only [isLead, ← Bool.decide_and]; apply decide_eq_decide.2; omega
  rw [units_EachO.l0.succ, units_EachO.l0.s]
  rw [← g2]
  cases ah with
  | false => simp (disch := omega) only [ite_t, ite_f, beq_t, beq_f, cond_true, cond_false, Bool.not_true, Bool.not_false, w64, optK_some, optK_none, toNat_ofNat, dec_f, ge_iff_le, dec_t, reduceIte, h, decode_eq s pos h, List.take_length, dec_half hh, decS_ne hne, halfAt_eq, halfB_half hh, halfV_half hh, ofOne_eq hlt o ho]
  | true =>
    simp only [isLow, Bool.true_and, Bool.and_eq_false_iff, decide_eq_false_iff_not] at hb
    simp (disch := omega) only [ite_t, ite_f, beq_t, beq_f, cond_true, cond_false, Bool.not_true, Bool.not_false, w64, optK_some, optK_none, toNat_ofNat, dec_f, ge_iff_le, dec_t, reduceIte, h, decode_eq s pos h, List.take_length, dec_half hh, decS_ne hne, halfAt_eq, halfB_half hh, halfV_half hh, ofOne_eq hlt o ho]
theorem eachO_plain {s : List UInt8} {pos : Nat} (h : pos < s.length) (n j : Nat) (b ah : Bool) (o : List Nat) (ho : o.length ≤ 20000000) (h0 : (pt (s.drop pos)).2 ≠ 0) (hh : isHalf (pt (s.drop pos)).1 = false) :
    units_EachO.l0 n s b s (j + 1) 0 ah pos (o.map unit) = units_EachO.l0 n s b s j 0 (isLead (pt (s.drop pos)).1) (pos + (pt (s.drop pos)).2) ((o ++ u16 (pt (s.drop pos)).1).map unit) := by
  have hne : s.drop pos ≠ [] := by simp; exact h
  have hlt := pt_lt (s.drop pos)
  have hd := dec_plain h0 hh
  simp only [isHalf, Bool.and_eq_false_iff, decide_eq_false_iff_not] at hh
  have g0 : isLead (pt (s.drop pos)).1 = false := by simp only [isLead, Bool.and_eq_false_iff, decide_eq_false_iff_not]; omega
  rw [units_EachO.l0.succ, units_EachO.l0.s, g0]
  by_cases p : (pt (s.drop pos)).1 = 65533
  · have h3 := plain_3 p h0
    simp (disch := omega) only [ite_t, ite_f, dec_t, dec_f, beq_t, beq_f, bne_t, bne_f, nbeq_t, nbeq_f, nble_t, nble_f, cond_true, cond_false, Bool.not_true, Bool.not_false, Bool.and_true, Bool.true_and, Bool.and_self, room_t, w64, w32, wu8, wu8', wu16, wu32, fdiv_pos, and63i, and1023i, and31i, and15i, and7i, and192i, or64w, or32w, or16w, or4096w, or64r, or64b, or32b, or16b, optK_some, optK_none, toNat_ofNat, append_eq, List.length_cons, List.length_nil, List.length_append, List.length_map, reduceIte, toNat_s, cell_one, isI_u16, isI_i64, getI_n, h, decode_eq s pos h, List.take_length, hd, decS_ne hne, ofOne_eq hlt o ho]
  · by_cases p2 : 55296 ≤ (pt (s.drop pos)).1
    · simp (disch := omega) only [ite_t, ite_f, dec_t, dec_f, beq_t, beq_f, bne_t, bne_f, nbeq_t, nbeq_f, nble_t, nble_f, cond_true, cond_false, Bool.not_true, Bool.not_false, Bool.and_true, Bool.true_and, Bool.and_self, room_t, w64, w32, wu8, wu8', wu16, wu32, fdiv_pos, and63i, and1023i, and31i, and15i, and7i, and192i, or64w, or32w, or16w, or4096w, or64r, or64b, or32b, or16b, optK_some, optK_none, toNat_ofNat, append_eq, List.length_cons, List.length_nil, List.length_append, List.length_map, reduceIte, toNat_s, cell_one, isI_u16, isI_i64, getI_n, h, decode_eq s pos h, List.take_length, hd, decS_ne hne, ofOne_eq hlt o ho]
    · simp (disch := omega) only [ite_t, ite_f, dec_t, dec_f, beq_t, beq_f, bne_t, bne_f, nbeq_t, nbeq_f, nble_t, nble_f, cond_true, cond_false, Bool.not_true, Bool.not_false, Bool.and_true, Bool.true_and, Bool.and_self, room_t, w64, w32, wu8, wu8', wu16, wu32, fdiv_pos, and63i, and1023i, and31i, and15i, and7i, and192i, or64w, or32w, or16w, or4096w, or64r, or64b, or32b, or16b, optK_some, optK_none, toNat_ofNat, append_eq, List.length_cons, List.length_nil, List.length_append, List.length_map, reduceIte, toNat_s, cell_one, isI_u16, isI_i64, getI_n, h, decode_eq s pos h, List.take_length, hd, decS_ne hne, ofOne_eq hlt o ho]
theorem eachO_loop {s : List UInt8} (hl : s.length ≤ 2000000) (n : Nat) (b : Bool) : ∀ (d f pos j : Nat) (ah : Bool) (o : List Nat), s.length - pos = d → pos ≤ s.length → d < j → d ≤ f → o.length ≤ 2 * pos →
    ∃ x, units_EachO.l0 n s b s j 0 ah pos (o.map unit) = some x ∧ eachOOut x = ((scan f ah (s.drop pos)).2, (o ++ (scan f ah (s.drop pos)).1.flatMap u16).map unit) := by
  intro d
  induction d using Nat.strongRecOn with
  | ind d ih =>
    intro f pos j ah o hn hp hj hf ho
    obtain ⟨j, rfl⟩ : ∃ i, j = i + 1 := ⟨j - 1, by omega⟩
    rcases Nat.lt_or_ge pos s.length with hlt | hge
    · obtain ⟨f, rfl⟩ : ∃ i, f = i + 1 := ⟨f - 1, by omega⟩
      have hd := drop_at s pos hlt
      have hsc : scan (f + 1) ah (s.drop pos) = if (pt (s.drop pos)).2 = 0 || (ah && isLow (pt (s.drop pos)).1) then ([], false) else ((pt (s.drop pos)).1 :: (scan f (isLead (pt (s.drop pos)).1) ((s.drop pos).drop (pt (s.drop pos)).2)).1, (scan f (isLead (pt (s.drop pos)).1) ((s.drop pos).drop (pt (s.drop pos)).2)).2) := by
        rw [hd]; rfl
      by_cases hb : ((pt (s.drop pos)).2 = 0 || (ah && isLow (pt (s.drop pos)).1)) = true
      · refine ⟨_, eachO_bad hlt n j b ah o hb, ?_⟩
        rw [hsc, if_pos hb]
        simp [eachOOut]
      · have hb' := hb
        simp only [Bool.or_eq_true, decide_eq_true_eq, not_or, Bool.not_eq_true] at hb'
        have hw := pt_width (s.drop pos)
        rw [List.length_drop] at hw
        have hu := u16_len (pt (s.drop pos)).1
        rw [hsc, if_neg hb, List.drop_drop]
        rcases hh : isHalf (pt (s.drop pos)).1 with _ | _
        · obtain ⟨x, h, hx⟩ := ih (s.length - (pos + (pt (s.drop pos)).2)) (by omega) f (pos + (pt (s.drop pos)).2) j (isLead (pt (s.drop pos)).1) (o ++ u16 (pt (s.drop pos)).1) rfl (by omega) (by omega) (by omega) (by rw [List.length_append]; omega)
          refine ⟨x, ?_, ?_⟩
          · rw [eachO_plain hlt n j b ah o (by omega) hb'.1 hh]; exact h
          · rw [hx, List.flatMap_cons, List.append_assoc]
        · obtain ⟨c1, c2, c3⟩ := half_conts hh
          have h3 := half_w hh
          rw [List.drop_drop] at c1 c2
          rw [List.length_drop] at c3
          obtain ⟨j, rfl⟩ : ∃ i, j = i + 2 := ⟨j - 2, by omega⟩
          obtain ⟨x, h, hx⟩ := ih (s.length - (pos + 3)) (by omega) f (pos + 3) j (isLead (pt (s.drop pos)).1) (o ++ u16 (pt (s.drop pos)).1) rfl (by omega) (by omega) (by omega) (by rw [List.length_append]; omega)
          refine ⟨x, ?_, ?_⟩
          · rw [eachO_half hlt n (j + 2) b ah o (by omega) hh hb'.2, eachO_skip (by omega) n (j + 1) b _ (by omega) _, c1, show (2 : Int) - 1 = 1 from rfl, eachO_skip (by omega) n j b _ (by omega) _, c2]
            exact h
          · rw [hx, List.flatMap_cons, List.append_assoc, h3]
    · refine ⟨_, eachO_end (by omega) n j b ah 0 o, ?_⟩
      have hd : s.drop pos = [] := by simp; omega
      have hs : scan f ah [] = ([], true) := by cases f <;> rfl
      rw [hd, hs]
      simp [eachOOut]
theorem of_eq {s : List UInt8} (hl : s.length ≤ 2000000) {n : Nat} (hn : 2000000 < n) : units_Of n s = some ((unitsOf s).map unit) := by
  obtain ⟨x, h, hx⟩ := eachO_loop hl n false s.length s.length 0 n false [] rfl (by omega) (by omega) (by omega) (by simp)
  unfold units_Of units_Of.k units_EachO units_EachO.k
  rw [show ([] : List (List AVal)) = List.map unit [] from rfl, h]
  have e : eachOOut x = (right s, ((pts s).1.flatMap u16).map unit) := hx
  rcases x with t | t
  · rw [unitsOf, show right s = false from (congrArg Prod.fst e).symm]; rfl
  · rw [unitsOf, show right s = true from (congrArg Prod.fst e).symm, if_pos rfl, ← (show t.2.2.2 = ((pts s).1.flatMap u16).map unit from congrArg Prod.snd e)]; rfl
def hexl : List UInt8 := [48, 49, 50, 51, 52, 53, 54, 55, 56, 57, 97, 98, 99, 100, 101, 102]
def hx (k : Nat) : UInt8 := hexl.getD k 0
end Go.Proofs.YtefenlmpbgdpnaaDoor.L
