/- What the functions of chapter 1 compute: the texts. -/
import Derived.Test.YtlklpdifcpjlpaaDoorP4
namespace Go.Proofs.YtlklpdifcpjlpaaDoor
open Go.Abs Go.Uni Go.Plain
set_option maxRecDepth 100000
set_option maxHeartbeats 1000000
set_option linter.unusedVariables false
set_option linter.unusedSimpArgs false

theorem headCp_one {u : List Nat} {i : Nat} (hi : i < u.length) (h : ∀ (h1 : i + 1 < u.length), ¬ (isLead u[i] = true ∧ isLow u[i + 1] = true)) : headCp (u.drop i) = (u[i], 1) := by
  rw [drop_at u i hi]
  rcases Nat.lt_or_ge (i + 1) u.length with h1 | h1
  · rw [drop_at u (i + 1) h1, headCp, if_neg]
    simpa using h h1
  · rw [List.drop_eq_nil_of_le h1]; rfl
theorem headCp_two {u : List Nat} {i : Nat} (hi : i + 1 < u.length) (h : isLead u[i] = true ∧ isLow u[i + 1] = true) : headCp (u.drop i) = (65536 + (u[i] - 55296) * 1024 + (u[i + 1] - 56320), 2) := by
  rw [drop_at u i (by omega), drop_at u (i + 1) hi, headCp, if_pos]
  simpa using h

theorem text_round {u : List Nat} (hu : ∀ x ∈ u, x < 65536) (hl : u.length ≤ 100000) {i : Nat} (hi : i < u.length) (n j : Nat) (w : List UInt8) (b : List UInt8) (hb : b.length ≤ 1000000) :
    units_Text.l0 n (u.map unit) w (j + 1) (b.map byte) (i : Int) = units_Text.l0 n (u.map unit) w j ((b ++ enc (headCp (u.drop i)).1).map byte) ((i + (headCp (u.drop i)).2 : Nat) : Int) := by
  have hx := hu u[i] (List.getElem_mem hi)
  rw [units_Text.l0.succ, units_Text.l0.s]
  by_cases h3 : i + 1 < u.length
  · have hy := hu u[i + 1] (List.getElem_mem h3)
    by_cases h1 : 55296 ≤ u[i]
    · by_cases h2 : u[i] < 56320
      · by_cases h4 : 56320 ≤ u[i + 1]
        · by_cases h5 : u[i + 1] < 57344
          · have e : (65536 + ((u[i] : Int) - 55296) * 1024 + (u[i + 1] : Int) - 56320) = ((65536 + (u[i] - 55296) * 1024 + (u[i + 1] - 56320) : Nat) : Int) := by omega
            rw [headCp_two h3 (by simp [isLead, isLow]; omega)]
            simp (disch := omega) only [ite_t, ite_f, dec_t, dec_f, beq_t, beq_f, bne_t, bne_f, nbeq_t, nbeq_f, nble_t, nble_f, cond_true, cond_false, Bool.not_true, Bool.not_false, Bool.and_true, Bool.true_and, Bool.and_self, room_t, w64, w32, wu8, wu8', wu16, wu32, fdiv_pos, and63i, and1023i, and31i, and15i, and7i, and192i, or64w, or32w, or16w, or4096w, or64r, or64b, or32b, or16b, optK_some, optK_none, toNat_ofNat, append_eq, List.length_cons, List.length_nil, List.length_append, List.length_map, reduceIte, toNat_s, cell_one, isI_u16, isI_i64, getI_n, nth_map, unit, e, put_eq (show 65536 + (u[i] - 55296) * 1024 + (u[i + 1] - 56320) ≤ 1114111 by omega) b hb]
            rfl
          · rw [headCp_one hi (by simp [isLead, isLow]; omega)]
            simp (disch := omega) only [ite_t, ite_f, dec_t, dec_f, beq_t, beq_f, bne_t, bne_f, nbeq_t, nbeq_f, nble_t, nble_f, cond_true, cond_false, Bool.not_true, Bool.not_false, Bool.and_true, Bool.true_and, Bool.and_self, room_t, w64, w32, wu8, wu8', wu16, wu32, fdiv_pos, and63i, and1023i, and31i, and15i, and7i, and192i, or64w, or32w, or16w, or4096w, or64r, or64b, or32b, or16b, optK_some, optK_none, toNat_ofNat, append_eq, List.length_cons, List.length_nil, List.length_append, List.length_map, reduceIte, toNat_s, cell_one, isI_u16, isI_i64, getI_n, nth_map, unit, put_eq (show u[i] ≤ 1114111 by omega) b hb]
            rfl
        · rw [headCp_one hi (by simp [isLead, isLow]; omega)]
          simp (disch := omega) only [ite_t, ite_f, dec_t, dec_f, beq_t, beq_f, bne_t, bne_f, nbeq_t, nbeq_f, nble_t, nble_f, cond_true, cond_false, Bool.not_true, Bool.not_false, Bool.and_true, Bool.true_and, Bool.and_self, room_t, w64, w32, wu8, wu8', wu16, wu32, fdiv_pos, and63i, and1023i, and31i, and15i, and7i, and192i, or64w, or32w, or16w, or4096w, or64r, or64b, or32b, or16b, optK_some, optK_none, toNat_ofNat, append_eq, List.length_cons, List.length_nil, List.length_append, List.length_map, reduceIte, toNat_s, cell_one, isI_u16, isI_i64, getI_n, nth_map, unit, put_eq (show u[i] ≤ 1114111 by omega) b hb]
          rfl
      · rw [headCp_one hi (by simp [isLead, isLow]; omega)]
        by_cases h4 : 56320 ≤ u[i + 1]
        · by_cases h5 : u[i + 1] < 57344
          · simp (disch := omega) only [ite_t, ite_f, dec_t, dec_f, beq_t, beq_f, bne_t, bne_f, nbeq_t, nbeq_f, nble_t, nble_f, cond_true, cond_false, Bool.not_true, Bool.not_false, Bool.and_true, Bool.true_and, Bool.and_self, room_t, w64, w32, wu8, wu8', wu16, wu32, fdiv_pos, and63i, and1023i, and31i, and15i, and7i, and192i, or64w, or32w, or16w, or4096w, or64r, or64b, or32b, or16b, optK_some, optK_none, toNat_ofNat, append_eq, List.length_cons, List.length_nil, List.length_append, List.length_map, reduceIte, toNat_s, cell_one, isI_u16, isI_i64, getI_n, nth_map, unit, put_eq (show u[i] ≤ 1114111 by omega) b hb]
            rfl
          · simp (disch := omega) only [ite_t, ite_f, dec_t, dec_f, beq_t, beq_f, bne_t, bne_f, nbeq_t, nbeq_f, nble_t, nble_f, cond_true, cond_false, Bool.not_true, Bool.not_false, Bool.and_true, Bool.true_and, Bool.and_self, room_t, w64, w32, wu8, wu8', wu16, wu32, fdiv_pos, and63i, and1023i, and31i, and15i, and7i, and192i, or64w, or32w, or16w, or4096w, or64r, or64b, or32b, or16b, optK_some, optK_none, toNat_ofNat, append_eq, List.length_cons, List.length_nil, List.length_append, List.length_map, reduceIte, toNat_s, cell_one, isI_u16, isI_i64, getI_n, nth_map, unit, put_eq (show u[i] ≤ 1114111 by omega) b hb]
            rfl
        · simp (disch := omega) only [ite_t, ite_f, dec_t, dec_f, beq_t, beq_f, bne_t, bne_f, nbeq_t, nbeq_f, nble_t, nble_f, cond_true, cond_false, Bool.not_true, Bool.not_false, Bool.and_true, Bool.true_and, Bool.and_self, room_t, w64, w32, wu8, wu8', wu16, wu32, fdiv_pos, and63i, and1023i, and31i, and15i, and7i, and192i, or64w, or32w, or16w, or4096w, or64r, or64b, or32b, or16b, optK_some, optK_none, toNat_ofNat, append_eq, List.length_cons, List.length_nil, List.length_append, List.length_map, reduceIte, toNat_s, cell_one, isI_u16, isI_i64, getI_n, nth_map, unit, put_eq (show u[i] ≤ 1114111 by omega) b hb]
          rfl
    · rw [headCp_one hi (by simp [isLead, isLow]; omega)]
      by_cases h4 : 56320 ≤ u[i + 1]
      · by_cases h5 : u[i + 1] < 57344
        · simp (disch := omega) only [ite_t, ite_f, dec_t, dec_f, beq_t, beq_f, bne_t, bne_f, nbeq_t, nbeq_f, nble_t, nble_f, cond_true, cond_false, Bool.not_true, Bool.not_false, Bool.and_true, Bool.true_and, Bool.and_self, room_t, w64, w32, wu8, wu8', wu16, wu32, fdiv_pos, and63i, and1023i, and31i, and15i, and7i, and192i, or64w, or32w, or16w, or4096w, or64r, or64b, or32b, or16b, optK_some, optK_none, toNat_ofNat, append_eq, List.length_cons, List.length_nil, List.length_append, List.length_map, reduceIte, toNat_s, cell_one, isI_u16, isI_i64, getI_n, nth_map, unit, put_eq (show u[i] ≤ 1114111 by omega) b hb]
          rfl
        · simp (disch := omega) only [ite_t, ite_f, dec_t, dec_f, beq_t, beq_f, bne_t, bne_f, nbeq_t, nbeq_f, nble_t, nble_f, cond_true, cond_false, Bool.not_true, Bool.not_false, Bool.and_true, Bool.true_and, Bool.and_self, room_t, w64, w32, wu8, wu8', wu16, wu32, fdiv_pos, and63i, and1023i, and31i, and15i, and7i, and192i, or64w, or32w, or16w, or4096w, or64r, or64b, or32b, or16b, optK_some, optK_none, toNat_ofNat, append_eq, List.length_cons, List.length_nil, List.length_append, List.length_map, reduceIte, toNat_s, cell_one, isI_u16, isI_i64, getI_n, nth_map, unit, put_eq (show u[i] ≤ 1114111 by omega) b hb]
          rfl
      · simp (disch := omega) only [ite_t, ite_f, dec_t, dec_f, beq_t, beq_f, bne_t, bne_f, nbeq_t, nbeq_f, nble_t, nble_f, cond_true, cond_false, Bool.not_true, Bool.not_false, Bool.and_true, Bool.true_and, Bool.and_self, room_t, w64, w32, wu8, wu8', wu16, wu32, fdiv_pos, and63i, and1023i, and31i, and15i, and7i, and192i, or64w, or32w, or16w, or4096w, or64r, or64b, or32b, or16b, optK_some, optK_none, toNat_ofNat, append_eq, List.length_cons, List.length_nil, List.length_append, List.length_map, reduceIte, toNat_s, cell_one, isI_u16, isI_i64, getI_n, nth_map, unit, put_eq (show u[i] ≤ 1114111 by omega) b hb]
        rfl
  · rw [headCp_one hi (by omega)]
    by_cases h1 : 55296 ≤ u[i]
    · by_cases h2 : u[i] < 56320
      · simp (disch := omega) only [ite_t, ite_f, dec_t, dec_f, beq_t, beq_f, bne_t, bne_f, nbeq_t, nbeq_f, nble_t, nble_f, cond_true, cond_false, Bool.not_true, Bool.not_false, Bool.and_true, Bool.true_and, Bool.and_self, room_t, w64, w32, wu8, wu8', wu16, wu32, fdiv_pos, and63i, and1023i, and31i, and15i, and7i, and192i, or64w, or32w, or16w, or4096w, or64r, or64b, or32b, or16b, optK_some, optK_none, toNat_ofNat, append_eq, List.length_cons, List.length_nil, List.length_append, List.length_map, reduceIte, toNat_s, cell_one, isI_u16, isI_i64, getI_n, nth_map, unit, put_eq (show u[i] ≤ 1114111 by omega) b hb]
        rfl
      · simp (disch := omega) only [ite_t, ite_f, dec_t, dec_f, beq_t, beq_f, bne_t, bne_f, nbeq_t, nbeq_f, nble_t, nble_f, cond_true, cond_false, Bool.not_true, Bool.not_false, Bool.and_true, Bool.true_and, Bool.and_self, room_t, w64, w32, wu8, wu8', wu16, wu32, fdiv_pos, and63i, and1023i, and31i, and15i, and7i, and192i, or64w, or32w, or16w, or4096w, or64r, or64b, or32b, or16b, optK_some, optK_none, toNat_ofNat, append_eq, List.length_cons, List.length_nil, List.length_append, List.length_map, reduceIte, toNat_s, cell_one, isI_u16, isI_i64, getI_n, nth_map, unit, put_eq (show u[i] ≤ 1114111 by omega) b hb]
        rfl
    · simp (disch := omega) only [ite_t, ite_f, dec_t, dec_f, beq_t, beq_f, bne_t, bne_f, nbeq_t, nbeq_f, nble_t, nble_f, cond_true, cond_false, Bool.not_true, Bool.not_false, Bool.and_true, Bool.true_and, Bool.and_self, room_t, w64, w32, wu8, wu8', wu16, wu32, fdiv_pos, and63i, and1023i, and31i, and15i, and7i, and192i, or64w, or32w, or16w, or4096w, or64r, or64b, or32b, or16b, optK_some, optK_none, toNat_ofNat, append_eq, List.length_cons, List.length_nil, List.length_append, List.length_map, reduceIte, toNat_s, cell_one, isI_u16, isI_i64, getI_n, nth_map, unit, put_eq (show u[i] ≤ 1114111 by omega) b hb]
      rfl
theorem text_loop {u : List Nat} (hu : ∀ x ∈ u, x < 65536) (hl : u.length ≤ 100000) (n : Nat) (w : List UInt8) : ∀ (d i j : Nat) (b : List UInt8), u.length - i = d → i ≤ u.length → d < j → b.length ≤ 4 * i →
    ∃ k, units_Text.l0 n (u.map unit) w j (b.map byte) (i : Int) = some ((b ++ textOf (u.drop i)).map byte, k) := by
  intro d
  induction d using Nat.strongRecOn with
  | ind d ih =>
    intro i j b hn hp hj hb
    obtain ⟨j, rfl⟩ : ∃ i, j = i + 1 := ⟨j - 1, by omega⟩
    rcases Nat.lt_or_ge i u.length with hlt | hge
    · have hne : u.drop i ≠ [] := by simp; exact hlt
      obtain ⟨a1, a2, a3⟩ := headCp_le (l := u.drop i) (fun x hx => hu x (List.drop_subset _ _ hx))
      have a3 := a3 hne
      rw [List.length_drop] at a2
      have a4 := (enc_len (headCp (u.drop i)).1)
      have a5 : (headCp (u.drop i)).2 ≤ 2 := by
        rcases e : u.drop i with _ | ⟨a, _ | ⟨c, r⟩⟩ <;> simp only [headCp] <;> (try split) <;> omega
      obtain ⟨k, h⟩ := ih (u.length - (i + (headCp (u.drop i)).2)) (by omega) (i + (headCp (u.drop i)).2) j (b ++ enc (headCp (u.drop i)).1) rfl (by omega) (by omega) (by rw [List.length_append]; omega)
      refine ⟨k, ?_⟩
      rw [text_round hu hl hlt n j w b (by omega), h, textOf, textOf, cps_head hne, List.flatMap_cons, List.drop_drop, List.append_assoc]
    · refine ⟨(i : Int), ?_⟩
      rw [units_Text.l0.succ, units_Text.l0.s, List.drop_eq_nil_of_le hge]
      simp (disch := omega) only [ite_t, ite_f, dec_t, dec_f, beq_t, beq_f, bne_t, bne_f, nbeq_t, nbeq_f, nble_t, nble_f, cond_true, cond_false, Bool.not_true, Bool.not_false, Bool.and_true, Bool.true_and, Bool.and_self, room_t, w64, w32, wu8, wu8', wu16, wu32, fdiv_pos, and63i, and1023i, and31i, and15i, and7i, and192i, or64w, or32w, or16w, or4096w, or64r, or64b, or32b, or16b, optK_some, optK_none, toNat_ofNat, append_eq, List.length_cons, List.length_nil, List.length_append, List.length_map, reduceIte, toNat_s, cell_one, isI_u16, isI_i64, getI_n, textOf, cps, List.flatMap_nil, List.append_nil]
theorem text_eq {u : List Nat} (hu : ∀ x ∈ u, x < 65536) (hl : u.length ≤ 100000) {n : Nat} (hn : 100000 < n) : units_Text n (u.map unit) = some (textOf u) := by
  obtain ⟨k, h⟩ := text_loop hu hl n [] u.length 0 n [] rfl (by omega) (by omega) (by simp)
  unfold units_Text units_Text.k
  rw [show ([] : List (List AVal)) = List.map byte [] from rfl, show (0 : Int) = ((0 : Nat) : Int) from rfl, h, optK_some]
  simp only [allByte_map, bytesL_map, List.nil_append, List.drop_zero, cond_true]

theorem rtext_round {u : List Nat} (hu : ∀ x ∈ u, x < 65536) (hl : u.length ≤ 100000) {i : Nat} (hi : i < u.length) (n j : Nat) (w : List UInt8) (b : List UInt8) (hb : b.length ≤ 1000000) :
    ref1_Text.l0 n (u.map unit) w (j + 1) (b.map byte) (i : Int) = ref1_Text.l0 n (u.map unit) w j ((b ++ enc (headCp (u.drop i)).1).map byte) ((i + (headCp (u.drop i)).2 : Nat) : Int) := by
  have hx := hu u[i] (List.getElem_mem hi)
  rw [ref1_Text.l0.succ, ref1_Text.l0.s]
  by_cases h3 : i + 1 < u.length
  · have hy := hu u[i + 1] (List.getElem_mem h3)
    by_cases h1 : 55296 ≤ u[i]
    · by_cases h2 : u[i] < 56320
      · by_cases h4 : 56320 ≤ u[i + 1]
        · by_cases h5 : u[i + 1] < 57344
          · have e : (65536 + ((u[i] : Int) - 55296) * 1024 + (u[i + 1] : Int) - 56320) = ((65536 + (u[i] - 55296) * 1024 + (u[i + 1] - 56320) : Nat) : Int) := by omega
            rw [headCp_two h3 (by simp [isLead, isLow]; omega)]
            simp (disch := omega) only [ite_t, ite_f, dec_t, dec_f, beq_t, beq_f, bne_t, bne_f, nbeq_t, nbeq_f, nble_t, nble_f, cond_true, cond_false, Bool.not_true, Bool.not_false, Bool.and_true, Bool.true_and, Bool.and_self, room_t, w64, w32, wu8, wu8', wu16, wu32, fdiv_pos, and63i, and1023i, and31i, and15i, and7i, and192i, or64w, or32w, or16w, or4096w, or64r, or64b, or32b, or16b, optK_some, optK_none, toNat_ofNat, append_eq, List.length_cons, List.length_nil, List.length_append, List.length_map, reduceIte, toNat_s, cell_one, isI_u16, isI_i64, getI_n, nth_map, unit, e, rput_eq (show 65536 + (u[i] - 55296) * 1024 + (u[i + 1] - 56320) ≤ 1114111 by omega) b hb]
            rfl
          · rw [headCp_one hi (by simp [isLead, isLow]; omega)]
            simp (disch := omega) only [ite_t, ite_f, dec_t, dec_f, beq_t, beq_f, bne_t, bne_f, nbeq_t, nbeq_f, nble_t, nble_f, cond_true, cond_false, Bool.not_true, Bool.not_false, Bool.and_true, Bool.true_and, Bool.and_self, room_t, w64, w32, wu8, wu8', wu16, wu32, fdiv_pos, and63i, and1023i, and31i, and15i, and7i, and192i, or64w, or32w, or16w, or4096w, or64r, or64b, or32b, or16b, optK_some, optK_none, toNat_ofNat, append_eq, List.length_cons, List.length_nil, List.length_append, List.length_map, reduceIte, toNat_s, cell_one, isI_u16, isI_i64, getI_n, nth_map, unit, rput_eq (show u[i] ≤ 1114111 by omega) b hb]
            rfl
        · rw [headCp_one hi (by simp [isLead, isLow]; omega)]
          simp (disch := omega) only [ite_t, ite_f, dec_t, dec_f, beq_t, beq_f, bne_t, bne_f, nbeq_t, nbeq_f, nble_t, nble_f, cond_true, cond_false, Bool.not_true, Bool.not_false, Bool.and_true, Bool.true_and, Bool.and_self, room_t, w64, w32, wu8, wu8', wu16, wu32, fdiv_pos, and63i, and1023i, and31i, and15i, and7i, and192i, or64w, or32w, or16w, or4096w, or64r, or64b, or32b, or16b, optK_some, optK_none, toNat_ofNat, append_eq, List.length_cons, List.length_nil, List.length_append, List.length_map, reduceIte, toNat_s, cell_one, isI_u16, isI_i64, getI_n, nth_map, unit, rput_eq (show u[i] ≤ 1114111 by omega) b hb]
          rfl
      · rw [headCp_one hi (by simp [isLead, isLow]; omega)]
        by_cases h4 : 56320 ≤ u[i + 1]
        · by_cases h5 : u[i + 1] < 57344
          · simp (disch := omega) only [ite_t, ite_f, dec_t, dec_f, beq_t, beq_f, bne_t, bne_f, nbeq_t, nbeq_f, nble_t, nble_f, cond_true, cond_false, Bool.not_true, Bool.not_false, Bool.and_true, Bool.true_and, Bool.and_self, room_t, w64, w32, wu8, wu8', wu16, wu32, fdiv_pos, and63i, and1023i, and31i, and15i, and7i, and192i, or64w, or32w, or16w, or4096w, or64r, or64b, or32b, or16b, optK_some, optK_none, toNat_ofNat, append_eq, List.length_cons, List.length_nil, List.length_append, List.length_map, reduceIte, toNat_s, cell_one, isI_u16, isI_i64, getI_n, nth_map, unit, rput_eq (show u[i] ≤ 1114111 by omega) b hb]
            rfl
          · simp (disch := omega) only [ite_t, ite_f, dec_t, dec_f, beq_t, beq_f, bne_t, bne_f, nbeq_t, nbeq_f, nble_t, nble_f, cond_true, cond_false, Bool.not_true, Bool.not_false, Bool.and_true, Bool.true_and, Bool.and_self, room_t, w64, w32, wu8, wu8', wu16, wu32, fdiv_pos, and63i, and1023i, and31i, and15i, and7i, and192i, or64w, or32w, or16w, or4096w, or64r, or64b, or32b, or16b, optK_some, optK_none, toNat_ofNat, append_eq, List.length_cons, List.length_nil, List.length_append, List.length_map, reduceIte, toNat_s, cell_one, isI_u16, isI_i64, getI_n, nth_map, unit, rput_eq (show u[i] ≤ 1114111 by omega) b hb]
            rfl
        · simp (disch := omega) only [ite_t, ite_f, dec_t, dec_f, beq_t, beq_f, bne_t, bne_f, nbeq_t, nbeq_f, nble_t, nble_f, cond_true, cond_false, Bool.not_true, Bool.not_false, Bool.and_true, Bool.true_and, Bool.and_self, room_t, w64, w32, wu8, wu8', wu16, wu32, fdiv_pos, and63i, and1023i, and31i, and15i, and7i, and192i, or64w, or32w, or16w, or4096w, or64r, or64b, or32b, or16b, optK_some, optK_none, toNat_ofNat, append_eq, List.length_cons, List.length_nil, List.length_append, List.length_map, reduceIte, toNat_s, cell_one, isI_u16, isI_i64, getI_n, nth_map, unit, rput_eq (show u[i] ≤ 1114111 by omega) b hb]
          rfl
    · rw [headCp_one hi (by simp [isLead, isLow]; omega)]
      by_cases h4 : 56320 ≤ u[i + 1]
      · by_cases h5 : u[i + 1] < 57344
        · simp (disch := omega) only [ite_t, ite_f, dec_t, dec_f, beq_t, beq_f, bne_t, bne_f, nbeq_t, nbeq_f, nble_t, nble_f, cond_true, cond_false, Bool.not_true, Bool.not_false, Bool.and_true, Bool.true_and, Bool.and_self, room_t, w64, w32, wu8, wu8', wu16, wu32, fdiv_pos, and63i, and1023i, and31i, and15i, and7i, and192i, or64w, or32w, or16w, or4096w, or64r, or64b, or32b, or16b, optK_some, optK_none, toNat_ofNat, append_eq, List.length_cons, List.length_nil, List.length_append, List.length_map, reduceIte, toNat_s, cell_one, isI_u16, isI_i64, getI_n, nth_map, unit, rput_eq (show u[i] ≤ 1114111 by omega) b hb]
          rfl
        · simp (disch := omega) only [ite_t, ite_f, dec_t, dec_f, beq_t, beq_f, bne_t, bne_f, nbeq_t, nbeq_f, nble_t, nble_f, cond_true, cond_false, Bool.not_true, Bool.not_false, Bool.and_true, Bool.true_and, Bool.and_self, room_t, w64, w32, wu8, wu8', wu16, wu32, fdiv_pos, and63i, and1023i, and31i, and15i, and7i, and192i, or64w, or32w, or16w, or4096w, or64r, or64b, or32b, or16b, optK_some, optK_none, toNat_ofNat, append_eq, List.length_cons, List.length_nil, List.length_append, List.length_map, reduceIte, toNat_s, cell_one, isI_u16, isI_i64, getI_n, nth_map, unit, rput_eq (show u[i] ≤ 1114111 by omega) b hb]
          rfl
      · simp (disch := omega) only [ite_t, ite_f, dec_t, dec_f, beq_t, beq_f, bne_t, bne_f, nbeq_t, nbeq_f, nble_t, nble_f, cond_true, cond_false, Bool.not_true, Bool.not_false, Bool.and_true, Bool.true_and, Bool.and_self, room_t, w64, w32, wu8, wu8', wu16, wu32, fdiv_pos, and63i, and1023i, and31i, and15i, and7i, and192i, or64w, or32w, or16w, or4096w, or64r, or64b, or32b, or16b, optK_some, optK_none, toNat_ofNat, append_eq, List.length_cons, List.length_nil, List.length_append, List.length_map, reduceIte, toNat_s, cell_one, isI_u16, isI_i64, getI_n, nth_map, unit, rput_eq (show u[i] ≤ 1114111 by omega) b hb]
        rfl
  · rw [headCp_one hi (by omega)]
    by_cases h1 : 55296 ≤ u[i]
    · by_cases h2 : u[i] < 56320
      · simp (disch := omega) only [ite_t, ite_f, dec_t, dec_f, beq_t, beq_f, bne_t, bne_f, nbeq_t, nbeq_f, nble_t, nble_f, cond_true, cond_false, Bool.not_true, Bool.not_false, Bool.and_true, Bool.true_and, Bool.and_self, room_t, w64, w32, wu8, wu8', wu16, wu32, fdiv_pos, and63i, and1023i, and31i, and15i, and7i, and192i, or64w, or32w, or16w, or4096w, or64r, or64b, or32b, or16b, optK_some, optK_none, toNat_ofNat, append_eq, List.length_cons, List.length_nil, List.length_append, List.length_map, reduceIte, toNat_s, cell_one, isI_u16, isI_i64, getI_n, nth_map, unit, rput_eq (show u[i] ≤ 1114111 by omega) b hb]
        rfl
      · simp (disch := omega) only [ite_t, ite_f, dec_t, dec_f, beq_t, beq_f, bne_t, bne_f, nbeq_t, nbeq_f, nble_t, nble_f, cond_true, cond_false, Bool.not_true, Bool.not_false, Bool.and_true, Bool.true_and, Bool.and_self, room_t, w64, w32, wu8, wu8', wu16, wu32, fdiv_pos, and63i, and1023i, and31i, and15i, and7i, and192i, or64w, or32w, or16w, or4096w, or64r, or64b, or32b, or16b, optK_some, optK_none, toNat_ofNat, append_eq, List.length_cons, List.length_nil, List.length_append, List.length_map, reduceIte, toNat_s, cell_one, isI_u16, isI_i64, getI_n, nth_map, unit, rput_eq (show u[i] ≤ 1114111 by omega) b hb]
        rfl
    · simp (disch := omega) only [ite_t, ite_f, dec_t, dec_f, beq_t, beq_f, bne_t, bne_f, nbeq_t, nbeq_f, nble_t, nble_f, cond_true, cond_false, Bool.not_true, Bool.not_false, Bool.and_true, Bool.true_and, Bool.and_self, room_t, w64, w32, wu8, wu8', wu16, wu32, fdiv_pos, and63i, and1023i, and31i, and15i, and7i, and192i, or64w, or32w, or16w, or4096w, or64r, or64b, or32b, or16b, optK_some, optK_none, toNat_ofNat, append_eq, List.length_cons, List.length_nil, List.length_append, List.length_map, reduceIte, toNat_s, cell_one, isI_u16, isI_i64, getI_n, nth_map, unit, rput_eq (show u[i] ≤ 1114111 by omega) b hb]
      rfl
theorem rtext_loop {u : List Nat} (hu : ∀ x ∈ u, x < 65536) (hl : u.length ≤ 100000) (n : Nat) (w : List UInt8) : ∀ (d i j : Nat) (b : List UInt8), u.length - i = d → i ≤ u.length → d < j → b.length ≤ 4 * i →
    ∃ k, ref1_Text.l0 n (u.map unit) w j (b.map byte) (i : Int) = some ((b ++ textOf (u.drop i)).map byte, k) := by
  intro d
  induction d using Nat.strongRecOn with
  | ind d ih =>
    intro i j b hn hp hj hb
    obtain ⟨j, rfl⟩ : ∃ i, j = i + 1 := ⟨j - 1, by omega⟩
    rcases Nat.lt_or_ge i u.length with hlt | hge
    · have hne : u.drop i ≠ [] := by simp; exact hlt
      obtain ⟨a1, a2, a3⟩ := headCp_le (l := u.drop i) (fun x hx => hu x (List.drop_subset _ _ hx))
      have a3 := a3 hne
      rw [List.length_drop] at a2
      have a4 := (enc_len (headCp (u.drop i)).1)
      have a5 : (headCp (u.drop i)).2 ≤ 2 := by
        rcases e : u.drop i with _ | ⟨a, _ | ⟨c, r⟩⟩ <;> simp only [headCp] <;> (try split) <;> omega
      obtain ⟨k, h⟩ := ih (u.length - (i + (headCp (u.drop i)).2)) (by omega) (i + (headCp (u.drop i)).2) j (b ++ enc (headCp (u.drop i)).1) rfl (by omega) (by omega) (by rw [List.length_append]; omega)
      refine ⟨k, ?_⟩
      rw [rtext_round hu hl hlt n j w b (by omega), h, textOf, textOf, cps_head hne, List.flatMap_cons, List.drop_drop, List.append_assoc]
    · refine ⟨(i : Int), ?_⟩
      rw [ref1_Text.l0.succ, ref1_Text.l0.s, List.drop_eq_nil_of_le hge]
      simp (disch := omega) only [ite_t, ite_f, dec_t, dec_f, beq_t, beq_f, bne_t, bne_f, nbeq_t, nbeq_f, nble_t, nble_f, cond_true, cond_false, Bool.not_true, Bool.not_false, Bool.and_true, Bool.true_and, Bool.and_self, room_t, w64, w32, wu8, wu8', wu16, wu32, fdiv_pos, and63i, and1023i, and31i, and15i, and7i, and192i, or64w, or32w, or16w, or4096w, or64r, or64b, or32b, or16b, optK_some, optK_none, toNat_ofNat, append_eq, List.length_cons, List.length_nil, List.length_append, List.length_map, reduceIte, toNat_s, cell_one, isI_u16, isI_i64, getI_n, textOf, cps, List.flatMap_nil, List.append_nil]
theorem rtext_eq {u : List Nat} (hu : ∀ x ∈ u, x < 65536) (hl : u.length ≤ 100000) {n : Nat} (hn : 100000 < n) : ref1_Text n (u.map unit) = some (textOf u) := by
  obtain ⟨k, h⟩ := rtext_loop hu hl n [] u.length 0 n [] rfl (by omega) (by omega) (by simp)
  unfold ref1_Text ref1_Text.k
  rw [show ([] : List (List AVal)) = List.map byte [] from rfl, show (0 : Int) = ((0 : Nat) : Int) from rfl, h, optK_some]
  simp only [allByte_map, bytesL_map, List.nil_append, List.drop_zero, cond_true]
end Go.Proofs.YtlklpdifcpjlpaaDoor
