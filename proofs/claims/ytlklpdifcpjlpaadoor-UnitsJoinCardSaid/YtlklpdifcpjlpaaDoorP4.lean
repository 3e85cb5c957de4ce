/- What the functions of chapter 1 compute: the texts, and the reference. -/
import Derived.Test.YtlklpdifcpjlpaaDoorP3
namespace Go.Proofs.YtlklpdifcpjlpaaDoor
open Go.Abs Go.Uni Go.Plain
set_option maxRecDepth 100000
set_option linter.unusedVariables false
set_option linter.unusedSimpArgs false
theorem right_eq {s : List UInt8} (hl : s.length ≤ 100000) {n : Nat} (hn : 100000 < n) : units_Right n s = some (right s) := by
  obtain ⟨x, h, hx⟩ := eachR_loop hl n false s.length s.length 0 n false rfl (by omega) (by omega) (by omega)
  unfold units_Right units_Right.k units_EachR units_EachR.k
  rw [h]
  have : eachROut x = right s := hx
  rcases x with t | t
  · rw [show right s = false from this.symm]; rfl
  · rw [show right s = true from this.symm]; rfl
theorem of_eq {s : List UInt8} (hl : s.length ≤ 100000) {n : Nat} (hn : 100000 < n) : units_Of n s = some ((unitsOf s).map unit) := by
  obtain ⟨x, h, hx⟩ := eachO_loop hl n false s.length s.length 0 n false [] rfl (by omega) (by omega) (by omega) (by simp)
  unfold units_Of units_Of.k units_EachO units_EachO.k
  rw [show ([] : List (List AVal)) = List.map unit [] from rfl, h]
  have e : eachOOut x = (right s, ((pts s).1.flatMap u16).map unit) := hx
  rcases x with t | t
  · rw [unitsOf, show right s = false from (congrArg Prod.fst e).symm]; rfl
  · rw [unitsOf, show right s = true from (congrArg Prod.fst e).symm, if_pos rfl, ← (show t.2.2.2 = ((pts s).1.flatMap u16).map unit from congrArg Prod.snd e)]; rfl
theorem len_eq {s : List UInt8} (hl : s.length ≤ 100000) {n : Nat} (hn : 100000 < n) : units_Len n s = some ((unitsOf s).length : Int) := by
  unfold units_Len units_Len.k
  rw [of_eq hl hn, optK_some, List.length_map]
theorem app_eq {c : Nat} (h1 : 128 ≤ c) (h : c ≤ 1114111) (hh : isHalf c = false) (o : List UInt8) (ho : o.length ≤ 1000000) : utf8_app (o.map byte) (c : Int) = some ((o ++ enc c).map byte) := by
  unfold utf8_app utf8_app.k
  rw [List.map_append]
  simp only [isHalf, Bool.and_eq_false_iff, decide_eq_false_iff_not] at hh
  by_cases a : c < 2048
  · simp (disch := omega) only [ite_t, ite_f, dec_t, dec_f, beq_t, beq_f, bne_t, bne_f, nbeq_t, nbeq_f, nble_t, nble_f, cond_true, cond_false, Bool.not_true, Bool.not_false, Bool.and_true, Bool.true_and, Bool.and_self, room_t, w64, w32, wu8, wu8', wu16, wu32, fdiv_pos, and63i, and1023i, and31i, and15i, and7i, and192i, or64w, or32w, or16w, or4096w, or64r, or64b, or32b, or16b, optK_some, optK_none, toNat_ofNat, append_eq, List.length_cons, List.length_nil, List.length_append, List.length_map, reduceIte, toNat_s, cell_one, isI_u16, isI_i64, getI_n, enc, List.map_cons, List.map_nil, byte, ob_toNat]
    simp only [Option.some.injEq, List.append_cancel_left_eq, List.cons.injEq, AVal.int.injEq, true_and, and_true]; omega
  · by_cases d : c < 65536
    · by_cases e : c < 55296
      · simp (disch := omega) only [ite_t, ite_f, dec_t, dec_f, beq_t, beq_f, bne_t, bne_f, nbeq_t, nbeq_f, nble_t, nble_f, cond_true, cond_false, Bool.not_true, Bool.not_false, Bool.and_true, Bool.true_and, Bool.and_self, room_t, w64, w32, wu8, wu8', wu16, wu32, fdiv_pos, and63i, and1023i, and31i, and15i, and7i, and192i, or64w, or32w, or16w, or4096w, or64r, or64b, or32b, or16b, optK_some, optK_none, toNat_ofNat, append_eq, List.length_cons, List.length_nil, List.length_append, List.length_map, reduceIte, toNat_s, cell_one, isI_u16, isI_i64, getI_n, enc, List.map_cons, List.map_nil, byte, ob_toNat]
        simp only [Option.some.injEq, List.append_cancel_left_eq, List.cons.injEq, AVal.int.injEq, true_and, and_true]; omega
      · simp (disch := omega) only [ite_t, ite_f, dec_t, dec_f, beq_t, beq_f, bne_t, bne_f, nbeq_t, nbeq_f, nble_t, nble_f, cond_true, cond_false, Bool.not_true, Bool.not_false, Bool.and_true, Bool.true_and, Bool.and_self, room_t, w64, w32, wu8, wu8', wu16, wu32, fdiv_pos, and63i, and1023i, and31i, and15i, and7i, and192i, or64w, or32w, or16w, or4096w, or64r, or64b, or32b, or16b, optK_some, optK_none, toNat_ofNat, append_eq, List.length_cons, List.length_nil, List.length_append, List.length_map, reduceIte, toNat_s, cell_one, isI_u16, isI_i64, getI_n, enc, List.map_cons, List.map_nil, byte, ob_toNat]
        simp only [Option.some.injEq, List.append_cancel_left_eq, List.cons.injEq, AVal.int.injEq, true_and, and_true]; omega
    · simp (disch := omega) only [ite_t, ite_f, dec_t, dec_f, beq_t, beq_f, bne_t, bne_f, nbeq_t, nbeq_f, nble_t, nble_f, cond_true, cond_false, Bool.not_true, Bool.not_false, Bool.and_true, Bool.true_and, Bool.and_self, room_t, w64, w32, wu8, wu8', wu16, wu32, fdiv_pos, and63i, and1023i, and31i, and15i, and7i, and192i, or64w, or32w, or16w, or4096w, or64r, or64b, or32b, or16b, optK_some, optK_none, toNat_ofNat, append_eq, List.length_cons, List.length_nil, List.length_append, List.length_map, reduceIte, toNat_s, cell_one, isI_u16, isI_i64, getI_n, enc, List.map_cons, List.map_nil, byte, ob_toNat]
      simp only [Option.some.injEq, List.append_cancel_left_eq, List.cons.injEq, AVal.int.injEq, true_and, and_true]; omega
theorem App_eq {c : Nat} (h : c ≤ 1114111) (hh : isHalf c = false) (o : List UInt8) (ho : o.length ≤ 1000000) : utf8_App (o.map byte) (c : Int) = some ((o ++ enc c).map byte) := by
  unfold utf8_App utf8_App.k
  by_cases a : c < 128
  · simp (disch := omega) only [ite_t, ite_f, dec_t, dec_f, beq_t, beq_f, bne_t, bne_f, nbeq_t, nbeq_f, nble_t, nble_f, cond_true, cond_false, Bool.not_true, Bool.not_false, Bool.and_true, Bool.true_and, Bool.and_self, room_t, w64, w32, wu8, wu8', wu16, wu32, fdiv_pos, and63i, and1023i, and31i, and15i, and7i, and192i, or64w, or32w, or16w, or4096w, or64r, or64b, or32b, or16b, optK_some, optK_none, toNat_ofNat, append_eq, List.length_cons, List.length_nil, List.length_append, List.length_map, reduceIte, toNat_s, cell_one, isI_u16, isI_i64, getI_n, enc, List.map_append, List.map_cons, List.map_nil, byte, ob_toNat]
  · simp (disch := omega) only [ite_t, ite_f, dec_t, dec_f, beq_t, beq_f, bne_t, bne_f, nbeq_t, nbeq_f, nble_t, nble_f, cond_true, cond_false, Bool.not_true, Bool.not_false, Bool.and_true, Bool.true_and, Bool.and_self, room_t, w64, w32, wu8, wu8', wu16, wu32, fdiv_pos, and63i, and1023i, and31i, and15i, and7i, and192i, or64w, or32w, or16w, or4096w, or64r, or64b, or32b, or16b, optK_some, optK_none, toNat_ofNat, append_eq, List.length_cons, List.length_nil, List.length_append, List.length_map, reduceIte, toNat_s, cell_one, isI_u16, isI_i64, getI_n, app_eq (show 128 ≤ c by omega) h hh o ho]
theorem put_eq {c : Nat} (h : c ≤ 1114111) (o : List UInt8) (ho : o.length ≤ 1000000) : units_put (o.map byte) (c : Int) = some ((o ++ enc c).map byte) := by
  unfold units_put units_put.k
  by_cases a : 55296 ≤ c
  · by_cases d : c < 57344
    · simp (disch := omega) only [ite_t, ite_f, dec_t, dec_f, beq_t, beq_f, bne_t, bne_f, nbeq_t, nbeq_f, nble_t, nble_f, cond_true, cond_false, Bool.not_true, Bool.not_false, Bool.and_true, Bool.true_and, Bool.and_self, room_t, w64, w32, wu8, wu8', wu16, wu32, fdiv_pos, and63i, and1023i, and31i, and15i, and7i, and192i, or64w, or32w, or16w, or4096w, or64r, or64b, or32b, or16b, optK_some, optK_none, toNat_ofNat, append_eq, List.length_cons, List.length_nil, List.length_append, List.length_map, reduceIte, toNat_s, cell_one, isI_u16, isI_i64, getI_n, enc, List.map_append, List.map_cons, List.map_nil, byte, ob_toNat]
      simp only [Option.some.injEq, List.append_cancel_left_eq, List.cons.injEq, AVal.int.injEq, true_and, and_true]; omega
    · simp (disch := omega) only [ite_t, ite_f, dec_t, dec_f, beq_t, beq_f, bne_t, bne_f, nbeq_t, nbeq_f, nble_t, nble_f, cond_true, cond_false, Bool.not_true, Bool.not_false, Bool.and_true, Bool.true_and, Bool.and_self, room_t, w64, w32, wu8, wu8', wu16, wu32, fdiv_pos, and63i, and1023i, and31i, and15i, and7i, and192i, or64w, or32w, or16w, or4096w, or64r, or64b, or32b, or16b, optK_some, optK_none, toNat_ofNat, append_eq, List.length_cons, List.length_nil, List.length_append, List.length_map, reduceIte, toNat_s, cell_one, isI_u16, isI_i64, getI_n, App_eq h (show isHalf c = false by simp [isHalf]; omega) o ho]
  · simp (disch := omega) only [ite_t, ite_f, dec_t, dec_f, beq_t, beq_f, bne_t, bne_f, nbeq_t, nbeq_f, nble_t, nble_f, cond_true, cond_false, Bool.not_true, Bool.not_false, Bool.and_true, Bool.true_and, Bool.and_self, room_t, w64, w32, wu8, wu8', wu16, wu32, fdiv_pos, and63i, and1023i, and31i, and15i, and7i, and192i, or64w, or32w, or16w, or4096w, or64r, or64b, or32b, or16b, optK_some, optK_none, toNat_ofNat, append_eq, List.length_cons, List.length_nil, List.length_append, List.length_map, reduceIte, toNat_s, cell_one, isI_u16, isI_i64, getI_n, App_eq h (show isHalf c = false by simp [isHalf]; omega) o ho]
theorem rput_eq {c : Nat} (h : c ≤ 1114111) (o : List UInt8) (ho : o.length ≤ 1000000) : ref1_put (o.map byte) (c : Int) = some ((o ++ enc c).map byte) := by
  unfold ref1_put ref1_put.k
  by_cases z : c < 128
  · simp (disch := omega) only [ite_t, ite_f, dec_t, dec_f, beq_t, beq_f, bne_t, bne_f, nbeq_t, nbeq_f, nble_t, nble_f, cond_true, cond_false, Bool.not_true, Bool.not_false, Bool.and_true, Bool.true_and, Bool.and_self, room_t, w64, w32, wu8, wu8', wu16, wu32, fdiv_pos, and63i, and1023i, and31i, and15i, and7i, and192i, or64w, or32w, or16w, or4096w, or64r, or64b, or32b, or16b, optK_some, optK_none, toNat_ofNat, append_eq, List.length_cons, List.length_nil, List.length_append, List.length_map, reduceIte, toNat_s, cell_one, isI_u16, isI_i64, getI_n, enc, List.map_append, List.map_cons, List.map_nil, byte, ob_toNat]
  · by_cases a : c < 2048
    · simp (disch := omega) only [ite_t, ite_f, dec_t, dec_f, beq_t, beq_f, bne_t, bne_f, nbeq_t, nbeq_f, nble_t, nble_f, cond_true, cond_false, Bool.not_true, Bool.not_false, Bool.and_true, Bool.true_and, Bool.and_self, room_t, w64, w32, wu8, wu8', wu16, wu32, fdiv_pos, and63i, and1023i, and31i, and15i, and7i, and192i, or64w, or32w, or16w, or4096w, or64r, or64b, or32b, or16b, optK_some, optK_none, toNat_ofNat, append_eq, List.length_cons, List.length_nil, List.length_append, List.length_map, reduceIte, toNat_s, cell_one, isI_u16, isI_i64, getI_n, enc, List.map_append, List.map_cons, List.map_nil, byte, ob_toNat]
      simp only [Option.some.injEq, List.append_cancel_left_eq, List.cons.injEq, AVal.int.injEq, true_and, and_true]; omega
    · by_cases d : c < 65536
      · simp (disch := omega) only [ite_t, ite_f, dec_t, dec_f, beq_t, beq_f, bne_t, bne_f, nbeq_t, nbeq_f, nble_t, nble_f, cond_true, cond_false, Bool.not_true, Bool.not_false, Bool.and_true, Bool.true_and, Bool.and_self, room_t, w64, w32, wu8, wu8', wu16, wu32, fdiv_pos, and63i, and1023i, and31i, and15i, and7i, and192i, or64w, or32w, or16w, or4096w, or64r, or64b, or32b, or16b, optK_some, optK_none, toNat_ofNat, append_eq, List.length_cons, List.length_nil, List.length_append, List.length_map, reduceIte, toNat_s, cell_one, isI_u16, isI_i64, getI_n, enc, List.map_append, List.map_cons, List.map_nil, byte, ob_toNat]
        simp only [Option.some.injEq, List.append_cancel_left_eq, List.cons.injEq, AVal.int.injEq, true_and, and_true]; omega
      · simp (disch := omega) only [ite_t, ite_f, dec_t, dec_f, beq_t, beq_f, bne_t, bne_f, nbeq_t, nbeq_f, nble_t, nble_f, cond_true, cond_false, Bool.not_true, Bool.not_false, Bool.and_true, Bool.true_and, Bool.and_self, room_t, w64, w32, wu8, wu8', wu16, wu32, fdiv_pos, and63i, and1023i, and31i, and15i, and7i, and192i, or64w, or32w, or16w, or4096w, or64r, or64b, or32b, or16b, optK_some, optK_none, toNat_ofNat, append_eq, List.length_cons, List.length_nil, List.length_append, List.length_map, reduceIte, toNat_s, cell_one, isI_u16, isI_i64, getI_n, enc, List.map_append, List.map_cons, List.map_nil, byte, ob_toNat]
        simp only [Option.some.injEq, List.append_cancel_left_eq, List.cons.injEq, AVal.int.injEq, true_and, and_true]; omega
end Go.Proofs.YtlklpdifcpjlpaaDoor
