/- UnitsOf and UnitsJoin answer true. -/
import Derived.Test.YtlklpdifcpjlpaaDoorP7
namespace Go.Proofs.YtlklpdifcpjlpaaDoor
open Go.Abs Go.Uni Go.Plain
set_option maxRecDepth 100000
set_option maxHeartbeats 1000000
set_option linter.unusedVariables false
set_option linter.unusedSimpArgs false
theorem unit_len (x : Nat) : (unit x).length = 1 := rfl
/-- the units of the one behind those of the other -/
def joinOf (a b : List UInt8) : List UInt8 := if right a && right b then textOf (unitsOf a ++ unitsOf b) else []
theorem app_lt (a b : List UInt8) : ∀ x ∈ unitsOf a ++ unitsOf b, x < 65536 := fun x hx => by
  rcases List.mem_append.1 hx with h | h
  · exact units_lt a x h
  · exact units_lt b x h
theorem app_len {a b : List UInt8} (ha : a.length ≤ 10000) (hb : b.length ≤ 10000) : (unitsOf a ++ unitsOf b).length ≤ 20000 := by
  have h1 := units_len a
  have h2 := units_len b
  rw [List.length_append]; omega
theorem join_eq {a b : List UInt8} (ha : a.length ≤ 10000) (hb : b.length ≤ 10000) {n : Nat} (hn : 100000 < n) : units_Join n a b = some (joinOf a b) := by
  have hl := app_len ha hb
  rw [List.length_append] at hl
  unfold units_Join units_Join.k
  rw [right_eq (s := a) (by omega) hn, right_eq (s := b) (by omega) hn, of_eq (s := a) (by omega) hn, of_eq (s := b) (by omega) hn, joinOf]
  cases right a with
  | false => rfl
  | true =>
    cases right b with
    | false => rfl
    | true =>
      simp (disch := omega) only [ite_t, ite_f, dec_t, dec_f, beq_t, beq_f, bne_t, bne_f, nbeq_t, nbeq_f, nble_t, nble_f, cond_true, cond_false, Bool.not_true, Bool.not_false, Bool.and_true, Bool.true_and, Bool.and_self, room_t, w64, w32, wu8, wu8', wu16, wu32, fdiv_pos, and63i, and1023i, and31i, and15i, and7i, and192i, or64w, or32w, or16w, or4096w, or64r, or64b, or32b, or16b, optK_some, optK_none, toNat_ofNat, append_eq, List.length_cons, List.length_nil, List.length_append, List.length_map, reduceIte, toNat_s, cell_one, isI_u16, isI_i64, getI_n, uni_map 1 unit (unitsOf b) unit_len, Bool.not_true]
      rw [← List.map_append, text_eq (app_lt a b) (by rw [List.length_append]; omega) hn]
      rfl
theorem rjoin_eq {a b : List UInt8} (ha : a.length ≤ 10000) (hb : b.length ≤ 10000) {n : Nat} (hn : 100000 < n) : ref1_Join n a b = some (joinOf a b) := by
  have hl := app_len ha hb
  rw [List.length_append] at hl
  unfold ref1_Join ref1_Join.k
  rw [rright_eq (s := a) (by omega) hn, rright_eq (s := b) (by omega) hn, runits_eq (s := a) (by omega) hn, runits_eq (s := b) (by omega) hn, joinOf]
  cases right a with
  | false => rfl
  | true =>
    cases right b with
    | false => rfl
    | true =>
      simp (disch := omega) only [ite_t, ite_f, dec_t, dec_f, beq_t, beq_f, bne_t, bne_f, nbeq_t, nbeq_f, nble_t, nble_f, cond_true, cond_false, Bool.not_true, Bool.not_false, Bool.and_true, Bool.true_and, Bool.and_self, room_t, w64, w32, wu8, wu8', wu16, wu32, fdiv_pos, and63i, and1023i, and31i, and15i, and7i, and192i, or64w, or32w, or16w, or4096w, or64r, or64b, or32b, or16b, optK_some, optK_none, toNat_ofNat, append_eq, List.length_cons, List.length_nil, List.length_append, List.length_map, reduceIte, toNat_s, cell_one, isI_u16, isI_i64, getI_n, uni_map 1 unit (unitsOf b) unit_len, Bool.not_true]
      rw [← List.map_append, rtext_eq (app_lt a b) (by rw [List.length_append]; omega) hn]
      rfl
theorem same_loop {u : List Nat} (hl : u.length ≤ 100000) (n : Nat) : ∀ (d i j : Nat), u.length - i = d → i ≤ u.length → d < j →
    ∃ k, law1_same.l0 n (u.map unit) (u.map unit) false j (i : Int) = some (.inr k) := by
  intro d
  induction d with
  | zero =>
    intro i j hd hi hj
    obtain ⟨j, rfl⟩ : ∃ i, j = i + 1 := ⟨j - 1, by omega⟩
    refine ⟨(i : Int), ?_⟩
    rw [law1_same.l0.succ, law1_same.l0.s]
    simp (disch := omega) only [ite_t, ite_f, dec_t, dec_f, beq_t, beq_f, bne_t, bne_f, nbeq_t, nbeq_f, nble_t, nble_f, cond_true, cond_false, Bool.not_true, Bool.not_false, Bool.and_true, Bool.true_and, Bool.and_self, room_t, w64, w32, wu8, wu8', wu16, wu32, fdiv_pos, and63i, and1023i, and31i, and15i, and7i, and192i, or64w, or32w, or16w, or4096w, or64r, or64b, or32b, or16b, optK_some, optK_none, toNat_ofNat, append_eq, List.length_cons, List.length_nil, List.length_append, List.length_map, reduceIte, toNat_s, cell_one, isI_u16, isI_i64, getI_n]
  | succ d ih =>
    intro i j hd hi hj
    obtain ⟨j, rfl⟩ : ∃ i, j = i + 1 := ⟨j - 1, by omega⟩
    have hlt : i < u.length := by omega
    obtain ⟨k, h⟩ := ih (i + 1) j (by omega) (by omega) (by omega)
    refine ⟨k, ?_⟩
    rw [law1_same.l0.succ, law1_same.l0.s]
    simp (disch := omega) only [ite_t, ite_f, dec_t, dec_f, beq_t, beq_f, bne_t, bne_f, nbeq_t, nbeq_f, nble_t, nble_f, cond_true, cond_false, Bool.not_true, Bool.not_false, Bool.and_true, Bool.true_and, Bool.and_self, room_t, w64, w32, wu8, wu8', wu16, wu32, fdiv_pos, and63i, and1023i, and31i, and15i, and7i, and192i, or64w, or32w, or16w, or4096w, or64r, or64b, or32b, or16b, optK_some, optK_none, toNat_ofNat, append_eq, List.length_cons, List.length_nil, List.length_append, List.length_map, reduceIte, toNat_s, cell_one, isI_u16, isI_i64, getI_n, nth_map, unit]
    exact h
theorem same_eq {u : List Nat} (hl : u.length ≤ 100000) {n : Nat} (hn : 100000 < n) : law1_same n (u.map unit) (u.map unit) = some true := by
  obtain ⟨k, h⟩ := same_loop hl n u.length 0 n rfl (by omega) (by omega)
  unfold law1_same law1_same.k
  rw [show (0 : Int) = ((0 : Nat) : Int) from rfl, h]
  simp (disch := omega) only [ite_t, ite_f, dec_t, dec_f, beq_t, beq_f, bne_t, bne_f, nbeq_t, nbeq_f, nble_t, nble_f, cond_true, cond_false, Bool.not_true, Bool.not_false, Bool.and_true, Bool.true_and, Bool.and_self, room_t, w64, w32, wu8, wu8', wu16, wu32, fdiv_pos, and63i, and1023i, and31i, and15i, and7i, and192i, or64w, or32w, or16w, or4096w, or64r, or64b, or32b, or16b, optK_some, optK_none, toNat_ofNat, append_eq, List.length_cons, List.length_nil, List.length_append, List.length_map, reduceIte, toNat_s, cell_one, isI_u16, isI_i64, getI_n, sumK]
theorem alive_eq {n : Nat} (hn : 100000 < n) : law1_alive n = some true := by
  unfold law1_alive law1_alive.k
  rw [of_eq (s := [240, 159, 152, 128]) (by decide) hn, show unitsOf [240, 159, 152, 128] = [55357, 56832] by decide, right_eq (s := [97]) (by decide) hn, show right [97] = true by decide]
  rfl
theorem UnitsOf_true {n : Nat} (hn : 100000 < n) (s : List UInt8) : UnitsOf n s = some true := by
  unfold UnitsOf UnitsOf.k
  rw [alive_eq hn, optK_some]
  by_cases h : s.length ≤ 500
  · have hl : s.length ≤ 100000 := by omega
    have h1 := units_len s
    rw [of_eq hl hn, right_eq hl hn, rright_eq hl hn, runits_eq hl hn, len_eq hl hn]
    simp (disch := omega) only [ite_t, ite_f, dec_t, dec_f, beq_t, beq_f, bne_t, bne_f, nbeq_t, nbeq_f, nble_t, nble_f, cond_true, cond_false, Bool.not_true, Bool.not_false, Bool.and_true, Bool.true_and, Bool.and_self, room_t, w64, w32, wu8, wu8', wu16, wu32, fdiv_pos, and63i, and1023i, and31i, and15i, and7i, and192i, or64w, or32w, or16w, or4096w, or64r, or64b, or32b, or16b, optK_some, optK_none, toNat_ofNat, append_eq, List.length_cons, List.length_nil, List.length_append, List.length_map, reduceIte, toNat_s, cell_one, isI_u16, isI_i64, getI_n, same_eq (u := unitsOf s) (by omega) hn]
    cases hr : right s with
    | false => rfl
    | true =>
      rw [text_eq (units_lt s) (by omega) hn, text_units hr, optK_some]
      simp
  · simp (disch := omega) only [ite_t, ite_f, dec_t, dec_f, beq_t, beq_f, bne_t, bne_f, nbeq_t, nbeq_f, nble_t, nble_f, cond_true, cond_false, Bool.not_true, Bool.not_false, Bool.and_true, Bool.true_and, Bool.and_self, room_t, w64, w32, wu8, wu8', wu16, wu32, fdiv_pos, and63i, and1023i, and31i, and15i, and7i, and192i, or64w, or32w, or16w, or4096w, or64r, or64b, or32b, or16b, optK_some, optK_none, toNat_ofNat, append_eq, List.length_cons, List.length_nil, List.length_append, List.length_map, reduceIte, toNat_s, cell_one, isI_u16, isI_i64, getI_n]
theorem UnitsJoin_true {n : Nat} (hn : 100000 < n) (a b : List UInt8) : UnitsJoin n a b = some true := by
  unfold UnitsJoin UnitsJoin.k
  rw [alive_eq hn, optK_some]
  by_cases ha : a.length ≤ 300
  · by_cases hb : b.length ≤ 300
    · have hla : a.length ≤ 100000 := by omega
      have hlb : b.length ≤ 100000 := by omega
      have h1 := units_len a
      have h2 := units_len b
      have hj : (joinOf a b).length ≤ 100000 := by
        rw [joinOf]
        split
        · have := text_len (u := unitsOf a ++ unitsOf b)
          rw [List.length_append] at this; omega
        · simp
      rw [join_eq (by omega) (by omega) hn, rjoin_eq (by omega) (by omega) hn, right_eq hla hn, right_eq hlb hn, len_eq hla hn, len_eq hlb hn]
      simp (disch := omega) only [ite_t, ite_f, dec_t, dec_f, beq_t, beq_f, bne_t, bne_f, nbeq_t, nbeq_f, nble_t, nble_f, cond_true, cond_false, Bool.not_true, Bool.not_false, Bool.and_true, Bool.true_and, Bool.and_self, room_t, w64, w32, wu8, wu8', wu16, wu32, fdiv_pos, and63i, and1023i, and31i, and15i, and7i, and192i, or64w, or32w, or16w, or4096w, or64r, or64b, or32b, or16b, optK_some, optK_none, toNat_ofNat, append_eq, List.length_cons, List.length_nil, List.length_append, List.length_map, reduceIte, toNat_s, cell_one, isI_u16, isI_i64, getI_n, beq_self_eq_true, len_eq hj hn]
      cases ra : right a with
      | false => rfl
      | true =>
        cases rb : right b with
        | false => rfl
        | true =>
          rw [joinOf, ra, rb, Bool.and_self, if_pos rfl, units_text (app_lt a b)]
          simp (disch := omega) only [ite_t, ite_f, dec_t, dec_f, beq_t, beq_f, bne_t, bne_f, nbeq_t, nbeq_f, nble_t, nble_f, cond_true, cond_false, Bool.not_true, Bool.not_false, Bool.and_true, Bool.true_and, Bool.and_self, room_t, w64, w32, wu8, wu8', wu16, wu32, fdiv_pos, and63i, and1023i, and31i, and15i, and7i, and192i, or64w, or32w, or16w, or4096w, or64r, or64b, or32b, or16b, optK_some, optK_none, toNat_ofNat, append_eq, List.length_cons, List.length_nil, List.length_append, List.length_map, reduceIte, toNat_s, cell_one, isI_u16, isI_i64, getI_n]
    · simp (disch := omega) only [ite_t, ite_f, dec_t, dec_f, beq_t, beq_f, bne_t, bne_f, nbeq_t, nbeq_f, nble_t, nble_f, cond_true, cond_false, Bool.not_true, Bool.not_false, Bool.and_true, Bool.true_and, Bool.and_self, room_t, w64, w32, wu8, wu8', wu16, wu32, fdiv_pos, and63i, and1023i, and31i, and15i, and7i, and192i, or64w, or32w, or16w, or4096w, or64r, or64b, or32b, or16b, optK_some, optK_none, toNat_ofNat, append_eq, List.length_cons, List.length_nil, List.length_append, List.length_map, reduceIte, toNat_s, cell_one, isI_u16, isI_i64, getI_n]
  · simp (disch := omega) only [ite_t, ite_f, dec_t, dec_f, beq_t, beq_f, bne_t, bne_f, nbeq_t, nbeq_f, nble_t, nble_f, cond_true, cond_false, Bool.not_true, Bool.not_false, Bool.and_true, Bool.true_and, Bool.and_self, room_t, w64, w32, wu8, wu8', wu16, wu32, fdiv_pos, and63i, and1023i, and31i, and15i, and7i, and192i, or64w, or32w, or16w, or4096w, or64r, or64b, or32b, or16b, optK_some, optK_none, toNat_ofNat, append_eq, List.length_cons, List.length_nil, List.length_append, List.length_map, reduceIte, toNat_s, cell_one, isI_u16, isI_i64, getI_n]
end Go.Proofs.YtlklpdifcpjlpaaDoor
