/- The reference's Quote; ValuesTell answers true. -/
import Derived.Test.YtjlhnnphfdjmdaaDoorEAS3
namespace Go.Proofs.YtjlhnnphfdjmdaaDoor.A
open Go.Abs Go.Uni Go.Plain Go.Deci L0 U C
open Go.Lib (itoa decDigits atoiAll)
set_option maxRecDepth 100000
set_option maxHeartbeats 2000000
set_option linter.unusedVariables false
set_option linter.unusedSimpArgs false
theorem hex_cut {k : Nat} (h : k < 16) : List.drop k (List.take (k + 1) ([48, 49, 50, 51, 52, 53, 54, 55, 56, 57, 97, 98, 99, 100, 101, 102] : List UInt8)) = [hx k] := by
  rcases k with _|_|_|_|_|_|_|_|_|_|_|_|_|_|_|_|k
  all_goals first | rfl | omega
abbrev hexL : List UInt8 := ([48, 49, 50, 51, 52, 53, 54, 55, 56, 57, 97, 98, 99, 100, 101, 102] : List UInt8)
theorem q1_round (n : Nat) (v2 : List UInt8) (v3 : List (List AVal)) (v5 : Int) {u : Nat} (hu : u < 65536) (j : Nat) {o : List UInt8} (ho : o.length ≤ 100000000) {sh : Int} {p : Nat} (hp : (2 : Int) ^ min (Int.toNat sh) 64 = (p : Int)) (hw : IntKind.wrap .u64 sh = sh) (hsh : 0 ≤ sh ∧ sh < 100) (hp0 : 0 < p) :
    ref1_Quote.l0.l1 n v2 v3 v5 (u : Int) hexL (j + 1) o sh = ref1_Quote.l0.l1 n v2 v3 v5 (u : Int) hexL j (o ++ [hx (u / p % 16)]) (sh - 4) := by
  rw [ref1_Quote.l0.l1.succ, ref1_Quote.l0.l1.s, hw]
  have h16 : u / p % 16 < 16 := Nat.mod_lt _ (by omega)
  have hq : u / p ≤ u := Nat.div_le_self _ _
  have e1 : Int.fdiv (u : Int) (p : Int) = ((u / p : Nat) : Int) := by rw [Int.fdiv_eq_ediv_of_nonneg _ (by omega)]; rfl
  have e2 : ((u / p : Nat) : Int) % 16 = ((u / p % 16 : Nat) : Int) := by omega
  rw [hp, e1]
  generalize hqq : u / p = q at *
  have e3 : ((q % 16 : Nat) : Int) + 1 = ((q % 16 + 1 : Nat) : Int) := rfl
  simp (disch := omega) only [ite_t, ite_f, dec_t, dec_f, beq_t, beq_f, bne_t, bne_f, nbeq_t, nbeq_f, nble_t, nble_f, cond_true, cond_false, Bool.not_true, Bool.not_false, Bool.and_true, Bool.true_and, Bool.and_self, room_t, w64, w32, wu8, wu8', wu16, wu32, fdiv_pos, and63i, and1023i, and31i, and15i, and7i, and192i, or64w, or32w, or16w, or4096w, or64r, or64b, or32b, or16b, optK_some, optK_none, toNat_ofNat, append_eq, List.length_cons, List.length_nil, List.length_append, List.length_map, reduceIte, toNat_s, cell_one, isI_u16, isI_i64, getI_n, e2, e3, hex_cut h16, ge_iff_le]
theorem q1_eq (n : Nat) (v2 : List UInt8) (v3 : List (List AVal)) (v5 : Int) {u : Nat} (hu : u < 65536) {o : List UInt8} (ho : o.length ≤ 90000000) (hn : 100 < n) :
    ∃ t, ref1_Quote.l0.l1 n v2 v3 v5 (u : Int) hexL n (o ++ [92, 117]) 12 = some (o ++ escU u, t) := by
  obtain ⟨k, hk⟩ : ∃ k, n = k + 5 := ⟨n - 5, by omega⟩
  have h5 : ref1_Quote.l0.l1 n v2 v3 v5 (u : Int) hexL (k + 5) (o ++ [92, 117]) 12 = some (o ++ escU u, (-4 : Int)) := by
    rw [q1_round n v2 v3 v5 hu _ (by simp; omega) (p := 4096) rfl rfl (by omega) (by omega), q1_round n v2 v3 v5 hu _ (by simp; omega) (p := 256) rfl rfl (by omega) (by omega), q1_round n v2 v3 v5 hu _ (by simp; omega) (p := 16) rfl rfl (by omega) (by omega), q1_round n v2 v3 v5 hu _ (by simp; omega) (p := 1) rfl rfl (by omega) (by omega)]
    rw [ref1_Quote.l0.l1.succ, ref1_Quote.l0.l1.s]
    simp (disch := omega) only [ite_t, ite_f, dec_t, dec_f, beq_t, beq_f, bne_t, bne_f, nbeq_t, nbeq_f, nble_t, nble_f, cond_true, cond_false, Bool.not_true, Bool.not_false, Bool.and_true, Bool.true_and, Bool.and_self, room_t, w64, w32, wu8, wu8', wu16, wu32, fdiv_pos, and63i, and1023i, and31i, and15i, and7i, and192i, or64w, or32w, or16w, or4096w, or64r, or64b, or32b, or16b, optK_some, optK_none, toNat_ofNat, append_eq, List.length_cons, List.length_nil, List.length_append, List.length_map, reduceIte, toNat_s, cell_one, isI_u16, isI_i64, getI_n, ge_iff_le]
    congr 1
    simp [escU]
  exact ⟨_, by rw [hk] at h5 ⊢; exact h5⟩
theorem q0_loop {n : Nat} (hn : 100 < n) {l : List Nat} (hl : ∀ x ∈ l, x < 65536) (hll : l.length ≤ 1000000) : ∀ (d i j : Nat) (o : List UInt8), l.length - i = d → i ≤ l.length → d < j → o.length ≤ 6 * i + 1 →
    ∃ t, ref1_Quote.l0 n j [] (l.map unit) o (i : Int) = some ([], l.map unit, o ++ (l.drop i).flatMap qu, t) := by
  intro d
  induction d with
  | zero =>
    intro i j o hd hi hj ho
    obtain ⟨j, rfl⟩ : ∃ k, j = k + 1 := ⟨j - 1, by omega⟩
    refine ⟨(i : Int), ?_⟩
    rw [ref1_Quote.l0.succ, ref1_Quote.l0.s, List.drop_eq_nil_of_le (by omega)]
    have hlen : ((l.map unit).length : Int) = (l.length : Int) := by simp
    simp (disch := omega) only [ite_t, ite_f, dec_t, dec_f, beq_t, beq_f, bne_t, bne_f, nbeq_t, nbeq_f, nble_t, nble_f, cond_true, cond_false, Bool.not_true, Bool.not_false, Bool.and_true, Bool.true_and, Bool.and_self, room_t, w64, w32, wu8, wu8', wu16, wu32, fdiv_pos, and63i, and1023i, and31i, and15i, and7i, and192i, or64w, or32w, or16w, or4096w, or64r, or64b, or32b, or16b, optK_some, optK_none, toNat_ofNat, append_eq, List.length_cons, List.length_nil, List.length_append, List.length_map, reduceIte, toNat_s, cell_one, isI_u16, isI_i64, getI_n, List.flatMap_nil, List.append_nil]
  | succ d ih =>
    intro i j o hd hi hj ho
    obtain ⟨j, rfl⟩ : ∃ k, j = k + 1 := ⟨j - 1, by omega⟩
    have hil : i < l.length := by omega
    have hx := hl l[i] (List.getElem_mem hil)
    have hq := qu_len l[i]
    obtain ⟨t, ht⟩ := ih (i + 1) j (o ++ qu l[i]) (by omega) (by omega) (by omega) (by rw [List.length_append]; omega)
    refine ⟨t, ?_⟩
    rw [List.drop_eq_getElem_cons hil, List.flatMap_cons, ← List.append_assoc, ← ht]
    rw [ref1_Quote.l0.succ, ref1_Quote.l0.s]
    have hn1 : nthL (l.map unit) i = unit l[i] := nth_map unit l i hil
    obtain ⟨t1, h1⟩ := q1_eq n [] (l.map unit) (i : Int) hx (o := o) (by omega) hn
    have e92 : List.append o (Array.toList (#[92, 117] : Array UInt8)) = o ++ [92, 117] := rfl
    generalize hg : l[i] = u at *
    by_cases a1 : u < 32
    · have hqe : qu u = escU u := by unfold qu; rw [if_neg (by omega)]
      simp (disch := omega) only [ite_t, ite_f, dec_t, dec_f, beq_t, beq_f, bne_t, bne_f, nbeq_t, nbeq_f, nble_t, nble_f, cond_true, cond_false, Bool.not_true, Bool.not_false, Bool.and_true, Bool.true_and, Bool.and_self, room_t, w64, w32, wu8, wu8', wu16, wu32, fdiv_pos, and63i, and1023i, and31i, and15i, and7i, and192i, or64w, or32w, or16w, or4096w, or64r, or64b, or32b, or16b, optK_some, optK_none, toNat_ofNat, append_eq, List.length_cons, List.length_nil, List.length_append, List.length_map, reduceIte, toNat_s, cell_one, isI_u16, isI_i64, getI_n, hn1, unit, e92, h1, hqe] <;> rfl
    · by_cases a2 : u ≤ 126
      · by_cases a3 : u = 34
        · have hqe : qu u = escU u := by unfold qu; rw [if_neg (by omega)]
          simp (disch := omega) only [ite_t, ite_f, dec_t, dec_f, beq_t, beq_f, bne_t, bne_f, nbeq_t, nbeq_f, nble_t, nble_f, cond_true, cond_false, Bool.not_true, Bool.not_false, Bool.and_true, Bool.true_and, Bool.and_self, room_t, w64, w32, wu8, wu8', wu16, wu32, fdiv_pos, and63i, and1023i, and31i, and15i, and7i, and192i, or64w, or32w, or16w, or4096w, or64r, or64b, or32b, or16b, optK_some, optK_none, toNat_ofNat, append_eq, List.length_cons, List.length_nil, List.length_append, List.length_map, reduceIte, toNat_s, cell_one, isI_u16, isI_i64, getI_n, hn1, unit, e92, h1, hqe, gt_iff_lt] <;> rfl
        · by_cases a4 : u = 92
          · have hqe : qu u = escU u := by unfold qu; rw [if_neg (by omega)]
            simp (disch := omega) only [ite_t, ite_f, dec_t, dec_f, beq_t, beq_f, bne_t, bne_f, nbeq_t, nbeq_f, nble_t, nble_f, cond_true, cond_false, Bool.not_true, Bool.not_false, Bool.and_true, Bool.true_and, Bool.and_self, room_t, w64, w32, wu8, wu8', wu16, wu32, fdiv_pos, and63i, and1023i, and31i, and15i, and7i, and192i, or64w, or32w, or16w, or4096w, or64r, or64b, or32b, or16b, optK_some, optK_none, toNat_ofNat, append_eq, List.length_cons, List.length_nil, List.length_append, List.length_map, reduceIte, toNat_s, cell_one, isI_u16, isI_i64, getI_n, hn1, unit, e92, h1, hqe, gt_iff_lt] <;> rfl
          · have hqe : qu u = [UInt8.ofNat u] := by unfold qu; rw [if_pos (by omega)]
            have hb : [[AVal.int IntKind.u8 (u : Int)]] = List.map byte [UInt8.ofNat u] := by
              simp [byte]; omega
            simp (disch := omega) only [ite_t, ite_f, dec_t, dec_f, beq_t, beq_f, bne_t, bne_f, nbeq_t, nbeq_f, nble_t, nble_f, cond_true, cond_false, Bool.not_true, Bool.not_false, Bool.and_true, Bool.true_and, Bool.and_self, room_t, w64, w32, wu8, wu8', wu16, wu32, fdiv_pos, and63i, and1023i, and31i, and15i, and7i, and192i, or64w, or32w, or16w, or4096w, or64r, or64b, or32b, or16b, optK_some, optK_none, toNat_ofNat, append_eq, List.length_cons, List.length_nil, List.length_append, List.length_map, reduceIte, toNat_s, cell_one, isI_u16, isI_i64, getI_n, hn1, unit, hqe, gt_iff_lt, hb, allByte_map, bytesL_map] <;> rfl
      · have hqe : qu u = escU u := by unfold qu; rw [if_neg (by omega)]
        simp (disch := omega) only [ite_t, ite_f, dec_t, dec_f, beq_t, beq_f, bne_t, bne_f, nbeq_t, nbeq_f, nble_t, nble_f, cond_true, cond_false, Bool.not_true, Bool.not_false, Bool.and_true, Bool.true_and, Bool.and_self, room_t, w64, w32, wu8, wu8', wu16, wu32, fdiv_pos, and63i, and1023i, and31i, and15i, and7i, and192i, or64w, or32w, or16w, or4096w, or64r, or64b, or32b, or16b, optK_some, optK_none, toNat_ofNat, append_eq, List.length_cons, List.length_nil, List.length_append, List.length_map, reduceIte, toNat_s, cell_one, isI_u16, isI_i64, getI_n, hn1, unit, e92, h1, hqe, gt_iff_lt] <;> rfl
theorem rquote_eq {s : List UInt8} (hl : s.length ≤ 1000000) {n : Nat} (hn : 2000000 < n) : ref1_Quote n s = some (quote (unitsOf s)) := by
  unfold ref1_Quote ref1_Quote.k
  rw [runits_eq (by omega) hn, optK_some]
  have hu := units_len s
  obtain ⟨t, ht⟩ := q0_loop (n := n) (by omega) (units_lt s) (by omega) _ 0 n [34] rfl (by omega) (by omega) (by simp)
  rw [show (0 : Int) = ((0 : Nat) : Int) from rfl, ht, optK_some]
  have hq := qus_len (unitsOf s)
  simp only [List.drop_zero]
  rw [if_pos (by rw [List.length_append, List.length_singleton]; omega)]
  simp [quote]
end Go.Proofs.YtjlhnnphfdjmdaaDoor.A
