/- OpsOrder and OpsJoin answer true. -/
import Derived.Test.YtjlhnnphfdjmdaaDoorEAS6
namespace Go.Proofs.YtjlhnnphfdjmdaaDoor.A
open Go.Abs Go.Uni Go.Plain Go.Deci L0 U C
open Go.Lib (itoa decDigits atoiAll)
set_option maxRecDepth 100000
set_option maxHeartbeats 2000000
set_option linter.unusedVariables false
set_option linter.unusedSimpArgs false
theorem right_str {m : Int} {s : List UInt8} (h : rightV 4 m s = true) : m = 0 ∧ right s = true := by
  unfold rightV at h
  rw [if_neg (by omega), if_neg (by omega), if_neg (by omega), if_pos rfl, Bool.and_eq_true, Bool.and_eq_true] at h
  exact ⟨of_decide_eq_true h.1, h.2.1⟩
theorem right_num {m : Int} {s : List UInt8} (h : rightV 3 m s = true) : isSafe m = true ∧ s = [] := by
  unfold rightV at h
  rw [if_neg (by omega), if_neg (by omega), if_pos rfl, Bool.and_eq_true] at h
  exact ⟨h.1, eq_of_beq h.2⟩
theorem str_right {s : List UInt8} (h : right s = true) (hl : s.length ≤ 10000) : rightV 4 0 s = true := by
  unfold rightV
  have := units_len s
  rw [if_neg (by omega), if_neg (by omega), if_neg (by omega), if_pos rfl, h, decide_eq_true (show (0 : Int) = 0 from rfl), decide_eq_true (show (unitsOf s).length ≤ 10000 by omega)]
  rfl
theorem joined_eq {a b : List UInt8} (ha : a.length ≤ 4000) (hb : b.length ≤ 4000) {n : Nat} (hn : 2000000 < n) : ops_joined n 4 0 a 4 0 b = some (4, joinOf a b, []) := by
  unfold ops_joined ops_joined.k
  have h1 := units_len a
  have h2 := units_len b
  rw [text_eq (by omega) (by omega), text_eq (by omega) (by omega)]
  show optK (units_Len n a) (fun b_2 => optK (units_Len n b) (fun b_3 => bif decide (IntKind.wrap IntKind.i64 (b_2 + b_3) > 10000) then _ else optK (units_Join n a b) (fun b => some (4, b, [])))) = _
  rw [len_eq (show a.length ≤ 2000000 by omega) hn, len_eq (show b.length ≤ 2000000 by omega) hn]
  simp only [optK_some]
  have e : IntKind.wrap IntKind.i64 (((unitsOf a).length : Int) + ((unitsOf b).length : Int)) = ((unitsOf a).length : Int) + ((unitsOf b).length : Int) := w64 (by omega)
  rw [e, dec_f (by omega), join_eq (by omega) (by omega) hn]; rfl
theorem bin_add {a b : List UInt8} (hr : right a = true) (hr' : right b = true) (ha : a.length ≤ 4000) (hb : b.length ≤ 4000) {n : Nat} (hn : 2000000 < n) : ops_Binary n [43] 4 0 a 4 0 b = some (4, 0, joinOf a b, []) := by
  unfold ops_Binary ops_Binary.k
  rw [right_val (show a.length ≤ 2000000 by omega) hn, right_val (show b.length ≤ 2000000 by omega) hn, str_right hr (by omega), str_right hr' (by omega)]
  show optK (ops_joined n 4 0 a 4 0 b) (fun b => some (b.1, 0, b.2.1, b.2.2)) = _
  rw [joined_eq ha hb hn]; rfl
theorem joinOf_some {a b : List UInt8} (ha : right a = true) (hb : right b = true) : joinOf a b = textOf (unitsOf a ++ unitsOf b) := by
  unfold joinOf; rw [ha, hb]; rfl
theorem join_right {a b : List UInt8} (ha : right a = true) (hb : right b = true) : right (joinOf a b) = true ∧ unitsOf (joinOf a b) = unitsOf a ++ unitsOf b ∧ (joinOf a b).length ≤ 4 * (a.length + b.length) := by
  rw [joinOf_some ha hb]
  refine ⟨right_text (app_lt a b), units_text (app_lt a b), ?_⟩
  have h := text_len (u := unitsOf a ++ unitsOf b)
  have h1 := units_len a
  have h2 := units_len b
  rw [List.length_append] at h
  omega
theorem OpsJoin_true {a b c : List UInt8} (ha : a.length ≤ 2000000) (hb : b.length ≤ 2000000) (hc : c.length ≤ 2000000) : OpsJoin 2000001 a b c = some true := by
  have hn : 2000000 < 2000001 := by omega
  unfold OpsJoin OpsJoin.k
  rw [alive16, rright_eq ha hn, rright_eq hb hn, rright_eq hc hn]
  simp only [optK_some, Bool.not_true, cond_false]
  cases ra : right a with
  | false => rfl
  | true =>
    cases rb : right b with
    | false => rfl
    | true =>
      cases rc : right c with
      | false => rfl
      | true =>
        simp only [Bool.not_true, cond_false]
        by_cases h1 : (a.length : Int) > 200
        · simp only [dec_t h1, cond_true]
        · by_cases h2 : (b.length : Int) > 200
          · simp only [dec_f h1, dec_t h2, cond_true, cond_false]
          · by_cases h3 : (c.length : Int) > 200
            · simp only [dec_f h1, dec_f h2, dec_t h3, cond_true, cond_false]
            · obtain ⟨p1, p2, p3⟩ := join_right ra rb
              obtain ⟨q1, q2, q3⟩ := join_right rb rc
              simp only [dec_f h1, dec_f h2, dec_f h3, cond_false, bin_add ra rb (show a.length ≤ 4000 by omega) (show b.length ≤ 4000 by omega) hn, bin_add rb rc (show b.length ≤ 4000 by omega) (show c.length ≤ 4000 by omega) hn, bin_add p1 rc (show (joinOf a b).length ≤ 4000 by omega) (show c.length ≤ 4000 by omega) hn, bin_add ra q1 (show a.length ≤ 4000 by omega) (show (joinOf b c).length ≤ 4000 by omega) hn, optK_some]
              rw [joinOf_some p1 rc, joinOf_some ra q1, p2, q2, List.append_assoc]
              simp
theorem OpsOrder_true {k m k' m' k'' m'' : Int} {a b c : List UInt8} (ha : a.length ≤ 2000000) (hb : b.length ≤ 2000000) (hc : c.length ≤ 2000000) : OpsOrder 2000001 k m a k' m' b k'' m'' c = some true := by
  have hn : 2000000 < 2000001 := by omega
  unfold OpsOrder OpsOrder.k
  rw [alive16, rright_val ha hn, rright_val hb hn, rright_val hc hn]
  simp only [optK_some, Bool.not_true, cond_false]
  cases ra : rightV k m a with
  | false => rfl
  | true =>
    cases rb : rightV k' m' b with
    | false => rfl
    | true =>
      cases rc : rightV k'' m'' c with
      | false => rfl
      | true =>
        simp only [cond_true]
        by_cases hk1 : k = k'
        · by_cases hk2 : k' = k''
          · subst hk1; subst hk2
            by_cases h4 : k = 4
            · subst h4
              by_cases h1 : (a.length : Int) > 100
              · simp only [beq_self_eq_true, dec_t h1, cond_true]
              · by_cases h2 : (b.length : Int) > 100
                · simp only [beq_self_eq_true, dec_f h1, dec_t h2, cond_true, cond_false]
                · by_cases h3 : (c.length : Int) > 100
                  · simp only [beq_self_eq_true, dec_f h1, dec_f h2, dec_t h3, cond_true, cond_false]
                  · obtain ⟨rfl, r1⟩ := right_str ra
                    obtain ⟨rfl, r2⟩ := right_str rb
                    obtain ⟨rfl, r3⟩ := right_str rc
                    have o1 := order_strings (a := a) (b := b) (by omega) (by omega) hn 0 0
                    have o2 := order_strings (a := b) (b := c) (by omega) (by omega) hn 0 0
                    have o3 := order_strings (a := a) (b := c) (by omega) (by omega) hn 0 0
                    simp only [beq_self_eq_true, dec_f h1, dec_f h2, dec_f h3, cond_true, cond_false, bin_lt ha hb ra rb hn o1, bin_gt ha hb ra rb hn o1, bin_eq ha hb ra rb hn, bin_lt hb hc rb rc hn o2, bin_lt ha hc ra rc hn o3, optK_some, if_true]
                    have he : (a == b) = decide (cmpU (unitsOf a) (unitsOf b) = 0) := by
                      by_cases hab : a = b
                      · subst hab
                        rw [decide_eq_true (cmpU_zero.2 rfl)]; simp
                      · rw [decide_eq_false]
                        · simp [hab]
                        · intro h
                          exact hab (by rw [← text_units r1, ← text_units r2, cmpU_zero.1 h])
                    have ht : cmpU (unitsOf a) (unitsOf b) < 0 → cmpU (unitsOf b) (unitsOf c) < 0 → cmpU (unitsOf a) (unitsOf c) < 0 := cmpU_lt
                    rw [he]
                    generalize cmpU (unitsOf a) (unitsOf b) = x at *
                    generalize cmpU (unitsOf b) (unitsOf c) = y at *
                    generalize cmpU (unitsOf a) (unitsOf c) = z at *
                    by_cases h1 : x < 0 <;> by_cases h2 : x > 0 <;> by_cases h3 : x = 0 <;> by_cases h4 : y < 0 <;> by_cases h5 : z < 0
                    all_goals first | omega | (simp [h1, h2, h3, h4, h5, bit])
            · by_cases h3' : k = 3
              · subst h3'
                obtain ⟨s1, rfl⟩ := right_num ra
                obtain ⟨s2, rfl⟩ := right_num rb
                obtain ⟨s3, rfl⟩ := right_num rc
                have o1 := order_numbers s1 s2 (a := []) (b := []) (by simp) (by simp) 2000001
                have o2 := order_numbers s2 s3 (a := []) (b := []) (by simp) (by simp) 2000001
                have o3 := order_numbers s1 s3 (a := []) (b := []) (by simp) (by simp) 2000001
                have h0 : ¬ ((([] : List UInt8).length : Int) > 100) := by simp
                simp only [beq_self_eq_true, dec_f h0, cond_true, cond_false, Bool.not_true, bin_lt ha hb ra rb hn o1, bin_gt ha hb ra rb hn o1, bin_eq ha hb ra rb hn, bin_lt hb hc rb rc hn o2, bin_lt ha hc ra rc hn o3, optK_some, if_true]
                have he : (m == m') = decide (m - m' = 0) := by
                  by_cases hab : m = m'
                  · subst hab
                    rw [decide_eq_true (by omega)]; simp
                  · rw [decide_eq_false (by omega)]; simp [hab]
                have ht : m - m' < 0 → m' - m'' < 0 → m - m'' < 0 := by omega
                rw [he]
                generalize m - m' = x at *
                generalize m' - m'' = y at *
                generalize m - m'' = z at *
                by_cases h1 : x < 0 <;> by_cases h2 : x > 0 <;> by_cases h3 : x = 0 <;> by_cases h4 : y < 0 <;> by_cases h5 : z < 0
                all_goals first | omega | (simp [h1, h2, h3, h4, h5, bit])
              · simp only [beq_self_eq_true, beq_f h4, beq_f h3', cond_true, cond_false, Bool.not_true, Bool.not_false]
          · simp only [beq_f hk2, hk1, beq_self_eq_true, cond_true, cond_false, Bool.not_true]
        · simp only [beq_f hk1, cond_true, cond_false, Bool.not_true]
end Go.Proofs.YtjlhnnphfdjmdaaDoor.A
