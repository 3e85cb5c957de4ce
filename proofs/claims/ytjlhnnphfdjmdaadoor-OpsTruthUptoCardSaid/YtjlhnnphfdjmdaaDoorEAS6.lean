/- The operators; OpsOrder, OpsJoin and OpsTruth answer true. -/
import Derived.Test.YtjlhnnphfdjmdaaDoorEAS5
namespace Go.Proofs.YtjlhnnphfdjmdaaDoor.A
open Go.Abs Go.Uni Go.Plain Go.Deci L0 U C
open Go.Lib (itoa decDigits atoiAll)
set_option maxRecDepth 100000
set_option maxHeartbeats 2000000
set_option linter.unusedVariables false
set_option linter.unusedSimpArgs false
def cmpU : List Nat → List Nat → Int
  | [], [] => 0
  | [], _ :: _ => -1
  | _ :: _, [] => 1
  | x :: u, y :: v => if x < y then -1 else if y < x then 1 else cmpU u v
theorem cmpU_zero : ∀ {u v : List Nat}, cmpU u v = 0 ↔ u = v
  | [], [] => by simp [cmpU]
  | [], _ :: _ => by simp [cmpU]
  | _ :: _, [] => by simp [cmpU]
  | x :: u, y :: v => by
    have ih := @cmpU_zero u v
    unfold cmpU
    by_cases h1 : x < y
    · rw [if_pos h1]; constructor
      · intro h; cases h
      · intro h; cases h; omega
    · by_cases h2 : y < x
      · rw [if_neg h1, if_pos h2]; constructor
        · intro h; cases h
        · intro h; cases h; omega
      · rw [if_neg h1, if_neg h2, ih]
        have : x = y := by omega
        subst this
        simp
theorem cmpU_lt : ∀ {u v w : List Nat}, cmpU u v < 0 → cmpU v w < 0 → cmpU u w < 0
  | [], [], _, h, _ => by simp [cmpU] at h
  | [], _ :: _, [], _, h => by simp [cmpU] at h
  | [], _ :: _, _ :: _, _, _ => by simp [cmpU]
  | _ :: _, [], _, h, _ => by simp [cmpU] at h
  | _ :: _, _ :: _, [], _, h => by simp [cmpU] at h
  | x :: u, y :: v, z :: w, h, h' => by
    have ih := @cmpU_lt u v w
    unfold cmpU at h h' ⊢
    by_cases a1 : x < y
    · by_cases a2 : y < z
      · rw [if_pos (show x < z by omega)]; omega
      · rw [if_neg a2] at h'
        by_cases a3 : z < y
        · rw [if_pos a3] at h'; omega
        · rw [if_pos (show x < z by omega)]; omega
    · rw [if_neg a1] at h
      by_cases a4 : y < x
      · rw [if_pos a4] at h; omega
      · rw [if_neg a4] at h
        have : x = y := by omega
        subst this
        by_cases a2 : x < z
        · rw [if_pos a2]; omega
        · rw [if_neg a2] at h' ⊢
          by_cases a3 : z < x
          · rw [if_pos a3] at h'; omega
          · rw [if_neg a3] at h' ⊢
            exact ih h h'
def cmpOut (k m : Nat) : Int × Int ⊕ Int → Int
  | .inl t => t.1
  | .inr _ => if k < m then -1 else 0
theorem cmpNat {x y : Nat} : cmp_Compare (x : Int) (y : Int) = some (if x < y then -1 else if y < x then 1 else 0) := by
  unfold cmp_Compare cmp_Compare.k cmp_isNaN cmp_isNaN.k
  by_cases h1 : x < y
  · simp (disch := omega) only [optK_some, bne_f, cond_false, dec_t, cond_true, if_pos h1]
  · by_cases h2 : y < x
    · simp (disch := omega) only [optK_some, bne_f, cond_false, dec_f, dec_t, gt_iff_lt, cond_true, if_neg h1, if_pos h2]
    · simp (disch := omega) only [optK_some, bne_f, cond_false, dec_f, gt_iff_lt, cond_true, if_neg h1, if_neg h2]
theorem cmp_loop {u v : List Nat} (hu : ∀ x ∈ u, x < 65536) (hv : ∀ x ∈ v, x < 65536) (hul : u.length ≤ 2000000) (n : Nat) : ∀ (d i j : Nat), u.length - i = d → i ≤ u.length → i ≤ v.length → d < j →
    ∃ r, slices_Compare.l0 n (u.map unit) (v.map unit) 0 (u.map unit) (u.length : Int) j (i : Int) = some r ∧ cmpOut u.length v.length r = cmpU (u.drop i) (v.drop i) := by
  intro d
  induction d with
  | zero =>
    intro i j hd hi hiv hj
    obtain ⟨j, rfl⟩ : ∃ k, j = k + 1 := ⟨j - 1, by omega⟩
    refine ⟨.inr (i : Int), ?_, ?_⟩
    · rw [slices_Compare.l0.succ, slices_Compare.l0.s]
      simp (disch := omega) only [dec_f, cond_false]
    · rw [List.drop_eq_nil_of_le (show u.length ≤ i by omega)]
      show (if u.length < v.length then (-1 : Int) else 0) = _
      by_cases h : i < v.length
      · rw [if_pos (by omega), List.drop_eq_getElem_cons h]; rfl
      · rw [if_neg (by omega), List.drop_eq_nil_of_le (by omega)]; rfl
  | succ d ih =>
    intro i j hd hi hiv hj
    obtain ⟨j, rfl⟩ : ∃ k, j = k + 1 := ⟨j - 1, by omega⟩
    have hil : i < u.length := by omega
    have hx := hu u[i] (List.getElem_mem hil)
    have hn1 : nthL (u.map unit) i = unit u[i] := nth_map unit u i hil
    have hul' : ((u.map unit).length : Int) = (u.length : Int) := by simp
    have hvl' : ((v.map unit).length : Int) = (v.length : Int) := by simp
    rw [List.drop_eq_getElem_cons hil, slices_Compare.l0.succ, slices_Compare.l0.s]
    by_cases hvi : i < v.length
    · have hy := hv v[i] (List.getElem_mem hvi)
      have hn2 : nthL (v.map unit) i = unit v[i] := nth_map unit v i hvi
      obtain ⟨r, h1, h2⟩ := ih (i + 1) j (by omega) (by omega) (by omega) (by omega)
      rw [List.drop_eq_getElem_cons hvi]
      generalize u[i] = x at *
      generalize v[i] = y at *
      unfold cmpU
      by_cases a1 : x < y
      · refine ⟨.inl (-1, (i : Int)), ?_, ?_⟩
        · simp (disch := omega) only [ite_t, ite_f, dec_t, dec_f, beq_t, beq_f, bne_t, bne_f, nbeq_t, nbeq_f, nble_t, nble_f, cond_true, cond_false, Bool.not_true, Bool.not_false, Bool.and_true, Bool.true_and, Bool.and_self, room_t, w64, w32, wu8, wu8', wu16, wu32, fdiv_pos, and63i, and1023i, and31i, and15i, and7i, and192i, or64w, or32w, or16w, or4096w, or64r, or64b, or32b, or16b, optK_some, optK_none, toNat_ofNat, append_eq, List.length_cons, List.length_nil, List.length_append, List.length_map, reduceIte, toNat_s, cell_one, isI_u16, isI_i64, getI_n, hul', hvl', hn1, hn2, unit, ge_iff_le, cmpNat, if_pos a1] <;> rfl
        · rw [if_pos a1]; rfl
      · by_cases a2 : y < x
        · refine ⟨.inl (1, (i : Int)), ?_, ?_⟩
          · simp (disch := omega) only [ite_t, ite_f, dec_t, dec_f, beq_t, beq_f, bne_t, bne_f, nbeq_t, nbeq_f, nble_t, nble_f, cond_true, cond_false, Bool.not_true, Bool.not_false, Bool.and_true, Bool.true_and, Bool.and_self, room_t, w64, w32, wu8, wu8', wu16, wu32, fdiv_pos, and63i, and1023i, and31i, and15i, and7i, and192i, or64w, or32w, or16w, or4096w, or64r, or64b, or32b, or16b, optK_some, optK_none, toNat_ofNat, append_eq, List.length_cons, List.length_nil, List.length_append, List.length_map, reduceIte, toNat_s, cell_one, isI_u16, isI_i64, getI_n, hul', hvl', hn1, hn2, unit, ge_iff_le, cmpNat, if_neg a1, if_pos a2] <;> rfl
          · rw [if_neg a1, if_pos a2]; rfl
        · refine ⟨r, ?_, ?_⟩
          · have ei : ((i + 1 : Nat) : Int) = (i : Int) + 1 := rfl
            rw [ei] at h1
            simp (disch := omega) only [ite_t, ite_f, dec_t, dec_f, beq_t, beq_f, bne_t, bne_f, nbeq_t, nbeq_f, nble_t, nble_f, cond_true, cond_false, Bool.not_true, Bool.not_false, Bool.and_true, Bool.true_and, Bool.and_self, room_t, w64, w32, wu8, wu8', wu16, wu32, fdiv_pos, and63i, and1023i, and31i, and15i, and7i, and192i, or64w, or32w, or16w, or4096w, or64r, or64b, or32b, or16b, optK_some, optK_none, toNat_ofNat, append_eq, List.length_cons, List.length_nil, List.length_append, List.length_map, reduceIte, toNat_s, cell_one, isI_u16, isI_i64, getI_n, hul', hvl', hn1, hn2, unit, ge_iff_le, cmpNat, if_neg a1, if_neg a2, h1]
          · rw [if_neg a1, if_neg a2]; exact h2
    · refine ⟨.inl (1, (i : Int)), ?_, ?_⟩
      · simp (disch := omega) only [ite_t, ite_f, dec_t, dec_f, beq_t, beq_f, bne_t, bne_f, nbeq_t, nbeq_f, nble_t, nble_f, cond_true, cond_false, Bool.not_true, Bool.not_false, Bool.and_true, Bool.true_and, Bool.and_self, room_t, w64, w32, wu8, wu8', wu16, wu32, fdiv_pos, and63i, and1023i, and31i, and15i, and7i, and192i, or64w, or32w, or16w, or4096w, or64r, or64b, or32b, or16b, optK_some, optK_none, toNat_ofNat, append_eq, List.length_cons, List.length_nil, List.length_append, List.length_map, reduceIte, toNat_s, cell_one, isI_u16, isI_i64, getI_n, hul', hvl', hn1, unit, ge_iff_le] <;> rfl
      · rw [List.drop_eq_nil_of_le (show v.length ≤ i by omega)]; rfl
theorem compare_eq {u v : List Nat} (hu : ∀ x ∈ u, x < 65536) (hv : ∀ x ∈ v, x < 65536) (hul : u.length ≤ 2000000) {n : Nat} (hn : 2000000 < n) : slices_Compare n (u.map unit) (v.map unit) = some (cmpU u v) := by
  obtain ⟨r, h1, h2⟩ := cmp_loop hu hv hul n _ 0 n rfl (by omega) (by omega) (by omega)
  unfold slices_Compare slices_Compare.k
  have h3 : slices_Compare.l0 n (u.map unit) (v.map unit) 0 (u.map unit) (u.length : Int) n 0 = some r := h1
  rw [List.length_map, List.length_map, h3, optK_some]
  rw [List.drop_zero, List.drop_zero] at h2
  rcases r with t | t
  · exact congrArg some h2
  · by_cases h : u.length < v.length
    · have : (-1 : Int) = cmpU u v := by rw [← h2]; exact (if_pos h).symm
      rw [← this, dec_t (show ((u.length : Nat) : Int) < (v.length : Int) by omega)]; rfl
    · have : (0 : Int) = cmpU u v := by rw [← h2]; exact (if_neg h).symm
      rw [← this, dec_f (show ¬ ((u.length : Nat) : Int) < (v.length : Int) by omega)]; rfl
theorem order_strings {a b : List UInt8} (ha : a.length ≤ 1000) (hb : b.length ≤ 1000) {n : Nat} (hn : 2000000 < n) (m m' : Int) : ops_order n 4 m a 4 m' b = some (cmpU (unitsOf a) (unitsOf b), true) := by
  have hu := units_len a
  unfold ops_order ops_order.k
  rw [of_eq (s := a) (by omega) hn, of_eq (s := b) (by omega) hn]
  show optK (slices_Compare n ((unitsOf a).map unit) ((unitsOf b).map unit)) (fun b => some (b, true)) = _
  rw [compare_eq (units_lt a) (units_lt b) (by omega) hn]; rfl
theorem order_some {a b : List UInt8} (ha : a.length ≤ 1000) (hb : b.length ≤ 1000) {n : Nat} (hn : 2000000 < n) (k m k' m' : Int) : ∃ x ok, ops_order n k m a k' m' b = some (x, ok) := by
  by_cases hk : k = 4
  · by_cases hk' : k' = 4
    · subst hk; subst hk'
      exact ⟨_, _, order_strings ha hb hn m m'⟩
    · unfold ops_order ops_order.k
      rw [number_eq ha, number_eq hb]
      subst hk
      rw [beq_f (show ¬ k' = 4 from hk')]
      cases h : (numS 4 m a).2
      · exact ⟨IntKind.wrap IntKind.i64 ((numS 4 m a).1 - (numS k' m' b).1), false, by simp only [beq_self_eq_true, cond_true, cond_false, optK_some, h]⟩
      · exact ⟨IntKind.wrap IntKind.i64 ((numS 4 m a).1 - (numS k' m' b).1), (numS k' m' b).2, by simp only [beq_self_eq_true, cond_true, cond_false, optK_some, h]⟩
  · unfold ops_order ops_order.k
    rw [number_eq ha, number_eq hb, beq_f (show ¬ k = 4 from hk)]
    cases h : (numS k m a).2
    · exact ⟨IntKind.wrap IntKind.i64 ((numS k m a).1 - (numS k' m' b).1), false, by simp only [beq_self_eq_true, cond_true, cond_false, optK_some, h]⟩
    · exact ⟨IntKind.wrap IntKind.i64 ((numS k m a).1 - (numS k' m' b).1), (numS k' m' b).2, by simp only [beq_self_eq_true, cond_true, cond_false, optK_some, h]⟩
theorem order_numbers {m m' : Int} (h0 : isSafe m = true) (h1 : isSafe m' = true) {a b : List UInt8} (ha : a.length ≤ 1000) (hb : b.length ≤ 1000) (n : Nat) : ops_order n 3 m a 3 m' b = some (m - m', true) := by
  unfold ops_order ops_order.k
  rw [number_eq ha, number_eq hb]
  have e : IntKind.wrap IntKind.i64 (m - m') = m - m' := by
    unfold isSafe at h0 h1
    simp at h0 h1
    exact w64 (by omega)
  show some (IntKind.wrap IntKind.i64 (m - m'), true) = _
  rw [e]
def tErr : List UInt8 := [84, 121, 112, 101, 69, 114, 114, 111, 114]
def bit (b : Bool) : Int := if b then 1 else 0
theorem truth_bit (b : Bool) : ops_truth b = some (bit b) := by cases b <;> rfl
theorem comp_lt {n : Nat} {k m k' m' : Int} {a b : List UInt8} {x : Int} {ok : Bool} (h : ops_order n k m a k' m' b = some (x, ok)) : ops_compared n [60] k m a k' m' b = some (if ok then (2, bit (decide (x < 0)), []) else (0, 0, tErr)) := by
  unfold ops_compared ops_compared.k
  rw [h]
  cases ok
  · rfl
  · show optK (ops_truth (decide (x < 0))) (fun b => some (2, b, [])) = _
    rw [truth_bit]; rfl
theorem comp_gt {n : Nat} {k m k' m' : Int} {a b : List UInt8} {x : Int} {ok : Bool} (h : ops_order n k m a k' m' b = some (x, ok)) : ops_compared n [62] k m a k' m' b = some (if ok then (2, bit (decide (x > 0)), []) else (0, 0, tErr)) := by
  unfold ops_compared ops_compared.k
  rw [h]
  cases ok
  · rfl
  · show optK (ops_truth (decide (x > 0))) (fun b => some (2, b, [])) = _
    rw [truth_bit]; rfl
theorem comp_ge {n : Nat} {k m k' m' : Int} {a b : List UInt8} {x : Int} {ok : Bool} (h : ops_order n k m a k' m' b = some (x, ok)) : ops_compared n [62, 61] k m a k' m' b = some (if ok then (2, bit (decide (x ≥ 0)), []) else (0, 0, tErr)) := by
  unfold ops_compared ops_compared.k
  rw [h]
  cases ok
  · rfl
  · show optK (ops_truth (decide (x ≥ 0))) (fun b => some (2, b, [])) = _
    rw [truth_bit]; rfl
section bin
variable {k m k' m' : Int} {a b : List UInt8} (ha : a.length ≤ 2000000) (hb : b.length ≤ 2000000) (hr : rightV k m a = true) (hr' : rightV k' m' b = true) {n : Nat} (hn : 2000000 < n)
include ha hb hr hr' hn
theorem bin_lt {x : Int} {ok : Bool} (h : ops_order n k m a k' m' b = some (x, ok)) : ops_Binary n [60] k m a k' m' b = some (if ok then (2, bit (decide (x < 0)), [], []) else (0, 0, [], tErr)) := by
  unfold ops_Binary ops_Binary.k
  rw [right_val ha hn, right_val hb hn, hr, hr']
  show optK (ops_compared n [60] k m a k' m' b) (fun b => some (b.1, b.2.1, [], b.2.2)) = _
  rw [comp_lt h]; cases ok <;> rfl
theorem bin_gt {x : Int} {ok : Bool} (h : ops_order n k m a k' m' b = some (x, ok)) : ops_Binary n [62] k m a k' m' b = some (if ok then (2, bit (decide (x > 0)), [], []) else (0, 0, [], tErr)) := by
  unfold ops_Binary ops_Binary.k
  rw [right_val ha hn, right_val hb hn, hr, hr']
  show optK (ops_compared n [62] k m a k' m' b) (fun b => some (b.1, b.2.1, [], b.2.2)) = _
  rw [comp_gt h]; cases ok <;> rfl
theorem bin_ge {x : Int} {ok : Bool} (h : ops_order n k m a k' m' b = some (x, ok)) : ops_Binary n [62, 61] k m a k' m' b = some (if ok then (2, bit (decide (x ≥ 0)), [], []) else (0, 0, [], tErr)) := by
  unfold ops_Binary ops_Binary.k
  rw [right_val ha hn, right_val hb hn, hr, hr']
  show optK (ops_compared n [62, 61] k m a k' m' b) (fun b => some (b.1, b.2.1, [], b.2.2)) = _
  rw [comp_ge h]; cases ok <;> rfl
theorem bin_eq : ops_Binary n [61, 61, 61] k m a k' m' b = some (2, bit (k == k' && (m == m' && (a == b && true))), [], []) := by
  unfold ops_Binary ops_Binary.k
  rw [right_val ha hn, right_val hb hn, hr, hr']
  show optK (ops_truth (true == (k == k' && (m == m' && (a == b && true))))) (fun b => some (2, b, [], [])) = _
  rw [truth_bit]
  cases (k == k' && (m == m' && (a == b && true))) <;> rfl
theorem bin_ne : ops_Binary n [33, 61, 61] k m a k' m' b = some (2, bit (!(k == k' && (m == m' && (a == b && true)))), [], []) := by
  unfold ops_Binary ops_Binary.k
  rw [right_val ha hn, right_val hb hn, hr, hr']
  show optK (ops_truth (!(true == (k == k' && (m == m' && (a == b && true)))))) (fun b => some (2, b, [], [])) = _
  rw [truth_bit]
  cases (k == k' && (m == m' && (a == b && true))) <;> rfl
end bin
theorem alive16 : law16_alive 2000001 = some true := by kernel_rfl
theorem OpsTruth_true {k m k' m' : Int} {a b : List UInt8} (ha : a.length ≤ 2000000) (hb : b.length ≤ 2000000) : OpsTruth 2000001 k m a k' m' b = some true := by
  have hn : 2000000 < 2000001 := by omega
  unfold OpsTruth OpsTruth.k
  rw [alive16, rright_val ha hn, rright_val hb hn]
  simp only [optK_some, Bool.not_true, cond_false]
  cases hr : rightV k m a with
  | false => rfl
  | true =>
    cases hr' : rightV k' m' b with
    | false => rfl
    | true =>
      simp only [optK_some, Bool.not_true, cond_false]
      by_cases h1 : (a.length : Int) > 200
      · simp only [dec_t h1, cond_true]
      · by_cases h2 : (b.length : Int) > 200
        · simp only [dec_f h1, dec_t h2, cond_true, cond_false]
        · obtain ⟨x, ok, ho⟩ := order_some (a := a) (b := b) (by omega) (by omega) hn k m k' m'
          simp only [dec_f h1, dec_f h2, cond_false, bin_eq ha hb hr hr' hn, bin_ne ha hb hr hr' hn, bin_lt ha hb hr hr' hn ho, bin_ge ha hb hr hr' hn ho, optK_some]
          cases ok
          · cases (k == k' && (m == m' && (a == b && true))) <;> rfl
          · by_cases hx : x < 0
            · rw [dec_t hx, dec_f (show ¬ x ≥ 0 by omega)]
              cases (k == k' && (m == m' && (a == b && true))) <;> rfl
            · rw [dec_f hx, dec_t (show x ≥ 0 by omega)]
              cases (k == k' && (m == m' && (a == b && true))) <;> rfl
end Go.Proofs.YtjlhnnphfdjmdaaDoor.A
