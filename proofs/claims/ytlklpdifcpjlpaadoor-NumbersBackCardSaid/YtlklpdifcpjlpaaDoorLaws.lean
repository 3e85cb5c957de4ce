/- NumbersLaws, the plain law: what the call comes to is true, for all numbers. -/
import Derived.Test.YtlklpdifcpjlpaaDoorNum
namespace Go.Proofs.YtlklpdifcpjlpaaDoor
open Go.Abs
set_option maxRecDepth 100000
set_option linter.unusedSimpArgs false

theorem law9 (k : Nat) (a b : Int) : execFunc env (den env N3 (k + 1)) 9 [.int .i64 a, .int .i64 b] []  =
  bif !safeB a then some (Out.ret (AVal.bool true), [])
else
  bif !safeB b then some (Out.ret (AVal.bool true), [])
  else
    bif doB [43] a b then
      bif !doB [45] (doN [43] a b) b then some (Out.ret (AVal.bool false), [])
      else
        bif doN [45] (doN [43] a b) b != a then some (Out.ret (AVal.bool false), [])
        else
          bif b == 0 then
            bif !doB [47] a b then some (Out.ret (AVal.bool !doB [37] a b), [])
            else some (Out.ret (AVal.bool false), [])
          else
            bif doB [47] a b then
              bif doB [37] a b then
                bif IntKind.wrap IntKind.i64 (IntKind.wrap IntKind.i64 (doN [47] a b * b) + doN [37] a b) == a then
                  bif decide (a ≥ 0) then some (Out.ret (AVal.bool (true == (decide (doN [37] a b ≥ 0) == true))), [])
                  else some (Out.ret (AVal.bool (true == (decide (doN [37] a b ≥ 0) == (doN [37] a b == 0)))), [])
                else some (Out.ret (AVal.bool false), [])
              else some (Out.ret (AVal.bool false), [])
            else some (Out.ret (AVal.bool false), [])
    else
      bif b == 0 then
        bif !doB [47] a b then some (Out.ret (AVal.bool !doB [37] a b), []) else some (Out.ret (AVal.bool false), [])
      else
        bif doB [47] a b then
          bif doB [37] a b then
            bif IntKind.wrap IntKind.i64 (IntKind.wrap IntKind.i64 (doN [47] a b * b) + doN [37] a b) == a then
              bif decide (a ≥ 0) then some (Out.ret (AVal.bool (true == (decide (doN [37] a b ≥ 0) == true))), [])
              else some (Out.ret (AVal.bool (true == (decide (doN [37] a b ≥ 0) == (doN [37] a b == 0)))), [])
            else some (Out.ret (AVal.bool false), [])
          else some (Out.ret (AVal.bool false), [])
        else some (Out.ret (AVal.bool false), []) := by kernel_rfl

theorem wrap64 {n : Int} (h1 : -9223372036854775808 ≤ n) (h2 : n ≤ 9223372036854775807) : IntKind.wrap .i64 n = n := by
  have e1 : IntKind.bits .i64 = 64 := rfl
  have e2 : IntKind.signed .i64 = true := rfl
  simp only [IntKind.wrap, e1, e2, Bool.true_and]
  split
  · rename_i h; simp only [decide_eq_true_eq, ge_iff_le] at h; omega
  · rename_i h; simp only [decide_eq_true_eq, ge_iff_le] at h; omega
theorem safe_iff {n : Int} : safeB n = true ↔ -9007199254740991 ≤ n ∧ n ≤ 9007199254740991 := by
  simp [safeB]
theorem doB_add {a b : Int} (ha : safeB a = true) (hb : safeB b = true) : doB [43] a b = safeB (a + b) := by
  obtain ⟨h1, h2⟩ := safe_iff.1 ha
  obtain ⟨h3, h4⟩ := safe_iff.1 hb
  simp only [doB, ha, hb, Bool.true_and]
  rw [wrap64 (by omega) (by omega)]
theorem doN_add {a b : Int} (ha : safeB a = true) (hb : safeB b = true) (h : doB [43] a b = true) : doN [43] a b = a + b := by
  obtain ⟨h1, h2⟩ := safe_iff.1 ha
  obtain ⟨h3, h4⟩ := safe_iff.1 hb
  simp only [doN, h, cond_true]
  rw [wrap64 (by omega) (by omega)]
theorem doB_sub {a b : Int} (ha : safeB a = true) (hb : safeB b = true) : doB [45] a b = safeB (a - b) := by
  obtain ⟨h1, h2⟩ := safe_iff.1 ha
  obtain ⟨h3, h4⟩ := safe_iff.1 hb
  simp only [doB, ha, hb, Bool.true_and]
  rw [wrap64 (by omega) (by omega)]
theorem doN_sub {a b : Int} (ha : safeB a = true) (hb : safeB b = true) (h : doB [45] a b = true) : doN [45] a b = a - b := by
  obtain ⟨h1, h2⟩ := safe_iff.1 ha
  obtain ⟨h3, h4⟩ := safe_iff.1 hb
  simp only [doN, h, cond_true]
  rw [wrap64 (by omega) (by omega)]
theorem tdiv_bound (a b : Int) (h : -9007199254740991 ≤ a ∧ a ≤ 9007199254740991) : -9007199254740991 ≤ Int.tdiv a b ∧ Int.tdiv a b ≤ 9007199254740991 := by
  have h1 : (Int.tdiv a b).natAbs ≤ a.natAbs := by
    rw [Int.natAbs_tdiv]; exact Nat.div_le_self _ _
  omega
theorem tmod_bound (a b : Int) (h : -9007199254740991 ≤ a ∧ a ≤ 9007199254740991) : -9007199254740991 ≤ Int.tmod a b ∧ Int.tmod a b ≤ 9007199254740991 := by
  have h1 : (Int.tmod a b).natAbs ≤ a.natAbs := by
    rw [Int.natAbs_tmod]; exact Nat.mod_le _ _
  omega
theorem tmod_sign (a b : Int) : (0 ≤ a → 0 ≤ Int.tmod a b) ∧ (a < 0 → Int.tmod a b ≤ 0) := by
  refine ⟨fun h => Int.tmod_nonneg _ h, fun h => ?_⟩
  have := Int.tmod_nonneg b (show 0 ≤ -a by omega)
  rw [Int.neg_tmod] at this
  omega
theorem doB_div {a b : Int} (ha : safeB a = true) (hb : safeB b = true) (h0 : b ≠ 0) : doB [47] a b = true ∧ doN [47] a b = Int.tdiv a b := by
  have h := tdiv_bound a b (safe_iff.1 ha)
  have hw : IntKind.wrap .i64 (Int.tdiv a b) = Int.tdiv a b := wrap64 (by omega) (by omega)
  have h1 : (b != 0) = true := by simpa using h0
  have hB : doB [47] a b = true := by
    simp only [doB, ha, hb, h1, Bool.true_and, hw]
    exact safe_iff.2 h
  exact ⟨hB, by simp only [doN, hB, cond_true, hw]⟩
theorem doB_mod {a b : Int} (ha : safeB a = true) (hb : safeB b = true) (h0 : b ≠ 0) : doB [37] a b = true ∧ doN [37] a b = Int.tmod a b := by
  have h := tmod_bound a b (safe_iff.1 ha)
  have h1 : (b != 0) = true := by simpa using h0
  have hB : doB [37] a b = true := by
    simp only [doB, ha, hb, h1, Bool.true_and]
    exact safe_iff.2 h
  exact ⟨hB, by simp only [doN, hB, cond_true]⟩
theorem laws_true (k : Nat) (a b : Int) : execFunc env (den env N3 (k + 1)) 9 [.int .i64 a, .int .i64 b] [] = some (.ret (.bool true), []) := by
  rw [law9]
  cases ha : safeB a with
  | false => rfl
  | true =>
    cases hb : safeB b with
    | false => rfl
    | true =>
      simp only [Bool.not_true, cond_false]
      have hzero : b = 0 → doB [47] a b = false ∧ doB [37] a b = false := fun h => by
        subst h
        exact ⟨by simp [doB], by simp [doB]⟩
      have hquo : b ≠ 0 → doB [47] a b = true ∧ doB [37] a b = true ∧ (IntKind.wrap IntKind.i64 (IntKind.wrap IntKind.i64 (doN [47] a b * b) + doN [37] a b) == a) = true ∧
          (0 ≤ a → decide (doN [37] a b ≥ 0) = true) ∧ (a < 0 → (decide (doN [37] a b ≥ 0) == (doN [37] a b == 0)) = true) := fun h => by
        obtain ⟨h1, h2⟩ := doB_div ha hb h
        obtain ⟨h3, h4⟩ := doB_mod ha hb h
        obtain ⟨h5, h6⟩ := safe_iff.1 ha
        have hd := Int.tdiv_mul_add_tmod a b
        have hm := tmod_bound a b (safe_iff.1 ha)
        obtain ⟨hs1, hs2⟩ := tmod_sign a b
        refine ⟨h1, h3, ?_, fun h => ?_, fun h => ?_⟩
        · have e : IntKind.wrap IntKind.i64 (Int.tdiv a b * b) = Int.tdiv a b * b := wrap64 (by omega) (by omega)
          rw [h2, h4, e, hd, wrap64 (by omega) (by omega)]
          simp
        · rw [h4]; simpa using hs1 h
        · rw [h4]
          have := hs2 h
          by_cases hz : Int.tmod a b = 0
          · simp [hz]
          · have h8 : ¬ (Int.tmod a b ≥ 0) := by omega
            simp [hz, h8]
      have hrest : (bif b == 0 then
            bif !doB [47] a b then some (Out.ret (AVal.bool !doB [37] a b), ([] : Mem))
            else some (Out.ret (AVal.bool false), [])
          else
            bif doB [47] a b then
              bif doB [37] a b then
                bif IntKind.wrap IntKind.i64 (IntKind.wrap IntKind.i64 (doN [47] a b * b) + doN [37] a b) == a then
                  bif decide (a ≥ 0) then some (Out.ret (AVal.bool (true == (decide (doN [37] a b ≥ 0) == true))), [])
                  else some (Out.ret (AVal.bool (true == (decide (doN [37] a b ≥ 0) == (doN [37] a b == 0)))), [])
                else some (Out.ret (AVal.bool false), [])
              else some (Out.ret (AVal.bool false), [])
            else some (Out.ret (AVal.bool false), [])) = some (Out.ret (AVal.bool true), []) := by
        by_cases h0 : b = 0
        · obtain ⟨h1, h2⟩ := hzero h0
          simp [h0] at h1 h2 ⊢
          simp [h1, h2]
        · obtain ⟨h1, h2, h3, h4, h5⟩ := hquo h0
          have h9 : (b == 0) = false := by simpa using h0
          rw [h9, h1, h2, h3]
          by_cases hn : 0 ≤ a
          · have : decide (a ≥ 0) = true := by simpa using hn
            rw [this, h4 hn]; rfl
          · have : decide (a ≥ 0) = false := by simpa using hn
            rw [this, h5 (by omega)]; rfl
      cases hadd : doB [43] a b with
      | false => simp only [cond_false]; exact hrest
      | true =>
        have hs : safeB (a + b) = true := by rw [← doB_add ha hb]; exact hadd
        have e1 : doN [43] a b = a + b := doN_add ha hb hadd
        have e2 : doB [45] (a + b) b = true := by rw [doB_sub hs hb, Int.add_sub_cancel]; exact ha
        have e3 : doN [45] (a + b) b = a := by rw [doN_sub hs hb e2, Int.add_sub_cancel]
        rw [e1, e2, e3]
        have e4 : (a != a) = false := by simp
        rw [e4]
        simp only [Bool.not_true, cond_false, cond_true]
        exact hrest

end Go.Proofs.YtlklpdifcpjlpaaDoor
