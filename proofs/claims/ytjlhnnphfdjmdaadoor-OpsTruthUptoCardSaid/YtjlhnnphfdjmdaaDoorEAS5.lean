/- ValuesTell answers true. -/
import Derived.Test.YtjlhnnphfdjmdaaDoorEAS4
namespace Go.Proofs.YtjlhnnphfdjmdaaDoor.A
open Go.Abs Go.Uni Go.Plain Go.Deci L0 U C
open Go.Lib (itoa decDigits atoiAll)
set_option maxRecDepth 100000
set_option maxHeartbeats 2000000
set_option linter.unusedVariables false
set_option linter.unusedSimpArgs false
theorem truth_some (k m : Int) (s : List UInt8) : ∃ t, values_Truth k m s = some t ∧ ref1_Truth k m s = some t := by
  rcases kinds k with rfl | rfl | rfl | rfl | rfl | rfl | rfl | h
  · exact ⟨_, rfl, rfl⟩
  · exact ⟨_, rfl, rfl⟩
  · exact ⟨_, rfl, rfl⟩
  · exact ⟨_, rfl, rfl⟩
  · exact ⟨_, rfl, rfl⟩
  · exact ⟨_, rfl, rfl⟩
  · exact ⟨_, rfl, rfl⟩
  · refine ⟨true, ?_, ?_⟩
    · unfold values_Truth values_Truth.k
      simp (disch := omega) only [beq_f, cond_false]
    · unfold ref1_Truth ref1_Truth.k
      simp (disch := omega) only [beq_f, cond_false]
theorem type_some {k : Int} (hk : 0 ≤ k ∧ k ≤ 6) (m : Int) (s : List UInt8) (a : Bool) : ∃ t, values_Type k m s a = some t ∧ ref1_Type k m s a = some t := by
  rcases kinds k with rfl | rfl | rfl | rfl | rfl | rfl | rfl | h
  · exact ⟨_, rfl, rfl⟩
  · exact ⟨_, rfl, rfl⟩
  · exact ⟨_, rfl, rfl⟩
  · exact ⟨_, rfl, rfl⟩
  · exact ⟨_, rfl, rfl⟩
  · exact ⟨_, rfl, rfl⟩
  · cases a
    · exact ⟨_, rfl, rfl⟩
    · exact ⟨_, rfl, rfl⟩
  · omega
theorem right_kind {k m : Int} {s : List UInt8} (h : rightV k m s = true) : 0 ≤ k ∧ k ≤ 6 := by
  rcases kinds k with rfl | rfl | rfl | rfl | rfl | rfl | rfl | h'
  all_goals first | omega | skip
  exfalso
  unfold rightV at h
  rw [if_neg (by omega), if_neg (by omega), if_neg (by omega), if_neg (by omega), if_neg (by omega), if_neg (by omega)] at h
  cases h
theorem show_some {k m : Int} {s : List UInt8} (h : rightV k m s = true) (h0 : -9223372036854775808 ≤ m) (h1 : m ≤ 9223372036854775807) (hl : s.length ≤ 1000) (a : Bool) : ∃ t, values_Show 2000001 k m s a = some t ∧ ref1_Show 2000001 k m s a = some t := by
  have ht := text_eq h0 h1 k s
  have hr := rtextOf_eq h0 h1 (show 2000000 < 2000001 by omega) k s
  have hk := right_kind h
  rcases kinds k with rfl | rfl | rfl | rfl | rfl | rfl | rfl | h'
  · refine ⟨(textS 0 m s).1, ?_, ?_⟩
    · unfold values_Show values_Show.k; rw [ht]; rfl
    · unfold ref1_Show ref1_Show.k; rw [hr]; rfl
  · refine ⟨(textS 1 m s).1, ?_, ?_⟩
    · unfold values_Show values_Show.k; rw [ht]; rfl
    · unfold ref1_Show ref1_Show.k; rw [hr]; rfl
  · refine ⟨(textS 2 m s).1, ?_, ?_⟩
    · unfold values_Show values_Show.k; rw [ht]; rfl
    · unfold ref1_Show ref1_Show.k; rw [hr]; rfl
  · refine ⟨(textS 3 m s).1, ?_, ?_⟩
    · unfold values_Show values_Show.k; rw [ht]; rfl
    · unfold ref1_Show ref1_Show.k; rw [hr]; rfl
  · have hm : m = 0 ∧ right s = true := by
      unfold rightV at h
      rw [if_neg (by omega), if_neg (by omega), if_neg (by omega), if_pos rfl, Bool.and_eq_true, Bool.and_eq_true] at h
      exact ⟨of_decide_eq_true h.1, h.2.1⟩
    obtain ⟨rfl, hs⟩ := hm
    refine ⟨quote (unitsOf s), show_str (by omega) hs a, ?_⟩
    unfold ref1_Show ref1_Show.k
    rw [rquote_eq (by omega) (by omega)]; rfl
  · exact ⟨_, rfl, rfl⟩
  · obtain ⟨t, t1, t2⟩ := type_some hk m s a
    refine ⟨t, ?_, ?_⟩
    · unfold values_Show values_Show.k; rw [t1]; rfl
    · unfold ref1_Show ref1_Show.k; rw [t2]; rfl
  · omega
theorem text_no (k m : Int) (s : List UInt8) (h : (textS k m s).2 = false) : (textS k m s).1 = [] := by
  rcases kinds k with rfl | rfl | rfl | rfl | rfl | rfl | rfl | h'
  all_goals first | rfl | cases h | skip
  unfold textS
  rw [if_neg (by omega), if_neg (by omega), if_neg (by omega), if_neg (by omega), if_neg (by omega)]
theorem ValuesTell_true {m : Int} (h0 : -9223372036854775808 ≤ m) (h1 : m ≤ 9223372036854775807) (k : Int) (s : List UInt8) (a : Bool) : ValuesTell 2000001 k m s a = some true := by
  unfold ValuesTell ValuesTell.k
  rw [alive4A]
  simp only [optK_some, Bool.not_true, cond_false]
  by_cases h5 : (s.length : Int) > 500
  · simp only [dec_t h5, cond_true]
  · have hn : 2000000 < 2000001 := by omega
    simp only [dec_f h5, cond_false, right_val (show s.length ≤ 2000000 by omega) hn, rright_val (show s.length ≤ 2000000 by omega) hn, optK_some, beq_self_eq_true]
    rw [show ((false == true) = false) from rfl]
    cases hr : rightV k m s with
    | false =>
      simp only [cond_false, Bool.not_false, cond_true]
      rfl
    | true =>
      obtain ⟨tr, r1, r2⟩ := truth_some k m s
      obtain ⟨ty, y1, y2⟩ := type_some (right_kind hr) m s a
      obtain ⟨sh, s1, s2⟩ := show_some hr h0 h1 (show s.length ≤ 1000 by omega) a
      have ht := text_no k m s
      have hnr := num_rnum k m s
      simp only [Bool.not_true, cond_false, text_eq h0 h1, rtextOf_eq h0 h1 hn, number_eq (show s.length ≤ 1000 by omega), rnumber_eq (show s.length ≤ 1000 by omega) hn, optK_some, r1, r2, y1, y2, s1, s2, beq_self_eq_true]
      rw [hnr]
      generalize textS k m s = T at ht ⊢
      generalize rnumS k m s = Z
      obtain ⟨t, tb⟩ := T
      obtain ⟨z, zb⟩ := Z
      cases tb <;> cases zb <;> simp_all
end Go.Proofs.YtjlhnnphfdjmdaaDoor.A
