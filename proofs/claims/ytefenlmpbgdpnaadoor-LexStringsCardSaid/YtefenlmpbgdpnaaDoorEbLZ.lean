/- LexWords, LexNumbers and LexNames answer true. -/
import Derived.Test.YtefenlmpbgdpnaaDoorEbX3
import Derived.Test.YtefenlmpbgdpnaaDoorEbLY
namespace Go.Proofs.YtefenlmpbgdpnaaDoor.L
open Go.Abs Go.Uni Go.Plain Go.Deci
open Go.Lib (itoa decDigits)
set_option maxRecDepth 100000
set_option maxHeartbeats 1000000
set_option linter.unusedVariables false
set_option linter.unusedSimpArgs false
theorem alive12 : law12_alive 2000001 = some true := by kernel_rfl
theorem num_eq (x : Int) : law12_num x = some () := rfl
theorem named_loop {s : List UInt8} (hl : s.length ≤ 65536) (n : Nat) : ∀ (d i j : Nat), s.length - i = d → i ≤ s.length → d < j → 0 < i →
    ∃ r, ref12_Named.l0 n s false j (i : Int) = some r ∧ (match r with
      | .inl _ => True
      | .inr _ => (s.drop i).all nameCh = true) := by
  intro d
  induction d with
  | zero =>
    intro i j hd hi hj h0
    obtain ⟨j, rfl⟩ : ∃ k, j = k + 1 := ⟨j - 1, by omega⟩
    refine ⟨.inr (i : Int), ?_, ?_⟩
    · rw [ref12_Named.l0.succ, ref12_Named.l0.s, dec_f (by omega)]
      rfl
    · rw [List.drop_eq_nil_of_le (by omega)]; rfl
  | succ d ih =>
    intro i j hd hi hj h0
    obtain ⟨j, rfl⟩ : ∃ k, j = k + 1 := ⟨j - 1, by omega⟩
    have hil : i < s.length := by omega
    have hdr := drop_at s i hil
    obtain ⟨hb, _, _⟩ := byteAt_drop hdr
    obtain ⟨r, h1, h2⟩ := ih (i + 1) j (by omega) (by omega) (by omega) (by omega)
    have hw : IntKind.wrap .i64 ((i : Int) + 1) = (((i + 1 : Nat) : Nat) : Int) := by rw [w64 (by omega)]; rfl
    rw [ref12_Named.l0.succ, ref12_Named.l0.s, dec_t (by omega)]
    simp only [cond_true, Int.toNat_natCast, hb]
    rw [if_pos (by omega), rlead_eq, optK_some]
    cases hbeg : isBeg s[i] with
    | true =>
      simp only [Bool.not_true, cond_false]
      refine ⟨r, by rw [hw]; exact h1, ?_⟩
      cases r with
      | inl _ => trivial
      | inr _ => rw [hdr, List.all_cons]; simp only [nameCh, hbeg, Bool.true_or, Bool.true_and]; exact h2
    | false =>
      simp only [Bool.not_false, cond_true]
      rw [dec_t (by omega)]
      simp only [cond_true]
      rw [if_pos (by omega), rdigit_eq, optK_some]
      cases hdig : isDig s[i] with
      | true =>
        simp only [Bool.not_true, cond_false]
        refine ⟨r, by rw [hw]; exact h1, ?_⟩
        cases r with
        | inl _ => trivial
        | inr _ => rw [hdr, List.all_cons]; simp only [nameCh, hdig, Bool.or_true, Bool.true_and]; exact h2
      | false =>
        simp only [Bool.not_false, cond_true]
        exact ⟨_, rfl, trivial⟩
theorem named_eq {s : List UInt8} (hl : s.length ≤ 65536) {n : Nat} (hn : 100000 < n) : ∃ b, ref12_Named n s = some b ∧ (b = true → ∃ c r, s = c :: r ∧ isBeg c = true ∧ s.all nameCh = true) := by
  unfold ref12_Named ref12_Named.k
  obtain ⟨j, rfl⟩ : ∃ k, n = k + 1 := ⟨n - 1, by omega⟩
  cases s with
  | nil =>
    refine ⟨false, ?_, fun h => by cases h⟩
    rw [ref12_Named.l0.succ, ref12_Named.l0.s, dec_f (by simp)]
    rfl
  | cons c r =>
    have hb : byteAt (c :: r) 0 = (c.toNat : Int) := rfl
    rw [ref12_Named.l0.succ, ref12_Named.l0.s, dec_t (by simp only [List.length_cons]; omega)]
    simp only [cond_true, Int.toNat_zero, hb]
    rw [if_pos (by simp only [List.length_cons]; omega), rlead_eq, optK_some]
    cases hbeg : isBeg c with
    | false =>
      simp only [Bool.not_false, cond_true]
      rw [dec_f (by omega)]
      exact ⟨false, rfl, fun h => by cases h⟩
    | true =>
      simp only [Bool.not_true, cond_false]
      obtain ⟨x, h1, h2⟩ := named_loop hl (j + 1) _ 1 j rfl (by simp) (by simp at hl ⊢; omega) (by omega)
      rw [w64 (x := 0 + 1) (by omega)]
      rw [show ((1 : Nat) : Int) = 0 + 1 from rfl] at h1
      rw [h1, optK_some]
      cases x with
      | inl _ => exact ⟨false, rfl, fun h => by cases h⟩
      | inr _ =>
        refine ⟨true, rfl, fun _ => ⟨c, r, rfl, hbeg, ?_⟩⟩
        rw [List.all_cons]
        simp only [nameCh, hbeg, Bool.true_or, Bool.true_and]
        exact h2
theorem map_byte (s : List UInt8) : List.map (fun b : UInt8 => [AVal.int IntKind.u8 ((UInt8.toNat b : Nat) : Int)]) s = s.map byte := rfl
theorem LexNames_true {s : List UInt8} : LexNames 2000001 s = some true := by
  unfold LexNames LexNames.k
  rw [alive12, optK_some]
  simp only [Bool.not_true, cond_false]
  by_cases h100 : s.length ≤ 100
  · rw [dec_f (by omega)]
    simp only [cond_false]
    obtain ⟨b, hb, hb2⟩ := named_eq (s := s) (by omega) (n := 2000001) (by omega)
    rw [hb, optK_some]
    cases b with
    | false => rfl
    | true =>
      obtain ⟨c, r, hs, hc, ha⟩ := hb2 rfl
      simp only [Bool.not_true, cond_false]
      rw [if_pos (decide_eq_true (by omega)), map_byte, tokens_name (by omega) hs hc ha (by omega), optK_some, rword_eq s (by omega), optK_some]
      by_cases w2 : wordOf s = 2
      · rw [if_pos w2, w2]
        rfl
      · rw [if_neg w2, beq_f w2]
        simp only [cond_false, num_eq, optK_some]
        have hk : (if wordOf s = 1 then (2 : Int) else 1) = IntKind.wrap .i64 (1 + wordOf s) := by
          unfold wordOf at w2 ⊢
          cases h1 : ownW.contains s <;> cases h2 : alienW.contains s <;> simp only [h1, h2, cond_true, cond_false] at w2 ⊢ <;> first | rfl | exact absurd rfl w2 | exact absurd trivial w2
        rw [← hk]
        simp [tok, nthL, cellAt, tget, isI, getI, isS, getS]
        rfl
  · rw [dec_t (by omega)]
    rfl
theorem LexNumbers_true {v : Int} (h0 : -9223372036854775808 ≤ v) (h1 : v ≤ 9223372036854775807) (z : Bool) : LexNumbers 2000001 v z = some true := by
  unfold LexNumbers LexNumbers.k
  rw [alive12, optK_some]
  simp only [Bool.not_true, cond_false]
  by_cases hneg : v < 0
  · rw [dec_t (by omega)]
    rfl
  · rw [dec_f (by omega)]
    simp only [cond_false]
    rw [dec_eq (by omega) (by omega) (by omega), optK_some]
    obtain ⟨m, rfl⟩ := Int.eq_ofNat_of_zero_le (by omega : 0 ≤ v)
    have hit : itoa ((m : Nat) : Int) = decDigits m := by
      unfold itoa
      rw [if_neg (by omega)]
      simp
    rw [hit]
    obtain ⟨c, r, hcr, hc1, hc2, hc3⟩ := dec_head m
    have hall := dec_all m
    have hdv := dec_dv m
    have hlen := dec_len 20 m (by omega) (by omega)
    cases z with
    | true =>
      simp only [cond_true]
      rw [if_pos (by omega), if_pos (decide_eq_true (by simp; omega))]
      have hb : ([AVal.int IntKind.u8 48] :: List.map (fun b : UInt8 => [AVal.int IntKind.u8 ((UInt8.toNat b : Nat) : Int)]) (decDigits m)) = ((48 : UInt8) :: decDigits m).map byte := rfl
      rw [hb, tokens_number (s := 48 :: decDigits m) (by simp; omega) rfl (by simp [hall]; decide) (by omega), if_neg (fun h => h.2 ⟨rfl, by rw [hcr]; simp⟩)]
      rfl
    | false =>
      simp only [cond_false]
      rw [if_pos (decide_eq_true (by omega)), map_byte, tokens_number (by omega) hcr hall (by omega), hdv]
      by_cases hbig : m ≤ 9007199254740991
      · have hno : ¬ (c.toNat = 48 ∧ 1 < (decDigits m).length) := fun h => by
          have : ¬ 1 ≤ m := fun h1 => by have := hc3 h1; omega
          have hm : m = 0 := by omega
          rw [hm] at h
          rw [dec_small (by omega)] at h
          exact absurd h.2 (by simp)
        rw [if_pos ⟨hbig, hno⟩, optK_some, dec_f (by omega)]
        simp [num_eq, optK_some, tok, nthL, cellAt, tget, isI, getI, isS, getS]
        rfl
      · rw [if_neg (fun h => hbig h.1), optK_some, dec_t (by omega)]
        rfl
end Go.Proofs.YtefenlmpbgdpnaaDoor.L
