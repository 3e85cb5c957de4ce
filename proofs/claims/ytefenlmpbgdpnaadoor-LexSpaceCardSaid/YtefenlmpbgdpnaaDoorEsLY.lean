/- What the lexer does with a program of one token. -/
import Derived.Test.YtefenlmpbgdpnaaDoorEsLX
namespace Go.Proofs.YtefenlmpbgdpnaaDoor.L
open Go.Abs Go.Uni Go.Plain Go.Deci
open Go.Lib (itoa decDigits)
set_option maxRecDepth 100000
set_option maxHeartbeats 1000000
set_option linter.unusedVariables false
set_option linter.unusedSimpArgs false
def isSpc (c : UInt8) : Bool := decide (c.toNat = 32) || decide (c.toNat = 9) || decide (c.toNat = 10) || decide (c.toNat = 13)
theorem spcN : ∀ k : Fin 256, decide (byteIn [32, 9, 10, 13] ((k.val : Nat) : Int) ≥ 0) = isSpc (UInt8.ofNat k.val) := by decide +kernel
theorem spc_eq (c : UInt8) : decide (byteIn [32, 9, 10, 13] ((c.toNat : Nat) : Int) ≥ 0) = isSpc c := by
  have := spcN ⟨c.toNat, b_lt c⟩
  simpa using this
theorem ibyte (s : List UInt8) (c : Int) : str_IndexByte s c = some () := rfl
theorem hasPre (s p : List UInt8) : str_HasPrefix s p = some (p.isPrefixOf s) := by
  unfold str_HasPrefix str_HasPrefix.k str_hasPrefix str_hasPrefix.k
  by_cases h : p.length ≤ s.length
  · rw [dec_t (by omega)]
    simp only [cond_true]
    rw [if_pos (by omega)]
    simp only [optK_some, Int.toNat_natCast]
    congr 1
    rw [Bool.eq_iff_iff, List.isPrefixOf_iff_prefix, beq_iff_eq, List.prefix_iff_eq_take]
    exact eq_comm
  · rw [dec_f (by omega)]
    simp only [cond_false, optK_some]
    congr 1
    symm
    rw [Bool.eq_false_iff]
    intro hp
    exact h (List.isPrefixOf_iff_prefix.1 hp).length_le
theorem take_all (s : List UInt8) : List.take s.length s = s := List.take_length
def nameCh (c : UInt8) : Bool := isBeg c || isDig c
theorem name_loop {s : List UInt8} (hl : s.length ≤ 65536) (n : Nat) (at_ : Int) (out : List (List AVal)) : ∀ (l : List UInt8) (i j : Nat) (t : List UInt8), s.drop i = l ++ t → l.all nameCh = true → (∀ c r, t = c :: r → nameCh c = false) → l.length < j →
    lex_name.l0 n s at_ out j (i : Int) = some (((i + l.length : Nat) : Nat) : Int) := by
  intro l
  induction l with
  | nil =>
    intro i j t hd _ ht hj
    obtain ⟨j, rfl⟩ : ∃ k, j = k + 1 := ⟨j - 1, by omega⟩
    rw [lex_name.l0.succ, lex_name.l0.s]
    rw [List.nil_append] at hd
    cases t with
    | nil =>
      have : s.length ≤ i := by
        rcases Nat.lt_or_ge i s.length with h | h
        · rw [drop_at s i h] at hd; cases hd
        · exact h
      rw [dec_f (by omega)]
      rfl
    | cons c r =>
      obtain ⟨hb, hk, _⟩ := byteAt_drop hd
      have hc := ht c r rfl
      simp only [nameCh, Bool.or_eq_false_iff] at hc
      rw [dec_t (by omega)]
      simp only [cond_true, Int.toNat_natCast, hb]
      rw [if_pos (by omega), begins_eq, hc.1, optK_some]
      simp only [cond_false]
      rw [if_pos (by omega), digit_eq, hc.2, optK_some]
      rfl
  | cons c l ih =>
    intro i j t hd ha ht hj
    simp only [List.length_cons] at hj
    obtain ⟨j, rfl⟩ : ∃ k, j = k + 1 := ⟨j - 1, by omega⟩
    simp only [List.all_cons, Bool.and_eq_true] at ha
    rw [List.cons_append] at hd
    obtain ⟨hb, hk, hd'⟩ := byteAt_drop hd
    have hc := ha.1
    have hr := ih (i + 1) j t hd' ha.2 ht (by omega)
    have e : (i + (c :: l).length) = i + 1 + l.length := by simp; omega
    rw [e, ← hr, lex_name.l0.succ, lex_name.l0.s]
    rw [dec_t (by omega)]
    simp only [cond_true, Int.toNat_natCast, hb]
    rw [if_pos (by omega), begins_eq, optK_some]
    cases hbeg : isBeg c with
    | true => simp only [cond_true]; rw [w64 (by omega)]; rfl
    | false =>
      simp only [nameCh, hbeg, Bool.false_or] at hc
      simp only [cond_false]
      rw [if_pos (by omega), digit_eq, hc, optK_some]
      simp only [cond_true]; rw [w64 (by omega)]; rfl
def tok (kind at_ num : Int) (text : List UInt8) : List AVal := [.int .i64 kind, .int .i64 at_, .int .i64 num, .str text]
theorem put_some (a b c : Int) (t : List UInt8) (e : Int) (s : List UInt8) (at_ : Int) {out : List (List AVal)} (ho : out.length ≤ 1000000) : lex_put a b c t e s at_ out = some () := by
  unfold lex_put lex_put.k
  rw [if_pos (by simp only [Bool.true_and]; exact room_t (by simp; omega) (by omega))]
theorem l1_end {s : List UInt8} (n j : Nat) (out : List (List AVal)) : lex_all0.l1 n s (j + 1) (s.length : Int) out = some (.inr ((s.length : Int), out)) := by
  rw [lex_all0.l1.succ, lex_all0.l1.s, dec_f (by omega)]
  rfl
theorem beg_spc0 : ∀ k : Fin 256, (isBeg (UInt8.ofNat k.val) || isDig (UInt8.ofNat k.val)) = true → isSpc (UInt8.ofNat k.val) = false ∧ (UInt8.ofNat k.val).toNat ≠ 47 ∧ (UInt8.ofNat k.val).toNat < 128 := by decide +kernel
theorem beg_spc {c : UInt8} (h : nameCh c = true) : isSpc c = false ∧ c.toNat ≠ 47 ∧ c.toNat < 128 := by
  have := beg_spc0 ⟨c.toNat, b_lt c⟩
  simp at this
  have h2 : isBeg c = true ∨ isDig c = true := by simpa [nameCh] using h
  exact this h2
end Go.Proofs.YtefenlmpbgdpnaaDoor.L
