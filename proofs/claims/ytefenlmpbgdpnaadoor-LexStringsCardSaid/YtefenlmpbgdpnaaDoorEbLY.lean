/- What the lexer does with a program of one token. -/
import Derived.Test.YtefenlmpbgdpnaaDoorEbLX
namespace Go.Proofs.YtefenlmpbgdpnaaDoor.L
open Go.Abs Go.Uni Go.Plain Go.Deci
open Go.Lib (itoa decDigits)
set_option maxRecDepth 100000
set_option maxHeartbeats 1000000
set_option linter.unusedVariables false
set_option linter.unusedSimpArgs false
theorem dec_ascii {c : UInt8} {r : List UInt8} (h : c.toNat < 128) : dec (c :: r) = (c.toNat, 1) := by
  have hp : pt (c :: r) = (c.toNat, 1) := by
    unfold pt
    simp only []
    rw [if_pos h]
  unfold dec
  rw [hp]
  have : isHalf c.toNat = false := by simp [isHalf]; omega
  simp [this]
theorem ascii_drop {s : List UInt8} (h : allAscii s = true) {p : Nat} {c : UInt8} {r : List UInt8} (hd : s.drop p = c :: r) : c.toNat < 128 := by
  have hm : c ∈ s := List.mem_of_mem_drop (by rw [hd]; exact List.mem_cons_self ..)
  exact of_decide_eq_true (List.all_eq_true.1 h c hm)
theorem utf_loop {s : List UInt8} (ha : allAscii s = true) (hl : s.length ≤ 65536) (n : Nat) (at_ : Int) (out : List (List AVal)) : ∀ (d p j : Nat), s.length - p = d → p ≤ s.length → d < j →
    lex_all0.l0 n s s at_ out j p = some (.inr s.length) := by
  intro d
  induction d with
  | zero =>
    intro p j hd hp hj
    obtain ⟨j, rfl⟩ : ∃ k, j = k + 1 := ⟨j - 1, by omega⟩
    rw [lex_all0.l0.succ, lex_all0.l0.s, if_neg (by omega)]
    rw [show p = s.length by omega]
  | succ d ih =>
    intro p j hd hp hj
    obtain ⟨j, rfl⟩ : ∃ k, j = k + 1 := ⟨j - 1, by omega⟩
    have hpl : p < s.length := by omega
    have hc := ascii_drop ha (drop_at s p hpl)
    rw [lex_all0.l0.succ, lex_all0.l0.s, if_pos hpl]
    have e : Utf8.decode ⟨s.toArray⟩ p = (s[p].toNat, 1) := by rw [decode_eq s p hpl, drop_at s p hpl, dec_ascii hc]
    simp only [e]
    rw [if_pos (by omega), beq_f (by omega)]
    exact ih (p + 1) j (by omega) (by omega) (by omega)
def isSpc (c : UInt8) : Bool := decide (c.toNat = 32) || decide (c.toNat = 9) || decide (c.toNat = 10) || decide (c.toNat = 13)
theorem spcN : ∀ k : Fin 256, decide (byteIn [32, 9, 10, 13] ((k.val : Nat) : Int) ≥ 0) = isSpc (UInt8.ofNat k.val) := by decide +kernel
theorem spc_eq (c : UInt8) : decide (byteIn [32, 9, 10, 13] ((c.toNat : Nat) : Int) ≥ 0) = isSpc c := by
  have := spcN ⟨c.toNat, b_lt c⟩
  simpa using this
theorem ibyte (s : List UInt8) (c : Int) : str_IndexByte s c = some () := rfl
theorem hasPre (s p : List UInt8) : str_HasPrefix s p = some (p.isPrefixOf s) := by
  unfold str_HasPrefix str_HasPrefix.k str_hasPrefix str_hasPrefix.k
  by_cases h : p.length ≤ s.length
  · rw [dec_t (by omega)]
    simp only [cond_true]
    rw [if_pos (by omega)]
    simp only [optK_some, Int.toNat_natCast]
    congr 1
    rw [Bool.eq_iff_iff, List.isPrefixOf_iff_prefix, beq_iff_eq, List.prefix_iff_eq_take]
    exact eq_comm
  · rw [dec_f (by omega)]
    simp only [cond_false, optK_some]
    congr 1
    symm
    rw [Bool.eq_false_iff]
    intro hp
    exact h (List.isPrefixOf_iff_prefix.1 hp).length_le
theorem skip_end {s : List UInt8} {n : Nat} (hn : 0 < n) (out : List (List AVal)) : lex_skip n s (s.length : Int) out = some (.inr (s.length : Int)) := by
  obtain ⟨j, rfl⟩ : ∃ k, n = k + 1 := ⟨n - 1, by omega⟩
  unfold lex_skip lex_skip.k
  rw [lex_skip.l0.succ, lex_skip.l0.s, dec_f (by omega)]
  simp only [cond_false, optK_some, sumK]
theorem take_all (s : List UInt8) : List.take s.length s = s := List.take_length
theorem skip_stay {s : List UInt8} {k : Nat} {c : UInt8} {r : List UInt8} (hd : s.drop k = c :: r) (hs : isSpc c = false) (h47 : c.toNat ≠ 47) {n : Nat} (hn : 0 < n) (out : List (List AVal)) :
    lex_skip n s (k : Int) out = some (.inr (k : Int)) := by
  obtain ⟨j, rfl⟩ : ∃ k, n = k + 1 := ⟨n - 1, by omega⟩
  obtain ⟨hb, hk, _⟩ := byteAt_drop hd
  have hb0 : byteAt (c :: r) 0 = (c.toNat : Int) := rfl
  have hp1 : List.isPrefixOf ([47, 47] : List UInt8) (c :: r) = false := by
    have : ((47 : UInt8) == c) = false := by
      cases h : ((47 : UInt8) == c) with
      | false => rfl
      | true => rw [← beq_iff_eq.1 h] at h47; exact absurd rfl h47
    simp [List.isPrefixOf, this]
  have hp2 : List.isPrefixOf ([47, 42] : List UInt8) (c :: r) = false := by
    have : ((47 : UInt8) == c) = false := by
      cases h : ((47 : UInt8) == c) with
      | false => rfl
      | true => rw [← beq_iff_eq.1 h] at h47; exact absurd rfl h47
    simp [List.isPrefixOf, this]
  unfold lex_skip lex_skip.k
  rw [lex_skip.l0.succ, lex_skip.l0.s, dec_t (by omega)]
  simp only [cond_true, take_all, Int.toNat_natCast, hd]
  rw [if_pos (by omega), if_pos (by simp)]
  simp only [ibyte, optK_some, hb0, spc_eq, hs, cond_false, hasPre, hp1, hp2, sumK]
def nameCh (c : UInt8) : Bool := isBeg c || isDig c
theorem name_loop {s : List UInt8} (hl : s.length ≤ 65536) (n : Nat) (at_ : Int) (out : List (List AVal)) : ∀ (l : List UInt8) (i j : Nat) (t : List UInt8), s.drop i = l ++ t → l.all nameCh = true → (∀ c r, t = c :: r → nameCh c = false) → l.length < j →
    lex_name.l0 n s at_ out j (i : Int) = some (((i + l.length : Nat) : Nat) : Int) := by
  intro l
  induction l with
  | nil =>
    intro i j t hd _ ht hj
    obtain ⟨j, rfl⟩ : ∃ k, j = k + 1 := ⟨j - 1, by omega⟩
    rw [lex_name.l0.succ, lex_name.l0.s]
    rw [List.nil_append] at hd
    cases t with
    | nil =>
      have : s.length ≤ i := by
        rcases Nat.lt_or_ge i s.length with h | h
        · rw [drop_at s i h] at hd; cases hd
        · exact h
      rw [dec_f (by omega)]
      rfl
    | cons c r =>
      obtain ⟨hb, hk, _⟩ := byteAt_drop hd
      have hc := ht c r rfl
      simp only [nameCh, Bool.or_eq_false_iff] at hc
      rw [dec_t (by omega)]
      simp only [cond_true, Int.toNat_natCast, hb]
      rw [if_pos (by omega), begins_eq, hc.1, optK_some]
      simp only [cond_false]
      rw [if_pos (by omega), digit_eq, hc.2, optK_some]
      rfl
  | cons c l ih =>
    intro i j t hd ha ht hj
    simp only [List.length_cons] at hj
    obtain ⟨j, rfl⟩ : ∃ k, j = k + 1 := ⟨j - 1, by omega⟩
    simp only [List.all_cons, Bool.and_eq_true] at ha
    rw [List.cons_append] at hd
    obtain ⟨hb, hk, hd'⟩ := byteAt_drop hd
    have hc := ha.1
    have hr := ih (i + 1) j t hd' ha.2 ht (by omega)
    have e : (i + (c :: l).length) = i + 1 + l.length := by simp; omega
    rw [e, ← hr, lex_name.l0.succ, lex_name.l0.s]
    rw [dec_t (by omega)]
    simp only [cond_true, Int.toNat_natCast, hb]
    rw [if_pos (by omega), begins_eq, optK_some]
    cases hbeg : isBeg c with
    | true => simp only [cond_true]; rw [w64 (by omega)]; rfl
    | false =>
      simp only [nameCh, hbeg, Bool.false_or] at hc
      simp only [cond_false]
      rw [if_pos (by omega), digit_eq, hc, optK_some]
      simp only [cond_true]; rw [w64 (by omega)]; rfl
def tok (kind at_ num : Int) (text : List UInt8) : List AVal := [.int .i64 kind, .int .i64 at_, .int .i64 num, .str text]
theorem put_some (a b c : Int) (t : List UInt8) (e : Int) (s : List UInt8) (at_ : Int) {out : List (List AVal)} (ho : out.length ≤ 1000000) : lex_put a b c t e s at_ out = some () := by
  unfold lex_put lex_put.k
  rw [if_pos (by simp only [Bool.true_and]; exact room_t (by simp; omega) (by omega))]
theorem name_all {s : List UInt8} (hl : s.length ≤ 65536) (ha : s.all nameCh = true) {n : Nat} (hn : 100000 < n) :
    lex_name n s 0 [] = some (if wordOf s = 2 then .inr () else .inl ((s.length : Int), [tok (if wordOf s = 1 then 2 else 1) 0 0 s])) := by
  have h1 := name_loop hl n 0 [] s 0 n [] (by simp) ha (fun _ _ h => by cases h) (by omega)
  unfold lex_name lex_name.k
  rw [show ((0 : Nat) : Int) = 0 from rfl, Nat.zero_add] at h1
  rw [h1, optK_some, if_pos (by omega), if_pos (by omega)]
  have e : List.drop (Int.toNat 0) (List.take (Int.toNat (s.length : Int)) s) = s := by
    rw [Int.toNat_natCast, List.take_length]; rfl
  simp only [e]
  rw [word_eq s hn, optK_some]
  by_cases w1 : wordOf s = 1
  · rw [beq_t w1, if_neg (by omega), if_pos w1]
    simp only [cond_true]
    rw [put_some _ _ _ _ _ _ _ (by simp)]
    rfl
  · rw [beq_f w1, if_neg w1]
    simp only [cond_false]
    by_cases w2 : wordOf s = 2
    · rw [beq_t w2, if_pos w2]
      rfl
    · rw [beq_f w2, if_neg w2]
      simp only [cond_false]
      rw [put_some _ _ _ _ _ _ _ (by simp)]
      rfl
theorem num_loop {s : List UInt8} (hl : s.length ≤ 65536) (n : Nat) (at_ : Int) (out : List (List AVal)) : ∀ (l : List UInt8) (i j acc : Nat), s.drop i = l → i ≤ s.length → l.all isDig = true → l.length < j → acc ≤ 9007199254740991 →
    ∃ r, lex_number.l0 n s at_ out j (acc : Int) (i : Int) = some r ∧ (if dv acc l ≤ 9007199254740991 then r = .inr (((dv acc l : Nat) : Int), ((s.length : Nat) : Int)) else ∃ x, r = .inl x) := by
  intro l
  induction l with
  | nil =>
    intro i j acc hd hi _ hj hacc
    obtain ⟨j, rfl⟩ : ∃ k, j = k + 1 := ⟨j - 1, by omega⟩
    have : s.length ≤ i := by
      rcases Nat.lt_or_ge i s.length with h | h
      · rw [drop_at s i h] at hd; cases hd
      · exact h
    obtain rfl : i = s.length := by omega
    refine ⟨.inr ((acc : Int), (s.length : Int)), ?_, ?_⟩
    · rw [lex_number.l0.succ, lex_number.l0.s, dec_f (by omega)]
      rfl
    · rw [if_pos (by exact hacc)]
      rfl
  | cons c l ih =>
    intro i j acc hd hi ha hj hacc
    simp only [List.length_cons] at hj
    obtain ⟨j, rfl⟩ : ∃ k, j = k + 1 := ⟨j - 1, by omega⟩
    simp only [List.all_cons, Bool.and_eq_true] at ha
    obtain ⟨hb, hk, hd'⟩ := byteAt_drop hd
    have hc := ha.1
    have hcd := hc
    simp only [isDig, Bool.and_eq_true, decide_eq_true_eq] at hcd
    rw [lex_number.l0.succ, lex_number.l0.s, dec_t (by omega)]
    simp only [cond_true, Int.toNat_natCast, hb]
    rw [if_pos (by omega), digit_eq, hc, optK_some]
    simp only [cond_true]
    rw [if_pos (by omega)]
    have e : IntKind.wrap .i64 (IntKind.wrap .i64 (10 * (acc : Int)) + IntKind.wrap .i64 (IntKind.wrap .u8 ((c.toNat : Int) - 48))) = ((acc * 10 + (c.toNat - 48) : Nat) : Int) := by
      rw [wu8 (by omega), w64 (x := (c.toNat : Int) - 48) (by omega), w64 (x := 10 * (acc : Int)) (by omega), w64 (by omega)]
      omega
    rw [e]
    have hdv : dv acc (c :: l) = dv (acc * 10 + (c.toNat - 48)) l := rfl
    have hge := dv_le l (acc * 10 + (c.toNat - 48))
    by_cases hbig : acc * 10 + (c.toNat - 48) ≤ 9007199254740991
    · obtain ⟨r, h1, h2⟩ := ih (i + 1) j (acc * 10 + (c.toNat - 48)) hd' (by omega) ha.2 (by omega) hbig
      refine ⟨r, ?_, by rw [hdv]; exact h2⟩
      rw [dec_f (by omega)]
      simp only [cond_false]
      rw [w64 (x := (i : Int) + 1) (by omega)]
      exact h1
    · refine ⟨.inl (((acc * 10 + (c.toNat - 48) : Nat) : Int), (i : Int)), ?_, ?_⟩
      · rw [dec_t (by omega)]
        simp only [cond_true]
        rfl
      · rw [if_neg (by rw [hdv]; omega)]
        exact ⟨_, rfl⟩
theorem number_all {s : List UInt8} (hl : s.length ≤ 65536) {c : UInt8} {r : List UInt8} (hs : s = c :: r) (ha : s.all isDig = true) {n : Nat} (hn : 100000 < n) :
    lex_number n s 0 [] = some (if dv 0 s ≤ 9007199254740991 ∧ ¬ (c.toNat = 48 ∧ 1 < s.length) then .inr ((s.length : Int), [tok 3 0 (dv 0 s : Nat) []]) else .inl ()) := by
  obtain ⟨x, h1, h2⟩ := num_loop hl n 0 [] s 0 n 0 (by simp) (by omega) ha (by omega) (by omega)
  have hb : byteAt s 0 = (c.toNat : Int) := by rw [hs]; rfl
  have hlen : 0 < s.length := by rw [hs]; simp
  unfold lex_number lex_number.k
  rw [show ((0 : Nat) : Int) = 0 from rfl] at h1
  rw [h1, optK_some]
  by_cases hd : dv 0 s ≤ 9007199254740991
  · rw [if_pos hd] at h2
    subst h2
    simp only [sumK]
    rw [if_pos (by omega)]
    simp only [Int.toNat_zero, hb]
    by_cases h48 : c.toNat = 48
    · rw [beq_t (by omega)]
      simp only [cond_true]
      by_cases h1 : 1 < s.length
      · rw [if_neg (c := dv 0 s ≤ 9007199254740991 ∧ ¬ (c.toNat = 48 ∧ 1 < s.length)) (fun h => h.2 ⟨h48, h1⟩), w64 (x := 0 + 1) (by omega), dec_t (by omega)]
        rfl
      · rw [if_pos (c := dv 0 s ≤ 9007199254740991 ∧ ¬ (c.toNat = 48 ∧ 1 < s.length)) ⟨hd, fun h => h1 h.2⟩, w64 (x := 0 + 1) (by omega), dec_f (by omega), dec_f (by omega)]
        simp only [cond_false]
        rw [put_some _ _ _ _ _ _ _ (by simp)]
        rfl
    · rw [beq_f (by omega), if_pos (c := dv 0 s ≤ 9007199254740991 ∧ ¬ (c.toNat = 48 ∧ 1 < s.length)) ⟨hd, fun h => h48 h.1⟩]
      simp only [cond_false]
      rw [dec_f (by omega)]
      simp only [cond_false]
      rw [put_some _ _ _ _ _ _ _ (by simp)]
      rfl
  · rw [if_neg hd] at h2
    obtain ⟨y, rfl⟩ := h2
    rw [if_neg (c := dv 0 s ≤ 9007199254740991 ∧ ¬ (c.toNat = 48 ∧ 1 < s.length)) (fun h => hd h.1)]
    rfl
theorem l1_end {s : List UInt8} (n j : Nat) (out : List (List AVal)) : lex_all0.l1 n s (j + 1) (s.length : Int) out = some (.inr ((s.length : Int), out)) := by
  rw [lex_all0.l1.succ, lex_all0.l1.s, dec_f (by omega)]
  rfl
def nameR (len : Int) : Int × List (List AVal) ⊕ Unit → Int × Int × List (List AVal) ⊕ Int × List (List AVal)
  | .inl p => .inr (len, p.2)
  | .inr _ => .inl (0, 0, [])
def numR (len : Int) : Unit ⊕ Int × List (List AVal) → Int × Int × List (List AVal) ⊕ Int × List (List AVal)
  | .inr p => .inr (len, p.2)
  | .inl _ => .inl (0, 0, [])
def tokR : Int × Int × List (List AVal) ⊕ Int × List (List AVal) → List (List AVal) × Int × Int
  | .inl p => ([], p.1, 2)
  | .inr p => (p.2 ++ [tok 0 p.1 0 []], 0, 0)
theorem l1_name {s : List UInt8} {c : UInt8} {r : List UInt8} (hs : s = c :: r) {n : Nat} (hn : 100000 < n) (hc : isBeg c = true) {t : Int × List (List AVal) ⊕ Unit} (ht : lex_name n s 0 [] = some t) (he : ∀ e o, t = .inl (e, o) → e = (s.length : Int)) (hl : s.length ≤ 65536) :
    lex_all0.l1 n s n 0 [] = some (nameR (s.length : Int) t) := by
  obtain ⟨j, rfl⟩ : ∃ k, n = k + 2 := ⟨n - 2, by omega⟩
  have hb : byteAt s 0 = (c.toNat : Int) := by rw [hs]; rfl
  have hlen : 0 < s.length := by rw [hs]; simp
  rw [lex_all0.l1.succ, lex_all0.l1.s, dec_t (by omega)]
  simp only [cond_true, Int.toNat_zero, hb]
  rw [if_pos (by omega), begins_eq, hc, optK_some]
  simp only [cond_true]
  rw [ht, optK_some]
  cases t with
  | inl p =>
    obtain ⟨e, o⟩ := p
    obtain rfl := he e o rfl
    simp only [sumK]
    rw [skip_end (by omega), optK_some]
    exact l1_end _ _ _
  | inr u => rfl
theorem l1_number {s : List UInt8} {c : UInt8} {r : List UInt8} (hs : s = c :: r) {n : Nat} (hn : 100000 < n) (hc : isBeg c = false) (hd : isDig c = true) {t : Unit ⊕ Int × List (List AVal)} (ht : lex_number n s 0 [] = some t) (he : ∀ e o, t = .inr (e, o) → e = (s.length : Int)) (hl : s.length ≤ 65536) :
    lex_all0.l1 n s n 0 [] = some (numR (s.length : Int) t) := by
  obtain ⟨j, rfl⟩ : ∃ k, n = k + 2 := ⟨n - 2, by omega⟩
  have hb : byteAt s 0 = (c.toNat : Int) := by rw [hs]; rfl
  have hlen : 0 < s.length := by rw [hs]; simp
  rw [lex_all0.l1.succ, lex_all0.l1.s, dec_t (by omega)]
  simp only [cond_true, Int.toNat_zero, hb]
  rw [if_pos (by omega), begins_eq, hc, optK_some]
  simp only [cond_false]
  rw [digit_eq, hd, optK_some]
  simp only [cond_true]
  rw [ht, optK_some]
  cases t with
  | inr p =>
    obtain ⟨e, o⟩ := p
    obtain rfl := he e o rfl
    simp only [sumK]
    rw [skip_end (by omega), optK_some]
    exact l1_end _ _ _
  | inl u => rfl
theorem l1_text {s : List UInt8} {c : UInt8} {r : List UInt8} (hs : s = c :: r) {n : Nat} (hn : 100000 < n) (hc : c.toNat = 34) {o : List (List AVal)} (ht : lex_text n s 0 [] = some (.inl ((s.length : Int), o))) (hl : s.length ≤ 65536) :
    lex_all0.l1 n s n 0 [] = some (.inr ((s.length : Int), o)) := by
  obtain ⟨j, rfl⟩ : ∃ k, n = k + 2 := ⟨n - 2, by omega⟩
  have hb : byteAt s 0 = (c.toNat : Int) := by rw [hs]; rfl
  have hlen : 0 < s.length := by rw [hs]; simp
  have h1 : isBeg c = false := by simp [isBeg, hc]
  have h2 : isDig c = false := by simp [isDig, hc]
  rw [lex_all0.l1.succ, lex_all0.l1.s, dec_t (by omega)]
  simp only [cond_true, Int.toNat_zero, hb]
  rw [if_pos (by omega), begins_eq, h1, optK_some]
  simp only [cond_false]
  rw [digit_eq, h2, optK_some]
  simp only [cond_false]
  rw [beq_t (by omega)]
  simp only [cond_true]
  rw [ht, optK_some]
  simp only [sumK]
  rw [skip_end (by omega), optK_some]
  exact l1_end _ _ _
theorem tokens_one {s : List UInt8} (ha : allAscii s = true) (hl : s.length ≤ 65536) {c : UInt8} {r : List UInt8} (hs : s = c :: r) (hsp : isSpc c = false) (h47 : c.toNat ≠ 47) {n : Nat} (hn : 100000 < n)
    {t : Int × Int × List (List AVal) ⊕ Int × List (List AVal)} (ht : lex_all0.l1 n s n 0 [] = some t) (ho : ∀ e o, t = .inr (e, o) → o.length ≤ 10) :
    lex_Tokens n (s.map byte) = some (tokR t) := by
  unfold lex_Tokens lex_Tokens.k
  rw [dec_f (by simp only [List.length_map]; omega), allByte_map, bytesL_map]
  simp only [cond_false, cond_true]
  unfold lex_all0 lex_all0.k
  rw [utf_loop ha hl n 0 [] s.length 0 n (Nat.sub_zero _) (Nat.zero_le _) (by omega), optK_some]
  simp only [sumK]
  have hsk := skip_stay (k := 0) (show s.drop 0 = c :: r from hs) hsp h47 (n := n) (by omega) []
  rw [show ((0 : Nat) : Int) = 0 from rfl] at hsk
  rw [hsk, optK_some]
  simp only [sumK]
  rw [ht, optK_some]
  cases t with
  | inl p => rfl
  | inr p =>
    obtain ⟨e, o⟩ := p
    simp only [sumK]
    rw [put_some _ _ _ _ _ _ _ (by have := ho e o rfl; omega)]
    rfl
theorem beg_spc0 : ∀ k : Fin 256, (isBeg (UInt8.ofNat k.val) || isDig (UInt8.ofNat k.val)) = true → isSpc (UInt8.ofNat k.val) = false ∧ (UInt8.ofNat k.val).toNat ≠ 47 ∧ (UInt8.ofNat k.val).toNat < 128 := by decide +kernel
theorem beg_spc {c : UInt8} (h : nameCh c = true) : isSpc c = false ∧ c.toNat ≠ 47 ∧ c.toNat < 128 := by
  have := beg_spc0 ⟨c.toNat, b_lt c⟩
  simp at this
  have h2 : isBeg c = true ∨ isDig c = true := by simpa [nameCh] using h
  exact this h2
theorem name_ascii {s : List UInt8} (h : s.all nameCh = true) : allAscii s = true := List.all_eq_true.2 fun c hc => decide_eq_true (beg_spc (List.all_eq_true.1 h c hc)).2.2
theorem tokens_name {s : List UInt8} (hl : s.length ≤ 65536) {c : UInt8} {r : List UInt8} (hs : s = c :: r) (hc : isBeg c = true) (ha : s.all nameCh = true) {n : Nat} (hn : 100000 < n) :
    lex_Tokens n (s.map byte) = some (if wordOf s = 2 then ([], 0, 2) else ([tok (if wordOf s = 1 then 2 else 1) 0 0 s, tok 0 (s.length : Int) 0 []], 0, 0)) := by
  have hsp := beg_spc (c := c) (by simp [nameCh, hc])
  have hna := name_all hl ha hn
  have h1 := l1_name hs hn hc hna (fun e o h => by
    split at h
    · cases h
    · injection h with h; injection h with h _; exact h.symm) hl
  rw [tokens_one (name_ascii ha) hl hs hsp.1 hsp.2.1 hn h1 (fun e o h => by
    by_cases w2 : wordOf s = 2
    · rw [if_pos w2] at h; cases h
    · rw [if_neg w2] at h
      injection h with h; injection h with _ h; rw [← h]; simp)]
  by_cases w2 : wordOf s = 2
  · rw [if_pos w2, if_pos w2]; rfl
  · rw [if_neg w2, if_neg w2]; rfl
theorem tokens_number {s : List UInt8} (hl : s.length ≤ 65536) {c : UInt8} {r : List UInt8} (hs : s = c :: r) (ha : s.all isDig = true) {n : Nat} (hn : 100000 < n) :
    lex_Tokens n (s.map byte) = some (if dv 0 s ≤ 9007199254740991 ∧ ¬ (c.toNat = 48 ∧ 1 < s.length) then ([tok 3 0 (dv 0 s : Nat) [], tok 0 (s.length : Int) 0 []], 0, 0) else ([], 0, 2)) := by
  have hcd : isDig c = true := by rw [hs] at ha; simp at ha; exact ha.1
  have hcb : isBeg c = false := by
    cases h : isBeg c with
    | false => rfl
    | true => rw [beg_dig h] at hcd; cases hcd
  have hnc : s.all nameCh = true := List.all_eq_true.2 fun x hx => by simp [nameCh, List.all_eq_true.1 ha x hx]
  have hsp := beg_spc (c := c) (by simp [nameCh, hcd])
  have hna := number_all hl hs ha hn
  have h1 := l1_number hs hn hcb hcd hna (fun e o h => by
    split at h
    · injection h with h; injection h with h _; exact h.symm
    · cases h) hl
  rw [tokens_one (name_ascii hnc) hl hs hsp.1 hsp.2.1 hn h1 (fun e o h => by
    by_cases w2 : dv 0 s ≤ 9007199254740991 ∧ ¬ (c.toNat = 48 ∧ 1 < s.length)
    · rw [if_pos w2] at h
      injection h with h; injection h with _ h; rw [← h]; simp
    · rw [if_neg w2] at h; cases h)]
  by_cases w2 : dv 0 s ≤ 9007199254740991 ∧ ¬ (c.toNat = 48 ∧ 1 < s.length)
  · rw [if_pos w2, if_pos w2]; rfl
  · rw [if_neg w2, if_neg w2]; rfl
end Go.Proofs.YtefenlmpbgdpnaaDoor.L
