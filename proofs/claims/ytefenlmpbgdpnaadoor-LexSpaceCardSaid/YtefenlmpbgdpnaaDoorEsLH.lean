/- Tokens anywhere in a program: names, numbers, signs. -/
import Derived.Test.YtefenlmpbgdpnaaDoorEsLG
namespace Go.Proofs.YtefenlmpbgdpnaaDoor.L
open Go.Abs Go.Uni Go.Plain Go.Deci
set_option maxRecDepth 100000
set_option maxHeartbeats 1000000
set_option linter.unusedVariables false
set_option linter.unusedSimpArgs false
def NoHead (p : UInt8 → Bool) (t : List UInt8) : Prop := ∀ c r, t = c :: r → p c = false
theorem drop_cut {s x t : List UInt8} {k : Nat} (h : s.drop k = x ++ t) (hk : k ≤ s.length) : k + x.length ≤ s.length ∧ List.drop k (List.take (k + x.length) s) = x ∧ s.drop (k + x.length) = t := by
  have hl := congrArg List.length h
  simp at hl
  refine ⟨by omega, ?_, ?_⟩
  · rw [List.drop_take, h]
    simp
  · rw [← List.drop_drop, h]
    exact List.drop_left
theorem name_gen {s : List UInt8} (hl : s.length ≤ 65536) {k : Nat} {x t : List UInt8} (hk : k ≤ s.length) (hd : s.drop k = x ++ t) (ha : x.all nameCh = true) (ht : NoHead nameCh t) {out : List (List AVal)} (ho : out.length ≤ 100000) {n : Nat} (hn : 100000 < n) :
    lex_name n s (k : Int) out = some (if wordOf x = 2 then .inr () else .inl (((k + x.length : Nat) : Int), out ++ [tok (if wordOf x = 1 then 2 else 1) k 0 x])) := by
  obtain ⟨c1, c2, c3⟩ := drop_cut hd hk
  have h1 := name_loop hl n k out x k n t hd ha ht (by omega)
  unfold lex_name lex_name.k
  rw [h1, optK_some, if_pos (by omega), if_pos (by simp only [Int.toNat_natCast]; omega)]
  simp only [Int.toNat_natCast, c2]
  rw [word_eq x hn, optK_some]
  by_cases w1 : wordOf x = 1
  · rw [beq_t w1, if_neg (by omega), if_pos w1]
    simp only [cond_true]
    rw [put_some _ _ _ _ _ _ _ (by omega)]
    rfl
  · rw [beq_f w1, if_neg w1]
    simp only [cond_false]
    by_cases w2 : wordOf x = 2
    · rw [beq_t w2, if_pos w2]
      rfl
    · rw [beq_f w2, if_neg w2]
      simp only [cond_false]
      rw [put_some _ _ _ _ _ _ _ (by omega)]
      rfl
theorem num_loop2 {s : List UInt8} (hl : s.length ≤ 65536) (n : Nat) (at_ : Int) (out : List (List AVal)) {t : List UInt8} (ht : NoHead isDig t) : ∀ (l : List UInt8) (i j acc : Nat), s.drop i = l ++ t → i ≤ s.length → l.all isDig = true → l.length < j → acc ≤ 9007199254740991 →
    ∃ r, lex_number.l0 n s at_ out j (acc : Int) (i : Int) = some r ∧ (if dv acc l ≤ 9007199254740991 then r = .inr (((dv acc l : Nat) : Int), ((i + l.length : Nat) : Int)) else ∃ x, r = .inl x) := by
  intro l
  induction l with
  | nil =>
    intro i j acc hd hi _ hj hacc
    obtain ⟨j, rfl⟩ : ∃ k, j = k + 1 := ⟨j - 1, by omega⟩
    refine ⟨.inr ((acc : Int), (i : Int)), ?_, ?_⟩
    · rw [List.nil_append] at hd
      rw [lex_number.l0.succ, lex_number.l0.s]
      cases t with
      | nil =>
        have hl2 := congrArg List.length hd
        simp at hl2
        rw [dec_f (by omega)]
        rfl
      | cons c r =>
        obtain ⟨hb, hk, _⟩ := byteAt_drop hd
        have hc := ht c r rfl
        rw [dec_t (by omega)]
        simp only [cond_true, Int.toNat_natCast, hb]
        rw [if_pos (by omega), digit_eq, hc, optK_some]
        rfl
    · rw [if_pos (by exact hacc)]
      rfl
  | cons c l ih =>
    intro i j acc hd hi ha hj hacc
    simp only [List.length_cons] at hj
    obtain ⟨j, rfl⟩ : ∃ k, j = k + 1 := ⟨j - 1, by omega⟩
    simp only [List.all_cons, Bool.and_eq_true] at ha
    rw [List.cons_append] at hd
    obtain ⟨hb, hk, hd'⟩ := byteAt_drop hd
    have hc := ha.1
    have hcd := hc
    simp only [isDig, Bool.and_eq_true, decide_eq_true_eq] at hcd
    rw [lex_number.l0.succ, lex_number.l0.s, dec_t (by omega)]
    simp only [cond_true, Int.toNat_natCast, hb]
    rw [if_pos (by omega), digit_eq, hc, optK_some]
    simp only [cond_true]
    rw [if_pos (by omega)]
    have e : IntKind.wrap .i64 (IntKind.wrap .i64 (10 * (acc : Int)) + IntKind.wrap .i64 (IntKind.wrap .u8 ((c.toNat : Int) - 48))) = ((acc * 10 + (c.toNat - 48) : Nat) : Int) := by
      rw [wu8 (by omega), w64 (x := (c.toNat : Int) - 48) (by omega), w64 (x := 10 * (acc : Int)) (by omega), w64 (by omega)]
      omega
    rw [e]
    have hdv : dv acc (c :: l) = dv (acc * 10 + (c.toNat - 48)) l := rfl
    have hge := dv_le l (acc * 10 + (c.toNat - 48))
    by_cases hbig : acc * 10 + (c.toNat - 48) ≤ 9007199254740991
    · obtain ⟨r, h1, h2⟩ := ih (i + 1) j (acc * 10 + (c.toNat - 48)) hd' (by omega) ha.2 (by omega) hbig
      refine ⟨r, ?_, ?_⟩
      · rw [dec_f (by omega)]
        simp only [cond_false]
        rw [w64 (x := (i : Int) + 1) (by omega)]
        exact h1
      · rw [hdv, List.length_cons, show i + (l.length + 1) = i + 1 + l.length by omega]
        exact h2
    · refine ⟨.inl (((acc * 10 + (c.toNat - 48) : Nat) : Int), (i : Int)), ?_, ?_⟩
      · rw [dec_t (by omega)]
        simp only [cond_true]
        rfl
      · rw [if_neg (by rw [hdv]; omega)]
        exact ⟨_, rfl⟩
def numOk (x t : List UInt8) : Prop := dv 0 x ≤ 9007199254740991 ∧ ¬ (x.head? = some 48 ∧ 1 < x.length) ∧ NoHead isBeg t
def numTail (s : List UInt8) (k e v : Nat) (out : List (List AVal)) : Option (Unit ⊕ Int × List (List AVal)) :=
  bif decide ((e : Int) < (s.length : Int)) then
    (if 0 ≤ (e : Int) ∧ (e : Int) < (s.length : Int) then
      optK (lex_begins (byteAt s (Int.toNat (e : Int)))) fun b_1 => bif b_1 then optK (lex_fail (k : Int)) fun b => some (.inl ())
        else optK (lex_put 3 0 (v : Int) [] (e : Int) s (k : Int) out) fun b_2 => some (.inr ((e : Int), List.append out [tok 3 k (v : Int) []]))
    else none)
  else optK (lex_put 3 0 (v : Int) [] (e : Int) s (k : Int) out) fun b_1 => some (.inr ((e : Int), List.append out [tok 3 k (v : Int) []]))
theorem number_gen {s : List UInt8} (hl : s.length ≤ 65536) {k : Nat} {x t : List UInt8} (hk : k ≤ s.length) (hd : s.drop k = x ++ t) (hx : x ≠ []) (ha : x.all isDig = true) (ht : NoHead isDig t) {out : List (List AVal)} (ho : out.length ≤ 100000) {n : Nat} (hn : 100000 < n) :
    (numOk x t ∧ lex_number n s (k : Int) out = some (.inr (((k + x.length : Nat) : Int), out ++ [tok 3 k (dv 0 x : Nat) []]))) ∨ (¬ numOk x t ∧ lex_number n s (k : Int) out = some (.inl ())) := by
  obtain ⟨c1, c2, c3⟩ := drop_cut hd hk
  obtain ⟨c, x', rfl⟩ : ∃ c x', x = c :: x' := by
    cases x with
    | nil => exact absurd rfl hx
    | cons c x' => exact ⟨c, x', rfl⟩
  obtain ⟨r, h1, h2⟩ := num_loop2 hl n k out ht (c :: x') k n 0 hd hk ha (by omega) (by omega)
  rw [List.cons_append] at hd
  obtain ⟨hb, hk', _⟩ := byteAt_drop hd
  rw [show ((0 : Nat) : Int) = 0 from rfl] at h1
  by_cases hdv : dv 0 (c :: x') ≤ 9007199254740991
  case neg =>
    right
    refine ⟨fun h => hdv h.1, ?_⟩
    rw [if_neg hdv] at h2
    obtain ⟨y, rfl⟩ := h2
    unfold lex_number lex_number.k
    rw [h1, optK_some]
    rfl
  rw [if_pos hdv] at h2
  subst h2
  have tail : (NoHead isBeg t ∧ numTail s k (k + (c :: x').length) (dv 0 (c :: x')) out = some (.inr (((k + (c :: x').length : Nat) : Int), out ++ [tok 3 k (dv 0 (c :: x') : Nat) []]))) ∨
      (¬ NoHead isBeg t ∧ numTail s k (k + (c :: x').length) (dv 0 (c :: x')) out = some (.inl ())) := by
    unfold numTail
    cases t with
    | nil =>
      left
      have hl2 := congrArg List.length c3
      simp only [List.length_drop, List.length_nil] at hl2
      refine ⟨fun c r h => (by cases h), ?_⟩
      rw [dec_f (by omega)]
      simp only [cond_false]
      rw [put_some _ _ _ _ _ _ _ (by omega)]
      rfl
    | cons d r =>
      obtain ⟨hb2, hk2, _⟩ := byteAt_drop c3
      cases hbeg : isBeg d with
      | true =>
        right
        refine ⟨fun h => (by rw [h d r rfl] at hbeg; cases hbeg), ?_⟩
        rw [dec_t (by omega)]
        simp only [cond_true, Int.toNat_natCast, hb2]
        rw [if_pos (by omega), begins_eq, hbeg, optK_some]
        rfl
      | false =>
        left
        refine ⟨fun d' r' h => by injection h with h _; rw [← h]; exact hbeg, ?_⟩
        rw [dec_t (by omega)]
        simp only [cond_true, Int.toNat_natCast, hb2]
        rw [if_pos (by omega), begins_eq, hbeg, optK_some]
        simp only [cond_false]
        rw [put_some _ _ _ _ _ _ _ (by omega)]
        rfl
  by_cases h48 : c.toNat = 48
  · have hc48 : c = 48 := by
      have : c = UInt8.ofNat c.toNat := by simp
      rw [this, h48]; rfl
    by_cases hlen : 1 < (c :: x').length
    · right
      refine ⟨fun h => h.2.1 ⟨by rw [hc48]; rfl, hlen⟩, ?_⟩
      unfold lex_number lex_number.k
      rw [h1, optK_some]
      simp only [sumK]
      rw [if_pos (by omega)]
      simp only [Int.toNat_natCast, hb]
      rw [beq_t (by omega)]
      simp only [cond_true]
      rw [w64 (x := (k : Int) + 1) (by omega), dec_t (by omega)]
      rfl
    · have hgo : lex_number n s (k : Int) out = numTail s k (k + (c :: x').length) (dv 0 (c :: x')) out := by
        unfold lex_number lex_number.k
        rw [h1, optK_some]
        simp only [sumK]
        rw [if_pos (by omega)]
        simp only [Int.toNat_natCast, hb]
        rw [beq_t (by omega)]
        simp only [cond_true]
        rw [w64 (x := (k : Int) + 1) (by omega), dec_f (by omega)]
        simp only [cond_false]
        rfl
      rcases tail with ⟨h3, h4⟩ | ⟨h3, h4⟩
      · left
        exact ⟨⟨hdv, fun h => hlen h.2, h3⟩, hgo.trans h4⟩
      · right
        exact ⟨fun h => h3 h.2.2, hgo.trans h4⟩
  · have hno : ¬ ((c :: x').head? = some 48 ∧ 1 < (c :: x').length) := fun h => by
      have := h.1
      simp at this
      rw [this] at h48
      exact h48 rfl
    have hgo : lex_number n s (k : Int) out = numTail s k (k + (c :: x').length) (dv 0 (c :: x')) out := by
      unfold lex_number lex_number.k
      rw [h1, optK_some]
      simp only [sumK]
      rw [if_pos (by omega)]
      simp only [Int.toNat_natCast, hb]
      rw [beq_f (by omega)]
      simp only [cond_false]
      rfl
    rcases tail with ⟨h3, h4⟩ | ⟨h3, h4⟩
    · left
      exact ⟨⟨hdv, hno, h3⟩, hgo.trans h4⟩
    · right
      exact ⟨fun h => h3 h.2.2, hgo.trans h4⟩
def sgn : List (List UInt8) := [[61, 61, 61], [33, 61, 61], [38, 38], [124, 124], [60, 61], [62, 61], [123], [125], [40], [41], [91], [93], [59], [44], [46], [63], [58], [61], [60], [62], [43], [45], [42], [47], [37], [33]]
theorem sign_k {X : Type} (n : Nat) (s : List UInt8) (at_ : Int) (out : List (List AVal)) (ret : Int × List (List AVal) ⊕ Unit → Option X) :
    lex_sign.k n s at_ out ret = optK (lex_sign.l0 n (sgn.map strRow) 26 s at_ out n 0) fun b => sumK b (fun b => ret (.inl (b.2.1, b.2.2))) fun b => optK (lex_fail at_) fun b => ret (.inr ()) := by kernel_rfl
theorem sign_loop {s : List UInt8} (hl : s.length ≤ 65536) (n : Nat) {k : Nat} (hk : k ≤ s.length) {out : List (List AVal)} (ho : out.length ≤ 100000) : ∀ (d i j : Nat), sgn.length - i = d → i ≤ sgn.length → d < j →
    ∃ r, lex_sign.l0 n (sgn.map strRow) 26 s (k : Int) out j (i : Int) = some r ∧ (match (sgn.drop i).find? (fun t => t.isPrefixOf (s.drop k)) with
      | some t => ∃ a, r = .inl (a, ((k + t.length : Nat) : Int), out ++ [tok 5 k 0 t])
      | none => ∃ a, r = .inr a) := by
  have h26 : sgn.length = 26 := rfl
  intro d
  induction d with
  | zero =>
    intro i j hd hi hj
    obtain ⟨j, rfl⟩ : ∃ k, j = k + 1 := ⟨j - 1, by omega⟩
    refine ⟨.inr (i : Int), ?_, ?_⟩
    · rw [lex_sign.l0.succ, lex_sign.l0.s, dec_f (by omega)]
      rfl
    · have hnil : List.drop i sgn = [] := List.drop_eq_nil_of_le (show sgn.length ≤ i by omega)
      rw [hnil]
      exact ⟨_, rfl⟩
  | succ d ih =>
    intro i j hd hi hj
    obtain ⟨j, rfl⟩ : ∃ k, j = k + 1 := ⟨j - 1, by omega⟩
    have hil : i < sgn.length := by omega
    have hn := nth_str sgn i hil
    have hlen : sgn[i].length ≤ 10 := by
      have : ∀ t ∈ sgn, t.length ≤ 10 := by decide
      exact this _ (List.getElem_mem hil)
    rw [lex_sign.l0.succ, lex_sign.l0.s, dec_t (by omega), List.drop_eq_getElem_cons hil, List.find?_cons]
    simp only [cond_true]
    rw [if_pos (by rw [List.length_map]; omega)]
    simp only [Int.toNat_natCast, hn, List.length_cons, List.length_nil, cell_one, isS, getS, take_all]
    rw [nbeq_t rfl]
    simp only [cond_true]
    rw [nble_t (by omega)]
    simp only [Bool.and_true, cond_true]
    rw [if_pos (by omega), hasPre, optK_some]
    cases hp : List.isPrefixOf sgn[i] (s.drop k) with
    | true =>
      simp only [cond_true]
      rw [put_some _ _ _ _ _ _ _ (by omega), optK_some]
      have hw : IntKind.wrap .i64 ((k : Int) + (sgn[i].length : Int)) = ((k + sgn[i].length : Nat) : Int) := by rw [w64 (by omega)]; rfl
      rw [hw]
      exact ⟨_, rfl, _, rfl⟩
    | false =>
      obtain ⟨r, h1, h2⟩ := ih (i + 1) j (by omega) (by omega) (by omega)
      refine ⟨r, ?_, h2⟩
      simp only [cond_false]
      rw [w64 (by omega)]
      exact h1
theorem sign_gen {s : List UInt8} (hl : s.length ≤ 65536) {k : Nat} (hk : k ≤ s.length) {out : List (List AVal)} (ho : out.length ≤ 100000) {n : Nat} (hn : 100000 < n) :
    lex_sign n s (k : Int) out = some (match sgn.find? (fun t => t.isPrefixOf (s.drop k)) with
      | some t => .inl (((k + t.length : Nat) : Int), out ++ [tok 5 k 0 t])
      | none => .inr ()) := by
  obtain ⟨r, h1, h2⟩ := sign_loop hl n hk ho _ 0 n rfl (by omega) (by have : sgn.length = 26 := rfl; omega)
  unfold lex_sign
  rw [sign_k]
  rw [show ((0 : Nat) : Int) = 0 from rfl] at h1
  rw [h1, optK_some]
  rw [List.drop_zero] at h2
  cases hf : sgn.find? (fun t => t.isPrefixOf (s.drop k)) with
  | some t =>
    rw [hf] at h2
    obtain ⟨a, rfl⟩ := h2
    rfl
  | none =>
    rw [hf] at h2
    obtain ⟨a, rfl⟩ := h2
    rfl
end Go.Proofs.YtefenlmpbgdpnaaDoor.L
