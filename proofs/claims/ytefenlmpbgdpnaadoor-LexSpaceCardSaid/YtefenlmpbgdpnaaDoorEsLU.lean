/- The lexer answers, whatever it is given. -/
import Derived.Test.YtefenlmpbgdpnaaDoorEsLN
import Derived.Test.YtefenlmpbgdpnaaDoorEsLS
namespace Go.Proofs.YtefenlmpbgdpnaaDoor.L
open Go.Abs Go.Uni Go.Plain Go.Deci
set_option maxRecDepth 100000
set_option maxHeartbeats 2000000
set_option linter.unusedVariables false
set_option linter.unusedSimpArgs false
theorem enc_le4 (z : Int) : (Lib.encodeRune z).length ≤ 4 := by
  simp only [Lib.encodeRune, Lib.encodeRuneZ, List.length_map]
  repeat' split
  all_goals simp
theorem mapGo_len (f : Int → Int) : ∀ (n : Nat) (l : List UInt8), (Lib.mapGoD f n l).length ≤ 4 * n
  | 0, _ => by simp [Lib.mapGoD]
  | n + 1, l => by
    unfold Lib.mapGoD
    split
    · simp
    · have := mapGo_len f n (l.drop (Lib.decodeL l).2)
      rw [List.length_append]
      split
      · have := enc_le4 (f (Lib.decodeL l).1); omega
      · simp only [List.length_nil]; omega
theorem lower_len (l : List UInt8) : (lowerS l).length ≤ 4 * l.length := mapGo_len _ _ _
theorem esc0_total (n : Nat) (v1 v4 v5 : Int) (l : List UInt8) (hl : l.length ≤ 1000) : ∀ (d i : Nat) (a : Int) (j : Nat), l.length - i = d → i ≤ l.length → d < j → ∃ y, lex_escape.l0 n v1 v4 v5 (l.map byte) (l.length : Int) j a (i : Int) = some y := by
  intro d
  induction d with
  | zero =>
    intro i a j hd hi hj
    obtain ⟨j, rfl⟩ : ∃ m, j = m + 1 := ⟨j - 1, by omega⟩
    rw [lex_escape.l0.succ, lex_escape.l0.s, dec_f (by omega)]
    exact ⟨_, rfl⟩
  | succ d ih =>
    intro i a j hd hi hj
    obtain ⟨j, rfl⟩ : ∃ m, j = m + 1 := ⟨j - 1, by omega⟩
    rw [lex_escape.l0.succ, lex_escape.l0.s, dec_t (by omega)]
    simp only [cond_true]
    rw [if_pos (by simp only [List.length_map]; omega)]
    have hn := nth_map byte l i (by omega)
    simp only [Int.toNat_natCast, hn, byte, List.length_cons, List.length_nil, cell_one, isI_int, getI_int, ibyte, optK_some]
    generalize byteIn [48, 49, 50, 51, 52, 53, 54, 55, 56, 57, 97, 98, 99, 100, 101, 102] _ = x
    by_cases c : x < 0
    · rw [dec_t c]
      exact ⟨_, rfl⟩
    · rw [dec_f c, w64 (x := (i : Int) + 1) (by omega)]
      exact ih (i + 1) _ j (by omega) (by omega) (by omega)
theorem five : ∀ k : Fin 256, byteIn [110, 116, 92, 34, 39] ((k.val : Nat) : Int) < 5 := by decide +kernel
theorem byteAt_lt (S : List UInt8) (i : Nat) : ∃ k : Fin 256, byteAt S i = ((k.val : Nat) : Int) := ⟨⟨(S.getD i 0).toNat, (S.getD i 0).toNat_lt⟩, rfl⟩
theorem u16_nat (x : Int) : ∃ X : Nat, IntKind.wrap .u16 x = (X : Int) ∧ X < 65536 := by
  have h0 : IntKind.wrap .u16 x = x % 65536 := by
    simp [IntKind.wrap, IntKind.signed, IntKind.bits]
  rw [h0]
  exact ⟨(x % 65536).toNat, by omega, by omega⟩
theorem uni_units (l : List Nat) : uni 1 (l.map unit) = true := by simp [uni, unit]
theorem encode_le (c : Int) : (Array.toList (Utf8.encode c).data).length ≤ 4 := by
  unfold Utf8.encode
  simp only
  generalize (if Utf8.valid c = true then c.toNat else Utf8.runeError) = k
  by_cases h1 : k < 128
  · simp [h1]
  by_cases h2 : k < 2048
  · simp [h1, h2]
  by_cases h3 : k < 65536
  · simp [h1, h2, h3]
  · simp [h1, h2, h3]
def EscAns (y : Int × Int ⊕ Unit) : Prop := ∀ x m, y = .inl (x, m) → ∃ X : Nat, x = (X : Int) ∧ X < 65536
theorem esc_total {s : List UInt8} (hl : s.length ≤ 65536) {n : Nat} (hn : 1000 < n) {i : Nat} (hi : i ≤ s.length) : ∃ y, lex_escape n s (i : Int) = some y ∧ EscAns y := by
  have bad : EscAns (.inr ()) := fun x m h => by cases h
  unfold lex_escape lex_escape.k
  simp only [take_all, Int.toNat_natCast]
  rw [if_pos (by omega)]
  have hl2 : (s.drop i).length ≤ 65536 := by rw [List.length_drop]; omega
  generalize s.drop i = S at hl2 ⊢
  by_cases c1 : (S.length : Int) > 1
  case neg =>
    rw [dec_f c1]
    simp only [cond_false]
    rw [dec_t (by omega)]
    exact ⟨_, rfl, bad⟩
  rw [dec_t c1]
  simp only [cond_true]
  rw [if_pos (by omega)]
  simp only [ibyte, optK_some]
  obtain ⟨k, hk⟩ := byteAt_lt S 1
  by_cases c2 : byteIn [110, 116, 92, 34, 39] (byteAt S 1) ≥ 0
  · rw [dec_t c2]
    simp only [cond_true]
    have h5 := five k
    rw [if_pos (by rw [hk] at c2 ⊢; exact ⟨c2, h5⟩)]
    refine ⟨_, rfl, fun x m h => ?_⟩
    injection h with h
    injection h with h _
    rw [← h]
    exact u16_nat _
  · rw [dec_f c2]
    simp only [cond_false]
    by_cases c3 : (S.length : Int) < 6
    · rw [dec_t c3]
      exact ⟨_, rfl, bad⟩
    rw [dec_f c3]
    simp only [cond_false]
    rw [if_pos (by omega)]
    by_cases c4 : byteAt S 1 = 117
    case neg =>
      rw [bne_t c4]
      exact ⟨_, rfl, bad⟩
    rw [bne_f c4]
    simp only [cond_false]
    rw [if_pos (by omega)]
    have hT : (List.drop 2 (List.take 6 S)).length ≤ 4 := by simp only [List.length_drop, List.length_take]; omega
    generalize List.drop 2 (List.take 6 S) = T at hT ⊢
    have hL := lower_len T
    rw [dec_t (by omega)]
    simp only [cond_true]
    rw [if_pos (decide_eq_true (by omega))]
    have hmap : (List.map (fun b : UInt8 => [AVal.int IntKind.u8 ((UInt8.toNat b : Nat) : Int)]) (lowerS T)) = (lowerS T).map byte := rfl
    rw [hmap, List.length_map]
    obtain ⟨y, hy⟩ := esc0_total n (i : Int) 0 0 (lowerS T) (by omega) (lowerS T).length 0 0 n (by omega) (by omega) (by omega)
    have hy' : lex_escape.l0 n (i : Int) 0 0 ((lowerS T).map byte) ((lowerS T).length : Int) n 0 0 = some y := hy
    rw [hy', optK_some]
    cases y with
    | inl y => exact ⟨_, rfl, bad⟩
    | inr y =>
      refine ⟨_, rfl, fun x m h => ?_⟩
      have h : (Sum.inl (IntKind.wrap .u16 y.1, 6) : Int × Int ⊕ Unit) = Sum.inl (x, m) := h
      injection h with h
      injection h with h _
      rw [← h]
      exact u16_nat _
theorem text_total {s : List UInt8} (hl : s.length ≤ 65536) {n : Nat} (hn : 2000000 < n) {q : Int} {k : Nat} (hk : k < s.length) {t : List UInt8} (ht : s.drop (k + 1) = t) {out : List (List AVal)} (ho : out.length ≤ 100000) (hq : q = 34 ∨ q = 39) :
    ∀ (d p j : Nat) (u : List Nat) (skip : Int), t.length - p ≤ d → Valid (t.drop p) → (∀ x ∈ u, x < 65536) → u.length ≤ 10000 → d < j → ∃ y, lex_text.l0 n q t s (k : Int) out j (u.map unit) skip p = some y := by
  have htl : t.length = s.length - (k + 1) := by rw [← ht]; simp
  intro d
  induction d with
  | zero =>
    intro p j u skip hd hv hu hul hj
    obtain ⟨j, rfl⟩ : ∃ m, j = m + 1 := ⟨j - 1, by omega⟩
    rw [lex_text.l0.succ, lex_text.l0.s, if_neg (by omega)]
    exact ⟨_, rfl⟩
  | succ d ih =>
    intro p j u skip hd hv hu hul hj
    obtain ⟨j, rfl⟩ : ∃ m, j = m + 1 := ⟨j - 1, by omega⟩
    by_cases hp : p < t.length
    case neg =>
      rw [lex_text.l0.succ, lex_text.l0.s, if_neg hp]
      exact ⟨_, rfl⟩
    have hne : t.drop p ≠ [] := by simp; exact hp
    obtain ⟨c, r0, h1, h2, h3, h4⟩ := valid_ne hv hne
    have hw := enc_len c
    have hdec : dec (t.drop p) = (c, (enc c).length) := by rw [h1]; exact dec_enc h2 h3 r0
    have hd2 : t.drop (p + (enc c).length) = r0 := by rw [← List.drop_drop, h1]; exact List.drop_left
    have hv2 : Valid (t.drop (p + (enc c).length)) := by rw [hd2]; exact h4
    rw [lex_text.l0.succ, lex_text.l0.s, if_pos hp]
    simp only [decode_eq t p hp, hdec]
    by_cases c1 : skip > 0
    · rw [dec_t c1, runeLen_enc h2 h3, optK_some]
      simp only [cond_true]
      exact ih _ _ _ _ (by omega) hv2 hu hul (by omega)
    rw [dec_f c1]
    simp only [cond_false]
    by_cases c2 : (c : Int) = q
    · rw [beq_t c2]
      simp only [cond_true]
      rw [text_eq hu (by omega) hn, optK_some, put_some _ _ _ _ _ _ _ (by omega), optK_some]
      exact ⟨_, rfl⟩
    rw [beq_f c2]
    simp only [cond_false]
    by_cases c3 : (c : Int) = 10
    · rw [beq_t c3]
      exact ⟨_, rfl⟩
    rw [beq_f c3]
    simp only [cond_false]
    by_cases c4 : (c : Int) = 13
    · rw [beq_t c4]
      exact ⟨_, rfl⟩
    rw [beq_f c4]
    simp only [cond_false]
    have hwp : IntKind.wrap .i64 (IntKind.wrap .i64 ((k : Int) + 1) + (p : Int)) = ((k + 1 + p : Nat) : Int) := by
      rw [w64 (x := (k : Int) + 1) (by omega), w64 (by omega)]
      omega
    by_cases c5 : (c : Int) = 92
    · rw [beq_t c5, hwp]
      simp only [cond_true]
      obtain ⟨y, hy, hy2⟩ := esc_total hl (n := n) (by omega) (i := k + 1 + p) (by omega)
      rw [hy, optK_some]
      cases y with
      | inr y => exact ⟨_, rfl⟩
      | inl y =>
        obtain ⟨x, m⟩ := y
        obtain ⟨X, rfl, hX⟩ := hy2 x m rfl
        simp only [sumK]
        rw [if_pos (room2 (by simp; omega))]
        have ea : List.append (u.map unit) [[AVal.int IntKind.u16 (X : Int)]] = (u ++ [X]).map unit := by rw [List.map_append]; rfl
        rw [ea]
        by_cases c7 : (((u ++ [X]).map unit).length : Int) > 10000
        · rw [dec_t c7]
          exact ⟨_, rfl⟩
        rw [dec_f c7]
        simp only [cond_false]
        simp only [List.length_map, List.length_append, List.length_cons, List.length_nil] at c7
        refine ih _ _ _ _ (by omega) hv2 (fun y hy => ?_) (by simp; omega) (by omega)
        rcases List.mem_append.1 hy with hy | hy
        · exact hu y hy
        · simp at hy; omega
    rw [beq_f c5]
    simp only [cond_false]
    have henc : (Array.toList (Utf8.encode (c : Int)).data).length ≤ 2000000 := by
      have := encode_le (c : Int); omega
    rw [of_eq henc hn, optK_some, if_pos (uni_units _)]
    have hul2 : (unitsOf (Array.toList (Utf8.encode (c : Int)).data)).length ≤ 4 := Nat.le_trans (units_len _) (encode_le _)
    rw [if_pos (room2 (by simp only [List.length_map]; omega))]
    have ea : List.append (u.map unit) ((unitsOf (Array.toList (Utf8.encode (c : Int)).data)).map unit) = (u ++ unitsOf (Array.toList (Utf8.encode (c : Int)).data)).map unit := by rw [List.map_append]; rfl
    rw [ea]
    by_cases c7 : (((u ++ unitsOf (Array.toList (Utf8.encode (c : Int)).data)).map unit).length : Int) > 10000
    · rw [dec_t c7]
      exact ⟨_, rfl⟩
    rw [dec_f c7]
    simp only [cond_false]
    simp only [List.length_map] at c7
    refine ih _ _ _ _ (by omega) hv2 (fun y hy => ?_) (by omega) (by omega)
    rcases List.mem_append.1 hy with hy | hy
    · exact hu y hy
    · exact units_lt _ y hy
theorem lexText_total {s : List UInt8} (hl : s.length ≤ 65536) {n k : Nat} (hn : 2000000 < n) {q : UInt8} {t : List UInt8} (hd : s.drop k = q :: t) (hq : q = 34 ∨ q = 39) (hv : Valid t) {out : List (List AVal)} (ho : out.length ≤ 100000) : ∃ y, lex_text n s (k : Int) out = some y := by
  obtain ⟨hb, hk, hd1⟩ := byteAt_drop hd
  rw [text_unf hl hd hq]
  have hqi : ((q.toNat : Nat) : Int) = 34 ∨ ((q.toNat : Nat) : Int) = 39 := by
    rcases hq with rfl | rfl
    · exact .inl rfl
    · exact .inr rfl
  obtain ⟨y, hy⟩ := text_total hl hn hk hd1 ho hqi t.length 0 n [] 0 (by omega) (by rw [List.drop_zero]; exact hv) (by simp) (by simp) (by
    have := congrArg List.length hd
    simp at this
    omega)
  have hy' : lex_text.l0 n ((q.toNat : Nat) : Int) t s (k : Int) out n [] 0 0 = some y := hy
  rw [hy', optK_some]
  rcases y with y | y | y
  · exact ⟨_, rfl⟩
  · exact ⟨_, rfl⟩
  · exact ⟨_, rfl⟩
theorem round_total {n : Nat} (hn : 2000000 < n) {s : List UInt8} (hl : s.length ≤ 65536) {k : Nat} {c : UInt8} {r0 : List UInt8} (hd : s.drop k = c :: r0) (hv : c.toNat < 128 → Valid (c :: r0)) {out : List (List AVal)} (ho : out.length ≤ 100000) (j : Nat) :
    (∃ y, lex_all0.l1 n s (j + 1) (k : Int) out = some (.inl y)) ∨ ∃ x r kd nm txt, c :: r0 = x ++ r ∧ TokC n x r kd nm txt := by
  obtain ⟨hb, hk, _⟩ := byteAt_drop hd
  rw [lex_all0.l1.succ, lex_all0.l1.s, dec_t (by omega)]
  simp only [cond_true]
  rw [if_pos (by omega)]
  simp only [Int.toNat_natCast, hb]
  rw [begins_eq, optK_some]
  cases h1 : isBeg c with
  | true =>
    obtain ⟨x, r, e, a1, a2⟩ := span_cut nameCh r0
    have hc : nameCh c = true := by unfold nameCh; rw [h1]; rfl
    have ha : (c :: x).all nameCh = true := by simp [hc, a1]
    have hname := name_gen hl (k := k) (by omega) (x := c :: x) (t := r) (by rw [hd, e]; rfl) ha a2 ho (n := n) (by omega)
    simp only [cond_true]
    by_cases w2 : wordOf (c :: x) = 2
    · left
      rw [hname, optK_some, if_pos w2]
      exact ⟨_, rfl⟩
    exact .inr ⟨c :: x, r, _, _, _, by rw [e]; rfl, .name c x r h1 ha a2 w2⟩
  | false =>
  simp only [cond_false]
  rw [digit_eq, optK_some]
  cases h2 : isDig c with
  | true =>
    obtain ⟨x, r, e, a1, a2⟩ := span_cut isDig r0
    have ha : (c :: x).all isDig = true := by simp [h2, a1]
    simp only [cond_true]
    rcases number_gen hl (k := k) (by omega) (x := c :: x) (t := r) (by rw [hd, e]; rfl) (by simp) ha a2 ho (n := n) (by omega) with ⟨hok, _⟩ | ⟨_, hnum⟩
    · exact .inr ⟨c :: x, r, _, _, _, by rw [e]; rfl, .num c x r h1 ha a2 hok⟩
    · left
      rw [hnum, optK_some]
      exact ⟨_, rfl⟩
  | false =>
  simp only [cond_false]
  have text : (c = 34 ∨ c = 39) → (∃ e o, lex_text n s (k : Int) out = some (.inl (e, o))) → ∃ x r kd nm txt, c :: r0 = x ++ r ∧ TokC n x r kd nm txt := by
    intro hq ⟨e0, o, ht⟩
    obtain ⟨L, txt, i1, i2, i3, i4, i5⟩ := text_gen hl hd hq (valid_tail (hv (quote_head c hq).2.2.2.2) (quote_head c hq).2.2.2.2) ho ht
    obtain ⟨L, rfl⟩ : ∃ i, L = i + 1 := ⟨L - 1, by omega⟩
    have hlen := congrArg List.length hd
    simp only [List.length_drop, List.length_cons] at hlen
    have hx : (c :: r0.take L).length = L + 1 := by simp; omega
    refine ⟨c :: r0.take L, r0.drop L, 4, 0, txt, by rw [List.cons_append, List.take_append_drop], .text c _ _ txt hq fun s' k' out' l1 l2 l3 => ?_⟩
    rw [hx] at l3 ⊢
    refine i5 s' k' out' l1 l2 ?_
    rw [l3, hd]
    rfl
  have text0 : (c = 34 ∨ c = 39) → ∃ y, lex_text n s (k : Int) out = some y := fun hq =>
    lexText_total hl hn hd hq (valid_tail (hv (quote_head c hq).2.2.2.2) (quote_head c hq).2.2.2.2) ho
  by_cases h3 : c.toNat = 34
  · have hc : c = 34 := UInt8.toNat_inj.1 h3
    rw [beq_t (by omega)]
    simp only [cond_true]
    obtain ⟨y, hy⟩ := text0 (.inl hc)
    cases y with
    | inl y => exact .inr (text (.inl hc) ⟨y.1, y.2, hy⟩)
    | inr y =>
      left
      rw [hy, optK_some]
      exact ⟨_, rfl⟩
  rw [beq_f (by omega)]
  simp only [cond_false]
  by_cases h4 : c.toNat = 39
  · have hc : c = 39 := UInt8.toNat_inj.1 h4
    rw [beq_t (by omega)]
    simp only [cond_true]
    obtain ⟨y, hy⟩ := text0 (.inr hc)
    cases y with
    | inl y => exact .inr (text (.inr hc) ⟨y.1, y.2, hy⟩)
    | inr y =>
      left
      rw [hy, optK_some]
      exact ⟨_, rfl⟩
  rw [beq_f (by omega)]
  simp only [cond_false]
  have hsign := sign_gen hl (k := k) (by omega) ho (n := n) (by omega)
  rw [hd] at hsign
  cases hf : sgn.find? (fun t => t.isPrefixOf (c :: r0)) with
  | none =>
    left
    rw [hf] at hsign
    rw [hsign, optK_some]
    exact ⟨_, rfl⟩
  | some t =>
    right
    have hp : t.isPrefixOf (c :: r0) = true := by
      have := List.find?_some hf
      simpa using this
    have hm := List.mem_of_find?_eq_some hf
    rw [List.isPrefixOf_iff_prefix] at hp
    obtain ⟨r, hr⟩ := hp
    cases t with
    | nil => exact absurd rfl (sgn_ne _ hm)
    | cons a t =>
      have hr' := hr
      injection hr' with e1 e2
      subst e1
      exact ⟨a :: t, r, 5, 0, a :: t, hr.symm, .sign a t r h1 h2 h3 h4 (by rw [hr]; exact hf)⟩
theorem run_total {n : Nat} (hn : 2000000 < n) {s : List UInt8} (hl : s.length ≤ 65536) (hv : Valid s) : ∀ (d k j : Nat) (out : List (List AVal)), s.length - k ≤ d → k ≤ s.length → (k = s.length ∨ Stop (s.drop k)) → out.length + d ≤ 100000 → d < j → ∃ y, lex_all0.l1 n s j (k : Int) out = some y ∧ (∀ e o, y = .inr (e, o) → o.length ≤ out.length + d) := by
  intro d
  induction d with
  | zero =>
    intro k j out hd hk hs ho hj
    obtain ⟨j, rfl⟩ : ∃ m, j = m + 1 := ⟨j - 1, by omega⟩
    obtain rfl : k = s.length := by omega
    exact ⟨_, l1_end n j out, fun e o h => by injection h with h; injection h with _ h; rw [← h]; omega⟩
  | succ d ih =>
    intro k j out hd hk hs ho hj
    obtain ⟨j, rfl⟩ : ∃ m, j = m + 1 := ⟨j - 1, by omega⟩
    rcases hs with rfl | ⟨c, r0, e, hc1, hc2, hc3⟩
    · exact ⟨_, l1_end n j out, fun e o h => by injection h with h; injection h with _ h; rw [← h]; omega⟩
    have hv' : c.toNat < 128 → Valid (c :: r0) := fun hc => (valid_cut hv (p := s.take k) (by rw [← e, List.take_append_drop]) hc).2
    rcases round_total hn hl e hv' (out := out) (by omega) j with ⟨y, hy⟩ | ⟨x, r, kd, nm, txt, e2, ht⟩
    · exact ⟨.inl y, hy, fun e o h => by cases h⟩
    have hd2 : s.drop k = x ++ r := by rw [e, e2]
    obtain ⟨c', x', hx⟩ := tok_ne ht
    have hxl : 1 ≤ x.length := by rw [hx]; simp
    obtain ⟨c1, _, c3⟩ := drop_cut hd2 hk
    rw [tok_round ht hl hd2 (by omega) (n := n) (by omega) j]
    unfold after
    rcases skip_inv hl n (out ++ [tok kd k nm txt]) (s.length - (k + x.length)) (k + x.length) n (by omega) c1 (by omega) with ⟨g, r', f1, f2, f3, f4⟩ | ⟨f1, f2⟩ | ⟨p, f⟩
    · rw [skip_of, f4, optK_some]
      obtain ⟨d1, _, d3⟩ := drop_cut f1 c1
      obtain ⟨y, hy, hy2⟩ := ih (k + x.length + g.length) j (out ++ [tok kd k nm txt]) (by omega) d1 (.inr (by rw [d3]; exact f3)) (by simp; omega) (by omega)
      refine ⟨y, hy, fun e o h => ?_⟩
      have := hy2 e o h
      simp at this
      omega
    · rw [skip_of, f2, optK_some]
      obtain ⟨y, hy, hy2⟩ := ih s.length j (out ++ [tok kd k nm txt]) (by omega) (Nat.le_refl _) (.inl rfl) (by simp; omega) (by omega)
      refine ⟨y, hy, fun e o h => ?_⟩
      have := hy2 e o h
      simp at this
      omega
    · rw [skip_of, f, optK_some]
      exact ⟨_, rfl, fun e o h => by cases h⟩
theorem look_total {s : List UInt8} (hl : s.length ≤ 65536) (n : Nat) (at_ : Int) (out : List (List AVal)) : ∀ (d p j : Nat), s.length - p ≤ d → d < j → ∃ y, lex_all0.l0 n s s at_ out j p = some y := by
  intro d
  induction d with
  | zero =>
    intro p j hd hj
    obtain ⟨j, rfl⟩ : ∃ m, j = m + 1 := ⟨j - 1, by omega⟩
    rw [lex_all0.l0.succ, lex_all0.l0.s, if_neg (by omega)]
    exact ⟨_, rfl⟩
  | succ d ih =>
    intro p j hd hj
    obtain ⟨j, rfl⟩ : ∃ m, j = m + 1 := ⟨j - 1, by omega⟩
    rw [lex_all0.l0.succ, lex_all0.l0.s]
    by_cases h : p < s.length
    case neg => rw [if_neg h]; exact ⟨_, rfl⟩
    have hne : s.drop p ≠ [] := by simp; exact h
    rw [if_pos h, if_pos (by omega)]
    simp only [decode_eq s p h, take_all, Int.toNat_natCast, decS_ne hne]
    have hpos : 1 ≤ (dec (s.drop p)).2 := by
      by_cases h0 : (pt (s.drop p)).2 = 0
      · rw [dec_bad h0]; exact Nat.le_refl _
      cases hh : isHalf (pt (s.drop p)).1 with
      | true => rw [dec_half hh]; exact Nat.le_refl _
      | false => rw [dec_plain h0 hh]; omega
    have go := ih (p + (dec (s.drop p)).2) j (by omega) (by omega)
    by_cases a : ((dec (s.drop p)).1 : Int) = 65533
    · rw [beq_t a]
      simp only [cond_true]
      by_cases b : ((dec (s.drop p)).2 : Int) = 1
      · rw [beq_t b]
        exact ⟨_, rfl⟩
      · rw [beq_f b]
        exact go
    · rw [beq_f a]
      exact go
theorem tokens_total {s : List UInt8} {n : Nat} (hn : 2000000 < n) : ∃ a at_ e, lex_Tokens n (s.map byte) = some (a, at_, e) := by
  unfold lex_Tokens lex_Tokens.k
  by_cases hl : s.length ≤ 65536
  case neg =>
    rw [dec_t (by simp only [List.length_map]; omega)]
    exact ⟨_, _, _, rfl⟩
  rw [dec_f (by simp only [List.length_map]; omega), allByte_map, bytesL_map]
  simp only [cond_false, cond_true]
  unfold lex_all0 lex_all0.k
  obtain ⟨y, h0⟩ := look_total hl n 0 [] s.length 0 n (by omega) (by omega)
  rw [h0, optK_some]
  cases y with
  | inl y => exact ⟨_, _, _, rfl⟩
  | inr y =>
  have hv : Valid s := by
    have := valid_look hl n 0 [] n 0 y h0
    rwa [List.drop_zero] at this
  simp only [sumK]
  rcases skip_inv hl n [] s.length 0 n (by omega) (Nat.zero_le _) (by omega) with ⟨g, r, f1, f2, f3, f4⟩ | ⟨f1, f2⟩ | ⟨p, f⟩
  · rw [skip_of, show (0 : Int) = ((0 : Nat) : Int) from rfl, f4, optK_some]
    simp only [sumK, optK_some, Nat.zero_add]
    rw [List.drop_zero] at f1
    have hd : s.drop g.length = r := by rw [f1]; exact List.drop_left
    have hgl : g.length ≤ s.length := by rw [f1]; simp
    obtain ⟨y, hy, hy2⟩ := run_total hn hl hv s.length g.length n [] (by omega) hgl (.inr (by rw [hd]; exact f3)) (by simp; omega) (by omega)
    rw [hy, optK_some]
    cases y with
    | inl y => exact ⟨_, _, _, rfl⟩
    | inr y =>
      simp only [sumK]
      have := hy2 y.1 y.2 rfl
      simp only [List.length_nil] at this
      rw [put_some _ _ _ _ _ _ _ (by omega)]
      exact ⟨_, _, _, rfl⟩
  · rw [skip_of, show (0 : Int) = ((0 : Nat) : Int) from rfl, f2, optK_some]
    simp only [sumK, optK_some]
    obtain ⟨y, hy, hy2⟩ := run_total hn hl hv 0 s.length n [] (by omega) (Nat.le_refl _) (.inl rfl) (by simp) (by omega)
    rw [hy, optK_some]
    cases y with
    | inl y => exact ⟨_, _, _, rfl⟩
    | inr y =>
      simp only [sumK]
      have := hy2 y.1 y.2 rfl
      simp only [List.length_nil] at this
      rw [put_some _ _ _ _ _ _ _ (by omega)]
      exact ⟨_, _, _, rfl⟩
  · rw [skip_of, show (0 : Int) = ((0 : Nat) : Int) from rfl, f, optK_some]
    exact ⟨_, _, _, rfl⟩
end Go.Proofs.YtefenlmpbgdpnaaDoor.L
