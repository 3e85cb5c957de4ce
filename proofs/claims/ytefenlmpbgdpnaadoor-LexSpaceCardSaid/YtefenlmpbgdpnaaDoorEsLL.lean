/- What a round that does not fail has read. -/
import Derived.Test.YtefenlmpbgdpnaaDoorEsLK
namespace Go.Proofs.YtefenlmpbgdpnaaDoor.L
open Go.Abs Go.Uni Go.Plain Go.Deci
set_option maxRecDepth 100000
set_option maxHeartbeats 1000000
set_option linter.unusedVariables false
set_option linter.unusedSimpArgs false
theorem span_cut (p : UInt8 → Bool) : ∀ l : List UInt8, ∃ x r, l = x ++ r ∧ x.all p = true ∧ NoHead p r
  | [] => ⟨[], [], rfl, rfl, fun c r h => by cases h⟩
  | a :: l => by
    cases hp : p a with
    | false => exact ⟨[], a :: l, rfl, rfl, fun c r h => by injection h with h _; rw [← h]; exact hp⟩
    | true =>
      obtain ⟨x, r, e, h1, h2⟩ := span_cut p l
      exact ⟨a :: x, r, by rw [e]; rfl, by simp [hp, h1], h2⟩
theorem enc_head {c : Nat} (hc : c ≤ 1114111) {a : UInt8} {r t : List UInt8} (h : a :: t = enc c ++ r) (ha : a.toNat < 128) : enc c = [a] := by
  have hb : ∀ y, 128 ≤ y → y < 256 → 128 ≤ (ob y).toNat := fun y h1 h2 => by rw [ob_toNat h2]; exact h1
  unfold enc at h ⊢
  by_cases h1 : c < 128
  · rw [if_pos h1] at h ⊢
    injection h with h _
    rw [h]
  rw [if_neg h1] at h ⊢
  by_cases h2 : c < 2048
  · rw [if_pos h2] at h
    injection h with h _
    have := hb (192 + c / 64) (by omega) (by omega)
    rw [← h] at this
    omega
  rw [if_neg h2] at h ⊢
  by_cases h3 : c < 65536
  · rw [if_pos h3] at h
    injection h with h _
    have := hb (224 + c / 4096) (by omega) (by omega)
    rw [← h] at this
    omega
  rw [if_neg h3] at h
  injection h with h _
  have := hb (240 + c / 262144) (by omega) (by omega)
  rw [← h] at this
  omega
theorem valid_tail {a : UInt8} {t : List UInt8} (h : Valid (a :: t)) (ha : a.toNat < 128) : Valid t := by
  obtain ⟨c, r, h1, h2, h3, h4⟩ := valid_ne h (by simp)
  have h5 := enc_head h2 h1 ha
  rw [h5] at h1
  injection h1 with _ h1
  rw [h1]
  exact h4
theorem inl_ne {A B : Type} {x : A} {y : B} {P : Prop} (h : (some (Sum.inl x) : Option (A ⊕ B)) = some (Sum.inr y)) : P := by cases h
theorem sgn_ne : ∀ t ∈ sgn, t ≠ [] := by decide
theorem round_inv {n : Nat} (hn : 100000 < n) {s : List UInt8} (hl : s.length ≤ 65536) {k : Nat} {c : UInt8} {r0 : List UInt8} (hd : s.drop k = c :: r0) (hv : c.toNat < 128 → Valid (c :: r0)) {out : List (List AVal)} (ho : out.length ≤ 100000) {j : Nat} {res : Int × List (List AVal)} (h : lex_all0.l1 n s (j + 1) (k : Int) out = some (.inr res)) :
    ∃ x r kd nm txt, c :: r0 = x ++ r ∧ TokC n x r kd nm txt := by
  obtain ⟨hb, hk, _⟩ := byteAt_drop hd
  rw [lex_all0.l1.succ, lex_all0.l1.s, dec_t (by omega)] at h
  simp only [cond_true] at h
  rw [if_pos (by omega)] at h
  simp only [Int.toNat_natCast, hb] at h
  rw [begins_eq, optK_some] at h
  cases h1 : isBeg c with
  | true =>
    obtain ⟨x, r, e, a1, a2⟩ := span_cut nameCh r0
    have hc : nameCh c = true := by unfold nameCh; rw [h1]; rfl
    have ha : (c :: x).all nameCh = true := by simp [hc, a1]
    have hname := name_gen hl (k := k) (by omega) (x := c :: x) (t := r) (by rw [hd, e]; rfl) ha a2 ho hn
    rw [h1] at h
    simp only [cond_true] at h
    rw [hname, optK_some] at h
    by_cases w2 : wordOf (c :: x) = 2
    · rw [if_pos w2] at h
      exact inl_ne (x := ((k : Int), (k : Int), out)) (y := res) h
    exact ⟨c :: x, r, _, _, _, by rw [e]; rfl, .name c x r h1 ha a2 w2⟩
  | false =>
  rw [h1] at h
  simp only [cond_false] at h
  rw [digit_eq, optK_some] at h
  cases h2 : isDig c with
  | true =>
    obtain ⟨x, r, e, a1, a2⟩ := span_cut isDig r0
    have ha : (c :: x).all isDig = true := by simp [h2, a1]
    rw [h2] at h
    simp only [cond_true] at h
    rcases number_gen hl (k := k) (by omega) (x := c :: x) (t := r) (by rw [hd, e]; rfl) (by simp) ha a2 ho hn with ⟨hok, _⟩ | ⟨_, hnum⟩
    · exact ⟨c :: x, r, _, _, _, by rw [e]; rfl, .num c x r h1 ha a2 hok⟩
    · rw [hnum, optK_some] at h
      exact inl_ne (x := ((k : Int), (k : Int), out)) (y := res) h
  | false =>
  rw [h2] at h
  simp only [cond_false] at h
  have text : (c = 34 ∨ c = 39) → (∃ e o, lex_text n s (k : Int) out = some (.inl (e, o))) → ∃ x r kd nm txt, c :: r0 = x ++ r ∧ TokC n x r kd nm txt := by
    intro hq ⟨e0, o, ht⟩
    obtain ⟨L, txt, i1, i2, i3, i4, i5⟩ := text_gen hl hd hq (valid_tail (hv (quote_head c hq).2.2.2.2) (quote_head c hq).2.2.2.2) ho ht
    obtain ⟨L, rfl⟩ : ∃ i, L = i + 1 := ⟨L - 1, by omega⟩
    have hlen := congrArg List.length hd
    simp only [List.length_drop, List.length_cons] at hlen
    have hx : (c :: r0.take L).length = L + 1 := by simp; omega
    refine ⟨c :: r0.take L, r0.drop L, 4, 0, txt, by rw [List.cons_append, List.take_append_drop], .text c _ _ txt hq fun s' k' out' l1 l2 l3 => ?_⟩
    rw [hx] at l3 ⊢
    refine i5 s' k' out' l1 l2 ?_
    rw [l3, hd]
    rfl
  by_cases h3 : c.toNat = 34
  · have hc : c = 34 := UInt8.toNat_inj.1 h3
    rw [beq_t (by omega)] at h
    simp only [cond_true] at h
    cases ht : lex_text n s (k : Int) out with
    | none => rw [ht] at h; cases h
    | some y =>
      cases y with
      | inl y => exact text (.inl hc) ⟨y.1, y.2, ht⟩
      | inr y =>
        rw [ht, optK_some] at h
        exact inl_ne (x := (y, (k : Int), out)) (y := res) h
  rw [beq_f (by omega)] at h
  simp only [cond_false] at h
  by_cases h4 : c.toNat = 39
  · have hc : c = 39 := UInt8.toNat_inj.1 h4
    rw [beq_t (by omega)] at h
    simp only [cond_true] at h
    cases ht : lex_text n s (k : Int) out with
    | none => rw [ht] at h; cases h
    | some y =>
      cases y with
      | inl y => exact text (.inr hc) ⟨y.1, y.2, ht⟩
      | inr y =>
        rw [ht, optK_some] at h
        exact inl_ne (x := (y, (k : Int), out)) (y := res) h
  rw [beq_f (by omega)] at h
  simp only [cond_false] at h
  have hsign := sign_gen hl (k := k) (by omega) ho hn
  rw [hd] at hsign
  cases hf : sgn.find? (fun t => t.isPrefixOf (c :: r0)) with
  | none =>
    rw [hf] at hsign
    rw [hsign, optK_some] at h
    exact inl_ne (x := ((k : Int), (k : Int), out)) (y := res) h
  | some t =>
    have hp : t.isPrefixOf (c :: r0) = true := by
      have := List.find?_some hf
      simpa using this
    have hm := List.mem_of_find?_eq_some hf
    rw [List.isPrefixOf_iff_prefix] at hp
    obtain ⟨r, hr⟩ := hp
    cases t with
    | nil => exact absurd rfl (sgn_ne _ hm)
    | cons a t =>
      have hr' := hr
      injection hr' with e1 e2
      subst e1
      exact ⟨a :: t, r, 5, 0, a :: t, hr.symm, .sign a t r h1 h2 h3 h4 (by rw [hr]; exact hf)⟩
end Go.Proofs.YtefenlmpbgdpnaaDoor.L
