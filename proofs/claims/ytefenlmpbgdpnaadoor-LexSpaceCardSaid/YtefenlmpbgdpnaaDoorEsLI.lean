/- Texts that Go's decoder takes, and text tokens anywhere in a program. -/
import Derived.Test.YtefenlmpbgdpnaaDoorEsLH
namespace Go.Proofs.YtefenlmpbgdpnaaDoor.L
open Go.Abs Go.Uni Go.Plain Go.Deci
set_option maxRecDepth 100000
set_option maxHeartbeats 1000000
set_option linter.unusedVariables false
set_option linter.unusedSimpArgs false
inductive Valid : List UInt8 → Prop
  | nil : Valid []
  | cons (c : Nat) (l : List UInt8) : c ≤ 1114111 → isHalf c = false → Valid l → Valid (enc c ++ l)
theorem valid_ne {l : List UInt8} (h : Valid l) (hl : l ≠ []) : ∃ c r, l = enc c ++ r ∧ c ≤ 1114111 ∧ isHalf c = false ∧ Valid r := by
  cases h with
  | nil => exact absurd rfl hl
  | cons c r h1 h2 h3 => exact ⟨c, r, rfl, h1, h2, h3⟩
theorem dec_enc {c : Nat} (h1 : c ≤ 1114111) (h2 : isHalf c = false) (r : List UInt8) : dec (enc c ++ r) = (c, (enc c).length) := by
  have hp := pt_enc h1 r
  have := (enc_len c).1
  unfold dec
  rw [hp]
  simp only [h2, Bool.or_false, decide_eq_true_eq]
  rw [if_neg (by omega)]
theorem Valid.append {a b : List UInt8} (ha : Valid a) (hb : Valid b) : Valid (a ++ b) := by
  induction ha with
  | nil => exact hb
  | cons c l h1 h2 _ ih =>
    rw [List.append_assoc]
    exact .cons c _ h1 h2 ih
theorem enc_ascii {c : UInt8} (h : c.toNat < 128) : enc c.toNat = [c] := by
  unfold enc
  rw [if_pos h]
  simp [ob]
theorem half_small {c : Nat} (h : c < 128) : isHalf c = false := by
  unfold isHalf
  simp
  omega
theorem Valid.ascii {c : UInt8} {l : List UInt8} (h : c.toNat < 128) (hl : Valid l) : Valid (c :: l) := by
  have := Valid.cons c.toNat l (by omega) (half_small h) hl
  rw [enc_ascii h] at this
  exact this
theorem valid_ascii : ∀ {l : List UInt8}, (∀ c ∈ l, c.toNat < 128) → Valid l
  | [], _ => .nil
  | c :: l, h => .ascii (h c (List.mem_cons_self ..)) (valid_ascii fun x hx => h x (List.mem_cons_of_mem _ hx))
theorem enc_tail (c : Nat) : ∀ x ∈ (enc c).tail, 128 ≤ x.toNat := by
  have hb : ∀ y, 128 ≤ (ob (128 + y % 64)).toNat := fun y => by
    rw [ob_toNat (by omega)]; omega
  intro x hx
  unfold enc at hx
  repeat' split at hx
  all_goals simp only [List.tail_cons, List.mem_cons, List.not_mem_nil, or_false] at hx
  · rw [hx]; exact hb _
  · rcases hx with rfl | rfl
    · exact hb _
    · exact hb _
  · rcases hx with rfl | rfl | rfl
    · exact hb _
    · exact hb _
    · exact hb _
theorem valid_cut {l : List UInt8} (h : Valid l) : ∀ {p : List UInt8} {c : UInt8} {q : List UInt8}, l = p ++ c :: q → c.toNat < 128 → Valid p ∧ Valid (c :: q) := by
  induction h with
  | nil => intro p c q h; simp at h
  | cons d l h1 h2 h3 ih =>
    intro p c q h hc
    cases p with
    | nil =>
      refine ⟨.nil, ?_⟩
      rw [List.nil_append] at h
      rw [← h]
      exact .cons d l h1 h2 h3
    | cons a p =>
      rcases List.append_eq_append_iff.1 h with ⟨x, e1, e2⟩ | ⟨x, e1, e2⟩
      · obtain ⟨i1, i2⟩ := ih e2 hc
        rw [e1]
        exact ⟨.cons d x h1 h2 i1, i2⟩
      · cases x with
        | nil =>
          rw [List.append_nil] at e1
          rw [List.nil_append] at e2
          rw [← e1, e2]
          refine ⟨?_, h3⟩
          have := Valid.cons d [] h1 h2 .nil
          rwa [List.append_nil] at this
        | cons y x =>
          injection e2 with e2 e3
          have hm : c ∈ (enc d).tail := by
            rw [e1, e2]
            simp
          have := enc_tail d c hm
          omega
theorem runeLen_enc {c : Nat} (h1 : c ≤ 1114111) (h2 : isHalf c = false) : utf8_RuneLen (c : Int) = some ((enc c).length : Int) := by
  simp only [isHalf, Bool.and_eq_false_iff, decide_eq_false_iff_not] at h2
  unfold utf8_RuneLen utf8_RuneLen.k enc
  rw [dec_f (by omega)]
  simp only [cond_false]
  by_cases a1 : c < 128
  · rw [dec_t (by omega), if_pos a1]; rfl
  rw [dec_f (by omega), if_neg a1]
  simp only [cond_false]
  by_cases a2 : c < 2048
  · rw [dec_t (by omega), if_pos a2]; rfl
  rw [dec_f (by omega), if_neg a2]
  simp only [cond_false]
  by_cases a3 : c < 65536
  · rw [if_pos a3]
    by_cases a4 : 55296 ≤ c
    · rw [dec_t (by omega)]
      simp only [cond_true]
      rw [dec_f (by omega)]
      simp only [cond_false]
      rw [dec_t (by omega)]; rfl
    · rw [dec_f (by omega)]
      simp only [cond_false]
      rw [dec_t (by omega)]; rfl
  · rw [if_neg a3, dec_t (by omega)]
    simp only [cond_true]
    rw [dec_f (by omega)]
    simp only [cond_false]
    rw [dec_f (by omega)]
    simp only [cond_false]
    rw [dec_t (by omega)]; rfl
theorem look_valid {s : List UInt8} (hl : s.length ≤ 65536) (n : Nat) (at_ : Int) (out : List (List AVal)) : ∀ (d p j : Nat), s.length - p = d → p ≤ s.length → Valid (s.drop p) → d < j →
    lex_all0.l0 n s s at_ out j p = some (.inr s.length) := by
  intro d
  induction d using Nat.strongRecOn with
  | ind d ih =>
    intro p j hd hp hv hj
    obtain ⟨j, rfl⟩ : ∃ k, j = k + 1 := ⟨j - 1, by omega⟩
    rw [lex_all0.l0.succ, lex_all0.l0.s]
    by_cases h : p < s.length
    · have hne : s.drop p ≠ [] := by simp; exact h
      obtain ⟨c, r, h1, h2, h3, h4⟩ := valid_ne hv hne
      have hdec : dec (s.drop p) = (c, (enc c).length) := by rw [h1]; exact dec_enc h2 h3 r
      have hlen := congrArg List.length h1
      simp only [List.length_drop, List.length_append] at hlen
      have hpos := (enc_len c).1
      have hd2 : s.drop (p + (enc c).length) = r := by rw [← List.drop_drop, h1]; exact List.drop_left
      have go := ih (s.length - (p + (enc c).length)) (by omega) (p + (enc c).length) j rfl (by omega) (by rw [hd2]; exact h4) (by omega)
      rw [if_pos h, if_pos (by omega)]
      simp only [decode_eq s p h, take_all, Int.toNat_natCast, hdec, decS_ne hne]
      by_cases a : c = 65533
      · subst a
        rw [beq_t (by omega)]
        simp only [cond_true]
        rw [beq_f (show ¬ (((enc 65533).length : Nat) : Int) = 1 by decide)]
        simp only [cond_false]
        exact go
      · rw [beq_f (by omega)]
        simp only [cond_false]
        exact go
    · rw [if_neg h]
      have : p = s.length := by omega
      rw [this]
theorem fail_ne {A B : Type} (x : Int) (y : A) (q : B) : (optK (lex_fail x) fun _ => some (Sum.inl y)) ≠ some (Sum.inr q) := fun h => by
  have h' : (some (Sum.inl y) : Option (A ⊕ B)) = some (Sum.inr q) := h
  cases h'
theorem valid_look {s : List UInt8} (hl : s.length ≤ 65536) (n : Nat) (at_ : Int) (out : List (List AVal)) : ∀ (j p : Nat) (q : Nat), lex_all0.l0 n s s at_ out j p = some (.inr q) → Valid (s.drop p) := by
  intro j
  induction j with
  | zero => intro p q h; rw [lex_all0.l0.zero] at h; cases h
  | succ j ih =>
    intro p q hq
    rw [lex_all0.l0.succ, lex_all0.l0.s] at hq
    by_cases h : p < s.length
    · have hne : s.drop p ≠ [] := by simp; exact h
      rw [if_pos h, if_pos (by omega)] at hq
      simp only [decode_eq s p h, take_all, Int.toNat_natCast, decS_ne hne] at hq
      by_cases h0 : (pt (s.drop p)).2 = 0
      · rw [dec_bad h0] at hq
        exact (fail_ne (p : Int) ((p : Int), p + 1) q hq).elim
      cases hh : isHalf (pt (s.drop p)).1 with
      | true =>
        rw [dec_half hh] at hq
        exact (fail_ne (p : Int) ((p : Int), p + 1) q hq).elim
      | false =>
        rw [dec_plain h0 hh] at hq
        obtain ⟨e1, e2⟩ := enc_pt h0
        have hlt := pt_lt (s.drop p)
        have hv : Valid (s.drop (p + (pt (s.drop p)).2)) := by
          by_cases a : (pt (s.drop p)).1 = 65533
          · rw [beq_t (by omega), plain_3 a h0] at hq
            rw [plain_3 a h0]
            exact ih _ _ hq
          · rw [beq_f (by omega)] at hq
            exact ih _ _ hq
        rw [e1, List.drop_drop]
        exact .cons _ _ hlt hh hv
    · rw [List.drop_eq_nil_of_le (by omega)]
      exact .nil
theorem esc0_sim (n : Nat) (v1 v1' v4 v5 : Int) (l : List (List AVal)) (v40 : Int) : ∀ (j : Nat) (a i : Int) (y : Int × Int), lex_escape.l0 n v1 v4 v5 l v40 j a i = some (.inr y) → lex_escape.l0 n v1' v4 v5 l v40 j a i = some (.inr y) := by
  intro j
  induction j with
  | zero => intro a i y h; rw [lex_escape.l0.zero] at h; cases h
  | succ j ih =>
    intro a i y h
    rw [lex_escape.l0.succ, lex_escape.l0.s] at h ⊢
    by_cases c1 : i < v40
    case neg =>
      rw [dec_f c1] at h ⊢
      exact h
    rw [dec_t c1] at h ⊢
    simp only [cond_true] at h ⊢
    by_cases c2 : 0 ≤ i ∧ i < (l.length : Int)
    case neg => rw [if_neg c2] at h; cases h
    rw [if_pos c2] at h ⊢
    generalize nthL l i.toNat = cl at h ⊢
    cases e1 : Nat.beq cl.length 1 with
    | false => rw [e1] at h; cases h
    | true =>
    cases e2 : (Nat.ble 1 cl.length && true) with
    | false => rw [e1, e2] at h; cases h
    | true =>
    cases e3 : isI IntKind.u8 (cellAt cl 0) with
    | false => rw [e1, e2, e3] at h; cases h
    | true =>
    rw [e1, e2, e3] at h
    simp only [cond_true, ibyte, optK_some] at h ⊢
    generalize byteIn [48, 49, 50, 51, 52, 53, 54, 55, 56, 57, 97, 98, 99, 100, 101, 102] (getI (cellAt cl 0)) = x at h ⊢
    by_cases c3 : x < 0
    · rw [dec_t c3] at h
      exact (fail_ne v1 (a, i) y h).elim
    · rw [dec_f c3] at h ⊢
      exact ih _ _ y h
theorem two_take {S S' : List UInt8} {m : Nat} (hm : 2 ≤ m) (h : S'.take m = S.take m) (h1 : 1 < S.length) : byteAt S' 1 = byteAt S 1 ∧ 1 < S'.length := by
  have hl := congrArg List.length h
  simp only [List.length_take] at hl
  have h2 : 1 < S'.length := by omega
  have hg := congrArg (fun l => l[1]?) h
  simp only [List.getElem?_take] at hg
  rw [if_pos (by omega), if_pos (by omega)] at hg
  refine ⟨?_, h2⟩
  unfold byteAt
  rw [List.getD_eq_getElem?_getD, List.getD_eq_getElem?_getD, hg]
theorem esc_sim {s s' : List UInt8} (hl : s.length ≤ 65536) (hl' : s'.length ≤ 65536) (n : Nat) {i i' : Nat} (hi : i ≤ s.length) (hi' : i' ≤ s'.length) {x m : Int} (h : lex_escape n s (i : Int) = some (.inl (x, m))) :
    ∃ M : Nat, m = (M : Int) ∧ (M = 2 ∨ M = 6) ∧ M ≤ (s.drop i).length ∧ ((s'.drop i').take M = (s.drop i).take M → lex_escape n s' (i' : Int) = some (.inl (x, m))) := by
  unfold lex_escape lex_escape.k at h ⊢
  simp only [take_all, Int.toNat_natCast] at h ⊢
  rw [if_pos (by omega)] at h ⊢
  have hl2 : (s.drop i).length ≤ 65536 := by rw [List.length_drop]; omega
  have hl2' : (s'.drop i').length ≤ 65536 := by rw [List.length_drop]; omega
  generalize s.drop i = S at h hl2 ⊢
  generalize s'.drop i' = S' at hl2' ⊢
  by_cases c1 : (S.length : Int) > 1
  case neg =>
    rw [dec_f c1] at h
    simp only [cond_false] at h
    rw [dec_t (by omega)] at h
    cases (show some (Sum.inr ()) = some (Sum.inl (x, m)) from h)
  have hS : 1 < S.length := by omega
  rw [dec_t c1] at h
  simp only [cond_true] at h
  rw [if_pos (by omega)] at h
  simp only [ibyte, optK_some] at h
  by_cases c2 : byteIn [110, 116, 92, 34, 39] (byteAt S 1) ≥ 0
  · rw [dec_t c2] at h
    simp only [cond_true] at h
    split at h
    case isFalse => cases h
    case isTrue c3 =>
      injection h with h
      injection h with h
      injection h with h1 h2
      refine ⟨2, h2.symm, .inl rfl, by omega, fun ht => ?_⟩
      obtain ⟨e1, e2⟩ := two_take (by omega) ht hS
      rw [dec_t (by omega)]
      simp only [cond_true]
      rw [if_pos (by omega)]
      simp only [ibyte, optK_some, e1]
      rw [dec_t c2]
      simp only [cond_true]
      rw [if_pos c3, h1, h2]
  · rw [dec_f c2] at h
    simp only [cond_false] at h
    by_cases c3 : (S.length : Int) < 6
    · rw [dec_t c3] at h
      cases (show some (Sum.inr ()) = some (Sum.inl (x, m)) from h)
    rw [dec_f c3] at h
    simp only [cond_false] at h
    rw [if_pos (by omega)] at h
    by_cases c4 : byteAt S 1 = 117
    case neg =>
      rw [bne_t c4] at h
      cases (show some (Sum.inr ()) = some (Sum.inl (x, m)) from h)
    rw [bne_f c4] at h
    simp only [cond_false] at h
    rw [if_pos (by omega)] at h
    generalize hT : List.take 6 S = T at h
    cases c5 : decide ((List.drop 2 T).length < 35184372088832) with
    | false => rw [c5] at h; cases h
    | true =>
    rw [c5] at h
    simp only [cond_true] at h
    by_cases c6 : decide ((lowerS (List.drop 2 T)).length ≤ 140737488355328) = true
    case neg => rw [if_neg c6] at h; cases h
    rw [if_pos c6] at h
    cases hr : lex_escape.l0 n (i : Int) 0 0 (List.map (fun b : UInt8 => [AVal.int IntKind.u8 ((UInt8.toNat b : Nat) : Int)]) (lowerS (List.drop 2 T))) (((List.map (fun b : UInt8 => [AVal.int IntKind.u8 ((UInt8.toNat b : Nat) : Int)]) (lowerS (List.drop 2 T))).length : Nat) : Int) n 0 0 with
    | none => rw [hr] at h; cases h
    | some r =>
      rw [hr, optK_some] at h
      cases r with
      | inl y => cases (show some (Sum.inr ()) = some (Sum.inl (x, m)) from h)
      | inr y =>
        have h : some (Sum.inl (IntKind.wrap .u16 y.1, 6)) = (some (Sum.inl (x, m)) : Option ((Int × Int) ⊕ Unit)) := h
        injection h with h
        injection h with h
        injection h with h1 h2
        refine ⟨6, h2.symm, .inr rfl, by omega, fun ht => ?_⟩
        obtain ⟨e1, e2⟩ := two_take (by omega) ht hS
        have hlt := congrArg List.length ht
        simp only [List.length_take] at hlt
        rw [dec_t (by omega)]
        simp only [cond_true]
        rw [if_pos (by omega)]
        simp only [ibyte, optK_some, e1]
        rw [dec_f c2]
        simp only [cond_false]
        rw [dec_f (by omega)]
        simp only [cond_false]
        rw [if_pos (by omega), bne_f c4]
        simp only [cond_false]
        rw [if_pos (by omega), ht, hT, c5]
        simp only [cond_true]
        rw [if_pos c6, esc0_sim n _ (i' : Int) 0 0 _ _ n 0 0 y hr, optK_some, ← h1, ← h2]
        rfl
end Go.Proofs.YtefenlmpbgdpnaaDoor.L
