/- Text tokens anywhere in a program. -/
import Derived.Test.YtefenlmpbgdpnaaDoorEsLI
namespace Go.Proofs.YtefenlmpbgdpnaaDoor.L
open Go.Abs Go.Uni Go.Plain Go.Deci
set_option maxRecDepth 100000
set_option maxHeartbeats 1000000
set_option linter.unusedVariables false
set_option linter.unusedSimpArgs false
theorem same_take {t t' : List UInt8} {e p m : Nat} (h : t'.take e = t.take e) (hm : p + m ≤ e) : (t'.drop p).take m = (t.drop p).take m := by
  have h1 := congrArg (fun l => (List.drop p l).take m) h
  simp only [List.drop_take, List.take_take] at h1
  rwa [Nat.min_eq_left (by omega)] at h1
theorem same_pt {t t' : List UInt8} {e p c : Nat} {r : List UInt8} (h : t'.take e = t.take e) (hd : t.drop p = enc c ++ r) (hm : p + (enc c).length ≤ e) : ∃ r', t'.drop p = enc c ++ r' := by
  have h1 := same_take h hm
  rw [hd, List.take_left] at h1
  refine ⟨(t'.drop p).drop (enc c).length, ?_⟩
  have h2 := List.take_append_drop (enc c).length (t'.drop p)
  rw [h1] at h2
  exact h2.symm
theorem fail_ne2 {A B : Type} (x : Int) (y : B) (q : A) : (optK (lex_fail x) fun _ => some (Sum.inr y)) ≠ some (Sum.inl q) := fun h => by
  have h' : (some (Sum.inr y) : Option (A ⊕ B)) = some (Sum.inl q) := h
  cases h'
theorem text_sim {s s' : List UInt8} (hl : s.length ≤ 65536) (hl' : s'.length ≤ 65536) {n : Nat} {q : Int} (hq : q = 34 ∨ q = 39) {k k' : Nat} (hk : k < s.length) (hk' : k' < s'.length) {t t' : List UInt8} (ht : s.drop (k + 1) = t) (ht' : s'.drop (k' + 1) = t') {out out' : List (List AVal)} (ho : out.length ≤ 100000) (ho' : out'.length ≤ 100000) :
    ∀ (j : Nat) (u : List (List AVal)) (skip : Int) (p : Nat) (r : List (List AVal) × Int × Nat × Int × List (List AVal)), -100 ≤ skip ∧ skip ≤ 100 → Valid (t.drop p) → lex_text.l0 n q t s (k : Int) out j u skip p = some (.inl r) →
    ∃ (e : Nat) (txt : List UInt8), p < e ∧ (p : Int) + skip < e ∧ e ≤ t.length ∧ r.2.2.2 = (((k + 1 + e : Nat) : Int), out ++ [tok 4 k 0 txt]) ∧
      (t'.take e = t.take e → ∃ r', lex_text.l0 n q t' s' (k' : Int) out' j u skip p = some (.inl r') ∧ r'.2.2.2 = (((k' + 1 + e : Nat) : Int), out' ++ [tok 4 k' 0 txt])) := by
  have htl : t.length = s.length - (k + 1) := by rw [← ht]; simp
  have htl' : t'.length = s'.length - (k' + 1) := by rw [← ht']; simp
  intro j
  induction j with
  | zero => intro u skip p r _ _ h; rw [lex_text.l0.zero] at h; cases h
  | succ j ih =>
    intro u skip p r hsk hv h
    by_cases hp : p < t.length
    case neg =>
      rw [lex_text.l0.succ, lex_text.l0.s, if_neg hp] at h
      cases h
    have hne : t.drop p ≠ [] := by simp; exact hp
    obtain ⟨c, r0, h1, h2, h3, h4⟩ := valid_ne hv hne
    have hw := enc_len c
    have hdec : dec (t.drop p) = (c, (enc c).length) := by rw [h1]; exact dec_enc h2 h3 r0
    have hlen := congrArg List.length h1
    simp only [List.length_drop, List.length_append] at hlen
    have hd2 : t.drop (p + (enc c).length) = r0 := by rw [← List.drop_drop, h1]; exact List.drop_left
    have hv2 : Valid (t.drop (p + (enc c).length)) := by rw [hd2]; exact h4
    have there : ∀ e, p + (enc c).length ≤ e → e ≤ t.length → t'.take e = t.take e → p < t'.length ∧ dec (t'.drop p) = (c, (enc c).length) := by
      intro e he _ hte
      obtain ⟨r1, hr1⟩ := same_pt hte h1 he
      have hlen' := congrArg List.length hr1
      simp only [List.length_drop, List.length_append] at hlen'
      refine ⟨by omega, ?_⟩
      rw [hr1]
      exact dec_enc h2 h3 r1
    rw [lex_text.l0.succ, lex_text.l0.s, if_pos hp] at h
    simp only [decode_eq t p hp, hdec] at h
    by_cases c1 : skip > 0
    · rw [dec_t c1, runeLen_enc h2 h3, optK_some, w64 (by omega)] at h
      simp only [cond_true] at h
      obtain ⟨e, txt, i1, i2, i3, i4, i5⟩ := ih _ _ _ _ (by omega) hv2 h
      refine ⟨e, txt, by omega, by omega, i3, i4, fun hte => ?_⟩
      obtain ⟨d1, d2⟩ := there e (by omega) i3 hte
      rw [lex_text.l0.succ, lex_text.l0.s, if_pos d1]
      simp only [decode_eq t' p d1, d2]
      rw [dec_t c1, runeLen_enc h2 h3, optK_some, w64 (by omega)]
      simp only [cond_true]
      exact i5 hte
    rw [dec_f c1] at h
    simp only [cond_false] at h
    by_cases c2 : (c : Int) = q
    · rw [beq_t c2] at h
      simp only [cond_true] at h
      have hw1 : (enc c).length = 1 := by
        have : c < 128 := by omega
        unfold enc
        rw [if_pos this]
        rfl
      cases hu : units_Text n u with
      | none => rw [hu] at h; cases h
      | some txt =>
        rw [hu, optK_some, put_some _ _ _ _ _ _ _ (by omega), optK_some] at h
        have hw9 : ∀ k : Nat, k < 65537 → IntKind.wrap .i64 (IntKind.wrap .i64 (IntKind.wrap .i64 ((k : Int) + 1) + (p : Int)) + 1) = ((k + 1 + (p + 1) : Nat) : Int) := by
          intro k hk
          rw [w64 (x := (k : Int) + 1) (by omega), w64 (x := (k : Int) + 1 + (p : Int)) (by omega), w64 (by omega)]
          omega
        rw [hw9 k (by omega)] at h
        injection h with h
        injection h with h
        refine ⟨p + 1, txt, by omega, by omega, by omega, ?_, fun hte => ?_⟩
        · rw [← h]; rfl
        obtain ⟨d1, d2⟩ := there (p + 1) (by omega) (by omega) hte
        refine ⟨(u, skip, p + (enc c).length, (((k' + 1 + (p + 1) : Nat) : Int), out' ++ [tok 4 k' 0 txt])), ?_, rfl⟩
        rw [lex_text.l0.succ, lex_text.l0.s, if_pos d1]
        simp only [decode_eq t' p d1, d2]
        rw [dec_f c1]
        simp only [cond_false]
        rw [beq_t c2]
        simp only [cond_true]
        rw [hu, optK_some, put_some _ _ _ _ _ _ _ (by omega), optK_some, hw9 k' (by omega)]
        rfl
    rw [beq_f c2] at h
    simp only [cond_false] at h
    by_cases c3 : (c : Int) = 10
    · rw [beq_t c3] at h
      simp only [cond_true] at h
      exact absurd h (fail_ne2 _ _ _)
    rw [beq_f c3] at h
    simp only [cond_false] at h
    by_cases c4 : (c : Int) = 13
    · rw [beq_t c4] at h
      simp only [cond_true] at h
      exact absurd h (fail_ne2 _ _ _)
    rw [beq_f c4] at h
    simp only [cond_false] at h
    have hwp : ∀ k : Nat, k < 65537 → IntKind.wrap .i64 (IntKind.wrap .i64 ((k : Int) + 1) + (p : Int)) = ((k + 1 + p : Nat) : Int) := by
      intro k hk
      rw [w64 (x := (k : Int) + 1) (by omega), w64 (by omega)]
      omega
    by_cases c5 : (c : Int) = 92
    · rw [beq_t c5, hwp k (by omega)] at h
      simp only [cond_true] at h
      have hw1 : (enc c).length = 1 := by
        have : c < 128 := by omega
        unfold enc
        rw [if_pos this]
        rfl
      cases hx : lex_escape n s ((k + 1 + p : Nat) : Int) with
      | none => rw [hx] at h; cases h
      | some y =>
        rw [hx, optK_some] at h
        cases y with
        | inr y => cases (show some (Sum.inr _) = some (Sum.inl r) from h)
        | inl y =>
          obtain ⟨x, m⟩ := y
          simp only [sumK] at h
          by_cases c6 : (true && roomOk (u.length + [[AVal.int IntKind.u16 x]].length) 2) = true
          case neg => rw [if_neg c6] at h; cases h
          rw [if_pos c6] at h
          by_cases c7 : ((List.append u [[AVal.int IntKind.u16 x]]).length : Int) > 10000
          · rw [dec_t c7] at h
            simp only [cond_true] at h
            exact absurd h (fail_ne2 _ _ _)
          rw [dec_f c7] at h
          simp only [cond_false] at h
          have hsd : s.drop (k + 1 + p) = t.drop p := by rw [← ht, List.drop_drop]
          obtain ⟨M, rfl, e2, e3, _⟩ := esc_sim hl hl' n (i := k + 1 + p) (i' := 0) (by omega) (by omega) hx
          rw [w64 (by omega)] at h
          obtain ⟨e, txt, i1, i2, i3, i4, i5⟩ := ih _ _ _ _ (by omega) hv2 h
          refine ⟨e, txt, by omega, by omega, i3, i4, fun hte => ?_⟩
          obtain ⟨d1, d2⟩ := there e (by omega) i3 hte
          have hsd' : s'.drop (k' + 1 + p) = t'.drop p := by rw [← ht', List.drop_drop]
          obtain ⟨M', em, _, _, e4⟩ := esc_sim hl hl' n (i := k + 1 + p) (i' := k' + 1 + p) (by omega) (by omega) hx
          obtain rfl : M = M' := by omega
          have hx' := e4 (by rw [hsd, hsd']; exact same_take hte (by omega))
          rw [lex_text.l0.succ, lex_text.l0.s, if_pos d1]
          simp only [decode_eq t' p d1, d2]
          rw [dec_f c1]
          simp only [cond_false]
          rw [beq_f c2]
          simp only [cond_false]
          rw [beq_f c3]
          simp only [cond_false]
          rw [beq_f c4]
          simp only [cond_false]
          rw [beq_t c5, hwp k' (by omega), hx', optK_some]
          simp only [cond_true, sumK]
          rw [if_pos c6, dec_f c7, w64 (by omega)]
          exact i5 hte
    rw [beq_f c5] at h
    simp only [cond_false] at h
    cases hu : units_Of n (Array.toList (Utf8.encode (c : Int)).data) with
    | none => rw [hu] at h; cases h
    | some b =>
      rw [hu, optK_some] at h
      by_cases c8 : uni 1 b = true
      case neg => rw [if_neg c8] at h; cases h
      rw [if_pos c8] at h
      by_cases c6 : (true && roomOk (u.length + b.length) 2) = true
      case neg => rw [if_neg c6] at h; cases h
      rw [if_pos c6] at h
      by_cases c7 : ((List.append u b).length : Int) > 10000
      · rw [dec_t c7] at h
        simp only [cond_true] at h
        exact absurd h (fail_ne2 _ _ _)
      rw [dec_f c7] at h
      simp only [cond_false] at h
      obtain ⟨e, txt, i1, i2, i3, i4, i5⟩ := ih _ _ _ _ hsk hv2 h
      refine ⟨e, txt, by omega, by omega, i3, i4, fun hte => ?_⟩
      obtain ⟨d1, d2⟩ := there e (by omega) i3 hte
      rw [lex_text.l0.succ, lex_text.l0.s, if_pos d1]
      simp only [decode_eq t' p d1, d2]
      rw [dec_f c1]
      simp only [cond_false]
      rw [beq_f c2]
      simp only [cond_false]
      rw [beq_f c3]
      simp only [cond_false]
      rw [beq_f c4]
      simp only [cond_false]
      rw [beq_f c5]
      simp only [cond_false]
      rw [hu, optK_some, if_pos c8, if_pos c6, dec_f c7]
      exact i5 hte
theorem text_unf {s : List UInt8} (hl : s.length ≤ 65536) {n k : Nat} {q : UInt8} {t : List UInt8} (hd : s.drop k = q :: t) (hq : q = 34 ∨ q = 39) (out : List (List AVal)) :
    lex_text n s (k : Int) out = optK (lex_text.l0 n ((q.toNat : Nat) : Int) t s (k : Int) out n [] 0 0) fun b => sumK b (fun b => some (.inl (b.2.2.2.1, b.2.2.2.2))) fun b => sumK b (fun b => some (.inr b.1)) fun b => optK (lex_fail (k : Int)) fun b => some (.inr (k : Int)) := by
  obtain ⟨hb, hk, hd1⟩ := byteAt_drop hd
  have hw : IntKind.wrap .i64 ((k : Int) + 1) = ((k + 1 : Nat) : Int) := by rw [w64 (by omega)]; omega
  have hw32 : IntKind.wrap .i32 ((q.toNat : Nat) : Int) = ((q.toNat : Nat) : Int) := by
    rcases hq with rfl | rfl <;> rfl
  unfold lex_text lex_text.k
  rw [if_pos (by omega)]
  simp only [hw, Int.toNat_natCast, hb, hw32, take_all, hd1]
  rw [if_pos (by omega)]
theorem text_gen {s : List UInt8} (hl : s.length ≤ 65536) {n k : Nat} {q : UInt8} {t : List UInt8} (hd : s.drop k = q :: t) (hq : q = 34 ∨ q = 39) (hv : Valid t) {out : List (List AVal)} (ho : out.length ≤ 100000) {e0 : Int} {o : List (List AVal)} (h : lex_text n s (k : Int) out = some (.inl (e0, o))) :
    ∃ (L : Nat) (txt : List UInt8), 2 ≤ L ∧ k + L ≤ s.length ∧ e0 = ((k + L : Nat) : Int) ∧ o = out ++ [tok 4 k 0 txt] ∧
      ∀ (s' : List UInt8) (k' : Nat) (out' : List (List AVal)), s'.length ≤ 65536 → out'.length ≤ 100000 → (s'.drop k').take L = (s.drop k).take L → lex_text n s' (k' : Int) out' = some (.inl (((k' + L : Nat) : Int), out' ++ [tok 4 k' 0 txt])) := by
  obtain ⟨hb, hk, hd1⟩ := byteAt_drop hd
  have hqi : ((q.toNat : Nat) : Int) = 34 ∨ ((q.toNat : Nat) : Int) = 39 := by
    rcases hq with rfl | rfl
    · exact .inl rfl
    · exact .inr rfl
  rw [text_unf hl hd hq] at h
  cases hr : lex_text.l0 n ((q.toNat : Nat) : Int) t s (k : Int) out n [] 0 0 with
  | none => rw [hr] at h; cases h
  | some r =>
  rw [hr, optK_some] at h
  rcases r with r | r | r
  rotate_left
  · cases (show some (Sum.inr _) = some (Sum.inl (e0, o)) from h)
  · cases (show some (Sum.inr _) = some (Sum.inl (e0, o)) from h)
  have h : some (Sum.inl (r.2.2.2.1, r.2.2.2.2)) = (some (Sum.inl (e0, o)) : Option ((Int × List (List AVal)) ⊕ Int)) := h
  injection h with h
  injection h with h
  have htl : t.length = s.length - (k + 1) := by rw [← hd1]; simp
  obtain ⟨e, txt, i1, i2, i3, i4, _⟩ := text_sim hl hl hqi hk hk hd1 hd1 ho ho n [] 0 0 r (by omega) (by rw [List.drop_zero]; exact hv) hr
  have h : r.2.2.2 = (e0, o) := h
  rw [i4] at h
  injection h with h5 h6
  refine ⟨1 + e, txt, by omega, by omega, by rw [← h5]; omega, h6.symm, fun s' k' out' hl' ho' heq => ?_⟩
  have hd' : s'.drop k' = q :: (s'.drop (k' + 1)) := by
    have h7 := congrArg (fun l => l.take 1) heq
    simp only [List.take_take] at h7
    rw [Nat.min_eq_left (by omega), hd] at h7
    cases hs : s'.drop k' with
    | nil => rw [hs] at h7; cases h7
    | cons a b =>
      rw [hs] at h7
      injection h7 with h7 _
      rw [← List.drop_drop, hs, h7]
      rfl
  obtain ⟨hb', hk', hd1'⟩ := byteAt_drop hd'
  obtain ⟨e', txt', j1, j2, j3, j4, j5⟩ := text_sim hl hl' hqi hk hk' hd1 rfl ho ho' n [] 0 0 r (by omega) (by rw [List.drop_zero]; exact hv) hr
  rw [i4] at j4
  injection j4 with j6 j7
  obtain rfl : e = e' := by omega
  have j8 := List.append_cancel_left j7
  injection j8 with j8 _
  unfold tok at j8
  injection j8 with _ j8
  injection j8 with _ j8
  injection j8 with _ j8
  injection j8 with j8 _
  injection j8 with j8
  subst j8
  obtain ⟨r', j9, j10⟩ := j5 (by
    have h8 := congrArg (fun l => l.drop 1) heq
    simp only [List.drop_take] at h8
    rw [List.drop_drop, hd] at h8
    have h9 : 1 + e - 1 = e := by omega
    rw [h9] at h8
    exact h8)
  rw [text_unf hl' hd' hq, j9, optK_some]
  show some (Sum.inl (r'.2.2.2.1, r'.2.2.2.2)) = _
  rw [j10, show k' + 1 + e = k' + (1 + e) by omega]
end Go.Proofs.YtefenlmpbgdpnaaDoor.L
