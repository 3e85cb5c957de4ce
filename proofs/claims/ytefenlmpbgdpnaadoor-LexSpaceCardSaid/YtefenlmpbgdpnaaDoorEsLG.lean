/- What stands between tokens: read off a run, and led back into a run. -/
import Derived.Test.YtefenlmpbgdpnaaDoorEsLZ
namespace Go.Proofs.YtefenlmpbgdpnaaDoor.L
open Go.Abs Go.Uni Go.Plain Go.Deci
set_option maxRecDepth 100000
set_option maxHeartbeats 1000000
set_option linter.unusedVariables false
set_option linter.unusedSimpArgs false
def NoEnd (body : List UInt8) : Prop := ∀ i, i < body.length → List.isPrefixOf [(42 : UInt8), 47] ((body ++ [42, 47]).drop i) = false
inductive Gap : List UInt8 → Prop where
  | nil : Gap []
  | spc (c : UInt8) (g : List UInt8) : isSpc c = true → Gap g → Gap (c :: g)
  | line (body g : List UInt8) : (∀ x ∈ body, x ≠ 10) → Gap g → Gap (47 :: 47 :: (body ++ 10 :: g))
  | block (body g : List UInt8) : NoEnd body → Gap g → Gap (47 :: 42 :: (body ++ 42 :: 47 :: g))
inductive EndGap : List UInt8 → Prop where
  | nil : EndGap []
  | spc (c : UInt8) (g : List UInt8) : isSpc c = true → EndGap g → EndGap (c :: g)
  | line (body g : List UInt8) : (∀ x ∈ body, x ≠ 10) → EndGap g → EndGap (47 :: 47 :: (body ++ 10 :: g))
  | block (body g : List UInt8) : NoEnd body → EndGap g → EndGap (47 :: 42 :: (body ++ 42 :: 47 :: g))
  | last (body : List UInt8) : (∀ x ∈ body, x ≠ 10) → EndGap (47 :: 47 :: body)
def Stop (l : List UInt8) : Prop := ∃ c r, l = c :: r ∧ isSpc c = false ∧ List.isPrefixOf [(47 : UInt8), 47] l = false ∧ List.isPrefixOf [(47 : UInt8), 42] l = false
theorem Gap.append {g h : List UInt8} (hg : Gap g) (hh : Gap h) : Gap (g ++ h) := by
  induction hg with
  | nil => exact hh
  | spc c g hc _ ih => exact .spc c _ hc ih
  | line body g hb _ ih =>
    have : 47 :: 47 :: (body ++ 10 :: g) ++ h = 47 :: 47 :: (body ++ 10 :: (g ++ h)) := by simp
    rw [this]; exact .line body _ hb ih
  | block body g hb _ ih =>
    have : 47 :: 42 :: (body ++ 42 :: 47 :: g) ++ h = 47 :: 42 :: (body ++ 42 :: 47 :: (g ++ h)) := by simp
    rw [this]; exact .block body _ hb ih
theorem Gap.endApp {g h : List UInt8} (hg : Gap g) (hh : EndGap h) : EndGap (g ++ h) := by
  induction hg with
  | nil => exact hh
  | spc c g hc _ ih => exact .spc c _ hc ih
  | line body g hb _ ih =>
    have : 47 :: 47 :: (body ++ 10 :: g) ++ h = 47 :: 47 :: (body ++ 10 :: (g ++ h)) := by simp
    rw [this]; exact .line body _ hb ih
  | block body g hb _ ih =>
    have : 47 :: 42 :: (body ++ 42 :: 47 :: g) ++ h = 47 :: 42 :: (body ++ 42 :: 47 :: (g ++ h)) := by simp
    rw [this]; exact .block body _ hb ih
theorem Gap.toEnd {g : List UInt8} (hg : Gap g) : EndGap g := by
  have := hg.endApp .nil
  rwa [List.append_nil] at this
theorem EndGap.append {g h : List UInt8} (hg : EndGap g) (hh : EndGap h) (hl : ∀ body : List UInt8, (∀ x ∈ body, x ≠ 10) → EndGap (47 :: 47 :: (body ++ h))) : EndGap (g ++ h) := by
  induction hg with
  | nil => exact hh
  | spc c g hc _ ih => exact .spc c _ hc ih
  | line body g hb _ ih =>
    have : 47 :: 47 :: (body ++ 10 :: g) ++ h = 47 :: 47 :: (body ++ 10 :: (g ++ h)) := by simp
    rw [this]; exact .line body _ hb ih
  | block body g hb _ ih =>
    have : 47 :: 42 :: (body ++ 42 :: 47 :: g) ++ h = 47 :: 42 :: (body ++ 42 :: 47 :: (g ++ h)) := by simp
    rw [this]; exact .block body _ hb ih
  | last body hb => exact hl body hb
theorem nl_none : ∀ (l : List UInt8), (∀ x ∈ l, x ≠ 10) → Lib.indexByte l 10 = -1
  | [], _ => rfl
  | b :: l, h => by
    have hb : (b == (10 : UInt8)) = false := by
      cases e : (b == (10 : UInt8)) with
      | false => rfl
      | true => exact absurd (beq_iff_eq.1 e) (h b (List.mem_cons_self ..))
    simp only [Lib.indexByte, hb, nl_none l (fun x hx => h x (List.mem_cons_of_mem _ hx))]
    rfl
theorem nl_at : ∀ (body g : List UInt8), (∀ x ∈ body, x ≠ 10) → Lib.indexByte (body ++ 10 :: g) 10 = (body.length : Int)
  | [], g, _ => by simp [Lib.indexByte]
  | b :: l, g, h => by
    have hb : (b == (10 : UInt8)) = false := by
      cases e : (b == (10 : UInt8)) with
      | false => rfl
      | true => exact absurd (beq_iff_eq.1 e) (h b (List.mem_cons_self ..))
    have ih := nl_at l g (fun x hx => h x (List.mem_cons_of_mem _ hx))
    simp only [List.cons_append, Lib.indexByte, hb, ih]
    have : (((l.length : Nat) : Int) == -1) = false := by simp
    rw [this]
    simp
theorem nl_split : ∀ (l : List UInt8), (Lib.indexByte l 10 = -1 ∧ ∀ x ∈ l, x ≠ 10) ∨ ∃ body g, l = body ++ 10 :: g ∧ (∀ x ∈ body, x ≠ 10) ∧ Lib.indexByte l 10 = (body.length : Int)
  | [] => .inl ⟨rfl, fun x hx => by cases hx⟩
  | b :: l => by
    by_cases hb : b = 10
    · subst hb
      exact .inr ⟨[], l, rfl, fun x hx => (by cases hx), by simp [Lib.indexByte]⟩
    · rcases nl_split l with ⟨h1, h2⟩ | ⟨body, g, rfl, h2, h3⟩
      · have hx : ∀ x ∈ b :: l, x ≠ 10 := fun x hx => by
          rcases List.mem_cons.1 hx with rfl | hx
          · exact hb
          · exact h2 x hx
        exact .inl ⟨nl_none _ hx, hx⟩
      · have hx : ∀ x ∈ b :: body, x ≠ 10 := fun x hx => by
          rcases List.mem_cons.1 hx with rfl | hx
          · exact hb
          · exact h2 x hx
        exact .inr ⟨b :: body, g, rfl, hx, nl_at (b :: body) g hx⟩
theorem noEnd_tail {b : UInt8} {l : List UInt8} (h : NoEnd (b :: l)) : NoEnd l := fun i hi => by
  have := h (i + 1) (by simpa using hi)
  simpa using this
theorem end_at : ∀ (body g : List UInt8), NoEnd body → Lib.index (body ++ 42 :: 47 :: g) [42, 47] = (body.length : Int)
  | [], g, _ => by simp [Lib.index, List.isPrefixOf]
  | b :: l, g, h => by
    have ih := end_at l g (noEnd_tail h)
    have h0 := h 0 (by simp)
    have hp : List.isPrefixOf [(42 : UInt8), 47] (b :: (l ++ 42 :: 47 :: g)) = false := by
      rw [List.drop_zero] at h0
      rcases l with _ | ⟨a, l⟩
      · simp [List.isPrefixOf]
      · simpa [List.isPrefixOf] using h0
    simp only [List.cons_append, Lib.index, hp, Bool.false_eq_true, if_false, ih]
    have : (((l.length : Nat) : Int) == -1) = false := by simp
    rw [this]
    simp
theorem end_split : ∀ (l : List UInt8), (Lib.index l [42, 47] = -1) ∨ ∃ body g, l = body ++ 42 :: 47 :: g ∧ NoEnd body ∧ Lib.index l [42, 47] = (body.length : Int)
  | [] => .inl rfl
  | b :: l => by
    cases hp : List.isPrefixOf [(42 : UInt8), 47] (b :: l) with
    | true =>
      have h1 := List.isPrefixOf_iff_prefix.1 hp
      obtain ⟨t, ht⟩ := h1
      refine .inr ⟨[], t, ht.symm, fun i hi => absurd hi (Nat.not_lt_zero _), ?_⟩
      simp [Lib.index, hp]
    | false =>
      rcases end_split l with h1 | ⟨body, g, rfl, h2, h3⟩
      · left
        simp [Lib.index, hp, h1]
      · right
        have hn : NoEnd (b :: body) := fun i hi => by
          cases i with
          | zero =>
            rw [List.drop_zero]
            rcases body with _ | ⟨a, body⟩
            · simp [List.isPrefixOf]
            · simpa [List.isPrefixOf] using hp
          | succ i => simpa using h2 i (by simpa using hi)
        exact ⟨b :: body, g, rfl, hn, end_at (b :: body) g hn⟩
theorem sk_end {s : List UInt8} (n j : Nat) (out : List (List AVal)) : lex_skip.l0 n s out (j + 1) (s.length : Int) = some (.inr (.inr (s.length : Int))) := by
  rw [lex_skip.l0.succ, lex_skip.l0.s, dec_f (by omega)]
  rfl
theorem spc_47 : isSpc 47 = false := by decide
theorem sk_stop {s : List UInt8} (hl : s.length ≤ 65536) (n j : Nat) (out : List (List AVal)) {k : Nat} (h : Stop (s.drop k)) : lex_skip.l0 n s out (j + 1) (k : Int) = some (.inr (.inl (k : Int))) := by
  obtain ⟨c, r, hd, hs, h1, h2⟩ := h
  obtain ⟨hb, hk, _⟩ := byteAt_drop hd
  rw [hd] at h1 h2
  have hb0 : byteAt (c :: r) 0 = (c.toNat : Int) := rfl
  rw [lex_skip.l0.succ, lex_skip.l0.s, dec_t (by omega)]
  simp only [cond_true, take_all, Int.toNat_natCast, hd]
  rw [if_pos (by omega), if_pos (by simp)]
  simp only [ibyte, optK_some, hb0, spc_eq, hs, cond_false, hasPre, h1, h2]
theorem sk_spc {s : List UInt8} (hl : s.length ≤ 65536) (n j : Nat) (out : List (List AVal)) {k : Nat} {c : UInt8} {r : List UInt8} (hd : s.drop k = c :: r) (hs : isSpc c = true) : lex_skip.l0 n s out (j + 1) (k : Int) = lex_skip.l0 n s out j ((k + 1 : Nat) : Int) := by
  obtain ⟨hb, hk, _⟩ := byteAt_drop hd
  have hb0 : byteAt (c :: r) 0 = (c.toNat : Int) := rfl
  rw [lex_skip.l0.succ, lex_skip.l0.s, dec_t (by omega)]
  simp only [cond_true, take_all, Int.toNat_natCast, hd]
  rw [if_pos (by omega), if_pos (by simp)]
  simp only [ibyte, optK_some, hb0, spc_eq, hs, cond_true]
  rw [w64 (by omega)]
  rfl
theorem byteIn_ten (s : List UInt8) : byteIn s 10 = Lib.indexByte s 10 := rfl
theorem sk_line0 {s : List UInt8} (hl : s.length ≤ 65536) (n j : Nat) (out : List (List AVal)) {k m : Nat} {t : List UInt8} (hd : s.drop k = t) (hk : k < s.length) (hb0 : byteAt t 0 = ((47 : UInt8).toNat : Int)) (hp : List.isPrefixOf [(47 : UInt8), 47] t = true) (hi : byteIn t 10 = (m : Int)) (hm : k + m ≤ 65536) :
    lex_skip.l0 n s out (j + 1) (k : Int) = lex_skip.l0 n s out j ((k + m : Nat) : Int) := by
  have hlen := congrArg List.length hd
  rw [List.length_drop] at hlen
  rw [lex_skip.l0.succ, lex_skip.l0.s, dec_t (by omega)]
  simp only [cond_true, take_all, Int.toNat_natCast, hd]
  rw [if_pos (by omega), if_pos (by omega)]
  simp only [ibyte, optK_some, hb0, spc_eq, spc_47, cond_false, hasPre, hp, cond_true]
  rw [dec_f (by omega)]
  have e9 : (IntKind.wrap .i64 ((k : Int) + byteIn t 10)) = ((k + m : Nat) : Int) := by rw [hi, w64 (by omega)]; omega
  exact congrArg (lex_skip.l0 n s out j) e9
theorem sk_line {s : List UInt8} (hl : s.length ≤ 65536) (n j : Nat) (out : List (List AVal)) {k : Nat} {body r : List UInt8} (hd : s.drop k = 47 :: 47 :: (body ++ 10 :: r)) (hb : ∀ x ∈ body, x ≠ 10) :
    lex_skip.l0 n s out (j + 1) (k : Int) = lex_skip.l0 n s out j ((k + (body.length + 2) : Nat) : Int) := by
  obtain ⟨_, hk, _⟩ := byteAt_drop hd
  have hlen := congrArg List.length hd
  simp only [List.length_drop, List.length_cons, List.length_append] at hlen
  have hb0 : byteAt (47 :: 47 :: (body ++ 10 :: r)) 0 = ((47 : UInt8).toNat : Int) := rfl
  have hp : List.isPrefixOf [(47 : UInt8), 47] (47 :: 47 :: (body ++ 10 :: r)) = true := by simp [List.isPrefixOf]
  have hi : byteIn (47 :: 47 :: (body ++ 10 :: r)) 10 = ((body.length + 2 : Nat) : Int) := by
    have h := nl_at (47 :: 47 :: body) r (fun x hx => by
      rcases List.mem_cons.1 hx with rfl | hx
      · decide
      · rcases List.mem_cons.1 hx with rfl | hx
        · decide
        · exact hb x hx)
    rw [byteIn_ten]
    simpa only [List.cons_append, List.length_cons] using h
  exact sk_line0 hl n j out hd hk hb0 hp hi (by omega)
theorem sk_last {s : List UInt8} (hl : s.length ≤ 65536) (n j : Nat) (out : List (List AVal)) {k : Nat} {body : List UInt8} (hd : s.drop k = 47 :: 47 :: body) (hb : ∀ x ∈ body, x ≠ 10) :
    lex_skip.l0 n s out (j + 1) (k : Int) = lex_skip.l0 n s out j (s.length : Int) := by
  obtain ⟨_, hk, _⟩ := byteAt_drop hd
  have hlen := congrArg List.length hd
  simp at hlen
  have hb0 : byteAt (47 :: 47 :: body) 0 = ((47 : UInt8).toNat : Int) := rfl
  have hp : List.isPrefixOf [(47 : UInt8), 47] (47 :: 47 :: body) = true := by simp [List.isPrefixOf]
  have hi : byteIn (47 :: 47 :: body) 10 = -1 := nl_none (47 :: 47 :: body) (fun x hx => by
    rcases List.mem_cons.1 hx with rfl | hx
    · decide
    · rcases List.mem_cons.1 hx with rfl | hx
      · decide
      · exact hb x hx)
  rw [lex_skip.l0.succ, lex_skip.l0.s, dec_t (by omega)]
  simp only [cond_true, take_all, Int.toNat_natCast, hd]
  rw [if_pos (by omega), if_pos (by simp only [List.length_cons, List.length_append]; omega)]
  simp only [ibyte, optK_some, hb0, spc_eq, spc_47, cond_false, hasPre, hp, cond_true, hi]
  rw [dec_t (by omega)]
  simp only [cond_true]
  have hs2 : (k : Int) + (((47 :: 47 :: body : List UInt8).length : Nat) : Int) = (s.length : Int) := by
    simp only [List.length_cons]; omega
  rw [hs2, w64 (by omega)]
theorem sk_block {s : List UInt8} (hl : s.length ≤ 65536) (n j : Nat) (out : List (List AVal)) {k : Nat} {body r : List UInt8} (hd : s.drop k = 47 :: 42 :: (body ++ 42 :: 47 :: r)) (hb : NoEnd body) :
    lex_skip.l0 n s out (j + 1) (k : Int) = lex_skip.l0 n s out j ((k + (body.length + 4) : Nat) : Int) := by
  obtain ⟨_, hk, _⟩ := byteAt_drop hd
  have hlen := congrArg List.length hd
  simp at hlen
  have hb0 : byteAt (47 :: 42 :: (body ++ 42 :: 47 :: r)) 0 = ((47 : UInt8).toNat : Int) := rfl
  have hp1 : List.isPrefixOf [(47 : UInt8), 47] (47 :: 42 :: (body ++ 42 :: 47 :: r)) = false := by simp [List.isPrefixOf]
  have hp2 : List.isPrefixOf [(47 : UInt8), 42] (47 :: 42 :: (body ++ 42 :: 47 :: r)) = true := by simp [List.isPrefixOf]
  have hi : indexS (body ++ 42 :: 47 :: r) [42, 47] = (body.length : Int) := end_at body r hb
  have hdr : List.drop 2 (47 :: 42 :: (body ++ 42 :: 47 :: r)) = body ++ 42 :: 47 :: r := rfl
  rw [lex_skip.l0.succ, lex_skip.l0.s, dec_t (by omega)]
  simp only [cond_true, take_all, Int.toNat_natCast, hd]
  rw [if_pos (by omega), if_pos (by simp only [List.length_cons, List.length_append]; omega)]
  simp only [ibyte, optK_some, hb0, spc_eq, spc_47, cond_false, hasPre, hp1, hp2, cond_true]
  rw [if_pos (by simp only [List.length_cons, List.length_append]; omega), hdr, dec_t (by first | omega | (simp only [List.length_cons, List.length_append]; omega)), hi]
  simp only [cond_true]
  rw [dec_f (by omega)]
  simp only [cond_false]
  rw [w64 (x := (body.length : Int) + 4) (by omega), w64 (by omega), show ((k : Int) + ((body.length : Int) + 4)) = ((k + (body.length + 4) : Nat) : Int) from rfl]
theorem sk_bad {s : List UInt8} (hl : s.length ≤ 65536) (n j : Nat) (out : List (List AVal)) {k : Nat} {l : List UInt8} (hd : s.drop k = 47 :: 42 :: l) (hb : Lib.index l [42, 47] = -1) :
    ∃ p, lex_skip.l0 n s out (j + 1) (k : Int) = some (.inl p) := by
  obtain ⟨_, hk, _⟩ := byteAt_drop hd
  have hlen := congrArg List.length hd
  simp at hlen
  have hb0 : byteAt (47 :: 42 :: l) 0 = ((47 : UInt8).toNat : Int) := rfl
  have hp1 : List.isPrefixOf [(47 : UInt8), 47] (47 :: 42 :: l) = false := by simp [List.isPrefixOf]
  have hp2 : List.isPrefixOf [(47 : UInt8), 42] (47 :: 42 :: l) = true := by simp [List.isPrefixOf]
  have hi : indexS l [42, 47] = -1 := hb
  have hdr : List.drop 2 (47 :: 42 :: l) = l := rfl
  refine ⟨((k : Int), (k : Int)), ?_⟩
  rw [lex_skip.l0.succ, lex_skip.l0.s, dec_t (by omega)]
  simp only [cond_true, take_all, Int.toNat_natCast, hd]
  rw [if_pos (by omega), if_pos (by simp only [List.length_cons, List.length_append]; omega)]
  simp only [ibyte, optK_some, hb0, spc_eq, spc_47, cond_false, hasPre, hp1, hp2, cond_true]
  rw [if_pos (by simp only [List.length_cons, List.length_append]; omega), hdr, dec_t (by first | omega | (simp only [List.length_cons, List.length_append]; omega)), hi]
  simp only [cond_true]
  rw [dec_t (by omega)]
  rfl
theorem skip_gap {s : List UInt8} (hl : s.length ≤ 65536) (n : Nat) (out : List (List AVal)) {g : List UInt8} (hg : Gap g) : ∀ (k j : Nat) (r : List UInt8), s.drop k = g ++ r → Stop r → g.length < j →
    lex_skip.l0 n s out j (k : Int) = some (.inr (.inl ((k + g.length : Nat) : Int))) := by
  induction hg with
  | nil =>
    intro k j r hd hr hj
    obtain ⟨j, rfl⟩ : ∃ i, j = i + 1 := ⟨j - 1, by omega⟩
    rw [List.nil_append] at hd
    exact sk_stop hl n j out (by rw [hd]; exact hr)
  | spc c g hc _ ih =>
    intro k j r hd hr hj
    simp only [List.length_cons] at hj
    obtain ⟨j, rfl⟩ : ∃ i, j = i + 1 := ⟨j - 1, by omega⟩
    rw [List.cons_append] at hd
    obtain ⟨_, _, hd1⟩ := byteAt_drop hd
    rw [sk_spc hl n j out hd hc, ih (k + 1) j r hd1 hr (by omega)]
    simp only [List.length_cons]
    rw [show k + 1 + g.length = k + (g.length + 1) by omega]
  | line body g hb _ ih =>
    intro k j r hd hr hj
    simp only [List.length_cons, List.length_append] at hj
    obtain ⟨j, rfl⟩ : ∃ i, j = i + 2 := ⟨j - 2, by omega⟩
    have hd' : s.drop k = 47 :: 47 :: (body ++ 10 :: (g ++ r)) := by rw [hd]; simp
    have hd1 : s.drop (k + (body.length + 2)) = 10 :: (g ++ r) := by
      rw [← List.drop_drop, hd']
      show (47 :: 47 :: (body ++ 10 :: (g ++ r))).drop (body.length + 2) = _
      simp
    obtain ⟨_, _, hd2⟩ := byteAt_drop hd1
    rw [sk_line hl n (j + 1) out hd' hb, sk_spc hl n j out hd1 (by decide), ih _ j r hd2 hr (by omega)]
    simp only [List.length_cons, List.length_append]
    rw [show k + (body.length + 2) + 1 + g.length = k + (body.length + (g.length + 1) + 1 + 1) by omega]
  | block body g hb _ ih =>
    intro k j r hd hr hj
    simp only [List.length_cons, List.length_append] at hj
    obtain ⟨j, rfl⟩ : ∃ i, j = i + 1 := ⟨j - 1, by omega⟩
    have hd' : s.drop k = 47 :: 42 :: (body ++ 42 :: 47 :: (g ++ r)) := by rw [hd]; simp
    have hd1 : s.drop (k + (body.length + 4)) = g ++ r := by
      rw [← List.drop_drop, hd']
      have e : (47 :: 42 :: (body ++ 42 :: 47 :: (g ++ r)) : List UInt8) = (47 :: 42 :: (body ++ [42, 47])) ++ (g ++ r) := by simp
      rw [e, show body.length + 4 = (47 :: 42 :: (body ++ [42, 47]) : List UInt8).length by simp]
      exact List.drop_left
    rw [sk_block hl n j out hd' hb, ih _ j r hd1 hr (by omega)]
    simp only [List.length_cons, List.length_append]
    rw [show k + (body.length + 4) + g.length = k + (body.length + (g.length + 1 + 1) + 1 + 1) by omega]
theorem skip_endGap {s : List UInt8} (hl : s.length ≤ 65536) (n : Nat) (out : List (List AVal)) {g : List UInt8} (hg : EndGap g) : ∀ (k j : Nat), k ≤ s.length → s.drop k = g → g.length < j →
    lex_skip.l0 n s out j (k : Int) = some (.inr (.inr (s.length : Int))) := by
  have hend : ∀ k, k ≤ s.length → s.drop k = [] → k = s.length := fun k hk hd => by
    have := congrArg List.length hd
    simp at this
    omega
  induction hg with
  | nil =>
    intro k j hk hd hj
    obtain ⟨j, rfl⟩ : ∃ i, j = i + 1 := ⟨j - 1, by omega⟩
    rw [hend k hk hd]
    exact sk_end n j out
  | spc c g hc _ ih =>
    intro k j hk hd hj
    simp only [List.length_cons] at hj
    obtain ⟨j, rfl⟩ : ∃ i, j = i + 1 := ⟨j - 1, by omega⟩
    obtain ⟨_, hk', hd1⟩ := byteAt_drop hd
    rw [sk_spc hl n j out hd hc, ih (k + 1) j (by omega) hd1 (by omega)]
  | line body g hb _ ih =>
    intro k j hk hd hj
    simp only [List.length_cons, List.length_append] at hj
    obtain ⟨j, rfl⟩ : ∃ i, j = i + 2 := ⟨j - 2, by omega⟩
    have hd1 : s.drop (k + (body.length + 2)) = 10 :: g := by
      rw [← List.drop_drop, hd]
      show (47 :: 47 :: (body ++ 10 :: g)).drop (body.length + 2) = _
      simp
    obtain ⟨_, hk2, hd2⟩ := byteAt_drop hd1
    rw [sk_line hl n (j + 1) out hd hb, sk_spc hl n j out hd1 (by decide), ih _ j (by omega) hd2 (by omega)]
  | block body g hb _ ih =>
    intro k j hk hd hj
    simp only [List.length_cons, List.length_append] at hj
    obtain ⟨j, rfl⟩ : ∃ i, j = i + 1 := ⟨j - 1, by omega⟩
    have hlen := congrArg List.length hd
    simp at hlen
    have hd1 : s.drop (k + (body.length + 4)) = g := by
      rw [← List.drop_drop, hd]
      have e : (47 :: 42 :: (body ++ 42 :: 47 :: g) : List UInt8) = (47 :: 42 :: (body ++ [42, 47])) ++ g := by simp
      rw [e, show body.length + 4 = (47 :: 42 :: (body ++ [42, 47]) : List UInt8).length by simp]
      exact List.drop_left
    rw [sk_block hl n j out hd hb, ih _ j (by omega) hd1 (by omega)]
  | last body hb =>
    intro k j hk hd hj
    simp only [List.length_cons] at hj
    obtain ⟨j, rfl⟩ : ∃ i, j = i + 2 := ⟨j - 2, by omega⟩
    rw [sk_last hl n (j + 1) out hd hb, sk_end n j out]
theorem skip_inv {s : List UInt8} (hl : s.length ≤ 65536) (n : Nat) (out : List (List AVal)) : ∀ (d k j : Nat), s.length - k ≤ d → k ≤ s.length → s.length - k + 1 < j →
    (∃ g r, s.drop k = g ++ r ∧ Gap g ∧ Stop r ∧ lex_skip.l0 n s out j (k : Int) = some (.inr (.inl ((k + g.length : Nat) : Int)))) ∨ (EndGap (s.drop k) ∧ lex_skip.l0 n s out j (k : Int) = some (.inr (.inr (s.length : Int)))) ∨
      ∃ p, lex_skip.l0 n s out j (k : Int) = some (.inl p) := by
  intro d
  induction d with
  | zero =>
    intro k j hd hk hj
    obtain rfl : k = s.length := by omega
    obtain ⟨j, rfl⟩ : ∃ i, j = i + 1 := ⟨j - 1, by omega⟩
    refine .inr (.inl ⟨?_, sk_end n j out⟩)
    rw [List.drop_eq_nil_of_le (Nat.le_refl _)]
    exact .nil
  | succ d ih =>
    intro k j hd hk hj
    rcases Nat.lt_or_ge k s.length with hlt | hge
    case inr =>
      obtain rfl : k = s.length := by omega
      obtain ⟨j, rfl⟩ : ∃ i, j = i + 1 := ⟨j - 1, by omega⟩
      refine .inr (.inl ⟨?_, sk_end n j out⟩)
      rw [List.drop_eq_nil_of_le (Nat.le_refl _)]
      exact .nil
    obtain ⟨j, rfl⟩ : ∃ i, j = i + 1 := ⟨j - 1, by omega⟩
    have hdk := drop_at s k hlt
    generalize s[k] = c at hdk
    generalize hr : s.drop (k + 1) = r at hdk
    have key : ∀ (m : Nat) (pre : List UInt8), s.drop k = pre ++ s.drop m → m = k + pre.length → k < m → m ≤ s.length → (∀ g, Gap g → Gap (pre ++ g)) → (∀ g, EndGap g → EndGap (pre ++ g)) → lex_skip.l0 n s out (j + 1) (k : Int) = lex_skip.l0 n s out j (m : Int) →
        (∃ g r, s.drop k = g ++ r ∧ Gap g ∧ Stop r ∧ lex_skip.l0 n s out (j + 1) (k : Int) = some (.inr (.inl ((k + g.length : Nat) : Int)))) ∨ (EndGap (s.drop k) ∧ lex_skip.l0 n s out (j + 1) (k : Int) = some (.inr (.inr (s.length : Int)))) ∨
        ∃ p, lex_skip.l0 n s out (j + 1) (k : Int) = some (.inl p) := by
      intro m pre h1 h2 h3 h4 h5 h6 h7
      rcases ih m j (by omega) h4 (by omega) with ⟨g, r, a, b, c, e⟩ | ⟨a, e⟩ | ⟨p, e⟩
      · refine .inl ⟨pre ++ g, r, by rw [h1, a]; simp, h5 g b, c, ?_⟩
        rw [h7, e, h2, List.length_append, Nat.add_assoc]
      · refine .inr (.inl ⟨?_, h7.trans e⟩)
        rw [h1]; exact h6 _ a
      · exact .inr (.inr ⟨p, h7.trans e⟩)
    cases hs : isSpc c with
    | true => exact key (k + 1) [c] (by rw [hdk, hr]; rfl) rfl (by omega) hlt (fun g hg => .spc c g hs hg) (fun g hg => .spc c g hs hg) (sk_spc hl n j out hdk hs)
    | false =>
      cases hp1 : List.isPrefixOf [(47 : UInt8), 47] (c :: r) with
      | true =>
        obtain ⟨t, ht⟩ := List.isPrefixOf_iff_prefix.1 hp1
        have hd2 : s.drop k = 47 :: 47 :: t := by rw [hdk, ← ht]; rfl
        rcases nl_split t with ⟨_, hno⟩ | ⟨body, g, rfl, hno, _⟩
        · refine .inr (.inl ⟨by rw [hd2]; exact .last t hno, ?_⟩)
          obtain ⟨j, rfl⟩ : ∃ i, j = i + 1 := ⟨j - 1, by omega⟩
          rw [sk_last hl n (j + 1) out hd2 hno, sk_end n j out]
        · have hlen := congrArg List.length hd2
          simp at hlen
          have hd3 : s.drop (k + (body.length + 2)) = 10 :: g := by
            rw [← List.drop_drop, hd2]
            show (47 :: 47 :: (body ++ 10 :: g)).drop (body.length + 2) = _
            simp
          obtain ⟨j, rfl⟩ : ∃ i, j = i + 1 := ⟨j - 1, by omega⟩
          have hstep : lex_skip.l0 n s out (j + 1 + 1) (k : Int) = lex_skip.l0 n s out j ((k + (body.length + 2) + 1 : Nat) : Int) := by
            rw [sk_line hl n (j + 1) out hd2 hno, sk_spc hl n j out hd3 (by decide)]
          obtain ⟨_, hk3, hd4⟩ := byteAt_drop hd3
          rcases ih (k + (body.length + 2) + 1) j (by omega) (by omega) (by omega) with ⟨g', r', a, b, cc, e⟩ | ⟨a, e⟩ | ⟨p, e⟩
          · refine .inl ⟨47 :: 47 :: (body ++ 10 :: g'), r', ?_, .line body g' hno b, cc, ?_⟩
            · rw [hd2, ← hd4, a]; simp
            · rw [hstep, e]
              simp only [List.length_cons, List.length_append]
              rw [show k + (body.length + 2) + 1 + g'.length = k + (body.length + (g'.length + 1) + 1 + 1) by omega]
          · refine .inr (.inl ⟨?_, hstep.trans e⟩)
            rw [hd2, ← hd4]; exact .line body _ hno a
          · exact .inr (.inr ⟨p, hstep.trans e⟩)
      | false =>
        cases hp2 : List.isPrefixOf [(47 : UInt8), 42] (c :: r) with
        | true =>
          obtain ⟨t, ht⟩ := List.isPrefixOf_iff_prefix.1 hp2
          have hd2 : s.drop k = 47 :: 42 :: t := by rw [hdk, ← ht]; rfl
          rcases end_split t with hno | ⟨body, g, rfl, hno, _⟩
          · obtain ⟨p, hp⟩ := sk_bad hl n j out hd2 hno
            exact .inr (.inr ⟨p, hp⟩)
          · have hlen := congrArg List.length hd2
            simp at hlen
            have e0 : (47 :: 42 :: (body ++ 42 :: 47 :: g) : List UInt8) = (47 :: 42 :: (body ++ [42, 47])) ++ g := by simp
            have hd3 : s.drop (k + (body.length + 4)) = g := by
              rw [← List.drop_drop, hd2, e0, show body.length + 4 = (47 :: 42 :: (body ++ [42, 47]) : List UInt8).length by simp]
              exact List.drop_left
            refine key (k + (body.length + 4)) (47 :: 42 :: (body ++ [42, 47])) (by rw [hd2, hd3, e0]) (by simp) (by omega) (by omega) (fun g hg => ?_) (fun g hg => ?_) (sk_block hl n j out hd2 hno)
            · have : 47 :: 42 :: (body ++ [42, 47]) ++ g = 47 :: 42 :: (body ++ 42 :: 47 :: g) := by simp
              rw [this]; exact .block body g hno hg
            · have : 47 :: 42 :: (body ++ [42, 47]) ++ g = 47 :: 42 :: (body ++ 42 :: 47 :: g) := by simp
              rw [this]; exact .block body g hno hg
        | false =>
          have hst : Stop (s.drop k) := ⟨c, r, hdk, hs, by rw [hdk]; exact hp1, by rw [hdk]; exact hp2⟩
          exact .inl ⟨[], s.drop k, rfl, .nil, hst, by rw [sk_stop hl n j out hst]; rfl⟩
end Go.Proofs.YtefenlmpbgdpnaaDoor.L
