/- Tokens before what follows: the rounds of the lexer. -/
import Derived.Test.YtefenlmpbgdpnaaDoorEsLJ
namespace Go.Proofs.YtefenlmpbgdpnaaDoor.L
open Go.Abs Go.Uni Go.Plain Go.Deci
set_option maxRecDepth 100000
set_option maxHeartbeats 1000000
set_option linter.unusedVariables false
set_option linter.unusedSimpArgs false
inductive TokC (n : Nat) : List UInt8 → List UInt8 → Int → Int → List UInt8 → Prop
  | name (c : UInt8) (x r : List UInt8) : isBeg c = true → (c :: x).all nameCh = true → NoHead nameCh r → wordOf (c :: x) ≠ 2 → TokC n (c :: x) r (if wordOf (c :: x) = 1 then 2 else 1) 0 (c :: x)
  | num (c : UInt8) (x r : List UInt8) : isBeg c = false → (c :: x).all isDig = true → NoHead isDig r → numOk (c :: x) r → TokC n (c :: x) r 3 ((dv 0 (c :: x) : Nat) : Int) []
  | text (c : UInt8) (x r txt : List UInt8) : (c = 34 ∨ c = 39) →
      (∀ (s : List UInt8) (k : Nat) (out : List (List AVal)), s.length ≤ 65536 → out.length ≤ 100000 → (s.drop k).take (c :: x).length = c :: x → lex_text n s (k : Int) out = some (.inl (((k + (c :: x).length : Nat) : Int), out ++ [tok 4 k 0 txt]))) → TokC n (c :: x) r 4 0 txt
  | sign (c : UInt8) (x r : List UInt8) : isBeg c = false → isDig c = false → c.toNat ≠ 34 → c.toNat ≠ 39 → sgn.find? (fun t => t.isPrefixOf (c :: x ++ r)) = some (c :: x) → TokC n (c :: x) r 5 0 (c :: x)
theorem quote_head : ∀ c : UInt8, (c = 34 ∨ c = 39) → isBeg c = false ∧ isDig c = false ∧ (c.toNat = 34 ∨ c.toNat = 39) ∧ isSpc c = false ∧ c.toNat < 128 := by
  intro c h
  rcases h with rfl | rfl <;> decide
def after (n : Nat) (s : List UInt8) (j e : Nat) (out : List (List AVal)) : Option (Int × Int × List (List AVal) ⊕ Int × List (List AVal)) :=
  optK (lex_skip n s (e : Int) out) fun b => sumK b (fun b => some (.inl (b.1, b.2, out))) fun b => lex_all0.l1 n s j b out
theorem tok_round {n : Nat} {x r : List UInt8} {kd nm : Int} {txt : List UInt8} (h : TokC n x r kd nm txt) {s : List UInt8} (hl : s.length ≤ 65536) {k : Nat} (hd : s.drop k = x ++ r) {out : List (List AVal)} (ho : out.length ≤ 100000) (hn : 100000 < n) (j : Nat) :
    lex_all0.l1 n s (j + 1) (k : Int) out = after n s j (k + x.length) (out ++ [tok kd k nm txt]) := by
  have hd0 := hd
  cases h with
  | name c x _ hc ha hr hw =>
    rw [List.cons_append] at hd0
    obtain ⟨hb, hk, _⟩ := byteAt_drop hd0
    have hname := name_gen hl (by omega) hd ha hr ho hn
    rw [if_neg hw] at hname
    rw [lex_all0.l1.succ, lex_all0.l1.s, dec_t (by omega)]
    simp only [cond_true]
    rw [if_pos (by omega)]
    simp only [Int.toNat_natCast, hb]
    rw [begins_eq, optK_some, hc]
    simp only [cond_true]
    rw [hname, optK_some]
    rfl
  | num c x _ hc ha hr hok =>
    rw [List.cons_append] at hd0
    obtain ⟨hb, hk, _⟩ := byteAt_drop hd0
    have hdig : isDig c = true := by
      simp only [List.all_cons, Bool.and_eq_true] at ha
      exact ha.1
    rcases number_gen hl (by omega) hd (by simp) ha hr ho hn with ⟨_, hnum⟩ | ⟨hno, _⟩
    case inr => exact absurd hok hno
    rw [lex_all0.l1.succ, lex_all0.l1.s, dec_t (by omega)]
    simp only [cond_true]
    rw [if_pos (by omega)]
    simp only [Int.toNat_natCast, hb]
    rw [begins_eq, optK_some, hc]
    simp only [cond_false]
    rw [digit_eq, optK_some, hdig]
    simp only [cond_true]
    rw [hnum, optK_some]
    rfl
  | text c x _ _ hc ht =>
    rw [List.cons_append] at hd0
    obtain ⟨hb, hk, _⟩ := byteAt_drop hd0
    obtain ⟨q1, q2, q3, _, _⟩ := quote_head c hc
    have htext := ht s k out hl ho (by rw [hd]; exact List.take_left)
    rw [lex_all0.l1.succ, lex_all0.l1.s, dec_t (by omega)]
    simp only [cond_true]
    rw [if_pos (by omega)]
    simp only [Int.toNat_natCast, hb]
    rw [begins_eq, optK_some, q1]
    simp only [cond_false]
    rw [digit_eq, optK_some, q2]
    simp only [cond_false]
    rcases q3 with q3 | q3
    · rw [beq_t (by omega)]
      simp only [cond_true]
      rw [htext, optK_some]
      rfl
    · rw [beq_f (by omega)]
      simp only [cond_false]
      rw [beq_t (by omega)]
      simp only [cond_true]
      rw [htext, optK_some]
      rfl
  | sign c x _ h1 h2 h3 h4 hf =>
    rw [List.cons_append] at hd0
    obtain ⟨hb, hk, _⟩ := byteAt_drop hd0
    have hsign := sign_gen hl (k := k) (by omega) ho hn
    rw [hd, hf] at hsign
    rw [lex_all0.l1.succ, lex_all0.l1.s, dec_t (by omega)]
    simp only [cond_true]
    rw [if_pos (by omega)]
    simp only [Int.toNat_natCast, hb]
    rw [begins_eq, optK_some, h1]
    simp only [cond_false]
    rw [digit_eq, optK_some, h2]
    simp only [cond_false]
    rw [beq_f (by omega)]
    simp only [cond_false]
    rw [beq_f (by omega)]
    simp only [cond_false]
    rw [hsign, optK_some]
    rfl
theorem pre_cut {z : List UInt8} {w : UInt8} (hw : isSpc w = true) (y : List UInt8) : ∀ (t a : List UInt8), (∀ c ∈ t, isSpc c = false) → t.isPrefixOf (a ++ w :: z) = true → t.isPrefixOf (a ++ y) = true
  | [], _, _, _ => by simp [List.isPrefixOf]
  | c :: t, [], ht, h => by
    simp only [List.nil_append, List.isPrefixOf, Bool.and_eq_true, beq_iff_eq] at h
    have := ht c (List.mem_cons_self ..)
    rw [h.1, hw] at this
    cases this
  | c :: t, b :: a, ht, h => by
    simp only [List.cons_append, List.isPrefixOf, Bool.and_eq_true] at h ⊢
    exact ⟨h.1, pre_cut hw y t a (fun c hc => ht c (List.mem_cons_of_mem _ hc)) h.2⟩
theorem noHead_swap {p : UInt8 → Bool} {g y z : List UInt8} {w : UInt8} (h : NoHead p (g ++ y)) (hw : p w = false) : NoHead p (g ++ w :: z) := by
  intro c r e
  cases g with
  | nil => injection e with e _; rw [← e]; exact hw
  | cons a g =>
    injection e with e _
    exact h c (g ++ y) (by rw [← e]; rfl)
theorem spc_head0 : ∀ k : Fin 256, isSpc (UInt8.ofNat k.val) = true → nameCh (UInt8.ofNat k.val) = false ∧ isDig (UInt8.ofNat k.val) = false ∧ isBeg (UInt8.ofNat k.val) = false := by decide +kernel
theorem spc_head {c : UInt8} (h : isSpc c = true) : nameCh c = false ∧ isDig c = false ∧ isBeg c = false := by
  have := spc_head0 ⟨c.toNat, c.toNat_lt⟩
  simp only [UInt8.ofNat_toNat] at this
  exact this h
theorem sgn_spc : ∀ t ∈ sgn, ∀ c ∈ t, isSpc c = false := by decide
theorem sign_swap {x g y z : List UInt8} {w : UInt8} (hw : isSpc w = true) (h : sgn.find? (fun t => t.isPrefixOf (x ++ (g ++ y))) = some x) : sgn.find? (fun t => t.isPrefixOf (x ++ (g ++ w :: z))) = some x := by
  obtain ⟨_, l1, l2, e, hn⟩ := List.find?_eq_some_iff_append.1 h
  refine List.find?_eq_some_iff_append.2 ⟨by rw [List.isPrefixOf_iff_prefix]; exact List.prefix_append _ _, l1, l2, e, fun a ha => ?_⟩
  have h1 := hn a ha
  cases hp : a.isPrefixOf (x ++ (g ++ w :: z)) with
  | false => rfl
  | true =>
    rw [← List.append_assoc] at hp
    have := pre_cut hw y a (x ++ g) (sgn_spc a (by rw [e]; exact List.mem_append_left _ ha)) hp
    rw [List.append_assoc] at this
    rw [this] at h1
    cases h1
theorem tok_swap {n : Nat} {x g y z : List UInt8} {kd nm : Int} {txt : List UInt8} {w : UInt8} (hw : isSpc w = true) (h : TokC n x (g ++ y) kd nm txt) : TokC n x (g ++ w :: z) kd nm txt := by
  obtain ⟨w1, w2, w3⟩ := spc_head hw
  generalize hr : g ++ y = r at h
  cases h with
  | name c x _ hc ha h1 h2 => subst hr; exact .name c x _ hc ha (noHead_swap h1 w1) h2
  | num c x _ hc ha h1 h2 => subst hr; exact .num c x _ hc ha (noHead_swap h1 w2) ⟨h2.1, h2.2.1, noHead_swap h2.2.2 w3⟩
  | text c x _ _ hc h1 => exact .text c x _ _ hc h1
  | sign c x _ h1 h2 h3 h4 h5 => subst hr; exact .sign c x _ h1 h2 h3 h4 (sign_swap (x := c :: x) hw h5)
theorem tok_ne {n : Nat} {x r : List UInt8} {kd nm : Int} {txt : List UInt8} (h : TokC n x r kd nm txt) : ∃ c x', x = c :: x' := by
  cases h <;> exact ⟨_, _, rfl⟩
theorem stop_swap {c : UInt8} {a y z : List UInt8} {w : UInt8} (hw : isSpc w = true) (h : Stop (c :: a ++ y)) : Stop (c :: a ++ w :: z) := by
  obtain ⟨c', r, e, h1, h2, h3⟩ := h
  injection e with e1 e2
  subst e1 e2
  refine ⟨c, a ++ w :: z, rfl, h1, ?_, ?_⟩
  · cases hp : List.isPrefixOf [(47 : UInt8), 47] (c :: a ++ w :: z) with
    | false => rfl
    | true =>
      have := pre_cut hw y [47, 47] (c :: a) (by decide) hp
      rw [h2] at this
      cases this
  · cases hp : List.isPrefixOf [(47 : UInt8), 42] (c :: a ++ w :: z) with
    | false => rfl
    | true =>
      have := pre_cut hw y [47, 42] (c :: a) (by decide) hp
      rw [h3] at this
      cases this
end Go.Proofs.YtefenlmpbgdpnaaDoor.L
