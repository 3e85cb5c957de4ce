/- White space behind every token: the tokens stay as they are but for their places. -/
import Derived.Test.YtefenlmpbgdpnaaDoorEsLM
namespace Go.Proofs.YtefenlmpbgdpnaaDoor.L
open Go.Abs Go.Uni Go.Plain Go.Deci
set_option maxRecDepth 100000
set_option maxHeartbeats 1000000
set_option linter.unusedVariables false
set_option linter.unusedSimpArgs false
def ins (W : List UInt8) (ts : List T) : List T := ts.map fun t => { t with g := t.g ++ W }
structure Spc (W : List UInt8) : Prop where
  head : ∃ w z, W = w :: z ∧ isSpc w = true
  gap : Gap W
  line : ∀ body : List UInt8, (∀ x ∈ body, x ≠ 10) → EndGap (47 :: 47 :: (body ++ W))
  ascii : ∀ c ∈ W, c.toNat < 128
theorem ins_cons (W : List UInt8) (t : T) (ts : List T) : ins W (t :: ts) = { t with g := t.g ++ W } :: ins W ts := rfl
theorem run_ne {n : Nat} {ts : List T} (h : Run n ts) : ts ≠ [] := by
  cases h <;> exact List.cons_ne_nil _ _
theorem sgn_head : ∀ t ∈ sgn, ∀ c r, t = c :: r → c.toNat < 128 := by
  intro t ht c r h
  have h0 : ∀ t ∈ sgn, ∀ c ∈ t, c.toNat < 128 := by decide
  exact h0 t ht c (by rw [h]; exact List.mem_cons_self ..)
theorem tok_head {n : Nat} {x r : List UInt8} {kd nm : Int} {txt : List UInt8} (h : TokC n x r kd nm txt) : ∃ c x', x = c :: x' ∧ c.toNat < 128 := by
  cases h with
  | name c x _ hc ha _ _ => exact ⟨c, x, rfl, (beg_spc (c := c) (by simp [nameCh, hc])).2.2⟩
  | num c x _ hc ha _ _ =>
    simp only [List.all_cons, Bool.and_eq_true] at ha
    exact ⟨c, x, rfl, (beg_spc (c := c) (by simp [nameCh, ha.1])).2.2⟩
  | text c x _ _ hc _ => exact ⟨c, x, rfl, (quote_head c hc).2.2.2.2⟩
  | sign c x _ _ _ _ _ hf => exact ⟨c, x, rfl, sgn_head _ (List.mem_of_find?_eq_some hf) c x rfl⟩
theorem run_head {n : Nat} {ts : List T} (h : Run n ts) : ∃ c r, bytes ts = c :: r ∧ c.toNat < 128 := by
  cases h with
  | last t ht _ =>
    obtain ⟨c, x', hx, hc⟩ := tok_head ht
    exact ⟨c, _, by rw [bytes_cons, hx]; rfl, hc⟩
  | more t ts ht _ _ _ =>
    obtain ⟨c, x', hx, hc⟩ := tok_head ht
    exact ⟨c, _, by rw [bytes_cons, hx]; rfl, hc⟩
theorem run_ins {n : Nat} {W : List UInt8} (hW : Spc W) {ts : List T} (h : Run n ts) : Run n (ins W ts) := by
  obtain ⟨w, z, rfl, hw⟩ := hW.head
  induction h with
  | last t ht hg =>
    refine .last _ ?_ (hg.append hW.gap.toEnd hW.line)
    have ht' : TokC n t.x (t.g ++ []) t.kd t.nm t.txt := by rw [List.append_nil]; exact ht
    exact tok_swap (z := z) hw ht'
  | more t ts ht hg hs hr ih =>
    rw [ins_cons]
    refine .more _ _ ?_ (hg.append hW.gap) ?_ ih
    · show TokC n t.x (t.g ++ w :: z ++ bytes (ins (w :: z) ts)) t.kd t.nm t.txt
      have := tok_swap (z := z ++ bytes (ins (w :: z) ts)) hw ht
      rw [List.append_assoc]
      exact this
    · cases ts with
      | nil => exact absurd rfl (run_ne hr)
      | cons u us =>
        have hu : ∃ c x', u.x = c :: x' := by
          cases hr with
          | last _ h _ => exact tok_ne h
          | more _ _ h _ _ _ => exact tok_ne h
        obtain ⟨c, x', hx⟩ := hu
        rw [bytes_cons, hx] at hs
        have hs' : Stop (c :: (x' ++ u.g) ++ bytes us) := by
          have e : c :: (x' ++ u.g) ++ bytes us = c :: x' ++ (u.g ++ bytes us) := by simp
          rw [e]; exact hs
        have := stop_swap (z := z ++ bytes (ins (w :: z) us)) hw hs'
        rw [ins_cons, bytes_cons]
        show Stop (u.x ++ (u.g ++ w :: z ++ bytes (ins (w :: z) us)))
        rw [hx]
        have e : c :: x' ++ (u.g ++ w :: z ++ bytes (ins (w :: z) us)) = c :: (x' ++ u.g) ++ w :: (z ++ bytes (ins (w :: z) us)) := by simp
        rw [e]; exact this
theorem stop_ins {W : List UInt8} (hW : Spc W) {n : Nat} {ts : List T} (hr : Run n ts) (hs : Stop (bytes ts)) : Stop (bytes (ins W ts)) := by
  obtain ⟨w, z, rfl, hw⟩ := hW.head
  cases ts with
  | nil => exact absurd rfl (run_ne hr)
  | cons u us =>
    have hu : ∃ c x', u.x = c :: x' := by
      cases hr with
      | last _ h _ => exact tok_ne h
      | more _ _ h _ _ _ => exact tok_ne h
    obtain ⟨c, x', hx⟩ := hu
    rw [bytes_cons, hx] at hs
    have hs' : Stop (c :: (x' ++ u.g) ++ bytes us) := by
      have e : c :: (x' ++ u.g) ++ bytes us = c :: x' ++ (u.g ++ bytes us) := by simp
      rw [e]; exact hs
    have := stop_swap (z := z ++ bytes (ins (w :: z) us)) hw hs'
    rw [ins_cons, bytes_cons]
    show Stop (u.x ++ (u.g ++ w :: z ++ bytes (ins (w :: z) us)))
    rw [hx]
    have e : c :: x' ++ (u.g ++ w :: z ++ bytes (ins (w :: z) us)) = c :: (x' ++ u.g) ++ w :: (z ++ bytes (ins (w :: z) us)) := by simp
    rw [e]; exact this
theorem valid_ins {W : List UInt8} (hW : Spc W) {n : Nat} {ts : List T} (h : Run n ts) : Valid (bytes ts) → Valid (bytes (ins W ts)) := by
  induction h with
  | last t ht hg =>
    intro hv
    rw [bytes_cons] at hv
    rw [ins_cons, bytes_cons]
    show Valid (t.x ++ (t.g ++ W ++ []))
    rw [show bytes [] = [] from rfl, List.append_nil] at hv
    have := hv.append (valid_ascii hW.ascii)
    rw [List.append_nil, ← List.append_assoc]
    exact this
  | more t ts ht hg hs hr ih =>
    intro hv
    obtain ⟨c, r, hb, hc⟩ := run_head hr
    rw [bytes_cons, hb, ← List.append_assoc] at hv
    obtain ⟨v1, v2⟩ := valid_cut hv rfl hc
    rw [← hb] at v2
    rw [ins_cons, bytes_cons]
    show Valid (t.x ++ (t.g ++ W ++ bytes (ins W ts)))
    have e : t.x ++ (t.g ++ W ++ bytes (ins W ts)) = (t.x ++ t.g) ++ (W ++ bytes (ins W ts)) := by simp
    rw [e]
    exact v1.append ((valid_ascii hW.ascii).append (ih v2))
theorem bytes_len (ts : List T) (W : List UInt8) : (bytes (ins W ts)).length = (bytes ts).length + ts.length * W.length := by
  induction ts with
  | nil => simp [ins, bytes]
  | cons t ts ih =>
    rw [ins_cons, bytes_cons, bytes_cons]
    simp only [List.length_append, ih, List.length_cons, Nat.add_mul]
    omega
theorem run_len {n : Nat} {ts : List T} (h : Run n ts) : ts.length ≤ (bytes ts).length := by
  induction h with
  | last t ht _ =>
    obtain ⟨c, x', hx⟩ := tok_ne ht
    rw [bytes_cons, hx]; simp
  | more t ts ht _ _ _ ih =>
    obtain ⟨c, x', hx⟩ := tok_ne ht
    rw [bytes_cons, hx]; simp; omega
def Good (n : Nat) (g : List UInt8) (ts : List T) : Prop := (ts = [] ∧ EndGap g) ∨ (Gap g ∧ Stop (bytes ts) ∧ Run n ts)
theorem good_ins {n : Nat} {W : List UInt8} (hW : Spc W) {g : List UInt8} {ts : List T} (h : Good n g ts) : Good n (g ++ W) (ins W ts) := by
  rcases h with ⟨rfl, h⟩ | ⟨h1, h2, h3⟩
  · exact .inl ⟨rfl, h.append hW.gap.toEnd hW.line⟩
  · exact .inr ⟨h1.append hW.gap, stop_ins hW h3 h2, run_ins hW h3⟩
theorem good_valid {n : Nat} {W : List UInt8} (hW : Spc W) {g : List UInt8} {ts : List T} (h : Good n g ts) (hv : Valid (g ++ bytes ts)) : Valid (g ++ W ++ bytes (ins W ts)) := by
  rcases h with ⟨rfl, h⟩ | ⟨h1, h2, h3⟩
  · have e : g ++ W ++ bytes (ins W []) = g ++ W := by show g ++ W ++ [] = _; simp
    rw [e]
    have e2 : g ++ bytes [] = g := by show g ++ [] = _; simp
    rw [e2] at hv
    exact hv.append (valid_ascii hW.ascii)
  · obtain ⟨c, r, hb, hc⟩ := run_head h3
    have hv' := hv
    rw [hb] at hv'
    obtain ⟨v1, v2⟩ := valid_cut hv' rfl hc
    rw [← hb] at v2
    rw [List.append_assoc]
    exact v1.append ((valid_ascii hW.ascii).append (valid_ins hW h3 v2))
theorem good_len {n : Nat} {g : List UInt8} {ts : List T} (h : Good n g ts) : ts.length ≤ (bytes ts).length := by
  rcases h with ⟨rfl, h⟩ | ⟨h1, h2, h3⟩
  · exact Nat.zero_le _
  · exact run_len h3
theorem tokens_fwd {n : Nat} (hn : 100000 < n) {g : List UInt8} {ts : List T} (h : Good n g ts) (hl : (g ++ bytes ts).length ≤ 65536) (hv : Valid (g ++ bytes ts)) :
    lex_Tokens n ((g ++ bytes ts).map byte) = some (rows g.length ts ++ [tok 0 ((g ++ bytes ts).length : Int) 0 []], 0, 0) := by
  generalize hs : g ++ bytes ts = s at hl hv ⊢
  have hgl : g.length ≤ s.length := by rw [← hs]; simp
  have htl := good_len h
  have hbl : (bytes ts).length ≤ s.length := by rw [← hs]; simp
  have key : optK (lex_skip n s (0 : Int) []) (fun b => sumK b (fun b => some (.inl (b.1, b.2, ([] : List (List AVal))))) fun b => lex_all0.l1 n s n b []) = some (.inr ((s.length : Int), rows g.length ts)) := by
    rcases h with ⟨rfl, h⟩ | ⟨h1, h2, h3⟩
    · have hs' : s.drop 0 = g := by rw [List.drop_zero, ← hs]; show g ++ [] = g; simp
      have := skip_endGap hl n [] h 0 n (Nat.zero_le _) hs' (by omega)
      rw [skip_of, show (0 : Int) = ((0 : Nat) : Int) from rfl, this, optK_some]
      obtain ⟨m, rfl⟩ : ∃ m, n = m + 1 := ⟨n - 1, by omega⟩
      exact l1_end _ _ _
    · have hs' : s.drop 0 = g ++ bytes ts := by rw [List.drop_zero, hs]
      have := skip_gap hl n [] h1 0 n (bytes ts) hs' h2 (by omega)
      rw [skip_of, show (0 : Int) = ((0 : Nat) : Int) from rfl, this, optK_some]
      have hd : s.drop (0 + g.length) = bytes ts := by rw [← List.drop_drop, hs']; exact List.drop_left
      have := run_fwd hn hl h3 (0 + g.length) n [] hd (by simp; omega) (by omega)
      rw [Nat.zero_add, List.nil_append] at this
      rw [Nat.zero_add]
      exact this
  unfold lex_Tokens lex_Tokens.k
  rw [dec_f (by simp only [List.length_map]; omega), allByte_map, bytesL_map]
  simp only [cond_false, cond_true]
  unfold lex_all0 lex_all0.k
  rw [look_valid hl n 0 [] s.length 0 n (Nat.sub_zero _) (Nat.zero_le _) (by rw [List.drop_zero]; exact hv) (by omega), optK_some]
  simp only [sumK]
  cases hk : lex_skip n s 0 [] with
  | none => rw [hk] at key; cases key
  | some y =>
    rw [hk, optK_some] at key
    cases y with
    | inl y => simp only [sumK] at key; exact inl_ne (x := (y.1, y.2, [])) (y := ((s.length : Int), rows g.length ts)) key
    | inr y =>
      rw [optK_some]
      simp only [sumK] at key ⊢
      rw [key, optK_some]
      simp only
      rw [put_some _ _ _ _ _ _ _ (by rw [rows_len]; omega)]
      rfl
theorem tokens_inv {n : Nat} (hn : 100000 < n) {s : List UInt8} {a : List (List AVal)} {at_ : Int} (h : lex_Tokens n (s.map byte) = some (a, at_, 0)) :
    s.length ≤ 65536 ∧ Valid s ∧ ∃ g ts, Good n g ts ∧ s = g ++ bytes ts := by
  unfold lex_Tokens lex_Tokens.k at h
  by_cases hl : s.length ≤ 65536
  case neg =>
    rw [dec_t (by simp only [List.length_map]; omega)] at h
    simp only [cond_true] at h
    injection h with h
    injection h with _ h
    injection h with _ h
    exact absurd h (by decide)
  rw [dec_f (by simp only [List.length_map]; omega), allByte_map, bytesL_map] at h
  simp only [cond_false, cond_true] at h
  unfold lex_all0 lex_all0.k at h
  have bad : ∀ p : Int, (some (([] : List (List AVal)), p, (2 : Int)) = some (a, at_, 0)) → False := fun p h => by
    injection h with h
    injection h with _ h
    injection h with _ h
    exact absurd h (by decide)
  cases h0 : lex_all0.l0 n s s 0 [] n 0 with
  | none => rw [h0] at h; cases h
  | some y =>
  rw [h0, optK_some] at h
  cases y with
  | inl y => exact (bad _ h).elim
  | inr y =>
  have hv : Valid s := by
    have := valid_look hl n 0 [] n 0 y h0
    rwa [List.drop_zero] at this
  refine ⟨hl, hv, ?_⟩
  simp only [sumK] at h
  rcases skip_inv hl n [] s.length 0 n (by omega) (Nat.zero_le _) (by omega) with ⟨g, r, f1, f2, f3, f4⟩ | ⟨f1, f2⟩ | ⟨p, f⟩
  · rw [skip_of, show (0 : Int) = ((0 : Nat) : Int) from rfl, f4, optK_some] at h
    simp only [sumK, optK_some, Nat.zero_add] at h
    cases h1 : lex_all0.l1 n s n (g.length : Int) [] with
    | none => rw [h1] at h; cases h
    | some y =>
    rw [h1, optK_some] at h
    cases y with
    | inl y => exact (bad _ h).elim
    | inr y =>
      rw [List.drop_zero] at f1
      have hd : s.drop g.length = r := by rw [f1]; exact List.drop_left
      obtain ⟨ts, i1, i2⟩ := run_inv hn hl hv s.length g.length n [] y (by omega) (by rw [hd]; exact f3) (by simp; omega) (by omega) h1
      rw [hd] at i2
      exact ⟨g, ts, .inr ⟨f2, by rw [← i2]; exact f3, i1⟩, by rw [← i2]; exact f1⟩
  · rw [List.drop_zero] at f1
    exact ⟨s, [], .inl ⟨rfl, f1⟩, by show s = s ++ []; simp⟩
  · rw [skip_of, show (0 : Int) = ((0 : Nat) : Int) from rfl, f, optK_some] at h
    exact (bad _ h).elim
theorem gap_spcs : ∀ {l : List UInt8}, l.all isSpc = true → Gap l
  | [], _ => .nil
  | c :: l, h => by
    simp only [List.all_cons, Bool.and_eq_true] at h
    exact .spc c l h.1 (gap_spcs h.2)
theorem noEnd_of {l : List UInt8} (h : (List.range l.length).all (fun i => !(List.isPrefixOf [(42 : UInt8), 47] ((l ++ [42, 47]).drop i))) = true) : NoEnd l := fun i hi => by
  have := List.all_eq_true.1 h i (List.mem_range.2 hi)
  simpa using this
theorem line_all {W : List UInt8} (h : ∀ x ∈ W, x ≠ 10) : ∀ body : List UInt8, (∀ x ∈ body, x ≠ 10) → EndGap (47 :: 47 :: (body ++ W)) := fun body hb =>
  .last (body ++ W) fun x hx => by
    rcases List.mem_append.1 hx with hx | hx
    · exact hb x hx
    · exact h x hx
theorem line_cut {p q : List UInt8} (h : ∀ x ∈ p, x ≠ 10) (hq : EndGap q) : ∀ body : List UInt8, (∀ x ∈ body, x ≠ 10) → EndGap (47 :: 47 :: (body ++ (p ++ 10 :: q))) := fun body hb => by
  have := EndGap.line (body ++ p) q (fun x hx => by
    rcases List.mem_append.1 hx with hx | hx
    · exact hb x hx
    · exact h x hx) hq
  rwa [List.append_assoc] at this
def putIn : List (List UInt8) := [[32], [9], [10], [13, 10], [32, 47, 47, 32, 120, 10], [32, 47, 42, 32, 120, 32, 42, 47, 32], [32, 47, 42, 42, 47], [32, 47, 42, 32, 10, 32, 47, 47, 32, 42, 47], [32, 10, 32, 9]]
theorem putIn_spc : ∀ W ∈ putIn, Spc W := by
  intro W hW
  simp only [putIn, List.mem_cons, List.not_mem_nil, or_false] at hW
  rcases hW with rfl | rfl | rfl | rfl | rfl | rfl | rfl | rfl | rfl
  · exact ⟨⟨_, _, rfl, by decide⟩, gap_spcs (by decide), line_all (by decide), by decide⟩
  · exact ⟨⟨_, _, rfl, by decide⟩, gap_spcs (by decide), line_all (by decide), by decide⟩
  · exact ⟨⟨_, _, rfl, by decide⟩, gap_spcs (by decide), line_cut (p := []) (by decide) .nil, by decide⟩
  · exact ⟨⟨_, _, rfl, by decide⟩, gap_spcs (by decide), line_cut (p := [13]) (by decide) .nil, by decide⟩
  · exact ⟨⟨_, _, rfl, by decide⟩, .spc _ _ (by decide) (.line [32, 120] [] (by decide) .nil), line_cut (p := [32, 47, 47, 32, 120]) (by decide) .nil, by decide⟩
  · exact ⟨⟨_, _, rfl, by decide⟩, .spc _ _ (by decide) (.block [32, 120, 32] [32] (noEnd_of (by decide)) (gap_spcs (by decide))), line_all (by decide), by decide⟩
  · exact ⟨⟨_, _, rfl, by decide⟩, .spc _ _ (by decide) (.block [] [] (noEnd_of (by decide)) .nil), line_all (by decide), by decide⟩
  · exact ⟨⟨_, _, rfl, by decide⟩, .spc _ _ (by decide) (.block [32, 10, 32, 47, 47, 32] [] (noEnd_of (by decide)) .nil), line_cut (p := [32, 47, 42, 32]) (q := [32, 47, 47, 32, 42, 47]) (by decide) (.spc _ _ (by decide) (.last [32, 42, 47] (by decide))), by decide⟩
  · exact ⟨⟨_, _, rfl, by decide⟩, gap_spcs (by decide), line_cut (p := [32]) (by decide) (.spc _ _ (by decide) (.spc _ _ (by decide) .nil)), by decide⟩
theorem putIn_len : ∀ W ∈ putIn, W.length ≤ 11 := by decide
end Go.Proofs.YtefenlmpbgdpnaaDoor.L
