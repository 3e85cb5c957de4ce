/- The tokens of a program with the gaps behind them. -/
import Derived.Test.YtefenlmpbgdpnaaDoorEsLL
namespace Go.Proofs.YtefenlmpbgdpnaaDoor.L
open Go.Abs Go.Uni Go.Plain Go.Deci
set_option maxRecDepth 100000
set_option maxHeartbeats 1000000
set_option linter.unusedVariables false
set_option linter.unusedSimpArgs false
structure T where
  x : List UInt8
  g : List UInt8
  kd : Int
  nm : Int
  txt : List UInt8
def bytes (ts : List T) : List UInt8 := ts.flatMap fun t => t.x ++ t.g
def rows : Nat → List T → List (List AVal)
  | _, [] => []
  | k, t :: ts => tok t.kd k t.nm t.txt :: rows (k + (t.x.length + t.g.length)) ts
inductive Run (n : Nat) : List T → Prop
  | last (t : T) : TokC n t.x t.g t.kd t.nm t.txt → EndGap t.g → Run n [t]
  | more (t : T) (ts : List T) : TokC n t.x (t.g ++ bytes ts) t.kd t.nm t.txt → Gap t.g → Stop (bytes ts) → Run n ts → Run n (t :: ts)
theorem skip_of {s : List UInt8} (n : Nat) (out : List (List AVal)) (k : Int) : lex_skip n s k out = optK (lex_skip.l0 n s out n k) fun b => sumK b (fun b => some (.inl (b.1, b.2))) fun b => sumK b (fun b => some (.inr b)) fun b => some (.inr b) := rfl
theorem rows_len : ∀ (ts : List T) (k : Nat), (rows k ts).length = ts.length
  | [], _ => rfl
  | t :: ts, k => by simp [rows, rows_len ts]
theorem bytes_cons (t : T) (ts : List T) : bytes (t :: ts) = t.x ++ (t.g ++ bytes ts) := by
  unfold bytes
  rw [List.flatMap_cons, List.append_assoc]
theorem run_fwd {n : Nat} (hn : 100000 < n) {s : List UInt8} (hl : s.length ≤ 65536) {ts : List T} (h : Run n ts) : ∀ (k j : Nat) (out : List (List AVal)), s.drop k = bytes ts → out.length + ts.length ≤ 100000 → ts.length < j →
    lex_all0.l1 n s j (k : Int) out = some (.inr ((s.length : Int), out ++ rows k ts)) := by
  induction h with
  | last t ht hg =>
    intro k j out hd ho hj
    simp only [List.length_cons, List.length_nil] at ho hj
    obtain ⟨j, rfl⟩ : ∃ i, j = i + 2 := ⟨j - 2, by omega⟩
    rw [bytes_cons] at hd
    rw [show bytes [] = [] from rfl, List.append_nil] at hd
    obtain ⟨c, x', hx⟩ := tok_ne ht
    have hk : k ≤ s.length := by
      rcases Nat.lt_or_ge s.length k with h | h
      · rw [List.drop_eq_nil_of_le (by omega), hx] at hd
        cases hd
      · exact h
    obtain ⟨c1, _, c3⟩ := drop_cut hd hk
    rw [tok_round ht hl hd (by omega) hn (j + 1)]
    unfold after
    have hgl : t.g.length ≤ 65536 := by rw [← c3, List.length_drop]; omega
    rw [skip_of, skip_endGap hl n _ hg (k + t.x.length) n c1 c3 (by omega), optK_some]
    show lex_all0.l1 n s (j + 1) (s.length : Int) _ = _
    rw [l1_end]
    rfl
  | more t ts ht hg hs hr ih =>
    intro k j out hd ho hj
    simp only [List.length_cons] at ho hj
    obtain ⟨j, rfl⟩ : ∃ i, j = i + 1 := ⟨j - 1, by omega⟩
    rw [bytes_cons] at hd
    obtain ⟨c, x', hx⟩ := tok_ne ht
    have hk : k ≤ s.length := by
      rcases Nat.lt_or_ge s.length k with h | h
      · rw [List.drop_eq_nil_of_le (by omega), hx] at hd
        cases hd
      · exact h
    obtain ⟨c1, _, c3⟩ := drop_cut hd hk
    obtain ⟨c4, _, c6⟩ := drop_cut c3 c1
    rw [tok_round ht hl hd (by omega) hn j]
    unfold after
    rw [skip_of, skip_gap hl n _ hg (k + t.x.length) n (bytes ts) c3 hs (by omega), optK_some]
    show lex_all0.l1 n s j ((k + t.x.length + t.g.length : Nat) : Int) _ = _
    rw [ih (k + t.x.length + t.g.length) j _ c6 (by simp; omega) (by omega)]
    simp only [rows, List.append_assoc, List.cons_append, List.nil_append, Nat.add_assoc]
theorem run_inv {n : Nat} (hn : 100000 < n) {s : List UInt8} (hl : s.length ≤ 65536) (hv : Valid s) : ∀ (d k j : Nat) (out : List (List AVal)) (res : Int × List (List AVal)), s.length - k ≤ d → Stop (s.drop k) → out.length + d ≤ 100000 → d < j →
    lex_all0.l1 n s j (k : Int) out = some (.inr res) → ∃ ts, Run n ts ∧ s.drop k = bytes ts := by
  intro d
  induction d with
  | zero =>
    intro k j out res hd hs
    obtain ⟨c, r, e, _⟩ := hs
    rw [List.drop_eq_nil_of_le (by omega)] at e
    cases e
  | succ d ih =>
    intro k j out res hd hs ho hj h
    obtain ⟨j, rfl⟩ : ∃ i, j = i + 1 := ⟨j - 1, by omega⟩
    obtain ⟨c, r0, e, hc1, hc2, hc3⟩ := hs
    have hv' : c.toNat < 128 → Valid (c :: r0) := fun hc => (valid_cut hv (p := s.take k) (by rw [← e, List.take_append_drop]) hc).2
    obtain ⟨x, r, kd, nm, txt, e2, ht⟩ := round_inv hn hl e hv' (by omega) h
    have hd2 : s.drop k = x ++ r := by rw [e, e2]
    have hk : k ≤ s.length := by
      rcases Nat.lt_or_ge s.length k with h | h
      · rw [List.drop_eq_nil_of_le (by omega)] at e
        cases e
      · exact h
    obtain ⟨c', x', hx⟩ := tok_ne ht
    have hxl : 1 ≤ x.length := by rw [hx]; simp
    obtain ⟨c1, _, c3⟩ := drop_cut hd2 hk
    rw [tok_round ht hl hd2 (by omega) hn j] at h
    unfold after at h
    rcases skip_inv hl n (out ++ [tok kd k nm txt]) (s.length - (k + x.length)) (k + x.length) n (by omega) c1 (by omega) with ⟨g, r', f1, f2, f3, f4⟩ | ⟨f1, f2⟩ | ⟨p, f⟩
    · rw [skip_of, f4, optK_some] at h
      have h : lex_all0.l1 n s j ((k + x.length + g.length : Nat) : Int) (out ++ [tok kd k nm txt]) = some (.inr res) := h
      obtain ⟨d1, _, d3⟩ := drop_cut f1 c1
      obtain ⟨ts, i1, i2⟩ := ih (k + x.length + g.length) j _ res (by omega) (by rw [d3]; exact f3) (by simp; omega) (by omega) h
      rw [d3] at i2
      refine ⟨⟨x, g, kd, nm, txt⟩ :: ts, .more _ _ ?_ f2 (by rw [← i2]; exact f3) i1, ?_⟩
      · show TokC n x (g ++ bytes ts) kd nm txt
        rw [← i2, ← f1, c3]
        exact ht
      · rw [bytes_cons]
        show s.drop k = x ++ (g ++ bytes ts)
        rw [← i2, ← f1, c3]
        exact hd2
    · rw [c3] at f1
      refine ⟨[⟨x, r, kd, nm, txt⟩], .last _ ht f1, ?_⟩
      rw [bytes_cons]
      show s.drop k = x ++ (r ++ [])
      rw [List.append_nil]
      exact hd2
    · rw [skip_of, f, optK_some] at h
      exact inl_ne (x := (p.1, p.2, out ++ [tok kd k nm txt])) (y := res) h
end Go.Proofs.YtefenlmpbgdpnaaDoor.L
