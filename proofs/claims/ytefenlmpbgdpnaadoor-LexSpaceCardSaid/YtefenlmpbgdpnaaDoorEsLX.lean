/- What the lexer's small functions compute. -/
import Derived.Test.YtefenlmpbgdpnaaDoorEsX2
import Derived.Test.YtefenlmpbgdpnaaDoorEsLQ
namespace Go.Proofs.YtefenlmpbgdpnaaDoor.L
open Go.Abs Go.Uni Go.Plain Go.Deci
open Go.Lib (itoa decDigits)
set_option maxRecDepth 100000
set_option maxHeartbeats 1000000
set_option linter.unusedVariables false
set_option linter.unusedSimpArgs false
def isBeg (c : UInt8) : Bool := (decide (97 ≤ c.toNat) && decide (c.toNat ≤ 122)) || (decide (65 ≤ c.toNat) && decide (c.toNat ≤ 90)) || decide (c.toNat = 95) || decide (c.toNat = 36)
theorem begN : ∀ k : Fin 256, lex_begins ((k.val : Nat) : Int) = some (isBeg (UInt8.ofNat k.val)) := by decide +kernel
theorem begins_eq (c : UInt8) : lex_begins ((c.toNat : Nat) : Int) = some (isBeg c) := by
  have := begN ⟨c.toNat, b_lt c⟩
  simpa using this
theorem digN : ∀ k : Fin 256, lex_digit ((k.val : Nat) : Int) = some (isDig (UInt8.ofNat k.val)) := by decide +kernel
theorem digit_eq (c : UInt8) : lex_digit ((c.toNat : Nat) : Int) = some (isDig c) := by
  have := digN ⟨c.toNat, b_lt c⟩
  simpa using this
def strRow (l : List UInt8) : List AVal := [.str l]
theorem nth_str (l : List (List UInt8)) (i : Nat) (h : i < l.length) : nthL (l.map strRow) i = [.str l[i]] := nth_map strRow l i h
theorem sidx_loop {l : List (List UInt8)} (s : List UInt8) (hl : l.length ≤ 100000) (n : Nat) : ∀ (d i j : Nat), l.length - i = d → i ≤ l.length → d < j →
    ∃ r, slices_Index.l0 n (l.map strRow) s 0 (l.length : Int) j (i : Int) = some r ∧ (match r with
      | .inl p => 0 ≤ p.1 ∧ (l.drop i).contains s = true
      | .inr _ => (l.drop i).contains s = false) := by
  intro d
  induction d with
  | zero =>
    intro i j hd hi hj
    obtain ⟨j, rfl⟩ : ∃ k, j = k + 1 := ⟨j - 1, by omega⟩
    refine ⟨.inr (i : Int), ?_, ?_⟩
    · rw [slices_Index.l0.succ, slices_Index.l0.s]
      simp (disch := omega) only [ite_t, ite_f, dec_t, dec_f, beq_t, beq_f, bne_t, bne_f, nbeq_t, nbeq_f, nble_t, nble_f, cond_true, cond_false, Bool.not_true, Bool.not_false, Bool.and_true, Bool.true_and, Bool.and_self, room_t, w64, w32, wu8, wu8', wu16, wu32, fdiv_pos, and63i, and1023i, and31i, and15i, and7i, and192i, or64w, or32w, or16w, or4096w, or64r, or64b, or32b, or16b, optK_some, optK_none, toNat_ofNat, append_eq, List.length_cons, List.length_nil, List.length_append, List.length_map, reduceIte, toNat_s, cell_one, isI_u16, isI_i64, getI_n]
    · rw [List.drop_eq_nil_of_le (by omega)]; rfl
  | succ d ih =>
    intro i j hd hi hj
    obtain ⟨j, rfl⟩ : ∃ k, j = k + 1 := ⟨j - 1, by omega⟩
    have hil : i < l.length := by omega
    have hn := nth_str l i hil
    rw [slices_Index.l0.succ, slices_Index.l0.s, List.drop_eq_getElem_cons hil, List.contains_cons]
    cases hb : (s == l[i]) with
    | true =>
      refine ⟨.inl ((i : Int), (i : Int)), ?_, ?_⟩
      · have e2 : (if 0 ≤ (i : Int) ∧ (i : Int) < ((l.map strRow).length : Int) then (1 : Nat) else 0) = 1 := by rw [if_pos]; simp; omega
        simp (disch := omega) only [ite_t, ite_f, dec_t, dec_f, beq_t, beq_f, bne_t, bne_f, nbeq_t, nbeq_f, nble_t, nble_f, cond_true, cond_false, Bool.not_true, Bool.not_false, Bool.and_true, Bool.true_and, Bool.and_self, room_t, w64, w32, wu8, wu8', wu16, wu32, fdiv_pos, and63i, and1023i, and31i, and15i, and7i, and192i, or64w, or32w, or16w, or4096w, or64r, or64b, or32b, or16b, optK_some, optK_none, toNat_ofNat, append_eq, List.length_cons, List.length_nil, List.length_append, List.length_map, reduceIte, toNat_s, cell_one, isI_u16, isI_i64, getI_n, hn, cell_one, isS, getS, hb]
      · simp
    | false =>
      obtain ⟨r, h1, h2⟩ := ih (i + 1) j (by omega) (by omega) (by omega)
      refine ⟨r, ?_, ?_⟩
      · rw [← h1]
        simp (disch := omega) only [ite_t, ite_f, dec_t, dec_f, beq_t, beq_f, bne_t, bne_f, nbeq_t, nbeq_f, nble_t, nble_f, cond_true, cond_false, Bool.not_true, Bool.not_false, Bool.and_true, Bool.true_and, Bool.and_self, room_t, w64, w32, wu8, wu8', wu16, wu32, fdiv_pos, and63i, and1023i, and31i, and15i, and7i, and192i, or64w, or32w, or16w, or4096w, or64r, or64b, or32b, or16b, optK_some, optK_none, toNat_ofNat, append_eq, List.length_cons, List.length_nil, List.length_append, List.length_map, reduceIte, toNat_s, cell_one, isI_u16, isI_i64, getI_n, hn, cell_one, isS, getS, hb]
        rfl
      · simpa using h2
theorem contains_eq {l : List (List UInt8)} (s : List UInt8) (hl : l.length ≤ 100000) {n : Nat} (hn : 100000 < n) : slices_Contains n (l.map strRow) s = some (l.contains s) := by
  obtain ⟨r, h1, h2⟩ := sidx_loop s hl n _ 0 n rfl (by omega) (by omega)
  unfold slices_Contains slices_Contains.k slices_Index slices_Index.k
  rw [show ((l.map strRow).length : Int) = (l.length : Int) by simp]
  rw [show ((0 : Nat) : Int) = 0 from rfl] at h1
  rw [h1]
  rw [List.drop_zero] at h2
  cases r with
  | inl p => simp only [optK_some, sumK, h2.2]; simp [h2.1]
  | inr p =>
    simp only at h2
    simp only [optK_some, sumK, h2]; simp
def ownW : List (List UInt8) := Lib.fields ("break catch const continue delete else false finally function if in let new null return this throw true try typeof undefined while".toUTF8.data.toList)
def alienW : List (List UInt8) := Lib.fields ("await case class debugger default do enum export extends for implements import instanceof interface package private protected public static super switch var void with yield".toUTF8.data.toList)
theorem ownW_len : ownW.length ≤ 100 := by decide +kernel
theorem alienW_len : alienW.length ≤ 100 := by decide +kernel
def wordOf (s : List UInt8) : Int := bif ownW.contains s then 1 else bif alienW.contains s then 2 else 0
theorem word_k {X : Type} (n : Nat) (s : List UInt8) (ret : Int → Option X) : lex_Word.k n s ret = optK (slices_Contains n (ownW.map strRow) s) fun b => bif b then ret 1 else optK (slices_Contains n (alienW.map strRow) s) fun b => bif b then ret 2 else ret 0 := by kernel_rfl
theorem word_eq (s : List UInt8) {n : Nat} (hn : 100000 < n) : lex_Word n s = some (wordOf s) := by
  unfold lex_Word
  rw [word_k, contains_eq s (Nat.le_trans ownW_len (by omega)) hn, contains_eq s (Nat.le_trans alienW_len (by omega)) hn]
  simp only [optK_some]
  unfold wordOf
  cases ownW.contains s <;> cases alienW.contains s <;> rfl
end Go.Proofs.YtefenlmpbgdpnaaDoor.L
