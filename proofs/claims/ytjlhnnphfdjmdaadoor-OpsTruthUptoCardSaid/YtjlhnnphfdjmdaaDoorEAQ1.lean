/- What the functions that decode compute. -/
import Derived.Test.YtjlhnnphfdjmdaaDoorEAF1
import Derived.Test.YtjlhnnphfdjmdaaDoorEAQ0
namespace Go.Proofs.YtjlhnnphfdjmdaaDoor.U
open Go.Abs Go.Uni Go.Plain Go.Deci L0
open Go.Lib (itoa decDigits atoiAll)
set_option maxRecDepth 2000000
set_option maxHeartbeats 20000000
set_option linter.unusedVariables false
set_option linter.unusedSimpArgs false
def eachROut : (Int × Bool × Nat) ⊕ (Int × Bool × Nat) → Bool
  | .inl _ => false
  | .inr _ => true
def eachOOut : (Int × Bool × Nat × List (List AVal)) ⊕ (Int × Bool × Nat × List (List AVal)) → Bool × List (List AVal)
  | .inl t => (false, t.2.2.2)
  | .inr t => (true, t.2.2.2)
theorem eachR_skip {s : List UInt8} {pos : Nat} (h : pos < s.length) (n j : Nat) (b ah : Bool) {k : Int} (hk : 0 < k ∧ k < 10)  :
    units_EachR.l0 n s b s (j + 1) k ah pos  = units_EachR.l0 n s b s j (k - 1) ah (pos + (dec (s.drop pos)).2)  := by
  rw [units_EachR.l0.succ, units_EachR.l0.s]
  simp (disch := omega) only [ite_t, ite_f, dec_t, dec_f, beq_t, beq_f, bne_t, bne_f, nbeq_t, nbeq_f, nble_t, nble_f, cond_true, cond_false, Bool.not_true, Bool.not_false, Bool.and_true, Bool.true_and, Bool.and_self, room_t, w64, w32, wu8, wu8', wu16, wu32, fdiv_pos, and63i, and1023i, and31i, and15i, and7i, and192i, or64w, or32w, or16w, or4096w, or64r, or64b, or32b, or16b, optK_some, optK_none, toNat_ofNat, append_eq, List.length_cons, List.length_nil, List.length_append, List.length_map, reduceIte, toNat_s, cell_one, isI_u16, isI_i64, getI_n, h, decode_eq s pos h]
theorem eachR_end {s : List UInt8} {pos : Nat} (h : ¬ pos < s.length) (n j : Nat) (b ah : Bool) (k : Int)  :
    units_EachR.l0 n s b s (j + 1) k ah pos  = some (.inr (k, ah, pos)) := by
  rw [units_EachR.l0.succ, units_EachR.l0.s]
  simp (disch := omega) only [ite_t, ite_f, dec_t, dec_f, beq_t, beq_f, bne_t, bne_f, nbeq_t, nbeq_f, nble_t, nble_f, cond_true, cond_false, Bool.not_true, Bool.not_false, Bool.and_true, Bool.true_and, Bool.and_self, room_t, w64, w32, wu8, wu8', wu16, wu32, fdiv_pos, and63i, and1023i, and31i, and15i, and7i, and192i, or64w, or32w, or16w, or4096w, or64r, or64b, or32b, or16b, optK_some, optK_none, toNat_ofNat, append_eq, List.length_cons, List.length_nil, List.length_append, List.length_map, reduceIte, toNat_s, cell_one, isI_u16, isI_i64, getI_n, h]
theorem eachR_bad {s : List UInt8} {pos : Nat} (h : pos < s.length) (n j : Nat) (b ah : Bool)  (hb : ((pt (s.drop pos)).2 = 0 || (ah && isLow (pt (s.drop pos)).1)) = true) :
    units_EachR.l0 n s b s (j + 1) 0 ah pos  = some (.inl (0, ah, pos + 1)) := by
  have hne : s.drop pos ≠ [] := by simp; exact h
  rw [units_EachR.l0.succ, units_EachR.l0.s]
  by_cases p : (pt (s.drop pos)).2 = 0
  · simp (disch := omega) only [ite_t, ite_f, dec_t, dec_f, beq_t, beq_f, bne_t, bne_f, nbeq_t, nbeq_f, nble_t, nble_f, cond_true, cond_false, Bool.not_true, Bool.not_false, Bool.and_true, Bool.true_and, Bool.and_self, room_t, w64, w32, wu8, wu8', wu16, wu32, fdiv_pos, and63i, and1023i, and31i, and15i, and7i, and192i, or64w, or32w, or16w, or4096w, or64r, or64b, or32b, or16b, optK_some, optK_none, toNat_ofNat, append_eq, List.length_cons, List.length_nil, List.length_append, List.length_map, reduceIte, toNat_s, cell_one, isI_u16, isI_i64, getI_n, h, decode_eq s pos h, List.take_length, dec_bad p, decS_ne hne, halfAt_eq, halfB_bad p]
  · simp only [p, decide_false, Bool.false_or, Bool.and_eq_true] at hb
    obtain ⟨rfl, hb⟩ := hb
    have hh := low_half hb
    simp only [isLow, Bool.and_eq_true, decide_eq_true_eq] at hb
    simp (disch := omega) only [ite_t, ite_f, dec_t, dec_f, beq_t, beq_f, bne_t, bne_f, nbeq_t, nbeq_f, nble_t, nble_f, cond_true, cond_false, Bool.not_true, Bool.not_false, Bool.and_true, Bool.true_and, Bool.and_self, room_t, w64, w32, wu8, wu8', wu16, wu32, fdiv_pos, and63i, and1023i, and31i, and15i, and7i, and192i, or64w, or32w, or16w, or4096w, or64r, or64b, or32b, or16b, optK_some, optK_none, toNat_ofNat, append_eq, List.length_cons, List.length_nil, List.length_append, List.length_map, reduceIte, toNat_s, cell_one, isI_u16, isI_i64, getI_n, h, decode_eq s pos h, List.take_length, dec_half hh, decS_ne hne, halfAt_eq, halfB_half hh, halfV_half hh]
theorem eachR_half {s : List UInt8} {pos : Nat} (h : pos < s.length) (n j : Nat) (b ah : Bool)  (hh : isHalf (pt (s.drop pos)).1 = true) (hb : (ah && isLow (pt (s.drop pos)).1) = false) :
    units_EachR.l0 n s b s (j + 1) 0 ah pos  = units_EachR.l0 n s b s j 2 (isLead (pt (s.drop pos)).1) (pos + 1)  := by
  have hne : s.drop pos ≠ [] := by simp; exact h
  have hc := pt_lt (s.drop pos)
  have hh' := hh
  simp only [isHalf, Bool.and_eq_true, decide_eq_true_eq] at hh'
  have g2 : decide (((pt (s.drop pos)).1 : Int) < 56320) = isLead (pt (s.drop pos)).1 := by
    simp only [isLead, ← Bool.decide_and]; apply decide_eq_decide.2; omega
  rw [units_EachR.l0.succ, units_EachR.l0.s]
  rw [← g2]
  cases ah with
  | false => simp (disch := omega) only [ite_t, ite_f, beq_t, beq_f, cond_true, cond_false, Bool.not_true, Bool.not_false, w64, optK_some, optK_none, toNat_ofNat, dec_f, ge_iff_le, dec_t, reduceIte, h, decode_eq s pos h, List.take_length, dec_half hh, decS_ne hne, halfAt_eq, halfB_half hh, halfV_half hh, units_yes, units_yes.k]
  | true =>
    simp only [isLow, Bool.true_and, Bool.and_eq_false_iff, decide_eq_false_iff_not] at hb
    simp (disch := omega) only [ite_t, ite_f, beq_t, beq_f, cond_true, cond_false, Bool.not_true, Bool.not_false, w64, optK_some, optK_none, toNat_ofNat, dec_f, ge_iff_le, dec_t, reduceIte, h, decode_eq s pos h, List.take_length, dec_half hh, decS_ne hne, halfAt_eq, halfB_half hh, halfV_half hh, units_yes, units_yes.k]
theorem eachR_plain {s : List UInt8} {pos : Nat} (h : pos < s.length) (n j : Nat) (b ah : Bool)  (h0 : (pt (s.drop pos)).2 ≠ 0) (hh : isHalf (pt (s.drop pos)).1 = false) :
    units_EachR.l0 n s b s (j + 1) 0 ah pos  = units_EachR.l0 n s b s j 0 (isLead (pt (s.drop pos)).1) (pos + (pt (s.drop pos)).2)  := by
  have hne : s.drop pos ≠ [] := by simp; exact h
  have hlt := pt_lt (s.drop pos)
  have hd := dec_plain h0 hh
  simp only [isHalf, Bool.and_eq_false_iff, decide_eq_false_iff_not] at hh
  have g0 : isLead (pt (s.drop pos)).1 = false := by simp only [isLead, Bool.and_eq_false_iff, decide_eq_false_iff_not]; omega
  rw [units_EachR.l0.succ, units_EachR.l0.s, g0]
  by_cases p : (pt (s.drop pos)).1 = 65533
  · have h3 := plain_3 p h0
    simp (disch := omega) only [ite_t, ite_f, dec_t, dec_f, beq_t, beq_f, bne_t, bne_f, nbeq_t, nbeq_f, nble_t, nble_f, cond_true, cond_false, Bool.not_true, Bool.not_false, Bool.and_true, Bool.true_and, Bool.and_self, room_t, w64, w32, wu8, wu8', wu16, wu32, fdiv_pos, and63i, and1023i, and31i, and15i, and7i, and192i, or64w, or32w, or16w, or4096w, or64r, or64b, or32b, or16b, optK_some, optK_none, toNat_ofNat, append_eq, List.length_cons, List.length_nil, List.length_append, List.length_map, reduceIte, toNat_s, cell_one, isI_u16, isI_i64, getI_n, h, decode_eq s pos h, List.take_length, hd, decS_ne hne, units_yes, units_yes.k]
  · by_cases p2 : 55296 ≤ (pt (s.drop pos)).1
    · simp (disch := omega) only [ite_t, ite_f, dec_t, dec_f, beq_t, beq_f, bne_t, bne_f, nbeq_t, nbeq_f, nble_t, nble_f, cond_true, cond_false, Bool.not_true, Bool.not_false, Bool.and_true, Bool.true_and, Bool.and_self, room_t, w64, w32, wu8, wu8', wu16, wu32, fdiv_pos, and63i, and1023i, and31i, and15i, and7i, and192i, or64w, or32w, or16w, or4096w, or64r, or64b, or32b, or16b, optK_some, optK_none, toNat_ofNat, append_eq, List.length_cons, List.length_nil, List.length_append, List.length_map, reduceIte, toNat_s, cell_one, isI_u16, isI_i64, getI_n, h, decode_eq s pos h, List.take_length, hd, decS_ne hne, units_yes, units_yes.k]
    · simp (disch := omega) only [ite_t, ite_f, dec_t, dec_f, beq_t, beq_f, bne_t, bne_f, nbeq_t, nbeq_f, nble_t, nble_f, cond_true, cond_false, Bool.not_true, Bool.not_false, Bool.and_true, Bool.true_and, Bool.and_self, room_t, w64, w32, wu8, wu8', wu16, wu32, fdiv_pos, and63i, and1023i, and31i, and15i, and7i, and192i, or64w, or32w, or16w, or4096w, or64r, or64b, or32b, or16b, optK_some, optK_none, toNat_ofNat, append_eq, List.length_cons, List.length_nil, List.length_append, List.length_map, reduceIte, toNat_s, cell_one, isI_u16, isI_i64, getI_n, h, decode_eq s pos h, List.take_length, hd, decS_ne hne, units_yes, units_yes.k]
theorem eachR_loop {s : List UInt8} (hl : s.length ≤ 2000000) (n : Nat) (b : Bool) : ∀ (d f pos j : Nat) (ah : Bool), s.length - pos = d → pos ≤ s.length → d < j → d ≤ f →
    ∃ x, units_EachR.l0 n s b s j 0 ah pos  = some x ∧ eachROut x = (scan f ah (s.drop pos)).2 := by
  intro d
  induction d using Nat.strongRecOn with
  | ind d ih =>
    intro f pos j ah hn hp hj hf
    obtain ⟨j, rfl⟩ : ∃ i, j = i + 1 := ⟨j - 1, by omega⟩
    rcases Nat.lt_or_ge pos s.length with hlt | hge
    · obtain ⟨f, rfl⟩ : ∃ i, f = i + 1 := ⟨f - 1, by omega⟩
      have hd := drop_at s pos hlt
      have hsc : scan (f + 1) ah (s.drop pos) = if (pt (s.drop pos)).2 = 0 || (ah && isLow (pt (s.drop pos)).1) then ([], false) else ((pt (s.drop pos)).1 :: (scan f (isLead (pt (s.drop pos)).1) ((s.drop pos).drop (pt (s.drop pos)).2)).1, (scan f (isLead (pt (s.drop pos)).1) ((s.drop pos).drop (pt (s.drop pos)).2)).2) := by
        rw [hd]; rfl
      by_cases hb : ((pt (s.drop pos)).2 = 0 || (ah && isLow (pt (s.drop pos)).1)) = true
      · refine ⟨_, eachR_bad hlt n j b ah  hb, ?_⟩
        rw [hsc, if_pos hb]
        simp [eachROut]
      · have hb' := hb
        simp only [Bool.or_eq_true, decide_eq_true_eq, not_or, Bool.not_eq_true] at hb'
        have hw := pt_width (s.drop pos)
        rw [List.length_drop] at hw
        have hu := u16_len (pt (s.drop pos)).1
        rw [hsc, if_neg hb, List.drop_drop]
        rcases hh : isHalf (pt (s.drop pos)).1 with _ | _
        · obtain ⟨x, h, hx⟩ := ih (s.length - (pos + (pt (s.drop pos)).2)) (by omega) f (pos + (pt (s.drop pos)).2) j (isLead (pt (s.drop pos)).1) rfl (by omega) (by omega) (by omega)
          refine ⟨x, ?_, ?_⟩
          · rw [eachR_plain hlt n j b ah  hb'.1 hh]; exact h
          · rw [hx]
        · obtain ⟨c1, c2, c3⟩ := half_conts hh
          have h3 := half_w hh
          rw [List.drop_drop] at c1 c2
          rw [List.length_drop] at c3
          obtain ⟨j, rfl⟩ : ∃ i, j = i + 2 := ⟨j - 2, by omega⟩
          obtain ⟨x, h, hx⟩ := ih (s.length - (pos + 3)) (by omega) f (pos + 3) j (isLead (pt (s.drop pos)).1) rfl (by omega) (by omega) (by omega)
          refine ⟨x, ?_, ?_⟩
          · rw [eachR_half hlt n (j + 2) b ah  hh hb'.2, eachR_skip (by omega) n (j + 1) b _ (by omega), c1, show (2 : Int) - 1 = 1 from rfl, eachR_skip (by omega) n j b _ (by omega), c2]
            exact h
          · rw [hx, h3]
    · refine ⟨_, eachR_end (by omega) n j b ah 0 , ?_⟩
      have hd : s.drop pos = [] := by simp; omega
      have hs : scan f ah [] = ([], true) := by cases f <;> rfl
      rw [hd, hs]
      simp [eachROut]
theorem eachO_skip {s : List UInt8} {pos : Nat} (h : pos < s.length) (n j : Nat) (b ah : Bool) {k : Int} (hk : 0 < k ∧ k < 10) (o : List Nat) :
    units_EachO.l0 n s b s (j + 1) k ah pos (o.map unit) = units_EachO.l0 n s b s j (k - 1) ah (pos + (dec (s.drop pos)).2) (o.map unit) := by
  rw [units_EachO.l0.succ, units_EachO.l0.s]
  simp (disch := omega) only [ite_t, ite_f, dec_t, dec_f, beq_t, beq_f, bne_t, bne_f, nbeq_t, nbeq_f, nble_t, nble_f, cond_true, cond_false, Bool.not_true, Bool.not_false, Bool.and_true, Bool.true_and, Bool.and_self, room_t, w64, w32, wu8, wu8', wu16, wu32, fdiv_pos, and63i, and1023i, and31i, and15i, and7i, and192i, or64w, or32w, or16w, or4096w, or64r, or64b, or32b, or16b, optK_some, optK_none, toNat_ofNat, append_eq, List.length_cons, List.length_nil, List.length_append, List.length_map, reduceIte, toNat_s, cell_one, isI_u16, isI_i64, getI_n, h, decode_eq s pos h]
theorem eachO_end {s : List UInt8} {pos : Nat} (h : ¬ pos < s.length) (n j : Nat) (b ah : Bool) (k : Int) (o : List Nat) :
    units_EachO.l0 n s b s (j + 1) k ah pos (o.map unit) = some (.inr (k, ah, pos, o.map unit)) := by
  rw [units_EachO.l0.succ, units_EachO.l0.s]
  simp (disch := omega) only [ite_t, ite_f, dec_t, dec_f, beq_t, beq_f, bne_t, bne_f, nbeq_t, nbeq_f, nble_t, nble_f, cond_true, cond_false, Bool.not_true, Bool.not_false, Bool.and_true, Bool.true_and, Bool.and_self, room_t, w64, w32, wu8, wu8', wu16, wu32, fdiv_pos, and63i, and1023i, and31i, and15i, and7i, and192i, or64w, or32w, or16w, or4096w, or64r, or64b, or32b, or16b, optK_some, optK_none, toNat_ofNat, append_eq, List.length_cons, List.length_nil, List.length_append, List.length_map, reduceIte, toNat_s, cell_one, isI_u16, isI_i64, getI_n, h]
theorem eachO_bad {s : List UInt8} {pos : Nat} (h : pos < s.length) (n j : Nat) (b ah : Bool) (o : List Nat) (hb : ((pt (s.drop pos)).2 = 0 || (ah && isLow (pt (s.drop pos)).1)) = true) :
    units_EachO.l0 n s b s (j + 1) 0 ah pos (o.map unit) = some (.inl (0, ah, pos + 1, o.map unit)) := by
  have hne : s.drop pos ≠ [] := by simp; exact h
  rw [units_EachO.l0.succ, units_EachO.l0.s]
  by_cases p : (pt (s.drop pos)).2 = 0
  · simp (disch := omega) only [ite_t, ite_f, dec_t, dec_f, beq_t, beq_f, bne_t, bne_f, nbeq_t, nbeq_f, nble_t, nble_f, cond_true, cond_false, Bool.not_true, Bool.not_false, Bool.and_true, Bool.true_and, Bool.and_self, room_t, w64, w32, wu8, wu8', wu16, wu32, fdiv_pos, and63i, and1023i, and31i, and15i, and7i, and192i, or64w, or32w, or16w, or4096w, or64r, or64b, or32b, or16b, optK_some, optK_none, toNat_ofNat, append_eq, List.length_cons, List.length_nil, List.length_append, List.length_map, reduceIte, toNat_s, cell_one, isI_u16, isI_i64, getI_n, h, decode_eq s pos h, List.take_length, dec_bad p, decS_ne hne, halfAt_eq, halfB_bad p]
  · simp only [p, decide_false, Bool.false_or, Bool.and_eq_true] at hb
    obtain ⟨rfl, hb⟩ := hb
    have hh := low_half hb
    simp only [isLow, Bool.and_eq_true, decide_eq_true_eq] at hb
    simp (disch := omega) only [ite_t, ite_f, dec_t, dec_f, beq_t, beq_f, bne_t, bne_f, nbeq_t, nbeq_f, nble_t, nble_f, cond_true, cond_false, Bool.not_true, Bool.not_false, Bool.and_true, Bool.true_and, Bool.and_self, room_t, w64, w32, wu8, wu8', wu16, wu32, fdiv_pos, and63i, and1023i, and31i, and15i, and7i, and192i, or64w, or32w, or16w, or4096w, or64r, or64b, or32b, or16b, optK_some, optK_none, toNat_ofNat, append_eq, List.length_cons, List.length_nil, List.length_append, List.length_map, reduceIte, toNat_s, cell_one, isI_u16, isI_i64, getI_n, h, decode_eq s pos h, List.take_length, dec_half hh, decS_ne hne, halfAt_eq, halfB_half hh, halfV_half hh]
theorem eachO_half {s : List UInt8} {pos : Nat} (h : pos < s.length) (n j : Nat) (b ah : Bool) (o : List Nat) (ho : o.length ≤ 20000000) (hh : isHalf (pt (s.drop pos)).1 = true) (hb : (ah && isLow (pt (s.drop pos)).1) = false) :
    units_EachO.l0 n s b s (j + 1) 0 ah pos (o.map unit) = units_EachO.l0 n s b s j 2 (isLead (pt (s.drop pos)).1) (pos + 1) ((o ++ u16 (pt (s.drop pos)).1).map unit) := by
  have hne : s.drop pos ≠ [] := by simp; exact h
  have hlt := pt_lt (s.drop pos)
  have hh' := hh
  simp only [isHalf, Bool.and_eq_true, decide_eq_true_eq] at hh'
  have g2 : decide (((pt (s.drop pos)).1 : Int) < 56320) = isLead (pt (s.drop pos)).1 := by
    simp only [isLead, ← Bool.decide_and]; apply decide_eq_decide.2; omega
  rw [units_EachO.l0.succ, units_EachO.l0.s]
  rw [← g2]
  cases ah with
  | false => simp (disch := omega) only [ite_t, ite_f, beq_t, beq_f, cond_true, cond_false, Bool.not_true, Bool.not_false, w64, optK_some, optK_none, toNat_ofNat, dec_f, ge_iff_le, dec_t, reduceIte, h, decode_eq s pos h, List.take_length, dec_half hh, decS_ne hne, halfAt_eq, halfB_half hh, halfV_half hh, ofOne_eq hlt o ho]
  | true =>
    simp only [isLow, Bool.true_and, Bool.and_eq_false_iff, decide_eq_false_iff_not] at hb
    simp (disch := omega) only [ite_t, ite_f, beq_t, beq_f, cond_true, cond_false, Bool.not_true, Bool.not_false, w64, optK_some, optK_none, toNat_ofNat, dec_f, ge_iff_le, dec_t, reduceIte, h, decode_eq s pos h, List.take_length, dec_half hh, decS_ne hne, halfAt_eq, halfB_half hh, halfV_half hh, ofOne_eq hlt o ho]
theorem eachO_plain {s : List UInt8} {pos : Nat} (h : pos < s.length) (n j : Nat) (b ah : Bool) (o : List Nat) (ho : o.length ≤ 20000000) (h0 : (pt (s.drop pos)).2 ≠ 0) (hh : isHalf (pt (s.drop pos)).1 = false) :
    units_EachO.l0 n s b s (j + 1) 0 ah pos (o.map unit) = units_EachO.l0 n s b s j 0 (isLead (pt (s.drop pos)).1) (pos + (pt (s.drop pos)).2) ((o ++ u16 (pt (s.drop pos)).1).map unit) := by
  have hne : s.drop pos ≠ [] := by simp; exact h
  have hlt := pt_lt (s.drop pos)
  have hd := dec_plain h0 hh
  simp only [isHalf, Bool.and_eq_false_iff, decide_eq_false_iff_not] at hh
  have g0 : isLead (pt (s.drop pos)).1 = false := by simp only [isLead, Bool.and_eq_false_iff, decide_eq_false_iff_not]; omega
  rw [units_EachO.l0.succ, units_EachO.l0.s, g0]
  by_cases p : (pt (s.drop pos)).1 = 65533
  · have h3 := plain_3 p h0
    simp (disch := omega) only [ite_t, ite_f, dec_t, dec_f, beq_t, beq_f, bne_t, bne_f, nbeq_t, nbeq_f, nble_t, nble_f, cond_true, cond_false, Bool.not_true, Bool.not_false, Bool.and_true, Bool.true_and, Bool.and_self, room_t, w64, w32, wu8, wu8', wu16, wu32, fdiv_pos, and63i, and1023i, and31i, and15i, and7i, and192i, or64w, or32w, or16w, or4096w, or64r, or64b, or32b, or16b, optK_some, optK_none, toNat_ofNat, append_eq, List.length_cons, List.length_nil, List.length_append, List.length_map, reduceIte, toNat_s, cell_one, isI_u16, isI_i64, getI_n, h, decode_eq s pos h, List.take_length, hd, decS_ne hne, ofOne_eq hlt o ho]
  · by_cases p2 : 55296 ≤ (pt (s.drop pos)).1
    · simp (disch := omega) only [ite_t, ite_f, dec_t, dec_f, beq_t, beq_f, bne_t, bne_f, nbeq_t, nbeq_f, nble_t, nble_f, cond_true, cond_false, Bool.not_true, Bool.not_false, Bool.and_true, Bool.true_and, Bool.and_self, room_t, w64, w32, wu8, wu8', wu16, wu32, fdiv_pos, and63i, and1023i, and31i, and15i, and7i, and192i, or64w, or32w, or16w, or4096w, or64r, or64b, or32b, or16b, optK_some, optK_none, toNat_ofNat, append_eq, List.length_cons, List.length_nil, List.length_append, List.length_map, reduceIte, toNat_s, cell_one, isI_u16, isI_i64, getI_n, h, decode_eq s pos h, List.take_length, hd, decS_ne hne, ofOne_eq hlt o ho]
    · simp (disch := omega) only [ite_t, ite_f, dec_t, dec_f, beq_t, beq_f, bne_t, bne_f, nbeq_t, nbeq_f, nble_t, nble_f, cond_true, cond_false, Bool.not_true, Bool.not_false, Bool.and_true, Bool.true_and, Bool.and_self, room_t, w64, w32, wu8, wu8', wu16, wu32, fdiv_pos, and63i, and1023i, and31i, and15i, and7i, and192i, or64w, or32w, or16w, or4096w, or64r, or64b, or32b, or16b, optK_some, optK_none, toNat_ofNat, append_eq, List.length_cons, List.length_nil, List.length_append, List.length_map, reduceIte, toNat_s, cell_one, isI_u16, isI_i64, getI_n, h, decode_eq s pos h, List.take_length, hd, decS_ne hne, ofOne_eq hlt o ho]
theorem eachO_loop {s : List UInt8} (hl : s.length ≤ 2000000) (n : Nat) (b : Bool) : ∀ (d f pos j : Nat) (ah : Bool) (o : List Nat), s.length - pos = d → pos ≤ s.length → d < j → d ≤ f → o.length ≤ 2 * pos →
    ∃ x, units_EachO.l0 n s b s j 0 ah pos (o.map unit) = some x ∧ eachOOut x = ((scan f ah (s.drop pos)).2, (o ++ (scan f ah (s.drop pos)).1.flatMap u16).map unit) := by
  intro d
  induction d using Nat.strongRecOn with
  | ind d ih =>
    intro f pos j ah o hn hp hj hf ho
    obtain ⟨j, rfl⟩ : ∃ i, j = i + 1 := ⟨j - 1, by omega⟩
    rcases Nat.lt_or_ge pos s.length with hlt | hge
    · obtain ⟨f, rfl⟩ : ∃ i, f = i + 1 := ⟨f - 1, by omega⟩
      have hd := drop_at s pos hlt
      have hsc : scan (f + 1) ah (s.drop pos) = if (pt (s.drop pos)).2 = 0 || (ah && isLow (pt (s.drop pos)).1) then ([], false) else ((pt (s.drop pos)).1 :: (scan f (isLead (pt (s.drop pos)).1) ((s.drop pos).drop (pt (s.drop pos)).2)).1, (scan f (isLead (pt (s.drop pos)).1) ((s.drop pos).drop (pt (s.drop pos)).2)).2) := by
        rw [hd]; rfl
      by_cases hb : ((pt (s.drop pos)).2 = 0 || (ah && isLow (pt (s.drop pos)).1)) = true
      · refine ⟨_, eachO_bad hlt n j b ah o hb, ?_⟩
        rw [hsc, if_pos hb]
        simp [eachOOut]
      · have hb' := hb
        simp only [Bool.or_eq_true, decide_eq_true_eq, not_or, Bool.not_eq_true] at hb'
        have hw := pt_width (s.drop pos)
        rw [List.length_drop] at hw
        have hu := u16_len (pt (s.drop pos)).1
        rw [hsc, if_neg hb, List.drop_drop]
        rcases hh : isHalf (pt (s.drop pos)).1 with _ | _
        · obtain ⟨x, h, hx⟩ := ih (s.length - (pos + (pt (s.drop pos)).2)) (by omega) f (pos + (pt (s.drop pos)).2) j (isLead (pt (s.drop pos)).1) (o ++ u16 (pt (s.drop pos)).1) rfl (by omega) (by omega) (by omega) (by rw [List.length_append]; omega)
          refine ⟨x, ?_, ?_⟩
          · rw [eachO_plain hlt n j b ah o (by omega) hb'.1 hh]; exact h
          · rw [hx, List.flatMap_cons, List.append_assoc]
        · obtain ⟨c1, c2, c3⟩ := half_conts hh
          have h3 := half_w hh
          rw [List.drop_drop] at c1 c2
          rw [List.length_drop] at c3
          obtain ⟨j, rfl⟩ : ∃ i, j = i + 2 := ⟨j - 2, by omega⟩
          obtain ⟨x, h, hx⟩ := ih (s.length - (pos + 3)) (by omega) f (pos + 3) j (isLead (pt (s.drop pos)).1) (o ++ u16 (pt (s.drop pos)).1) rfl (by omega) (by omega) (by omega) (by rw [List.length_append]; omega)
          refine ⟨x, ?_, ?_⟩
          · rw [eachO_half hlt n (j + 2) b ah o (by omega) hh hb'.2, eachO_skip (by omega) n (j + 1) b _ (by omega) _, c1, show (2 : Int) - 1 = 1 from rfl, eachO_skip (by omega) n j b _ (by omega) _, c2]
            exact h
          · rw [hx, List.flatMap_cons, List.append_assoc, h3]
    · refine ⟨_, eachO_end (by omega) n j b ah 0 o, ?_⟩
      have hd : s.drop pos = [] := by simp; omega
      have hs : scan f ah [] = ([], true) := by cases f <;> rfl
      rw [hd, hs]
      simp [eachOOut]
theorem right_eq {s : List UInt8} (hl : s.length ≤ 2000000) {n : Nat} (hn : 2000000 < n) : units_Right n s = some (right s) := by
  obtain ⟨x, h, hx⟩ := eachR_loop hl n false s.length s.length 0 n false rfl (by omega) (by omega) (by omega)
  unfold units_Right units_Right.k units_EachR units_EachR.k
  rw [h]
  have : eachROut x = right s := hx
  rcases x with t | t
  · rw [show right s = false from this.symm]; rfl
  · rw [show right s = true from this.symm]; rfl
theorem of_eq {s : List UInt8} (hl : s.length ≤ 2000000) {n : Nat} (hn : 2000000 < n) : units_Of n s = some ((unitsOf s).map unit) := by
  obtain ⟨x, h, hx⟩ := eachO_loop hl n false s.length s.length 0 n false [] rfl (by omega) (by omega) (by omega) (by simp)
  unfold units_Of units_Of.k units_EachO units_EachO.k
  rw [show ([] : List (List AVal)) = List.map unit [] from rfl, h]
  have e : eachOOut x = (right s, ((pts s).1.flatMap u16).map unit) := hx
  rcases x with t | t
  · rw [unitsOf, show right s = false from (congrArg Prod.fst e).symm]; rfl
  · rw [unitsOf, show right s = true from (congrArg Prod.fst e).symm, if_pos rfl, ← (show t.2.2.2 = ((pts s).1.flatMap u16).map unit from congrArg Prod.snd e)]; rfl
theorem len_eq {s : List UInt8} (hl : s.length ≤ 2000000) {n : Nat} (hn : 2000000 < n) : units_Len n s = some ((unitsOf s).length : Int) := by
  unfold units_Len units_Len.k
  rw [of_eq hl hn, optK_some, List.length_map]
theorem unit_len (x : Nat) : (unit x).length = 1 := rfl
def joinOf (a b : List UInt8) : List UInt8 := if right a && right b then textOf (unitsOf a ++ unitsOf b) else []
theorem app_lt (a b : List UInt8) : ∀ x ∈ unitsOf a ++ unitsOf b, x < 65536 := fun x hx => by
  rcases List.mem_append.1 hx with h | h
  · exact units_lt a x h
  · exact units_lt b x h
theorem app_len {a b : List UInt8} (ha : a.length ≤ 10000) (hb : b.length ≤ 10000) : (unitsOf a ++ unitsOf b).length ≤ 20000 := by
  have h1 := units_len a
  have h2 := units_len b
  rw [List.length_append]; omega
theorem join_eq {a b : List UInt8} (ha : a.length ≤ 10000) (hb : b.length ≤ 10000) {n : Nat} (hn : 2000000 < n) : units_Join n a b = some (joinOf a b) := by
  have hl := app_len ha hb
  rw [List.length_append] at hl
  unfold units_Join units_Join.k
  rw [right_eq (s := a) (by omega) hn, right_eq (s := b) (by omega) hn, of_eq (s := a) (by omega) hn, of_eq (s := b) (by omega) hn, joinOf]
  cases right a with
  | false => rfl
  | true =>
    cases right b with
    | false => rfl
    | true =>
      simp (disch := omega) only [ite_t, ite_f, dec_t, dec_f, beq_t, beq_f, bne_t, bne_f, nbeq_t, nbeq_f, nble_t, nble_f, cond_true, cond_false, Bool.not_true, Bool.not_false, Bool.and_true, Bool.true_and, Bool.and_self, room_t, w64, w32, wu8, wu8', wu16, wu32, fdiv_pos, and63i, and1023i, and31i, and15i, and7i, and192i, or64w, or32w, or16w, or4096w, or64r, or64b, or32b, or16b, optK_some, optK_none, toNat_ofNat, append_eq, List.length_cons, List.length_nil, List.length_append, List.length_map, reduceIte, toNat_s, cell_one, isI_u16, isI_i64, getI_n, uni_map 1 unit (unitsOf b) unit_len, Bool.not_true]
      rw [← List.map_append, text_eq (app_lt a b) (by rw [List.length_append]; omega) hn]
      rfl
end Go.Proofs.YtjlhnnphfdjmdaaDoor.U
