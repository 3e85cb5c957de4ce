/- More on code points: halves, the first code point of units, lengths. -/
import Derived.Test.YtlklpdifcpjlpaaDoorAbsUni2
namespace Go.Uni
set_option linter.unusedVariables false
set_option maxRecDepth 100000
def decS (s : List UInt8) : Nat × Nat := match s with
  | [] => (65533, 0)
  | _ => dec s
def halfB (s : List UInt8) : Bool := (pt s).2 == 3 && isHalf (pt s).1
def halfV (s : List UInt8) : Int := bif halfB s then (pt s).1 else 0
theorem pt_none {l : List UInt8} : (pt l).2 = 0 → (pt l).1 = 0 := by
  unfold pt
  split
  · simp
  · repeat' split
    all_goals simp
theorem half_w {l : List UInt8} (h : isHalf (pt l).1 = true) : (pt l).2 = 3 := by
  have hn : (pt l).2 ≠ 0 := fun h0 => by rw [pt_none h0] at h; simp [isHalf] at h
  have h1 := (enc_pt hn).2
  simp only [isHalf, Bool.and_eq_true, decide_eq_true_eq] at h
  rw [← h1, enc, if_neg (by omega), if_neg (by omega), if_pos (by omega)]; rfl
theorem low_half {c : Nat} (h : isLow c = true) : isHalf c = true := by simp only [isLow, isHalf, Bool.and_eq_true, decide_eq_true_eq] at h ⊢; omega
theorem decS_ne {l : List UInt8} (h : l ≠ []) : decS l = dec l := by
  cases l with
  | nil => exact absurd rfl h
  | cons a r => rfl
theorem dec_bad {l : List UInt8} (h : (pt l).2 = 0) : dec l = (65533, 1) := by simp [dec, h]
theorem dec_half {l : List UInt8} (h : isHalf (pt l).1 = true) : dec l = (65533, 1) := by simp [dec, h]
theorem dec_plain {l : List UInt8} (h0 : (pt l).2 ≠ 0) (h : isHalf (pt l).1 = false) : dec l = pt l := by simp [dec, h, h0]
theorem halfB_bad {l : List UInt8} (h : (pt l).2 = 0) : halfB l = false := by simp [halfB, h]
theorem halfB_half {l : List UInt8} (h : isHalf (pt l).1 = true) : halfB l = true := by simp [halfB, h, half_w h]
theorem halfV_half {l : List UInt8} (h : isHalf (pt l).1 = true) : halfV l = (pt l).1 := by simp [halfV, halfB_half h]
theorem plain_3 {l : List UInt8} (h : (pt l).1 = 65533) (h0 : (pt l).2 ≠ 0) : (pt l).2 = 3 := by
  rw [← (enc_pt h0).2, h]; rfl
theorem u16_ne (c : Nat) : u16 c ≠ [] := by unfold u16; split <;> simp
theorem u16_len (c : Nat) : (u16 c).length ≤ 2 := by unfold u16; split <;> simp
/-- bytes that go on are no code point -/
theorem pt_cont {b : UInt8} {r : List UInt8} (h : cont b = true) : pt (b :: r) = (0, 0) := by
  simp only [cont, Bool.and_eq_true, decide_eq_true_eq] at h
  simp only [pt]
  rw [if_neg (by omega), if_neg (by omega), if_neg (by omega), if_neg (by omega)]
theorem half_conts {l : List UInt8} (h : isHalf (pt l).1 = true) : (dec (l.drop 1)).2 = 1 ∧ (dec (l.drop 2)).2 = 1 ∧ 3 ≤ l.length := by
  have hw := half_w h
  have hl := (pt_width l).1
  match l, hl, hw, h with
  | a :: b :: c :: r, hl, hw, h =>
    have hB : halfB (a :: b :: c :: r) = true := halfB_half h
    have : cont b = true ∧ cont c = true := by
      simp only [pt] at hw
      repeat' split at hw
      all_goals first
        | (simp at hw; done)
        | (rename_i hc _; simp only [Bool.and_eq_true] at hc; exact hc)
        | (simp_all; done)
    refine ⟨?_, ?_, by simp⟩
    · show (dec (b :: c :: r)).2 = 1
      rw [dec_bad (by rw [pt_cont this.1])]
    · show (dec (c :: r)).2 = 1
      rw [dec_bad (by rw [pt_cont this.2])]
  | [], hl, hw, _ => simp at hl; omega
  | [_], hl, hw, _ => simp at hl; omega
  | [_, _], hl, hw, _ => simp at hl; omega
theorem halfB_237 {a b c : UInt8} {r : List UInt8} (h : halfB (a :: b :: c :: r) = true) : a.toNat = 237 ∧ 160 ≤ b.toNat ∧ b.toNat ≤ 191 ∧ 128 ≤ c.toNat ∧ c.toNat ≤ 191 := by
  have ha := b_lt a
  have hb := b_lt b
  have hc := b_lt c
  simp only [halfB, Bool.and_eq_true, beq_iff_eq] at h
  obtain ⟨h1, h2⟩ := h
  simp only [pt] at h1 h2
  repeat' split at h1
  all_goals (first | (exfalso; simp at h1; done) | skip)
  all_goals simp_all [cont, isHalf]
  all_goals omega
theorem half_of {a b c : UInt8} {r : List UInt8} (h1 : a.toNat = 237) (h2 : 160 ≤ b.toNat) (h3 : b.toNat ≤ 191) (h4 : 128 ≤ c.toNat) (h5 : c.toNat ≤ 191) : pt (a :: b :: c :: r) = (53248 + (b.toNat % 64) * 64 + c.toNat % 64, 3) := by
  have c1 : cont b = true := by simp [cont]; omega
  have c2 : cont c = true := by simp [cont]; omega
  simp only [pt, h1, c1, c2]
  rw [if_neg (by omega), if_neg (by omega), if_pos (by omega)]
  simp only [Bool.and_self, if_true]
  rw [if_neg (by omega)]
  congr 1; omega
theorem halfB_short {s : List UInt8} (h : s.length < 3) : halfB s = false := by
  have := (pt_width s).1
  simp [halfB]; omega
/-- the first code point of units, and how many units it has -/
def headCp : List Nat → Nat × Nat
  | [] => (0, 0)
  | [u] => (u, 1)
  | u :: v :: _ => if isLead u && isLow v then (65536 + (u - 55296) * 1024 + (v - 56320), 2) else (u, 1)
theorem cps_head : ∀ {l : List Nat}, l ≠ [] → cps l = (headCp l).1 :: cps (l.drop (headCp l).2)
  | [], h => absurd rfl h
  | [u], _ => rfl
  | u :: v :: r, _ => by
    simp only [cps, headCp]
    split <;> rfl
theorem headCp_le : ∀ {l : List Nat}, (∀ x ∈ l, x < 65536) → (headCp l).1 ≤ 1114111 ∧ (headCp l).2 ≤ l.length ∧ (l ≠ [] → 0 < (headCp l).2)
  | [], _ => by simp [headCp]
  | [u], h => by have := h u (by simp); simp [headCp]; omega
  | u :: v :: r, h => by
    have := h u (by simp)
    have := h v (by simp)
    simp only [headCp]
    split
    · rename_i hp
      simp only [isLead, isLow, Bool.and_eq_true, decide_eq_true_eq] at hp
      simp; omega
    · simp; omega
theorem encs_len : ∀ (l : List Nat), (l.flatMap enc).length ≤ 4 * l.length
  | [] => by simp
  | c :: r => by
    have h1 := encs_len r
    have h2 := (enc_len c).2
    rw [List.flatMap_cons, List.length_append, List.length_cons]; omega
theorem cps_len : ∀ (u : List Nat), (cps u).length ≤ u.length
  | [] => by simp [cps]
  | [u] => by simp [cps]
  | u :: v :: r => by
    have h1 := cps_len r
    have h2 := cps_len (v :: r)
    simp only [cps]
    split
    · simp; omega
    · simp at h2 ⊢; omega
def ahOf (cs : List Nat) : Bool := match cs.getLast? with
  | some c => isLead c
  | none => false
theorem ahOf_app (cs : List Nat) (c : Nat) : ahOf (cs ++ [c]) = isLead c := by simp [ahOf]
theorem u16_enc (c : Nat) : (u16 c).length ≤ (enc c).length := by
  have := (enc_len c).1
  unfold u16
  split
  · rw [enc, if_neg (by omega), if_neg (by omega), if_neg (by omega)]; simp
  · simp; omega
theorem flat_le : ∀ (l : List Nat), (l.flatMap u16).length ≤ (l.flatMap enc).length
  | [] => Nat.le_refl _
  | c :: r => by
    have h1 := flat_le r
    have h2 := u16_enc c
    rw [List.flatMap_cons, List.flatMap_cons, List.length_append, List.length_append]; omega
theorem units_len (s : List UInt8) : (unitsOf s).length ≤ s.length := by
  rcases h : right s with _ | _
  · unfold unitsOf; rw [h]; simp
  · have h1 := text_units h
    have h2 := u16_cps (unitsOf s) (units_lt s)
    have h3 := flat_le (cps (unitsOf s))
    rw [h2] at h3
    unfold textOf at h1
    rw [h1] at h3
    exact h3
theorem units_ne {s : List UInt8} (h : right s = true) (hne : s ≠ []) : unitsOf s ≠ [] := fun h0 => by
  have h1 := text_units h
  rw [h0] at h1
  exact hne h1.symm
theorem text_len {u : List Nat} : (textOf u).length ≤ 4 * u.length := by
  have h1 := encs_len (cps u)
  have h2 := cps_len u
  unfold textOf; omega
theorem scan_len : ∀ (f : Nat) (ah : Bool) (l : List UInt8), (scan f ah l).1.length ≤ f
  | 0, _, l => by cases l <;> simp [scan]
  | f + 1, ah, [] => by simp [scan]
  | f + 1, ah, a :: r => by
    have := scan_len f (isLead (pt (a :: r)).1) ((a :: r).drop (pt (a :: r)).2)
    simp only [scan]
    split
    · simp
    · simp only [List.length_cons]; omega
end Go.Uni
