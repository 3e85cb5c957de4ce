/- The loop of Each: its rounds, and the loop. -/
import Derived.Test.YtlklpdifcpjlpaaDoorUTree2
import Derived.Test.YtlklpdifcpjlpaaDoorAbsBits
namespace Go.Proofs.YtlklpdifcpjlpaaDoor.U
open Go.Abs Go.Uni
set_option maxRecDepth 100000
set_option linter.unusedSimpArgs false
set_option linter.unusedVariables false

theorem pt_none {l : List UInt8} : (pt l).2 = 0 → (pt l).1 = 0 := by
  unfold pt
  split
  · simp
  · repeat' split
    all_goals simp
theorem half_w {l : List UInt8} (h : isHalf (pt l).1 = true) : (pt l).2 = 3 := by
  have hn : (pt l).2 ≠ 0 := fun h0 => by rw [pt_none h0] at h; simp [isHalf] at h
  have h1 := (enc_pt hn).2
  simp only [isHalf, Bool.and_eq_true, decide_eq_true_eq] at h
  rw [← h1, enc, if_neg (by omega), if_neg (by omega), if_pos (by omega)]; rfl
theorem low_half {c : Nat} (h : isLow c = true) : isHalf c = true := by simp only [isLow, isHalf, Bool.and_eq_true, decide_eq_true_eq] at h ⊢; omega
theorem decS_ne {l : List UInt8} (h : l ≠ []) : decS l = dec l := by
  cases l with
  | nil => exact absurd rfl h
  | cons a r => rfl
theorem dec_bad {l : List UInt8} (h : (pt l).2 = 0) : dec l = (65533, 1) := by simp [dec, h]
theorem dec_half {l : List UInt8} (h : isHalf (pt l).1 = true) : dec l = (65533, 1) := by simp [dec, h]
theorem dec_plain {l : List UInt8} (h0 : (pt l).2 ≠ 0) (h : isHalf (pt l).1 = false) : dec l = pt l := by simp [dec, h, h0]
theorem halfB_bad {l : List UInt8} (h : (pt l).2 = 0) : halfB l = false := by simp [halfB, h]
theorem halfB_half {l : List UInt8} (h : isHalf (pt l).1 = true) : halfB l = true := by simp [halfB, h, half_w h]
theorem halfV_half {l : List UInt8} (h : isHalf (pt l).1 = true) : halfV l = (pt l).1 := by simp [halfV, halfB_half h]
theorem plain_3 {l : List UInt8} (h : (pt l).1 = 65533) (h0 : (pt l).2 ≠ 0) : (pt l).2 = 3 := by
  rw [← (enc_pt h0).2, h]; rfl
theorem drop_take {s : List UInt8} (pos : Nat) : List.drop (Int.toNat (pos : Int)) (List.take s.length s) = s.drop pos := by rw [List.take_length, Int.toNat_natCast]
/-- the slice that Of's closure appends to -/
def uRow : List Nat → AVal
  | [] => .slice .full []
  | a :: r => .slice (.row 23) ((a :: r).map unit)
theorem uRow_cons {l : List Nat} (h : l ≠ []) : uRow l = .slice (.row 23) (l.map unit) := by
  cases l with
  | nil => exact absurd rfl h
  | cons a r => rfl
theorem u16_ne (c : Nat) : u16 c ≠ [] := by unfold u16; split <;> simp
theorem cp_ok {c : Nat} (h : c ≤ 1114111) : isCp (c : Int) = true := by simp [isCp]; omega
theorem drop_at (s : List UInt8) (i : Nat) (h : i < s.length) : s.drop i = s[i] :: s.drop (i + 1) := List.drop_eq_getElem_cons h
theorem b00 : Nat.beq 0 0 = true := rfl
theorem uL_c (n : Nat) : uL (n : Int) = (u16 n).map unit := by simp [uL]
/-- bytes that go on are no code point -/
theorem pt_cont {b : UInt8} {r : List UInt8} (h : cont b = true) : pt (b :: r) = (0, 0) := by
  simp only [cont, Bool.and_eq_true, decide_eq_true_eq] at h
  simp only [pt]
  rw [if_neg (by omega), if_neg (by omega), if_neg (by omega), if_neg (by omega)]
theorem half_conts {l : List UInt8} (h : isHalf (pt l).1 = true) : (dec (l.drop 1)).2 = 1 ∧ (dec (l.drop 2)).2 = 1 ∧ 3 ≤ l.length := by
  have hw := half_w h
  have hl := (pt_width l).1
  match l, hl, hw, h with
  | a :: b :: c :: r, hl, hw, h =>
    have hB : halfB (a :: b :: c :: r) = true := halfB_half h
    have : cont b = true ∧ cont c = true := by
      simp only [pt] at hw
      repeat' split at hw
      all_goals first
        | (simp at hw; done)
        | (rename_i hc _; simp only [Bool.and_eq_true] at hc; exact hc)
        | (simp_all; done)
    refine ⟨?_, ?_, by simp⟩
    · show (dec (b :: c :: r)).2 = 1
      rw [dec_bad (by rw [pt_cont this.1])]
    · show (dec (c :: r)).2 = 1
      rw [dec_bad (by rw [pt_cont this.2])]
  | [], hl, hw, _ => simp at hl; omega
  | [_], hl, hw, _ => simp at hl; omega
  | [_, _], hl, hw, _ => simp at hl; omega

section
variable (R : Type) (K : AExit → AFrame → Mem → Option R) (k : Nat)

theorem skip_39 (m : Mem) {s : List UInt8} {pos : Nat} (h : pos < s.length) (ah : Bool) {n : Nat} (hn : n < 10) :
    exec env (denL env N1 noLoops (Nat.succ k)) 38 (loopAt Tryd.f38 0) (frEach s (.fn 39 []) ((n + 1 : Nat) : Int) ah pos) m (fun ex fr m => K ex (norm env 38 fr) m) = K .normal (frEach s (.fn 39 []) (n : Int) ah (pos + (dec (s.drop pos)).2)) m := by
  have q : decide (((n + 1 : Nat) : Int) > 0) = true := by simp <;> omega
  have w : IntKind.wrap .i64 (((n + 1 : Nat) : Int) - 1) = (n : Int) := by rw [IntKind.wrap_i64]; omega
  rw [each39, if_pos h, q, cond_true, w, decode_eq s pos h]
  rfl
theorem end_39 (m : Mem) {s : List UInt8} {pos : Nat} (h : ¬ pos < s.length) (ah : Bool) (n : Nat) :
    exec env (denL env N1 noLoops (Nat.succ k)) 38 (loopAt Tryd.f38 0) (frEach s (.fn 39 []) (n : Int) ah pos) m (fun ex fr m => K ex (norm env 38 fr) m) = K (.exit 0) (frEach s (.fn 39 []) (n : Int) ah pos) m := by
  rw [each39, if_neg h]
  rfl
theorem bad_39 (m : Mem) {s : List UInt8} {pos : Nat} (h : pos < s.length) (ah : Bool) (hb : ((pt (s.drop pos)).2 = 0 || (ah && isLow (pt (s.drop pos)).1)) = true) :
    exec env (denL env N1 noLoops (Nat.succ k)) 38 (loopAt Tryd.f38 0) (frEach s (.fn 39 []) 0 ah pos) m (fun ex fr m => K ex (norm env 38 fr) m) = K .ret (frEach s (.fn 39 []) 0 ah (pos + 1)) m := by
  have hne : s.drop pos ≠ [] := by simp; exact h
  have c1 : 0 ≤ (pos : Int) ∧ (pos : Int) ≤ (s.length : Int) := by omega
  have z : decide ((0 : Int) > 0) = false := rfl
  rw [each39, if_pos h, z, cond_false, decode_eq s pos h]
  by_cases p : (pt (s.drop pos)).2 = 0
  · simp only [dec_bad p, drop_take, decS_ne hne, halfB_bad p, c1, and_self, if_true, Bool.not_false, cond_true]
    rfl
  · simp only [p, decide_false, Bool.false_or, Bool.and_eq_true] at hb
    obtain ⟨rfl, hb⟩ := hb
    have hh := low_half hb
    have g : decide (((pt (s.drop pos)).1 : Int) ≥ 56320) = true := by simp only [isLow, Bool.and_eq_true, decide_eq_true_eq] at hb; simp; omega
    simp only [dec_half hh, drop_take, decS_ne hne, halfB_half hh, halfV_half hh, c1, and_self, if_true, Bool.not_true, cond_true, cond_false, g]
    rfl
theorem half_39 (m : Mem)  {s : List UInt8} {pos : Nat} (h : pos < s.length) (ah : Bool) (hh : isHalf (pt (s.drop pos)).1 = true) (hb : (ah && isLow (pt (s.drop pos)).1) = false) :
    exec env (denL env N1 noLoops (Nat.succ k)) 38 (loopAt Tryd.f38 0) (frEach s (.fn 39 []) 0 ah pos) m (fun ex fr m => K ex (norm env 38 fr) m) = K .normal (frEach s (.fn 39 []) ((1 + 1 : Nat) : Int) (isLead (pt (s.drop pos)).1) (pos + 1)) m := by
  have hne : s.drop pos ≠ [] := by simp; exact h
  have c1 : 0 ≤ (pos : Int) ∧ (pos : Int) ≤ (s.length : Int) := by omega
  have z : decide ((0 : Int) > 0) = false := rfl
  have hc := cp_ok (pt_lt (s.drop pos))
  have hh' := hh
  simp only [isHalf, Bool.and_eq_true, decide_eq_true_eq] at hh'
  rw [each39, if_pos h, z, cond_false, decode_eq s pos h]
  have g1 : decide (((pt (s.drop pos)).1 : Int) ≥ 55296) = true := by simp; omega
  have g2 : decide (((pt (s.drop pos)).1 : Int) < 56320) = isLead (pt (s.drop pos)).1 := by
    simp only [isLead, decide_eq_true_eq, ← Bool.decide_and]; apply decide_eq_decide.2; omega
  cases ah with
  | false =>
    simp only [dec_half hh, drop_take, decS_ne hne, halfB_half hh, halfV_half hh, c1, and_self, if_true, Bool.not_true, cond_true, cond_false, g1, g2, hc, uL_c, decide_true]
    rfl
  | true =>
    have g3 : decide (((pt (s.drop pos)).1 : Int) ≥ 56320) = false := by
      simp only [isLow, Bool.true_and, Bool.and_eq_false_iff, decide_eq_false_iff_not] at hb; simp; omega
    simp only [dec_half hh, drop_take, decS_ne hne, halfB_half hh, halfV_half hh, c1, and_self, if_true, Bool.not_true, cond_true, cond_false, g1, g2, g3, hc, uL_c, decide_true]
    rfl
theorem plain_39 (m : Mem)  {s : List UInt8} {pos : Nat} (h : pos < s.length) (ah : Bool) (h0 : (pt (s.drop pos)).2 ≠ 0) (hh : isHalf (pt (s.drop pos)).1 = false) :
    exec env (denL env N1 noLoops (Nat.succ k)) 38 (loopAt Tryd.f38 0) (frEach s (.fn 39 []) 0 ah pos) m (fun ex fr m => K ex (norm env 38 fr) m) = K .normal (frEach s (.fn 39 []) 0 (isLead (pt (s.drop pos)).1) (pos + (pt (s.drop pos)).2)) m := by
  have hne : s.drop pos ≠ [] := by simp; exact h
  have c1 : 0 ≤ (pos : Int) ∧ (pos : Int) ≤ (s.length : Int) := by omega
  have z : decide ((0 : Int) > 0) = false := rfl
  have hlt := pt_lt (s.drop pos)
  have hc := cp_ok hlt
  have w : IntKind.wrap .i64 ((pt (s.drop pos)).1 : Int) = (pt (s.drop pos)).1 := wrap_i64_nat (by omega)
  have hd := dec_plain h0 hh
  simp only [isHalf, Bool.and_eq_false_iff, decide_eq_false_iff_not] at hh
  rw [each39, if_pos h, z, cond_false, decode_eq s pos h, hd]
  have g0 : isLead (pt (s.drop pos)).1 = false := by simp only [isLead, Bool.and_eq_false_iff, decide_eq_false_iff_not]; omega
  rw [g0]
  by_cases p : (pt (s.drop pos)).1 = 65533
  · have y1 : (((pt (s.drop pos)).1 : Int) == 65533) = true := by simp; omega
    have y2 : (((pt (s.drop pos)).2 : Int) == 1) = false := by have := plain_3 p h0; simp; omega
    have g1 : decide (((pt (s.drop pos)).1 : Int) ≥ 55296) = true := by simp; omega
    have g2 : decide (((pt (s.drop pos)).1 : Int) < 56320) = false := by simp; omega
    simp only [y1, y2, drop_take, decS_ne hne, hd, w, c1, and_self, if_true, cond_true, cond_false, g1, g2, hc, uL_c, decide_true]
    rfl
  · have y1 : (((pt (s.drop pos)).1 : Int) == 65533) = false := by simp; omega
    by_cases p2 : 55296 ≤ (pt (s.drop pos)).1
    · have g1 : decide (((pt (s.drop pos)).1 : Int) ≥ 55296) = true := by simp; omega
      have g2 : decide (((pt (s.drop pos)).1 : Int) < 56320) = false := by simp; omega
      simp only [y1, w, cond_true, cond_false, g1, g2, hc, uL_c, decide_true]
      rfl
    · have g1 : decide (((pt (s.drop pos)).1 : Int) ≥ 55296) = false := by simp; omega
      simp only [y1, w, cond_true, cond_false, g1, hc, uL_c, decide_true]
      rfl

theorem skip_40f  {s : List UInt8} {pos : Nat} (h : pos < s.length) (ah : Bool) {n : Nat} (hn : n < 10) :
    exec env (denL env N1 noLoops (Nat.succ k)) 38 (loopAt Tryd.f38 0) (frEach s (.fn 40 [.ptr 0 0]) ((n + 1 : Nat) : Int) ah pos) [.cells [.slice .full []]] (fun ex fr m => K ex (norm env 38 fr) m) = K .normal (frEach s (.fn 40 [.ptr 0 0]) (n : Int) ah (pos + (dec (s.drop pos)).2)) [.cells [.slice .full []]] := by
  have q : decide (((n + 1 : Nat) : Int) > 0) = true := by simp <;> omega
  have w : IntKind.wrap .i64 (((n + 1 : Nat) : Int) - 1) = (n : Int) := by rw [IntKind.wrap_i64]; omega
  rw [each40f, if_pos h, q, cond_true, w, decode_eq s pos h]
  rfl
theorem end_40f  {s : List UInt8} {pos : Nat} (h : ¬ pos < s.length) (ah : Bool) (n : Nat) :
    exec env (denL env N1 noLoops (Nat.succ k)) 38 (loopAt Tryd.f38 0) (frEach s (.fn 40 [.ptr 0 0]) (n : Int) ah pos) [.cells [.slice .full []]] (fun ex fr m => K ex (norm env 38 fr) m) = K (.exit 0) (frEach s (.fn 40 [.ptr 0 0]) (n : Int) ah pos) [.cells [.slice .full []]] := by
  rw [each40f, if_neg h]
  rfl
theorem bad_40f  {s : List UInt8} {pos : Nat} (h : pos < s.length) (ah : Bool) (hb : ((pt (s.drop pos)).2 = 0 || (ah && isLow (pt (s.drop pos)).1)) = true) :
    exec env (denL env N1 noLoops (Nat.succ k)) 38 (loopAt Tryd.f38 0) (frEach s (.fn 40 [.ptr 0 0]) 0 ah pos) [.cells [.slice .full []]] (fun ex fr m => K ex (norm env 38 fr) m) = K .ret (frEach s (.fn 40 [.ptr 0 0]) 0 ah (pos + 1)) [.cells [.slice .full []]] := by
  have hne : s.drop pos ≠ [] := by simp; exact h
  have c1 : 0 ≤ (pos : Int) ∧ (pos : Int) ≤ (s.length : Int) := by omega
  have z : decide ((0 : Int) > 0) = false := rfl
  rw [each40f, if_pos h, z, cond_false, decode_eq s pos h]
  by_cases p : (pt (s.drop pos)).2 = 0
  · simp only [dec_bad p, drop_take, decS_ne hne, halfB_bad p, c1, and_self, if_true, Bool.not_false, cond_true]
    rfl
  · simp only [p, decide_false, Bool.false_or, Bool.and_eq_true] at hb
    obtain ⟨rfl, hb⟩ := hb
    have hh := low_half hb
    have g : decide (((pt (s.drop pos)).1 : Int) ≥ 56320) = true := by simp only [isLow, Bool.and_eq_true, decide_eq_true_eq] at hb; simp; omega
    simp only [dec_half hh, drop_take, decS_ne hne, halfB_half hh, halfV_half hh, c1, and_self, if_true, Bool.not_true, cond_true, cond_false, g]
    rfl
theorem half_40f   {s : List UInt8} {pos : Nat} (h : pos < s.length) (ah : Bool) (hh : isHalf (pt (s.drop pos)).1 = true) (hb : (ah && isLow (pt (s.drop pos)).1) = false) :
    exec env (denL env N1 noLoops (Nat.succ k)) 38 (loopAt Tryd.f38 0) (frEach s (.fn 40 [.ptr 0 0]) 0 ah pos) [.cells [.slice .full []]] (fun ex fr m => K ex (norm env 38 fr) m) = K .normal (frEach s (.fn 40 [.ptr 0 0]) ((1 + 1 : Nat) : Int) (isLead (pt (s.drop pos)).1) (pos + 1)) [.cells [.slice (.row 23) ((u16 (pt (s.drop pos)).1).map unit)]] := by
  have hne : s.drop pos ≠ [] := by simp; exact h
  have c1 : 0 ≤ (pos : Int) ∧ (pos : Int) ≤ (s.length : Int) := by omega
  have z : decide ((0 : Int) > 0) = false := rfl
  have hc := cp_ok (pt_lt (s.drop pos))
  have hh' := hh
  simp only [isHalf, Bool.and_eq_true, decide_eq_true_eq] at hh'
  rw [each40f, if_pos h, z, cond_false, decode_eq s pos h]
  have g1 : decide (((pt (s.drop pos)).1 : Int) ≥ 55296) = true := by simp; omega
  have g2 : decide (((pt (s.drop pos)).1 : Int) < 56320) = isLead (pt (s.drop pos)).1 := by
    simp only [isLead, decide_eq_true_eq, ← Bool.decide_and]; apply decide_eq_decide.2; omega
  cases ah with
  | false =>
    simp only [dec_half hh, drop_take, decS_ne hne, halfB_half hh, halfV_half hh, c1, and_self, if_true, Bool.not_true, cond_true, cond_false, g1, g2, hc, b00, Bool.and_self, Bool.and_true, uL_c, decide_true]
    rfl
  | true =>
    have g3 : decide (((pt (s.drop pos)).1 : Int) ≥ 56320) = false := by
      simp only [isLow, Bool.true_and, Bool.and_eq_false_iff, decide_eq_false_iff_not] at hb; simp; omega
    simp only [dec_half hh, drop_take, decS_ne hne, halfB_half hh, halfV_half hh, c1, and_self, if_true, Bool.not_true, cond_true, cond_false, g1, g2, g3, hc, b00, Bool.and_self, Bool.and_true, uL_c, decide_true]
    rfl
theorem plain_40f   {s : List UInt8} {pos : Nat} (h : pos < s.length) (ah : Bool) (h0 : (pt (s.drop pos)).2 ≠ 0) (hh : isHalf (pt (s.drop pos)).1 = false) :
    exec env (denL env N1 noLoops (Nat.succ k)) 38 (loopAt Tryd.f38 0) (frEach s (.fn 40 [.ptr 0 0]) 0 ah pos) [.cells [.slice .full []]] (fun ex fr m => K ex (norm env 38 fr) m) = K .normal (frEach s (.fn 40 [.ptr 0 0]) 0 (isLead (pt (s.drop pos)).1) (pos + (pt (s.drop pos)).2)) [.cells [.slice (.row 23) ((u16 (pt (s.drop pos)).1).map unit)]] := by
  have hne : s.drop pos ≠ [] := by simp; exact h
  have c1 : 0 ≤ (pos : Int) ∧ (pos : Int) ≤ (s.length : Int) := by omega
  have z : decide ((0 : Int) > 0) = false := rfl
  have hlt := pt_lt (s.drop pos)
  have hc := cp_ok hlt
  have w : IntKind.wrap .i64 ((pt (s.drop pos)).1 : Int) = (pt (s.drop pos)).1 := wrap_i64_nat (by omega)
  have hd := dec_plain h0 hh
  simp only [isHalf, Bool.and_eq_false_iff, decide_eq_false_iff_not] at hh
  rw [each40f, if_pos h, z, cond_false, decode_eq s pos h, hd]
  have g0 : isLead (pt (s.drop pos)).1 = false := by simp only [isLead, Bool.and_eq_false_iff, decide_eq_false_iff_not]; omega
  rw [g0]
  by_cases p : (pt (s.drop pos)).1 = 65533
  · have y1 : (((pt (s.drop pos)).1 : Int) == 65533) = true := by simp; omega
    have y2 : (((pt (s.drop pos)).2 : Int) == 1) = false := by have := plain_3 p h0; simp; omega
    have g1 : decide (((pt (s.drop pos)).1 : Int) ≥ 55296) = true := by simp; omega
    have g2 : decide (((pt (s.drop pos)).1 : Int) < 56320) = false := by simp; omega
    simp only [y1, y2, drop_take, decS_ne hne, hd, w, c1, and_self, if_true, cond_true, cond_false, g1, g2, hc, b00, Bool.and_self, Bool.and_true, uL_c, decide_true]
    rfl
  · have y1 : (((pt (s.drop pos)).1 : Int) == 65533) = false := by simp; omega
    by_cases p2 : 55296 ≤ (pt (s.drop pos)).1
    · have g1 : decide (((pt (s.drop pos)).1 : Int) ≥ 55296) = true := by simp; omega
      have g2 : decide (((pt (s.drop pos)).1 : Int) < 56320) = false := by simp; omega
      simp only [y1, w, cond_true, cond_false, g1, g2, hc, b00, Bool.and_self, Bool.and_true, uL_c, decide_true]
      rfl
    · have g1 : decide (((pt (s.drop pos)).1 : Int) ≥ 55296) = false := by simp; omega
      simp only [y1, w, cond_true, cond_false, g1, hc, b00, Bool.and_self, Bool.and_true, uL_c, decide_true]
      rfl

theorem skip_40r (es : List (List AVal)) {s : List UInt8} {pos : Nat} (h : pos < s.length) (ah : Bool) {n : Nat} (hn : n < 10) :
    exec env (denL env N1 noLoops (Nat.succ k)) 38 (loopAt Tryd.f38 0) (frEach s (.fn 40 [.ptr 0 0]) ((n + 1 : Nat) : Int) ah pos) [.cells [.slice (.row 23) es]] (fun ex fr m => K ex (norm env 38 fr) m) = K .normal (frEach s (.fn 40 [.ptr 0 0]) (n : Int) ah (pos + (dec (s.drop pos)).2)) [.cells [.slice (.row 23) es]] := by
  have q : decide (((n + 1 : Nat) : Int) > 0) = true := by simp <;> omega
  have w : IntKind.wrap .i64 (((n + 1 : Nat) : Int) - 1) = (n : Int) := by rw [IntKind.wrap_i64]; omega
  rw [each40r, if_pos h, q, cond_true, w, decode_eq s pos h]
  rfl
theorem end_40r (es : List (List AVal)) {s : List UInt8} {pos : Nat} (h : ¬ pos < s.length) (ah : Bool) (n : Nat) :
    exec env (denL env N1 noLoops (Nat.succ k)) 38 (loopAt Tryd.f38 0) (frEach s (.fn 40 [.ptr 0 0]) (n : Int) ah pos) [.cells [.slice (.row 23) es]] (fun ex fr m => K ex (norm env 38 fr) m) = K (.exit 0) (frEach s (.fn 40 [.ptr 0 0]) (n : Int) ah pos) [.cells [.slice (.row 23) es]] := by
  rw [each40r, if_neg h]
  rfl
theorem bad_40r (es : List (List AVal)) {s : List UInt8} {pos : Nat} (h : pos < s.length) (ah : Bool) (hb : ((pt (s.drop pos)).2 = 0 || (ah && isLow (pt (s.drop pos)).1)) = true) :
    exec env (denL env N1 noLoops (Nat.succ k)) 38 (loopAt Tryd.f38 0) (frEach s (.fn 40 [.ptr 0 0]) 0 ah pos) [.cells [.slice (.row 23) es]] (fun ex fr m => K ex (norm env 38 fr) m) = K .ret (frEach s (.fn 40 [.ptr 0 0]) 0 ah (pos + 1)) [.cells [.slice (.row 23) es]] := by
  have hne : s.drop pos ≠ [] := by simp; exact h
  have c1 : 0 ≤ (pos : Int) ∧ (pos : Int) ≤ (s.length : Int) := by omega
  have z : decide ((0 : Int) > 0) = false := rfl
  rw [each40r, if_pos h, z, cond_false, decode_eq s pos h]
  by_cases p : (pt (s.drop pos)).2 = 0
  · simp only [dec_bad p, drop_take, decS_ne hne, halfB_bad p, c1, and_self, if_true, Bool.not_false, cond_true]
    rfl
  · simp only [p, decide_false, Bool.false_or, Bool.and_eq_true] at hb
    obtain ⟨rfl, hb⟩ := hb
    have hh := low_half hb
    have g : decide (((pt (s.drop pos)).1 : Int) ≥ 56320) = true := by simp only [isLow, Bool.and_eq_true, decide_eq_true_eq] at hb; simp; omega
    simp only [dec_half hh, drop_take, decS_ne hne, halfB_half hh, halfV_half hh, c1, and_self, if_true, Bool.not_true, cond_true, cond_false, g]
    rfl
theorem half_40r (es : List (List AVal)) (he : es.length ≤ 1000000) {s : List UInt8} {pos : Nat} (h : pos < s.length) (ah : Bool) (hh : isHalf (pt (s.drop pos)).1 = true) (hb : (ah && isLow (pt (s.drop pos)).1) = false) :
    exec env (denL env N1 noLoops (Nat.succ k)) 38 (loopAt Tryd.f38 0) (frEach s (.fn 40 [.ptr 0 0]) 0 ah pos) [.cells [.slice (.row 23) es]] (fun ex fr m => K ex (norm env 38 fr) m) = K .normal (frEach s (.fn 40 [.ptr 0 0]) ((1 + 1 : Nat) : Int) (isLead (pt (s.drop pos)).1) (pos + 1)) [.cells [.slice (.row 23) (es ++ (u16 (pt (s.drop pos)).1).map unit)]] := by
  have hne : s.drop pos ≠ [] := by simp; exact h
  have c1 : 0 ≤ (pos : Int) ∧ (pos : Int) ≤ (s.length : Int) := by omega
  have z : decide ((0 : Int) > 0) = false := rfl
  have hc := cp_ok (pt_lt (s.drop pos))
  have hh' := hh
  simp only [isHalf, Bool.and_eq_true, decide_eq_true_eq] at hh'
  rw [each40r, if_pos h, z, cond_false, decode_eq s pos h]
  have g1 : decide (((pt (s.drop pos)).1 : Int) ≥ 55296) = true := by simp; omega
  have g2 : decide (((pt (s.drop pos)).1 : Int) < 56320) = isLead (pt (s.drop pos)).1 := by
    simp only [isLead, decide_eq_true_eq, ← Bool.decide_and]; apply decide_eq_decide.2; omega
  cases ah with
  | false =>
    simp only [dec_half hh, drop_take, decS_ne hne, halfB_half hh, halfV_half hh, c1, and_self, if_true, Bool.not_true, cond_true, cond_false, g1, g2, hc, b00, Bool.and_self, Bool.and_true, uL_c, he, decide_true]
    rfl
  | true =>
    have g3 : decide (((pt (s.drop pos)).1 : Int) ≥ 56320) = false := by
      simp only [isLow, Bool.true_and, Bool.and_eq_false_iff, decide_eq_false_iff_not] at hb; simp; omega
    simp only [dec_half hh, drop_take, decS_ne hne, halfB_half hh, halfV_half hh, c1, and_self, if_true, Bool.not_true, cond_true, cond_false, g1, g2, g3, hc, b00, Bool.and_self, Bool.and_true, uL_c, he, decide_true]
    rfl
theorem plain_40r (es : List (List AVal)) (he : es.length ≤ 1000000) {s : List UInt8} {pos : Nat} (h : pos < s.length) (ah : Bool) (h0 : (pt (s.drop pos)).2 ≠ 0) (hh : isHalf (pt (s.drop pos)).1 = false) :
    exec env (denL env N1 noLoops (Nat.succ k)) 38 (loopAt Tryd.f38 0) (frEach s (.fn 40 [.ptr 0 0]) 0 ah pos) [.cells [.slice (.row 23) es]] (fun ex fr m => K ex (norm env 38 fr) m) = K .normal (frEach s (.fn 40 [.ptr 0 0]) 0 (isLead (pt (s.drop pos)).1) (pos + (pt (s.drop pos)).2)) [.cells [.slice (.row 23) (es ++ (u16 (pt (s.drop pos)).1).map unit)]] := by
  have hne : s.drop pos ≠ [] := by simp; exact h
  have c1 : 0 ≤ (pos : Int) ∧ (pos : Int) ≤ (s.length : Int) := by omega
  have z : decide ((0 : Int) > 0) = false := rfl
  have hlt := pt_lt (s.drop pos)
  have hc := cp_ok hlt
  have w : IntKind.wrap .i64 ((pt (s.drop pos)).1 : Int) = (pt (s.drop pos)).1 := wrap_i64_nat (by omega)
  have hd := dec_plain h0 hh
  simp only [isHalf, Bool.and_eq_false_iff, decide_eq_false_iff_not] at hh
  rw [each40r, if_pos h, z, cond_false, decode_eq s pos h, hd]
  have g0 : isLead (pt (s.drop pos)).1 = false := by simp only [isLead, Bool.and_eq_false_iff, decide_eq_false_iff_not]; omega
  rw [g0]
  by_cases p : (pt (s.drop pos)).1 = 65533
  · have y1 : (((pt (s.drop pos)).1 : Int) == 65533) = true := by simp; omega
    have y2 : (((pt (s.drop pos)).2 : Int) == 1) = false := by have := plain_3 p h0; simp; omega
    have g1 : decide (((pt (s.drop pos)).1 : Int) ≥ 55296) = true := by simp; omega
    have g2 : decide (((pt (s.drop pos)).1 : Int) < 56320) = false := by simp; omega
    simp only [y1, y2, drop_take, decS_ne hne, hd, w, c1, and_self, if_true, cond_true, cond_false, g1, g2, hc, b00, Bool.and_self, Bool.and_true, uL_c, he, decide_true]
    rfl
  · have y1 : (((pt (s.drop pos)).1 : Int) == 65533) = false := by simp; omega
    by_cases p2 : 55296 ≤ (pt (s.drop pos)).1
    · have g1 : decide (((pt (s.drop pos)).1 : Int) ≥ 55296) = true := by simp; omega
      have g2 : decide (((pt (s.drop pos)).1 : Int) < 56320) = false := by simp; omega
      simp only [y1, w, cond_true, cond_false, g1, g2, hc, b00, Bool.and_self, Bool.and_true, uL_c, he, decide_true]
      rfl
    · have g1 : decide (((pt (s.drop pos)).1 : Int) ≥ 55296) = false := by simp; omega
      simp only [y1, w, cond_true, cond_false, g1, hc, b00, Bool.and_self, Bool.and_true, uL_c, he, decide_true]
      rfl
end

/-- one round of each kind, with what was told so far -/
structure Rounds (s : List UInt8) (F : AVal) (M : List Nat → Mem) : Prop where
  skip : ∀ (R : Type) (K : AExit → AFrame → Mem → Option R) (k pos n : Nat) (ah : Bool) (o : List Nat), pos < s.length → n < 10 → exec env (denL env N1 noLoops (Nat.succ k)) 38 (loopAt Tryd.f38 0) (frEach s F ((n + 1 : Nat) : Int) ah pos) (M o) (fun ex fr m => K ex (norm env 38 fr) m) = K .normal (frEach s F (n : Int) ah (pos + (dec (s.drop pos)).2)) (M o)
  stop : ∀ (R : Type) (K : AExit → AFrame → Mem → Option R) (k pos n : Nat) (ah : Bool) (o : List Nat), ¬ pos < s.length → exec env (denL env N1 noLoops (Nat.succ k)) 38 (loopAt Tryd.f38 0) (frEach s F (n : Int) ah pos) (M o) (fun ex fr m => K ex (norm env 38 fr) m) = K (.exit 0) (frEach s F (n : Int) ah pos) (M o)
  bad : ∀ (R : Type) (K : AExit → AFrame → Mem → Option R) (k pos : Nat) (ah : Bool) (o : List Nat), pos < s.length → ((pt (s.drop pos)).2 = 0 || (ah && isLow (pt (s.drop pos)).1)) = true → exec env (denL env N1 noLoops (Nat.succ k)) 38 (loopAt Tryd.f38 0) (frEach s F 0 ah pos) (M o) (fun ex fr m => K ex (norm env 38 fr) m) = K .ret (frEach s F 0 ah (pos + 1)) (M o)
  half : ∀ (R : Type) (K : AExit → AFrame → Mem → Option R) (k pos : Nat) (ah : Bool) (o : List Nat), pos < s.length → o.length ≤ 1000000 → isHalf (pt (s.drop pos)).1 = true → (ah && isLow (pt (s.drop pos)).1) = false → exec env (denL env N1 noLoops (Nat.succ k)) 38 (loopAt Tryd.f38 0) (frEach s F 0 ah pos) (M o) (fun ex fr m => K ex (norm env 38 fr) m) = K .normal (frEach s F ((1 + 1 : Nat) : Int) (isLead (pt (s.drop pos)).1) (pos + 1)) (M (o ++ u16 (pt (s.drop pos)).1))
  plain : ∀ (R : Type) (K : AExit → AFrame → Mem → Option R) (k pos : Nat) (ah : Bool) (o : List Nat), pos < s.length → o.length ≤ 1000000 → (pt (s.drop pos)).2 ≠ 0 → isHalf (pt (s.drop pos)).1 = false → exec env (denL env N1 noLoops (Nat.succ k)) 38 (loopAt Tryd.f38 0) (frEach s F 0 ah pos) (M o) (fun ex fr m => K ex (norm env 38 fr) m) = K .normal (frEach s F 0 (isLead (pt (s.drop pos)).1) (pos + (pt (s.drop pos)).2)) (M (o ++ u16 (pt (s.drop pos)).1))
theorem rounds39 (s : List UInt8) (m : Mem) : Rounds s (.fn 39 []) (fun _ => m) where
  skip := fun R K k pos n ah o h hn => skip_39 R K k m h ah hn
  stop := fun R K k pos n ah o h => end_39 R K k m h ah n
  bad := fun R K k pos ah o h hb => bad_39 R K k m h ah hb
  half := fun R K k pos ah o h ho hh hb => half_39 R K k m h ah hh hb
  plain := fun R K k pos ah o h ho h0 hh => plain_39 R K k m h ah h0 hh
theorem map_len {o : List Nat} (h : o.length ≤ 1000000) : (o.map unit).length ≤ 1000000 := by rw [List.length_map]; exact h
theorem uRow_app (a : Nat) (r : List Nat) (c : Nat) : uRow ((a :: r) ++ u16 c) = .slice (.row 23) ((a :: r).map unit ++ (u16 c).map unit) := by rw [← List.map_append]; rfl
theorem uRow_nil (c : Nat) : uRow ([] ++ u16 c) = .slice (.row 23) ((u16 c).map unit) := by rw [List.nil_append, uRow_cons (u16_ne c)]
theorem rounds40 (s : List UInt8) : Rounds s (.fn 40 [.ptr 0 0]) (fun o => [.cells [uRow o]]) where
  skip := fun R K k pos n ah o h hn => by cases o with
    | nil => exact skip_40f R K k h ah hn
    | cons a r => exact skip_40r R K k _ h ah hn
  stop := fun R K k pos n ah o h => by cases o with
    | nil => exact end_40f R K k h ah n
    | cons a r => exact end_40r R K k _ h ah n
  bad := fun R K k pos ah o h hb => by cases o with
    | nil => exact bad_40f R K k h ah hb
    | cons a r => exact bad_40r R K k _ h ah hb
  half := fun R K k pos ah o h ho hh hb => by cases o with
    | nil => rw [uRow_nil]; exact half_40f R K k h ah hh hb
    | cons a r => rw [uRow_app]; exact half_40r R K k _ (map_len ho) h ah hh hb
  plain := fun R K k pos ah o h ho h0 hh => by cases o with
    | nil => rw [uRow_nil]; exact plain_40f R K k h ah h0 hh
    | cons a r => rw [uRow_app]; exact plain_40r R K k _ (map_len ho) h ah h0 hh
theorem u16_len (c : Nat) : (u16 c).length ≤ 2 := by unfold u16; split <;> simp
theorem each_loop {s : List UInt8} {F : AVal} {M : List Nat → Mem} (W : Rounds s F M) (hl : s.length ≤ 100000) : ∀ (n f pos k : Nat) (ah : Bool) (o : List Nat), s.length - pos = n → pos ≤ s.length → n < k → n ≤ f → o.length ≤ 2 * pos →
    ∃ (ah' : Bool) (pos' : Nat), (denL env N1 noLoops (k + 1)).loop 38 (loopAt Tryd.f38 0) (frEach s F 0 ah pos) (M o) = some (bif (scan f ah (s.drop pos)).2 then .exit 0 else .ret, frEach s F 0 ah' pos', M (o ++ (scan f ah (s.drop pos)).1.flatMap u16)) := by
  intro n
  induction n using Nat.strongRecOn with
  | ind n ih =>
    intro f pos k ah o hn hp hk hf ho
    obtain ⟨k, rfl⟩ : ∃ j, k = j + 1 := ⟨k - 1, by omega⟩
    rcases Nat.lt_or_ge pos s.length with hlt | hge
    · obtain ⟨f, rfl⟩ : ∃ j, f = j + 1 := ⟨f - 1, by omega⟩
      have hd := drop_at s pos hlt
      have hsc : scan (f + 1) ah (s.drop pos) = if (pt (s.drop pos)).2 = 0 || (ah && isLow (pt (s.drop pos)).1) then ([], false) else ((pt (s.drop pos)).1 :: (scan f (isLead (pt (s.drop pos)).1) ((s.drop pos).drop (pt (s.drop pos)).2)).1, (scan f (isLead (pt (s.drop pos)).1) ((s.drop pos).drop (pt (s.drop pos)).2)).2) := by
        rw [hd]; rfl
      by_cases hb : ((pt (s.drop pos)).2 = 0 || (ah && isLow (pt (s.drop pos)).1)) = true
      · refine ⟨ah, pos + 1, ?_⟩
        rw [hsc, if_pos hb, loop_step, W.bad _ _ _ _ _ _ hlt hb]
        simp [rk]
      · have hb' := hb
        simp only [Bool.or_eq_true, decide_eq_true_eq, not_or, Bool.not_eq_true] at hb'
        have hw := pt_width (s.drop pos)
        rw [List.length_drop] at hw
        have hu := u16_len (pt (s.drop pos)).1
        rw [hsc, if_neg hb, List.drop_drop]
        rcases hh : isHalf (pt (s.drop pos)).1 with _ | _
        · obtain ⟨ah', pos', h⟩ := ih (s.length - (pos + (pt (s.drop pos)).2)) (by omega) f (pos + (pt (s.drop pos)).2) k (isLead (pt (s.drop pos)).1) (o ++ u16 (pt (s.drop pos)).1) rfl (by omega) (by omega) (by omega) (by rw [List.length_append]; omega)
          refine ⟨ah', pos', ?_⟩
          rw [loop_step, W.plain _ _ _ _ _ _ hlt (by omega) hb'.1 hh]
          show (denL env N1 noLoops (k + 1)).loop 38 (loopAt Tryd.f38 0) _ _ = _
          rw [h, List.flatMap_cons, List.append_assoc]
        · obtain ⟨c1, c2, c3⟩ := half_conts hh
          have h3 := half_w hh
          rw [List.drop_drop] at c1 c2
          rw [List.length_drop] at c3
          obtain ⟨k, rfl⟩ : ∃ j, k = j + 2 := ⟨k - 2, by omega⟩
          obtain ⟨ah', pos', h⟩ := ih (s.length - (pos + 3)) (by omega) f (pos + 3) k (isLead (pt (s.drop pos)).1) (o ++ u16 (pt (s.drop pos)).1) rfl (by omega) (by omega) (by omega) (by rw [List.length_append]; omega)
          refine ⟨ah', pos', ?_⟩
          rw [loop_step, W.half _ _ _ _ _ _ hlt (by omega) hh hb'.2]
          show (denL env N1 noLoops (k + 2 + 1)).loop 38 (loopAt Tryd.f38 0) _ _ = _
          rw [loop_step, W.skip _ _ _ _ _ _ _ (by omega) (by omega), c1]
          show (denL env N1 noLoops (k + 1 + 1)).loop 38 (loopAt Tryd.f38 0) _ _ = _
          rw [loop_step, W.skip _ _ _ _ 0 _ _ (by omega) (by omega), c2]
          show (denL env N1 noLoops (k + 1)).loop 38 (loopAt Tryd.f38 0) (frEach s F 0 _ (pos + 3)) _ = _
          rw [h, List.flatMap_cons, List.append_assoc, h3]
    · refine ⟨ah, pos, ?_⟩
      have hd : s.drop pos = [] := by simp; omega
      have hs : scan f ah [] = ([], true) := by cases f <;> rfl
      rw [hd, hs, loop_step, show frEach s F 0 ah pos = frEach s F ((0 : Nat) : Int) ah pos from rfl, W.stop _ _ k pos 0 ah o (by omega)]
      simp [rk]
end Go.Proofs.YtlklpdifcpjlpaaDoor.U
