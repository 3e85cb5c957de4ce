/- Text: the loop over a row of units. -/
import Derived.Test.YtlklpdifcpjlpaaDoorUTree1
import Derived.Test.YtlklpdifcpjlpaaDoorUTree2
import Derived.Test.YtlklpdifcpjlpaaDoorAbsBits
namespace Go.Proofs.YtlklpdifcpjlpaaDoor.U
open Go.Abs Go.Uni
set_option maxRecDepth 100000
set_option linter.unusedSimpArgs false
set_option linter.unusedVariables false

theorem beq11 : Nat.beq 1 1 = true := rfl
theorem ble11 : Nat.ble 1 1 = true := rfl
theorem wnat {n : Nat} (h : n < 9223372036854775808) : IntKind.wrap .i64 (n : Int) = n := wrap_i64_nat h
/-- the first code point of units, and how many units it has -/
def headCp : List Nat → Nat × Nat
  | [] => (0, 0)
  | [u] => (u, 1)
  | u :: v :: _ => if isLead u && isLow v then (65536 + (u - 55296) * 1024 + (v - 56320), 2) else (u, 1)
theorem cps_head : ∀ {l : List Nat}, l ≠ [] → cps l = (headCp l).1 :: cps (l.drop (headCp l).2)
  | [], h => absurd rfl h
  | [u], _ => rfl
  | u :: v :: r, _ => by
    simp only [cps, headCp]
    split <;> rfl
theorem headCp_le : ∀ {l : List Nat}, (∀ x ∈ l, x < 65536) → (headCp l).1 ≤ 1114111 ∧ (headCp l).2 ≤ l.length ∧ (l ≠ [] → 0 < (headCp l).2)
  | [], _ => by simp [headCp]
  | [u], h => by have := h u (by simp); simp [headCp]; omega
  | u :: v :: r, h => by
    have := h u (by simp)
    have := h v (by simp)
    simp only [headCp]
    split
    · rename_i hp
      simp only [isLead, isLow, Bool.and_eq_true, decide_eq_true_eq] at hp
      simp; omega
    · simp; omega
theorem drop_one {α : Type} (l : List α) (i : Nat) (h : i < l.length) : l.drop i = l[i] :: l.drop (i + 1) := List.drop_eq_getElem_cons h
theorem isCp_nat {c : Nat} (h : c ≤ 1114111) : isCp (c : Int) = true := by simp [isCp]; omega

section
variable (R : Type) (K : AExit → AFrame → Mem → Option R) (k : Nat)
theorem text_facts {u : List Nat} (hu : ∀ x ∈ u, x < 65536) (hl : u.length ≤ 100000) {i : Nat} (hi : i < u.length) :
    nthL (u.map unit) i = [.int .u16 u[i]] ∧ IntKind.wrap .i64 ((i : Int) + 1) = ((i + 1 : Nat) : Int) ∧ IntKind.wrap .i64 (u[i] : Int) = u[i] ∧ u[i] < 65536 := by
  have h1 := hu u[i] (List.getElem_mem hi)
  exact ⟨nthL_map unit u i hi, by rw [show (i : Int) + 1 = ((i + 1 : Nat) : Int) by simp]; exact wnat (by omega), wnat (by omega), h1⟩
theorem text_sum {x y : Nat} (h1 : 55296 ≤ x) (h2 : x ≤ 56319) (h3 : 56320 ≤ y) (h4 : y ≤ 57343) :
    IntKind.wrap .i64 (IntKind.wrap .i64 (IntKind.wrap .i64 (65536 + IntKind.wrap .i64 (IntKind.wrap .i64 ((x : Int) - 55296) * 2 ^ min (Int.toNat 10) (IntKind.bits .i64))) + (y : Int)) - 56320) = ((65536 + (x - 55296) * 1024 + (y - 56320) : Nat) : Int) := by
  simp only [min10i, IntKind.wrap_i64]; omega
set_option maxHeartbeats 1000000 in
theorem text_round14f {u : List Nat} (hu : ∀ x ∈ u, x < 65536) (hl : u.length ≤ 100000)  {i : Nat} (hi : i < u.length) :
    exec env (denL env N1 noLoops (Nat.succ k)) 14 (loopAt Tryd.f14 0) (frText 64 (u.map unit) (.slice .full []) i) [] (fun ex fr m => K ex (norm env 14 fr) m) =
      K .normal (frText 64 (u.map unit) (.slice (.row 5) (encL (headCp (u.drop i)).1)) ((i + (headCp (u.drop i)).2 : Nat) : Int)) [] := by
  obtain ⟨h1, h2, h3, h4⟩ := text_facts hu hl hi
  rw [text14f, drop_one u i hi]
  have e1 : (Int.toNat (i : Int)) = i := Int.toNat_natCast i
  have e2 : (Int.toNat ((i + 1 : Nat) : Int)) = i + 1 := Int.toNat_natCast _
  have c0 : decide ((i : Int) < (((u.map unit).length : Nat) : Int)) = true := by simp; exact hi
  have c1 : 0 ≤ (i : Int) ∧ (i : Int) < (((u.map unit).length : Nat) : Int) := by simp; exact hi
  generalize hx : u[i] = x at *
  have r1 : isCp (x : Int) = true := isCp_nat (by omega)
  by_cases hn : i + 1 < u.length
  · obtain ⟨g1, g2, g3, g4⟩ := text_facts hu hl hn
    rw [drop_one u (i + 1) hn]
    have d0 : decide (((i + 1 : Nat) : Int) < (((u.map unit).length : Nat) : Int)) = true := by simp; omega
    have d1 : 0 ≤ ((i + 1 : Nat) : Int) ∧ ((i + 1 : Nat) : Int) < (((u.map unit).length : Nat) : Int) := by simp; omega
    generalize hy : u[i + 1] = y at *
    have hi2 : IntKind.wrap .i64 (((i + 1 : Nat) : Int) + 1) = ((i + 2 : Nat) : Int) := by rw [IntKind.wrap_i64]; omega
    by_cases p1 : 55296 ≤ x
    · have q1 : decide ((x : Int) ≥ 55296) = true := by simp; omega
      by_cases p2 : x ≤ 56319
      · have q2 : decide ((x : Int) < 56320) = true := by simp; omega
        have q2' : decide ((x : Int) ≤ 56319) = true := by simp; omega
        by_cases p3 : 56320 ≤ y
        · have q3 : decide ((y : Int) ≥ 56320) = true := by simp; omega
          by_cases p4 : y ≤ 57343
          · have q4 : decide ((y : Int) < 57344) = true := by simp; omega
            have q4' : decide ((y : Int) ≤ 57343) = true := by simp; omega
            have hp : (isLead x && isLow y) = true := by simp [isLead, isLow]; omega
            have q5 : isCp ((65536 + (x - 55296) * 1024 + (y - 56320) : Nat) : Int) = true := isCp_nat (by omega)
            simp only [headCp, hp, if_true, e1, e2, c0, c1, h1, h2, h3, g1, g3, d0, d1, cell_zero, getI_int, isI_int, List.length_cons, List.length_nil, beq11, ble11, Nat.reduceAdd, Bool.and_self, cond_true, and_self, if_true, decide_true, decide_false, q1, q2, q2', q3, q4, q4', text_sum p1 p2 p3 p4, q5, hi2]
            rfl
          · have q4 : decide ((y : Int) < 57344) = false := by simp; omega
            have q4' : decide ((y : Int) ≤ 57343) = false := by simp; omega
            have hp : (isLead x && isLow y) = false := by simp [isLead, isLow]; omega
            simp only [headCp, hp, Bool.false_eq_true, if_false]
            simp only [ e1, e2, c0, c1, h1, h2, h3, g1, g3, d0, d1, cell_zero, getI_int, isI_int, List.length_cons, List.length_nil, beq11, ble11, Nat.reduceAdd, Bool.and_self, cond_true, cond_false, decide_true, decide_false, and_self, if_true, decide_true, decide_false, q1, q2, q2', q3, q4, q4', r1, hi2]
            rfl
        · have q3 : decide ((y : Int) ≥ 56320) = false := by simp; omega
          have hp : (isLead x && isLow y) = false := by simp [isLead, isLow]; omega
          simp only [headCp, hp, Bool.false_eq_true, if_false]
          have z0 : decide (getI (cellAt (nthL (u.map unit) (i + 1)) 0) ≥ 56320) = false := by rw [g1]; exact q3
          have z2 : Nat.beq (nthL (u.map unit) (i + 1)).length 1 = true := by rw [g1]; rfl
          have z3 : Nat.ble 1 (nthL (u.map unit) (i + 1)).length = true := by rw [g1]; rfl
          have z4 : isI .u16 (cellAt (nthL (u.map unit) (i + 1)) 0) = true := by rw [g1]; rfl
          have z5 : Nat.beq 1 (List.length [AVal.int IntKind.u16 0]) = true := rfl
          have z6 : IntKind.wrap .i64 (getI (cellAt (nthL (u.map unit) (i + 1)) 0)) = getI (cellAt (nthL (u.map unit) (i + 1)) 0) := by rw [g1]; exact g3
          simp only [e1, e2, c0, c1, h1, h2, h3, d0, d1, cell_zero, getI_int, isI_int, List.length_cons, List.length_nil, beq11, ble11, Nat.reduceAdd, Bool.and_self, cond_true, and_self, if_true, q1, q2, q2', z2, z3, z4, z5, z6]
          rw [z0, cond_false]
          simp only [r1, Bool.and_self, cond_true]
          rfl
      · have q2 : decide ((x : Int) < 56320) = false := by simp; omega
        have q2' : decide ((x : Int) ≤ 56319) = false := by simp; omega
        have hp : (isLead x && isLow y) = false := by simp [isLead, isLow]; omega
        simp only [headCp, hp, Bool.false_eq_true, if_false]
        simp only [ e1, e2, c0, c1, h1, h2, h3, cell_zero, getI_int, isI_int, List.length_cons, List.length_nil, beq11, ble11, Nat.reduceAdd, Bool.and_self, cond_true, cond_false, decide_true, decide_false, and_self, if_true, decide_true, decide_false, q1, q2, q2', r1]
        rfl
    · have q1 : decide ((x : Int) ≥ 55296) = false := by simp; omega
      have hp : (isLead x && isLow y) = false := by simp [isLead, isLow]; omega
      simp only [headCp, hp, Bool.false_eq_true, if_false]
      simp only [ e1, e2, c0, c1, h1, h2, h3, cell_zero, getI_int, isI_int, List.length_cons, List.length_nil, beq11, ble11, Nat.reduceAdd, Bool.and_self, cond_true, cond_false, decide_true, decide_false, and_self, if_true, decide_true, decide_false, q1, r1]
      rfl
  · have d0 : decide (((i + 1 : Nat) : Int) < (((u.map unit).length : Nat) : Int)) = false := by simp; omega
    have hd : u.drop (i + 1) = [] := by simp; omega
    rw [hd]
    by_cases p1 : 55296 ≤ x
    · have q1 : decide ((x : Int) ≥ 55296) = true := by simp; omega
      by_cases p2 : x ≤ 56319
      · have q2 : decide ((x : Int) < 56320) = true := by simp; omega
        have q2' : decide ((x : Int) ≤ 56319) = true := by simp; omega
        simp only [headCp, e1, e2, c0, c1, h1, h2, h3, d0, cell_zero, getI_int, isI_int, List.length_cons, List.length_nil, beq11, ble11, Nat.reduceAdd, Bool.and_self, cond_true, cond_false, decide_true, decide_false, and_self, if_true, decide_true, decide_false, q1, q2, q2', r1]
        rfl
      · have q2 : decide ((x : Int) < 56320) = false := by simp; omega
        have q2' : decide ((x : Int) ≤ 56319) = false := by simp; omega
        simp only [headCp, e1, e2, c0, c1, h1, h2, h3, d0, cell_zero, getI_int, isI_int, List.length_cons, List.length_nil, beq11, ble11, Nat.reduceAdd, Bool.and_self, cond_true, cond_false, decide_true, decide_false, and_self, if_true, decide_true, decide_false, q1, q2, q2', r1]
        rfl
    · have q1 : decide ((x : Int) ≥ 55296) = false := by simp; omega
      simp only [headCp, e1, e2, c0, c1, h1, h2, h3, d0, cell_zero, getI_int, isI_int, List.length_cons, List.length_nil, beq11, ble11, Nat.reduceAdd, Bool.and_self, cond_true, cond_false, decide_true, decide_false, and_self, if_true, decide_true, decide_false, q1, r1]
      rfl
theorem text_end14f {u : List Nat}  {i : Nat} (hi : u.length ≤ i) :
    exec env (denL env N1 noLoops (Nat.succ k)) 14 (loopAt Tryd.f14 0) (frText 64 (u.map unit) (.slice .full []) i) [] (fun ex fr m => K ex (norm env 14 fr) m) =
      K (.exit 0) (frText 64 (u.map unit) (.slice .full []) i) [] := by
  have c0 : decide ((i : Int) < (((u.map unit).length : Nat) : Int)) = false := by simp; exact hi
  rw [text14f]
  simp only [c0, cond_false]
  rfl
set_option maxHeartbeats 1000000 in
theorem text_round14r {u : List Nat} (hu : ∀ x ∈ u, x < 65536) (hl : u.length ≤ 100000) {b : List (List AVal)} (hb : b.length ≤ 1000000) {i : Nat} (hi : i < u.length) :
    exec env (denL env N1 noLoops (Nat.succ k)) 14 (loopAt Tryd.f14 0) (frText 64 (u.map unit) (.slice (.row 5) b) i) [] (fun ex fr m => K ex (norm env 14 fr) m) =
      K .normal (frText 64 (u.map unit) (.slice (.row 5) (b ++ encL (headCp (u.drop i)).1)) ((i + (headCp (u.drop i)).2 : Nat) : Int)) [] := by
  obtain ⟨h1, h2, h3, h4⟩ := text_facts hu hl hi
  rw [text14r, drop_one u i hi]
  have e1 : (Int.toNat (i : Int)) = i := Int.toNat_natCast i
  have e2 : (Int.toNat ((i + 1 : Nat) : Int)) = i + 1 := Int.toNat_natCast _
  have c0 : decide ((i : Int) < (((u.map unit).length : Nat) : Int)) = true := by simp; exact hi
  have c1 : 0 ≤ (i : Int) ∧ (i : Int) < (((u.map unit).length : Nat) : Int) := by simp; exact hi
  generalize hx : u[i] = x at *
  have r1 : isCp (x : Int) = true := isCp_nat (by omega)
  by_cases hn : i + 1 < u.length
  · obtain ⟨g1, g2, g3, g4⟩ := text_facts hu hl hn
    rw [drop_one u (i + 1) hn]
    have d0 : decide (((i + 1 : Nat) : Int) < (((u.map unit).length : Nat) : Int)) = true := by simp; omega
    have d1 : 0 ≤ ((i + 1 : Nat) : Int) ∧ ((i + 1 : Nat) : Int) < (((u.map unit).length : Nat) : Int) := by simp; omega
    generalize hy : u[i + 1] = y at *
    have hi2 : IntKind.wrap .i64 (((i + 1 : Nat) : Int) + 1) = ((i + 2 : Nat) : Int) := by rw [IntKind.wrap_i64]; omega
    by_cases p1 : 55296 ≤ x
    · have q1 : decide ((x : Int) ≥ 55296) = true := by simp; omega
      by_cases p2 : x ≤ 56319
      · have q2 : decide ((x : Int) < 56320) = true := by simp; omega
        have q2' : decide ((x : Int) ≤ 56319) = true := by simp; omega
        by_cases p3 : 56320 ≤ y
        · have q3 : decide ((y : Int) ≥ 56320) = true := by simp; omega
          by_cases p4 : y ≤ 57343
          · have q4 : decide ((y : Int) < 57344) = true := by simp; omega
            have q4' : decide ((y : Int) ≤ 57343) = true := by simp; omega
            have hp : (isLead x && isLow y) = true := by simp [isLead, isLow]; omega
            have q5 : isCp ((65536 + (x - 55296) * 1024 + (y - 56320) : Nat) : Int) = true := isCp_nat (by omega)
            simp only [headCp, hp, if_true, e1, e2, c0, c1, h1, h2, h3, g1, g3, d0, d1, cell_zero, getI_int, isI_int, List.length_cons, List.length_nil, beq11, ble11, Nat.reduceAdd, Bool.and_self, cond_true, and_self, if_true, decide_true, decide_false, q1, q2, q2', q3, q4, q4', text_sum p1 p2 p3 p4, q5, hi2, hb]
            rfl
          · have q4 : decide ((y : Int) < 57344) = false := by simp; omega
            have q4' : decide ((y : Int) ≤ 57343) = false := by simp; omega
            have hp : (isLead x && isLow y) = false := by simp [isLead, isLow]; omega
            simp only [headCp, hp, Bool.false_eq_true, if_false]
            simp only [ e1, e2, c0, c1, h1, h2, h3, g1, g3, d0, d1, cell_zero, getI_int, isI_int, List.length_cons, List.length_nil, beq11, ble11, Nat.reduceAdd, Bool.and_self, cond_true, cond_false, decide_true, decide_false, and_self, if_true, decide_true, decide_false, q1, q2, q2', q3, q4, q4', r1, hi2, hb]
            rfl
        · have q3 : decide ((y : Int) ≥ 56320) = false := by simp; omega
          have hp : (isLead x && isLow y) = false := by simp [isLead, isLow]; omega
          simp only [headCp, hp, Bool.false_eq_true, if_false]
          have z0 : decide (getI (cellAt (nthL (u.map unit) (i + 1)) 0) ≥ 56320) = false := by rw [g1]; exact q3
          have z2 : Nat.beq (nthL (u.map unit) (i + 1)).length 1 = true := by rw [g1]; rfl
          have z3 : Nat.ble 1 (nthL (u.map unit) (i + 1)).length = true := by rw [g1]; rfl
          have z4 : isI .u16 (cellAt (nthL (u.map unit) (i + 1)) 0) = true := by rw [g1]; rfl
          have z5 : Nat.beq 1 (List.length [AVal.int IntKind.u16 0]) = true := rfl
          have z6 : IntKind.wrap .i64 (getI (cellAt (nthL (u.map unit) (i + 1)) 0)) = getI (cellAt (nthL (u.map unit) (i + 1)) 0) := by rw [g1]; exact g3
          simp only [e1, e2, c0, c1, h1, h2, h3, d0, d1, cell_zero, getI_int, isI_int, List.length_cons, List.length_nil, beq11, ble11, Nat.reduceAdd, Bool.and_self, cond_true, and_self, if_true, q1, q2, q2', z2, z3, z4, z5, z6]
          rw [z0, cond_false]
          simp only [r1, Bool.and_self, cond_true, hb]
          rfl
      · have q2 : decide ((x : Int) < 56320) = false := by simp; omega
        have q2' : decide ((x : Int) ≤ 56319) = false := by simp; omega
        have hp : (isLead x && isLow y) = false := by simp [isLead, isLow]; omega
        simp only [headCp, hp, Bool.false_eq_true, if_false]
        simp only [ e1, e2, c0, c1, h1, h2, h3, cell_zero, getI_int, isI_int, List.length_cons, List.length_nil, beq11, ble11, Nat.reduceAdd, Bool.and_self, cond_true, cond_false, decide_true, decide_false, and_self, if_true, decide_true, decide_false, q1, q2, q2', r1, hb]
        rfl
    · have q1 : decide ((x : Int) ≥ 55296) = false := by simp; omega
      have hp : (isLead x && isLow y) = false := by simp [isLead, isLow]; omega
      simp only [headCp, hp, Bool.false_eq_true, if_false]
      simp only [ e1, e2, c0, c1, h1, h2, h3, cell_zero, getI_int, isI_int, List.length_cons, List.length_nil, beq11, ble11, Nat.reduceAdd, Bool.and_self, cond_true, cond_false, decide_true, decide_false, and_self, if_true, decide_true, decide_false, q1, r1, hb]
      rfl
  · have d0 : decide (((i + 1 : Nat) : Int) < (((u.map unit).length : Nat) : Int)) = false := by simp; omega
    have hd : u.drop (i + 1) = [] := by simp; omega
    rw [hd]
    by_cases p1 : 55296 ≤ x
    · have q1 : decide ((x : Int) ≥ 55296) = true := by simp; omega
      by_cases p2 : x ≤ 56319
      · have q2 : decide ((x : Int) < 56320) = true := by simp; omega
        have q2' : decide ((x : Int) ≤ 56319) = true := by simp; omega
        simp only [headCp, e1, e2, c0, c1, h1, h2, h3, d0, cell_zero, getI_int, isI_int, List.length_cons, List.length_nil, beq11, ble11, Nat.reduceAdd, Bool.and_self, cond_true, cond_false, decide_true, decide_false, and_self, if_true, decide_true, decide_false, q1, q2, q2', r1, hb]
        rfl
      · have q2 : decide ((x : Int) < 56320) = false := by simp; omega
        have q2' : decide ((x : Int) ≤ 56319) = false := by simp; omega
        simp only [headCp, e1, e2, c0, c1, h1, h2, h3, d0, cell_zero, getI_int, isI_int, List.length_cons, List.length_nil, beq11, ble11, Nat.reduceAdd, Bool.and_self, cond_true, cond_false, decide_true, decide_false, and_self, if_true, decide_true, decide_false, q1, q2, q2', r1, hb]
        rfl
    · have q1 : decide ((x : Int) ≥ 55296) = false := by simp; omega
      simp only [headCp, e1, e2, c0, c1, h1, h2, h3, d0, cell_zero, getI_int, isI_int, List.length_cons, List.length_nil, beq11, ble11, Nat.reduceAdd, Bool.and_self, cond_true, cond_false, decide_true, decide_false, and_self, if_true, decide_true, decide_false, q1, r1, hb]
      rfl
theorem text_end14r {u : List Nat} {b : List (List AVal)} {i : Nat} (hi : u.length ≤ i) :
    exec env (denL env N1 noLoops (Nat.succ k)) 14 (loopAt Tryd.f14 0) (frText 64 (u.map unit) (.slice (.row 5) b) i) [] (fun ex fr m => K ex (norm env 14 fr) m) =
      K (.exit 0) (frText 64 (u.map unit) (.slice (.row 5) b) i) [] := by
  have c0 : decide ((i : Int) < (((u.map unit).length : Nat) : Int)) = false := by simp; exact hi
  rw [text14r]
  simp only [c0, cond_false]
  rfl
set_option maxHeartbeats 1000000 in
theorem text_round21f {u : List Nat} (hu : ∀ x ∈ u, x < 65536) (hl : u.length ≤ 100000)  {i : Nat} (hi : i < u.length) :
    exec env (denL env N1 noLoops (Nat.succ k)) 21 (loopAt Tryd.f21 0) (frText 65 (u.map unit) (.slice .full []) i) [] (fun ex fr m => K ex (norm env 21 fr) m) =
      K .normal (frText 65 (u.map unit) (.slice (.row 5) (encL (headCp (u.drop i)).1)) ((i + (headCp (u.drop i)).2 : Nat) : Int)) [] := by
  obtain ⟨h1, h2, h3, h4⟩ := text_facts hu hl hi
  rw [text21f, drop_one u i hi]
  have e1 : (Int.toNat (i : Int)) = i := Int.toNat_natCast i
  have e2 : (Int.toNat ((i + 1 : Nat) : Int)) = i + 1 := Int.toNat_natCast _
  have c0 : decide ((i : Int) < (((u.map unit).length : Nat) : Int)) = true := by simp; exact hi
  have c1 : 0 ≤ (i : Int) ∧ (i : Int) < (((u.map unit).length : Nat) : Int) := by simp; exact hi
  generalize hx : u[i] = x at *
  have r1 : isCp (x : Int) = true := isCp_nat (by omega)
  by_cases hn : i + 1 < u.length
  · obtain ⟨g1, g2, g3, g4⟩ := text_facts hu hl hn
    rw [drop_one u (i + 1) hn]
    have d0 : decide (((i + 1 : Nat) : Int) < (((u.map unit).length : Nat) : Int)) = true := by simp; omega
    have d1 : 0 ≤ ((i + 1 : Nat) : Int) ∧ ((i + 1 : Nat) : Int) < (((u.map unit).length : Nat) : Int) := by simp; omega
    generalize hy : u[i + 1] = y at *
    have hi2 : IntKind.wrap .i64 (((i + 1 : Nat) : Int) + 1) = ((i + 2 : Nat) : Int) := by rw [IntKind.wrap_i64]; omega
    by_cases p1 : 55296 ≤ x
    · have q1 : decide ((x : Int) ≥ 55296) = true := by simp; omega
      by_cases p2 : x ≤ 56319
      · have q2 : decide ((x : Int) < 56320) = true := by simp; omega
        have q2' : decide ((x : Int) ≤ 56319) = true := by simp; omega
        by_cases p3 : 56320 ≤ y
        · have q3 : decide ((y : Int) ≥ 56320) = true := by simp; omega
          by_cases p4 : y ≤ 57343
          · have q4 : decide ((y : Int) < 57344) = true := by simp; omega
            have q4' : decide ((y : Int) ≤ 57343) = true := by simp; omega
            have hp : (isLead x && isLow y) = true := by simp [isLead, isLow]; omega
            have q5 : isCp ((65536 + (x - 55296) * 1024 + (y - 56320) : Nat) : Int) = true := isCp_nat (by omega)
            simp only [headCp, hp, if_true, e1, e2, c0, c1, h1, h2, h3, g1, g3, d0, d1, cell_zero, getI_int, isI_int, List.length_cons, List.length_nil, beq11, ble11, Nat.reduceAdd, Bool.and_self, cond_true, and_self, if_true, decide_true, decide_false, q1, q2, q2', q3, q4, q4', text_sum p1 p2 p3 p4, q5, hi2]
            rfl
          · have q4 : decide ((y : Int) < 57344) = false := by simp; omega
            have q4' : decide ((y : Int) ≤ 57343) = false := by simp; omega
            have hp : (isLead x && isLow y) = false := by simp [isLead, isLow]; omega
            simp only [headCp, hp, Bool.false_eq_true, if_false]
            simp only [ e1, e2, c0, c1, h1, h2, h3, g1, g3, d0, d1, cell_zero, getI_int, isI_int, List.length_cons, List.length_nil, beq11, ble11, Nat.reduceAdd, Bool.and_self, cond_true, cond_false, decide_true, decide_false, and_self, if_true, decide_true, decide_false, q1, q2, q2', q3, q4, q4', r1, hi2]
            rfl
        · have q3 : decide ((y : Int) ≥ 56320) = false := by simp; omega
          have hp : (isLead x && isLow y) = false := by simp [isLead, isLow]; omega
          simp only [headCp, hp, Bool.false_eq_true, if_false]
          have z0 : decide (getI (cellAt (nthL (u.map unit) (i + 1)) 0) ≥ 56320) = false := by rw [g1]; exact q3
          have z2 : Nat.beq (nthL (u.map unit) (i + 1)).length 1 = true := by rw [g1]; rfl
          have z3 : Nat.ble 1 (nthL (u.map unit) (i + 1)).length = true := by rw [g1]; rfl
          have z4 : isI .u16 (cellAt (nthL (u.map unit) (i + 1)) 0) = true := by rw [g1]; rfl
          have z5 : Nat.beq 1 (List.length [AVal.int IntKind.u16 0]) = true := rfl
          have z6 : IntKind.wrap .i64 (getI (cellAt (nthL (u.map unit) (i + 1)) 0)) = getI (cellAt (nthL (u.map unit) (i + 1)) 0) := by rw [g1]; exact g3
          simp only [e1, e2, c0, c1, h1, h2, h3, d0, d1, cell_zero, getI_int, isI_int, List.length_cons, List.length_nil, beq11, ble11, Nat.reduceAdd, Bool.and_self, cond_true, and_self, if_true, q1, q2, q2', z2, z3, z4, z5, z6]
          rw [z0, cond_false]
          simp only [r1, Bool.and_self, cond_true]
          rfl
      · have q2 : decide ((x : Int) < 56320) = false := by simp; omega
        have q2' : decide ((x : Int) ≤ 56319) = false := by simp; omega
        have hp : (isLead x && isLow y) = false := by simp [isLead, isLow]; omega
        simp only [headCp, hp, Bool.false_eq_true, if_false]
        simp only [ e1, e2, c0, c1, h1, h2, h3, cell_zero, getI_int, isI_int, List.length_cons, List.length_nil, beq11, ble11, Nat.reduceAdd, Bool.and_self, cond_true, cond_false, decide_true, decide_false, and_self, if_true, decide_true, decide_false, q1, q2, q2', r1]
        rfl
    · have q1 : decide ((x : Int) ≥ 55296) = false := by simp; omega
      have hp : (isLead x && isLow y) = false := by simp [isLead, isLow]; omega
      simp only [headCp, hp, Bool.false_eq_true, if_false]
      simp only [ e1, e2, c0, c1, h1, h2, h3, cell_zero, getI_int, isI_int, List.length_cons, List.length_nil, beq11, ble11, Nat.reduceAdd, Bool.and_self, cond_true, cond_false, decide_true, decide_false, and_self, if_true, decide_true, decide_false, q1, r1]
      rfl
  · have d0 : decide (((i + 1 : Nat) : Int) < (((u.map unit).length : Nat) : Int)) = false := by simp; omega
    have hd : u.drop (i + 1) = [] := by simp; omega
    rw [hd]
    by_cases p1 : 55296 ≤ x
    · have q1 : decide ((x : Int) ≥ 55296) = true := by simp; omega
      by_cases p2 : x ≤ 56319
      · have q2 : decide ((x : Int) < 56320) = true := by simp; omega
        have q2' : decide ((x : Int) ≤ 56319) = true := by simp; omega
        simp only [headCp, e1, e2, c0, c1, h1, h2, h3, d0, cell_zero, getI_int, isI_int, List.length_cons, List.length_nil, beq11, ble11, Nat.reduceAdd, Bool.and_self, cond_true, cond_false, decide_true, decide_false, and_self, if_true, decide_true, decide_false, q1, q2, q2', r1]
        rfl
      · have q2 : decide ((x : Int) < 56320) = false := by simp; omega
        have q2' : decide ((x : Int) ≤ 56319) = false := by simp; omega
        simp only [headCp, e1, e2, c0, c1, h1, h2, h3, d0, cell_zero, getI_int, isI_int, List.length_cons, List.length_nil, beq11, ble11, Nat.reduceAdd, Bool.and_self, cond_true, cond_false, decide_true, decide_false, and_self, if_true, decide_true, decide_false, q1, q2, q2', r1]
        rfl
    · have q1 : decide ((x : Int) ≥ 55296) = false := by simp; omega
      simp only [headCp, e1, e2, c0, c1, h1, h2, h3, d0, cell_zero, getI_int, isI_int, List.length_cons, List.length_nil, beq11, ble11, Nat.reduceAdd, Bool.and_self, cond_true, cond_false, decide_true, decide_false, and_self, if_true, decide_true, decide_false, q1, r1]
      rfl
theorem text_end21f {u : List Nat}  {i : Nat} (hi : u.length ≤ i) :
    exec env (denL env N1 noLoops (Nat.succ k)) 21 (loopAt Tryd.f21 0) (frText 65 (u.map unit) (.slice .full []) i) [] (fun ex fr m => K ex (norm env 21 fr) m) =
      K (.exit 0) (frText 65 (u.map unit) (.slice .full []) i) [] := by
  have c0 : decide ((i : Int) < (((u.map unit).length : Nat) : Int)) = false := by simp; exact hi
  rw [text21f]
  simp only [c0, cond_false]
  rfl
set_option maxHeartbeats 1000000 in
theorem text_round21r {u : List Nat} (hu : ∀ x ∈ u, x < 65536) (hl : u.length ≤ 100000) {b : List (List AVal)} (hb : b.length ≤ 1000000) {i : Nat} (hi : i < u.length) :
    exec env (denL env N1 noLoops (Nat.succ k)) 21 (loopAt Tryd.f21 0) (frText 65 (u.map unit) (.slice (.row 5) b) i) [] (fun ex fr m => K ex (norm env 21 fr) m) =
      K .normal (frText 65 (u.map unit) (.slice (.row 5) (b ++ encL (headCp (u.drop i)).1)) ((i + (headCp (u.drop i)).2 : Nat) : Int)) [] := by
  obtain ⟨h1, h2, h3, h4⟩ := text_facts hu hl hi
  rw [text21r, drop_one u i hi]
  have e1 : (Int.toNat (i : Int)) = i := Int.toNat_natCast i
  have e2 : (Int.toNat ((i + 1 : Nat) : Int)) = i + 1 := Int.toNat_natCast _
  have c0 : decide ((i : Int) < (((u.map unit).length : Nat) : Int)) = true := by simp; exact hi
  have c1 : 0 ≤ (i : Int) ∧ (i : Int) < (((u.map unit).length : Nat) : Int) := by simp; exact hi
  generalize hx : u[i] = x at *
  have r1 : isCp (x : Int) = true := isCp_nat (by omega)
  by_cases hn : i + 1 < u.length
  · obtain ⟨g1, g2, g3, g4⟩ := text_facts hu hl hn
    rw [drop_one u (i + 1) hn]
    have d0 : decide (((i + 1 : Nat) : Int) < (((u.map unit).length : Nat) : Int)) = true := by simp; omega
    have d1 : 0 ≤ ((i + 1 : Nat) : Int) ∧ ((i + 1 : Nat) : Int) < (((u.map unit).length : Nat) : Int) := by simp; omega
    generalize hy : u[i + 1] = y at *
    have hi2 : IntKind.wrap .i64 (((i + 1 : Nat) : Int) + 1) = ((i + 2 : Nat) : Int) := by rw [IntKind.wrap_i64]; omega
    by_cases p1 : 55296 ≤ x
    · have q1 : decide ((x : Int) ≥ 55296) = true := by simp; omega
      by_cases p2 : x ≤ 56319
      · have q2 : decide ((x : Int) < 56320) = true := by simp; omega
        have q2' : decide ((x : Int) ≤ 56319) = true := by simp; omega
        by_cases p3 : 56320 ≤ y
        · have q3 : decide ((y : Int) ≥ 56320) = true := by simp; omega
          by_cases p4 : y ≤ 57343
          · have q4 : decide ((y : Int) < 57344) = true := by simp; omega
            have q4' : decide ((y : Int) ≤ 57343) = true := by simp; omega
            have hp : (isLead x && isLow y) = true := by simp [isLead, isLow]; omega
            have q5 : isCp ((65536 + (x - 55296) * 1024 + (y - 56320) : Nat) : Int) = true := isCp_nat (by omega)
            simp only [headCp, hp, if_true, e1, e2, c0, c1, h1, h2, h3, g1, g3, d0, d1, cell_zero, getI_int, isI_int, List.length_cons, List.length_nil, beq11, ble11, Nat.reduceAdd, Bool.and_self, cond_true, and_self, if_true, decide_true, decide_false, q1, q2, q2', q3, q4, q4', text_sum p1 p2 p3 p4, q5, hi2, hb]
            rfl
          · have q4 : decide ((y : Int) < 57344) = false := by simp; omega
            have q4' : decide ((y : Int) ≤ 57343) = false := by simp; omega
            have hp : (isLead x && isLow y) = false := by simp [isLead, isLow]; omega
            simp only [headCp, hp, Bool.false_eq_true, if_false]
            simp only [ e1, e2, c0, c1, h1, h2, h3, g1, g3, d0, d1, cell_zero, getI_int, isI_int, List.length_cons, List.length_nil, beq11, ble11, Nat.reduceAdd, Bool.and_self, cond_true, cond_false, decide_true, decide_false, and_self, if_true, decide_true, decide_false, q1, q2, q2', q3, q4, q4', r1, hi2, hb]
            rfl
        · have q3 : decide ((y : Int) ≥ 56320) = false := by simp; omega
          have hp : (isLead x && isLow y) = false := by simp [isLead, isLow]; omega
          simp only [headCp, hp, Bool.false_eq_true, if_false]
          have z0 : decide (getI (cellAt (nthL (u.map unit) (i + 1)) 0) ≥ 56320) = false := by rw [g1]; exact q3
          have z2 : Nat.beq (nthL (u.map unit) (i + 1)).length 1 = true := by rw [g1]; rfl
          have z3 : Nat.ble 1 (nthL (u.map unit) (i + 1)).length = true := by rw [g1]; rfl
          have z4 : isI .u16 (cellAt (nthL (u.map unit) (i + 1)) 0) = true := by rw [g1]; rfl
          have z5 : Nat.beq 1 (List.length [AVal.int IntKind.u16 0]) = true := rfl
          have z6 : IntKind.wrap .i64 (getI (cellAt (nthL (u.map unit) (i + 1)) 0)) = getI (cellAt (nthL (u.map unit) (i + 1)) 0) := by rw [g1]; exact g3
          simp only [e1, e2, c0, c1, h1, h2, h3, d0, d1, cell_zero, getI_int, isI_int, List.length_cons, List.length_nil, beq11, ble11, Nat.reduceAdd, Bool.and_self, cond_true, and_self, if_true, q1, q2, q2', z2, z3, z4, z5, z6]
          rw [z0, cond_false]
          simp only [r1, Bool.and_self, cond_true, hb]
          rfl
      · have q2 : decide ((x : Int) < 56320) = false := by simp; omega
        have q2' : decide ((x : Int) ≤ 56319) = false := by simp; omega
        have hp : (isLead x && isLow y) = false := by simp [isLead, isLow]; omega
        simp only [headCp, hp, Bool.false_eq_true, if_false]
        simp only [ e1, e2, c0, c1, h1, h2, h3, cell_zero, getI_int, isI_int, List.length_cons, List.length_nil, beq11, ble11, Nat.reduceAdd, Bool.and_self, cond_true, cond_false, decide_true, decide_false, and_self, if_true, decide_true, decide_false, q1, q2, q2', r1, hb]
        rfl
    · have q1 : decide ((x : Int) ≥ 55296) = false := by simp; omega
      have hp : (isLead x && isLow y) = false := by simp [isLead, isLow]; omega
      simp only [headCp, hp, Bool.false_eq_true, if_false]
      simp only [ e1, e2, c0, c1, h1, h2, h3, cell_zero, getI_int, isI_int, List.length_cons, List.length_nil, beq11, ble11, Nat.reduceAdd, Bool.and_self, cond_true, cond_false, decide_true, decide_false, and_self, if_true, decide_true, decide_false, q1, r1, hb]
      rfl
  · have d0 : decide (((i + 1 : Nat) : Int) < (((u.map unit).length : Nat) : Int)) = false := by simp; omega
    have hd : u.drop (i + 1) = [] := by simp; omega
    rw [hd]
    by_cases p1 : 55296 ≤ x
    · have q1 : decide ((x : Int) ≥ 55296) = true := by simp; omega
      by_cases p2 : x ≤ 56319
      · have q2 : decide ((x : Int) < 56320) = true := by simp; omega
        have q2' : decide ((x : Int) ≤ 56319) = true := by simp; omega
        simp only [headCp, e1, e2, c0, c1, h1, h2, h3, d0, cell_zero, getI_int, isI_int, List.length_cons, List.length_nil, beq11, ble11, Nat.reduceAdd, Bool.and_self, cond_true, cond_false, decide_true, decide_false, and_self, if_true, decide_true, decide_false, q1, q2, q2', r1, hb]
        rfl
      · have q2 : decide ((x : Int) < 56320) = false := by simp; omega
        have q2' : decide ((x : Int) ≤ 56319) = false := by simp; omega
        simp only [headCp, e1, e2, c0, c1, h1, h2, h3, d0, cell_zero, getI_int, isI_int, List.length_cons, List.length_nil, beq11, ble11, Nat.reduceAdd, Bool.and_self, cond_true, cond_false, decide_true, decide_false, and_self, if_true, decide_true, decide_false, q1, q2, q2', r1, hb]
        rfl
    · have q1 : decide ((x : Int) ≥ 55296) = false := by simp; omega
      simp only [headCp, e1, e2, c0, c1, h1, h2, h3, d0, cell_zero, getI_int, isI_int, List.length_cons, List.length_nil, beq11, ble11, Nat.reduceAdd, Bool.and_self, cond_true, cond_false, decide_true, decide_false, and_self, if_true, decide_true, decide_false, q1, r1, hb]
      rfl
theorem text_end21r {u : List Nat} {b : List (List AVal)} {i : Nat} (hi : u.length ≤ i) :
    exec env (denL env N1 noLoops (Nat.succ k)) 21 (loopAt Tryd.f21 0) (frText 65 (u.map unit) (.slice (.row 5) b) i) [] (fun ex fr m => K ex (norm env 21 fr) m) =
      K (.exit 0) (frText 65 (u.map unit) (.slice (.row 5) b) i) [] := by
  have c0 : decide ((i : Int) < (((u.map unit).length : Nat) : Int)) = false := by simp; exact hi
  rw [text21r]
  simp only [c0, cond_false]
  rfl

/-- a slice of bytes as the loop has it -/
def bRow : List UInt8 → AVal
  | [] => .slice .full []
  | a :: r => .slice (.row 5) ((a :: r).map byte)
theorem bRow_cons {l : List UInt8} (h : l ≠ []) : bRow l = .slice (.row 5) (l.map byte) := by
  cases l with
  | nil => exact absurd rfl h
  | cons a r => rfl
theorem encL_nat (c : Nat) : encL (c : Int) = (enc c).map byte := by simp [encL]
theorem encs_len : ∀ (l : List Nat), (l.flatMap enc).length ≤ 4 * l.length
  | [] => by simp
  | c :: r => by
    have h1 := encs_len r
    have h2 := (enc_len c).2
    rw [List.flatMap_cons, List.length_append, List.length_cons]; omega
theorem cps_len : ∀ (u : List Nat), (cps u).length ≤ u.length
  | [] => by simp [cps]
  | [u] => by simp [cps]
  | u :: v :: r => by
    have h1 := cps_len r
    have h2 := cps_len (v :: r)
    simp only [cps]
    split
    · simp; omega
    · simp at h2 ⊢; omega
end
theorem text_loop14 {u : List Nat} (hu : ∀ x ∈ u, x < 65536) (hl : u.length ≤ 100000) : ∀ (n i k : Nat) (b : List UInt8), u.length - i = n → i ≤ u.length → n < k → b.length ≤ 4 * i →
    ∃ i' : Nat, (denL env N1 noLoops (k + 1)).loop 14 (loopAt Tryd.f14 0) (frText 64 (u.map unit) (bRow b) i) [] = some (.exit 0, frText 64 (u.map unit) (bRow (b ++ textOf (u.drop i))) i', []) := by
  intro n
  induction n using Nat.strongRecOn with
  | ind n ih =>
    intro i k b hn hi hk hb
    obtain ⟨k, rfl⟩ : ∃ j, k = j + 1 := ⟨k - 1, by omega⟩
    rcases Nat.lt_or_ge i u.length with hlt | hge
    · have hne : u.drop i ≠ [] := by simp; omega
      obtain ⟨g1, g2, g3⟩ := headCp_le (l := u.drop i) fun x hx => hu x (List.mem_of_mem_drop hx)
      have g3 := g3 hne
      rw [List.length_drop] at g2
      have hl4 := enc_len (headCp (u.drop i)).1
      have hround : exec env (denL env N1 noLoops (k + 1)) 14 (loopAt Tryd.f14 0) (frText 64 (u.map unit) (bRow b) i) [] (fun ex fr m => rk (denL env N1 noLoops (k + 1)) 14 (loopAt Tryd.f14 0) ex (norm env 14 fr) m) =
          rk (denL env N1 noLoops (k + 1)) 14 (loopAt Tryd.f14 0) .normal (frText 64 (u.map unit) (bRow (b ++ enc (headCp (u.drop i)).1)) ((i + (headCp (u.drop i)).2 : Nat) : Int)) [] := by
        have hne2 : b ++ enc (headCp (u.drop i)).1 ≠ [] := by
          intro h; have := congrArg List.length h; rw [List.length_append, List.length_nil] at this; omega
        rw [bRow_cons hne2, List.map_append, ← encL_nat]
        cases b with
        | nil => exact text_round14f _ _ k hu hl hlt
        | cons a r => exact text_round14r _ _ k hu hl (b := (a :: r).map byte) (by rw [List.length_map]; omega) hlt
      rw [loop_step, hround]
      show ∃ i' : Nat, (denL env N1 noLoops (k + 1)).loop 14 (loopAt Tryd.f14 0) _ [] = _
      obtain ⟨i', h⟩ := ih (u.length - (i + (headCp (u.drop i)).2)) (by omega) (i + (headCp (u.drop i)).2) k (b ++ enc (headCp (u.drop i)).1) rfl (by omega) (by omega) (by rw [List.length_append]; omega)
      refine ⟨i', ?_⟩
      rw [h]
      congr 4
      rw [List.append_assoc]
      congr 1
      unfold textOf
      rw [cps_head hne, List.flatMap_cons, List.drop_drop]
    · refine ⟨i, ?_⟩
      have hd : u.drop i = [] := by simp; omega
      rw [hd]
      have : b ++ textOf [] = b := by simp [textOf, cps]
      rw [this, loop_step]
      cases b with
      | nil => rw [show bRow [] = .slice .full [] from rfl, text_end14f _ _ k hge]; rfl
      | cons a r => rw [show bRow (a :: r) = .slice (.row 5) ((a :: r).map byte) from rfl, text_end14r _ _ k hge]; rfl
theorem text_loop21 {u : List Nat} (hu : ∀ x ∈ u, x < 65536) (hl : u.length ≤ 100000) : ∀ (n i k : Nat) (b : List UInt8), u.length - i = n → i ≤ u.length → n < k → b.length ≤ 4 * i →
    ∃ i' : Nat, (denL env N1 noLoops (k + 1)).loop 21 (loopAt Tryd.f21 0) (frText 65 (u.map unit) (bRow b) i) [] = some (.exit 0, frText 65 (u.map unit) (bRow (b ++ textOf (u.drop i))) i', []) := by
  intro n
  induction n using Nat.strongRecOn with
  | ind n ih =>
    intro i k b hn hi hk hb
    obtain ⟨k, rfl⟩ : ∃ j, k = j + 1 := ⟨k - 1, by omega⟩
    rcases Nat.lt_or_ge i u.length with hlt | hge
    · have hne : u.drop i ≠ [] := by simp; omega
      obtain ⟨g1, g2, g3⟩ := headCp_le (l := u.drop i) fun x hx => hu x (List.mem_of_mem_drop hx)
      have g3 := g3 hne
      rw [List.length_drop] at g2
      have hl4 := enc_len (headCp (u.drop i)).1
      have hround : exec env (denL env N1 noLoops (k + 1)) 21 (loopAt Tryd.f21 0) (frText 65 (u.map unit) (bRow b) i) [] (fun ex fr m => rk (denL env N1 noLoops (k + 1)) 21 (loopAt Tryd.f21 0) ex (norm env 21 fr) m) =
          rk (denL env N1 noLoops (k + 1)) 21 (loopAt Tryd.f21 0) .normal (frText 65 (u.map unit) (bRow (b ++ enc (headCp (u.drop i)).1)) ((i + (headCp (u.drop i)).2 : Nat) : Int)) [] := by
        have hne2 : b ++ enc (headCp (u.drop i)).1 ≠ [] := by
          intro h; have := congrArg List.length h; rw [List.length_append, List.length_nil] at this; omega
        rw [bRow_cons hne2, List.map_append, ← encL_nat]
        cases b with
        | nil => exact text_round21f _ _ k hu hl hlt
        | cons a r => exact text_round21r _ _ k hu hl (b := (a :: r).map byte) (by rw [List.length_map]; omega) hlt
      rw [loop_step, hround]
      show ∃ i' : Nat, (denL env N1 noLoops (k + 1)).loop 21 (loopAt Tryd.f21 0) _ [] = _
      obtain ⟨i', h⟩ := ih (u.length - (i + (headCp (u.drop i)).2)) (by omega) (i + (headCp (u.drop i)).2) k (b ++ enc (headCp (u.drop i)).1) rfl (by omega) (by omega) (by rw [List.length_append]; omega)
      refine ⟨i', ?_⟩
      rw [h]
      congr 4
      rw [List.append_assoc]
      congr 1
      unfold textOf
      rw [cps_head hne, List.flatMap_cons, List.drop_drop]
    · refine ⟨i, ?_⟩
      have hd : u.drop i = [] := by simp; omega
      rw [hd]
      have : b ++ textOf [] = b := by simp [textOf, cps]
      rw [this, loop_step]
      cases b with
      | nil => rw [show bRow [] = .slice .full [] from rfl, text_end21f _ _ k hge]; rfl
      | cons a r => rw [show bRow (a :: r) = .slice (.row 5) ((a :: r).map byte) from rfl, text_end21r _ _ k hge]; rfl
end Go.Proofs.YtlklpdifcpjlpaaDoor.U
