/- UnitsPoints and UnitsText. -/
import Derived.Test.YtlklpdifcpjlpaaDoorUFun
namespace Go.Proofs.YtlklpdifcpjlpaaDoor.U
open Go.Abs Go.Uni
set_option maxRecDepth 100000
set_option linter.unusedSimpArgs false
set_option linter.unusedVariables false

abbrev Res := Option (Out × Mem)
def yesR : Res := some (.ret (.bool true), [])
def noR : Res := some (.ret (.bool false), [])
theorem textOf_len (u : List Nat) : (textOf u).length ≤ 4 * u.length := by
  have h1 := encs_len (cps u)
  have h2 := cps_len u
  unfold textOf; omega
theorem short_text {u : List Nat} (h : u.length ≤ 300) : short (textOf u) = true := by
  have := textOf_len u
  simp only [short, decide_eq_true_eq]; omega
theorem uni_units (u : List Nat) : uni 1 (u.map unit) = true := by
  simp [uni, unit]

/-! ### UnitsPoints -/
def tail3 (es : List (List AVal)) (n : Int) : Res :=
  bif ((textOf (nsOf es)).length : Int) == n then
    bif short (textOf (nsOf es)) then
      bif right (textOf (nsOf es)) then
        bif short (textOf (nsOf es)) then
          bif isUs (List.map unit (unitsOf (textOf (nsOf es)))) && isUs es then
            some (.ret (.bool (decide (nsOf (List.map unit (unitsOf (textOf (nsOf es)))) = nsOf es))), [])
          else none
        else none
      else noR
    else none
  else noR
def top3 (c : Int) (es : List (List AVal)) : Res :=
  bif isUs es then
    bif decide (c > 127) then
      bif decide (c > 2047) then
        bif decide (c > 65535) then tail3 es 4 else tail3 es 3
      else bif decide (c > 65535) then tail3 es 4 else tail3 es 2
    else bif decide (c > 2047) then
        bif decide (c > 65535) then tail3 es 4 else tail3 es 3
      else bif decide (c > 65535) then tail3 es 4 else tail3 es 1
  else none
def es1 (c : Int) : List (List AVal) := [[AVal.int IntKind.u16 (IntKind.wrap IntKind.u16 (IntKind.wrap IntKind.i64 (BitVec.toNat (BitVec.ofInt (IntKind.bits IntKind.i64) c &&& BitVec.ofInt (IntKind.bits IntKind.i64) 65535) : Int)))]]
def es2 (c : Int) : List (List AVal) := [[AVal.int IntKind.u16 (IntKind.wrap IntKind.u16 (IntKind.wrap IntKind.i64 (55296 + Int.fdiv (IntKind.wrap IntKind.i64 (c - 65536)) (2 ^ min (Int.toNat 10) (IntKind.bits IntKind.i64)))))],
  [AVal.int IntKind.u16 (IntKind.wrap IntKind.u16 (IntKind.wrap IntKind.i64 (56320 + IntKind.wrap IntKind.i64 (BitVec.toNat (BitVec.ofInt (IntKind.bits IntKind.i64) (IntKind.wrap IntKind.i64 (c - 65536)) &&& BitVec.ofInt (IntKind.bits IntKind.i64) 1023) : Int))))]]
theorem law3 (k : Nat) (c : Int) : execFunc env (denL env N5 noLoops (Nat.succ k)) 3 [.int .i64 c] []  =
  bif decide (c < 0) then yesR else bif decide (c > 1114111) then yesR else bif decide (c > 65535) then top3 c (es2 c) else top3 c (es1 c) := by kernel_rfl
theorem and65535 (n : Nat) : n &&& 65535 = n % 65536 := Nat.and_two_pow_sub_one_eq_mod n 16
theorem es1_n {n : Nat} (h : n < 65536) : es1 (n : Int) = (u16 n).map unit := by
  have e : IntKind.wrap .u16 (IntKind.wrap .i64 ((BitVec.ofInt (IntKind.bits .i64) (n : Int) &&& BitVec.ofInt (IntKind.bits .i64) 65535).toNat : Int)) = (n : Int) := by
    rw [bits_i64, show (65535 : Int) = ((65535 : Nat) : Int) from rfl, and_w 64 (by omega) (by decide), and65535, wrap_i64_nat (by omega), wrap_u16_nat]
    congr 1; omega
  unfold es1
  rw [e, ← uL_n, uL1 h]
theorem es2_n {n : Nat} (h : 65536 ≤ n) (h2 : n ≤ 1114111) : es2 (n : Int) = (u16 n).map unit := by
  obtain ⟨t1, t2⟩ := two_units h h2
  unfold es2
  rw [t1, t2, ← uL_n, uL2 h]
theorem textOf_u16 {n : Nat} (h : n ≤ 1114111) : textOf (u16 n) = enc n := by
  have := cps_u16 [n] false ⟨h, by simp, trivial⟩
  simp only [List.flatMap_cons, List.flatMap_nil, List.append_nil] at this
  simp [textOf, this]
theorem tail3_n {n : Nat} (h : n ≤ 1114111) {l : Int} (hl : ((enc n).length : Int) = l) : tail3 ((u16 n).map unit) l = yesR := by
  have hu := u16_lt h
  have h2 : (u16 n).length ≤ 300 := by have := u16_len n; omega
  have hs := short_text h2
  unfold tail3
  rw [ns_units, hs, right_text hu, units_text hu, ns_units, isUs_units hu (by omega), textOf_u16 h, hl]
  simp [yesR]
theorem points_true (k : Nat) (c : Int) : execFunc env (denL env N5 noLoops (Nat.succ k)) 3 [.int .i64 c] [] = yesR := by
  rw [law3]
  by_cases h0 : c < 0
  · rw [decide_eq_true h0]; rfl
  · rw [decide_eq_false h0, cond_false]
    by_cases h1 : c > 1114111
    · rw [decide_eq_true h1]; rfl
    · rw [decide_eq_false h1, cond_false]
      obtain ⟨n, rfl⟩ := Int.eq_ofNat_of_zero_le (by omega : 0 ≤ c)
      have hn : n ≤ 1114111 := by omega
      have hu := isUs_units (u16_lt hn) (by have := u16_len n; omega)
      by_cases h2 : (n : Int) > 65535
      · have g1 : (n : Int) > 127 := by omega
        have g2 : (n : Int) > 2047 := by omega
        rw [decide_eq_true h2, cond_true, es2_n (by omega) hn]
        unfold top3
        rw [hu, decide_eq_true g1, decide_eq_true g2, decide_eq_true h2]
        exact tail3_n hn (by rw [enc, if_neg (by omega), if_neg (by omega), if_neg (by omega)]; rfl)
      · rw [decide_eq_false h2, cond_false, es1_n (by omega)]
        unfold top3
        rw [hu, decide_eq_false h2]
        by_cases g2 : (n : Int) > 2047
        · have g1 : (n : Int) > 127 := by omega
          rw [decide_eq_true g1, decide_eq_true g2]
          exact tail3_n hn (by rw [enc, if_neg (by omega), if_neg (by omega), if_pos (by omega)]; rfl)
        · rw [decide_eq_false g2]
          by_cases g1 : (n : Int) > 127
          · rw [decide_eq_true g1]
            exact tail3_n hn (by rw [enc, if_neg (by omega), if_pos (by omega)]; rfl)
          · rw [decide_eq_false g1]
            exact tail3_n hn (by rw [enc, if_pos (by omega)]; rfl)

/-! ### UnitsText -/
theorem law5e (k : Nat) : execFunc env (denL env N5 noLoops (Nat.succ k)) 5 [.slice .no []] []  = yesR := by kernel_rfl
theorem law5c (k : Nat) (a : List AVal) (r : List (List AVal)) : execFunc env (denL env N5 noLoops (Nat.succ k)) 5 [.slice .no (a :: r)] []  =
  bif decide ((↑(List.length (a :: r)) : Int) > 300) then yesR
else
  if uni 1 (a :: r) = true then
    if (decide (1 ≠ 0) && roomOk (List.length ([] : List (List AVal)) + List.length (a :: r)) 2) = true then
      bif isUs (a :: r) then
        bif isUs (a :: r) then
          bif textOf (nsOf (a :: r)) == textOf (nsOf (a :: r)) then
            bif short (textOf (nsOf (a :: r))) then
              bif right (textOf (nsOf (a :: r))) then
                bif short (textOf (nsOf (a :: r))) then
                  bif isUs (List.map unit (unitsOf (textOf (nsOf (a :: r))))) && isUs (a :: r) then
                    bif decide (nsOf (List.map unit (unitsOf (textOf (nsOf (a :: r))))) = nsOf (a :: r)) then
                      bif short (textOf (nsOf (a :: r))) then
                        some (Out.ret (AVal.bool ((↑(List.length (unitsOf (textOf (nsOf (a :: r))))) : Int) == (↑(List.length (a :: r)) : Int))), [])
                      else none
                    else noR
                  else none
                else none
              else noR
            else none
          else noR
        else none
      else none
    else none
  else none := by kernel_rfl
theorem text_true (k : Nat) {u : List Nat} (hu : ∀ x ∈ u, x < 65536) : execFunc env (denL env N5 noLoops (Nat.succ k)) 5 [.slice .no (u.map unit)] [] = yesR := by
  cases u with
  | nil => exact law5e k
  | cons a r =>
    rw [show (a :: r).map unit = unit a :: r.map unit from rfl, law5c, show unit a :: r.map unit = (a :: r).map unit from rfl]
    generalize hu' : a :: r = u at *
    by_cases hl : (((u.map unit).length : Nat) : Int) > 300
    · rw [decide_eq_true hl]; rfl
    · rw [decide_eq_false hl, cond_false, if_pos (uni_units u)]
      rw [List.length_map] at hl
      have hs := short_text (u := u) (by omega)
      have hroom := roomb [] (u.map unit) (by simp) (by rw [List.length_map]; omega) 2 (by omega)
      rw [if_pos hroom, ns_units, isUs_units hu (by omega), hs, right_text hu, units_text hu, ns_units, isUs_units hu (by omega)]
      simp [yesR]
end Go.Proofs.YtlklpdifcpjlpaaDoor.U
