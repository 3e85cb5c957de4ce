/- Numbers.Do and the reference's Op come to the same. -/
import Derived.Test.YtlklpdifcpjlpaaDoorMul
namespace Go.Proofs.YtlklpdifcpjlpaaDoor
open Go.Abs
set_option maxRecDepth 100000

theorem do2_mul (k : Nat) (m : Mem) (a b : Int) : execFunc env (den env N5 (k + 1)) 25 [.str [42], .int .i64 a, .int .i64 b] m  =
  bif !safeB a then some (Out.ret (AVal.tup [AVal.int IntKind.i64 0, AVal.bool false]), List.take (List.length m) m)
else
  bif !safeB b then some (Out.ret (AVal.tup [AVal.int IntKind.i64 0, AVal.bool false]), List.take (List.length m) m)
  else
    some
      (Out.ret (AVal.tup [AVal.int IntKind.i64 (timesN a b), AVal.bool (timesB a b)]),
        List.take (List.length m) m) := by kernel_rfl
theorem do2_none (k : Nat) (m : Mem) (a b : Int) : execFunc env (den env N5 (k + 1)) 25 [.str [], .int .i64 a, .int .i64 b] m  =
  bif !safeB a then some (Out.ret (AVal.tup [AVal.int IntKind.i64 0, AVal.bool false]), List.take (List.length m) m)
else
  bif !safeB b then some (Out.ret (AVal.tup [AVal.int IntKind.i64 0, AVal.bool false]), List.take (List.length m) m)
  else some (Out.ret (AVal.tup [AVal.int IntKind.i64 0, AVal.bool false]), List.take (List.length m) m) := by kernel_rfl
theorem do2_pow (k : Nat) (m : Mem) (a b : Int) : execFunc env (den env N5 (k + 1)) 25 [.str [42, 42], .int .i64 a, .int .i64 b] m  =
  bif !safeB a then some (Out.ret (AVal.tup [AVal.int IntKind.i64 0, AVal.bool false]), List.take (List.length m) m)
else
  bif !safeB b then some (Out.ret (AVal.tup [AVal.int IntKind.i64 0, AVal.bool false]), List.take (List.length m) m)
  else some (Out.ret (AVal.tup [AVal.int IntKind.i64 0, AVal.bool false]), List.take (List.length m) m) := by kernel_rfl
theorem op_add (k : Nat) (m : Mem) (a b : Int) : execFunc env (den env N5 (k + 1)) 26 [.str [43], .int .i64 a, .int .i64 b] m  =
  bif !safeB a then some (Out.ret (AVal.tup [AVal.int IntKind.i64 0, AVal.bool false]), List.take (List.length m) m)
else
  bif !safeB b then some (Out.ret (AVal.tup [AVal.int IntKind.i64 0, AVal.bool false]), List.take (List.length m) m)
  else
    bif !safeB (IntKind.wrap IntKind.i64 (a + b)) then
      some (Out.ret (AVal.tup [AVal.int IntKind.i64 0, AVal.bool false]), List.take (List.length m) m)
    else
      some
        (Out.ret (AVal.tup [AVal.int IntKind.i64 (IntKind.wrap IntKind.i64 (a + b)), AVal.bool true]),
          List.take (List.length m) m) := by kernel_rfl
theorem op_sub (k : Nat) (m : Mem) (a b : Int) : execFunc env (den env N5 (k + 1)) 26 [.str [45], .int .i64 a, .int .i64 b] m  =
  bif !safeB a then some (Out.ret (AVal.tup [AVal.int IntKind.i64 0, AVal.bool false]), List.take (List.length m) m)
else
  bif !safeB b then some (Out.ret (AVal.tup [AVal.int IntKind.i64 0, AVal.bool false]), List.take (List.length m) m)
  else
    bif !safeB (IntKind.wrap IntKind.i64 (a - b)) then
      some (Out.ret (AVal.tup [AVal.int IntKind.i64 0, AVal.bool false]), List.take (List.length m) m)
    else
      some
        (Out.ret (AVal.tup [AVal.int IntKind.i64 (IntKind.wrap IntKind.i64 (a - b)), AVal.bool true]),
          List.take (List.length m) m) := by kernel_rfl
theorem op_mul (k : Nat) (m : Mem) (a b : Int) : execFunc env (den env N5 (k + 1)) 26 [.str [42], .int .i64 a, .int .i64 b] m  =
  bif !safeB a then some (Out.ret (AVal.tup [AVal.int IntKind.i64 0, AVal.bool false]), List.take (List.length m) m)
else
  bif !safeB b then some (Out.ret (AVal.tup [AVal.int IntKind.i64 0, AVal.bool false]), List.take (List.length m) m)
  else
    bif a != 0 then
      if a = 0 then none
      else
        bif IntKind.wrap IntKind.i64 (Int.tdiv (IntKind.wrap IntKind.i64 (a * b)) a) != b then
          some (Out.ret (AVal.tup [AVal.int IntKind.i64 0, AVal.bool false]), List.take (List.length m) m)
        else
          bif !safeB (IntKind.wrap IntKind.i64 (a * b)) then
            some (Out.ret (AVal.tup [AVal.int IntKind.i64 0, AVal.bool false]), List.take (List.length m) m)
          else
            bif !safeB (IntKind.wrap IntKind.i64 (a * b)) then
              some (Out.ret (AVal.tup [AVal.int IntKind.i64 0, AVal.bool false]), List.take (List.length m) m)
            else
              some
                (Out.ret (AVal.tup [AVal.int IntKind.i64 (IntKind.wrap IntKind.i64 (a * b)), AVal.bool true]),
                  List.take (List.length m) m)
    else
      bif !safeB (IntKind.wrap IntKind.i64 (a * b)) then
        some (Out.ret (AVal.tup [AVal.int IntKind.i64 0, AVal.bool false]), List.take (List.length m) m)
      else
        some
          (Out.ret (AVal.tup [AVal.int IntKind.i64 (IntKind.wrap IntKind.i64 (a * b)), AVal.bool true]),
            List.take (List.length m) m) := by kernel_rfl
theorem op_div (k : Nat) (m : Mem) (a b : Int) : execFunc env (den env N5 (k + 1)) 26 [.str [47], .int .i64 a, .int .i64 b] m  =
  bif !safeB a then some (Out.ret (AVal.tup [AVal.int IntKind.i64 0, AVal.bool false]), List.take (List.length m) m)
else
  bif !safeB b then some (Out.ret (AVal.tup [AVal.int IntKind.i64 0, AVal.bool false]), List.take (List.length m) m)
  else
    bif b == 0 then some (Out.ret (AVal.tup [AVal.int IntKind.i64 0, AVal.bool false]), List.take (List.length m) m)
    else
      if b = 0 then none
      else
        bif !safeB (IntKind.wrap IntKind.i64 (Int.tdiv a b)) then
          some (Out.ret (AVal.tup [AVal.int IntKind.i64 0, AVal.bool false]), List.take (List.length m) m)
        else
          some
            (Out.ret (AVal.tup [AVal.int IntKind.i64 (IntKind.wrap IntKind.i64 (Int.tdiv a b)), AVal.bool true]),
              List.take (List.length m) m) := by kernel_rfl
theorem op_mod (k : Nat) (m : Mem) (a b : Int) : execFunc env (den env N5 (k + 1)) 26 [.str [37], .int .i64 a, .int .i64 b] m  =
  bif !safeB a then some (Out.ret (AVal.tup [AVal.int IntKind.i64 0, AVal.bool false]), List.take (List.length m) m)
else
  bif !safeB b then some (Out.ret (AVal.tup [AVal.int IntKind.i64 0, AVal.bool false]), List.take (List.length m) m)
  else
    bif b == 0 then some (Out.ret (AVal.tup [AVal.int IntKind.i64 0, AVal.bool false]), List.take (List.length m) m)
    else
      if b = 0 then none
      else
        if b = 0 then none
        else
          bif !safeB (Int.tmod a b) then
            some (Out.ret (AVal.tup [AVal.int IntKind.i64 0, AVal.bool false]), List.take (List.length m) m)
          else
            some
              (Out.ret (AVal.tup [AVal.int IntKind.i64 (Int.tmod a b), AVal.bool true]),
                List.take (List.length m) m) := by kernel_rfl
theorem op_none (k : Nat) (m : Mem) (a b : Int) : execFunc env (den env N5 (k + 1)) 26 [.str [], .int .i64 a, .int .i64 b] m  =
  bif !safeB a then some (Out.ret (AVal.tup [AVal.int IntKind.i64 0, AVal.bool false]), List.take (List.length m) m)
else
  bif !safeB b then some (Out.ret (AVal.tup [AVal.int IntKind.i64 0, AVal.bool false]), List.take (List.length m) m)
  else some (Out.ret (AVal.tup [AVal.int IntKind.i64 0, AVal.bool false]), List.take (List.length m) m) := by kernel_rfl
theorem op_pow (k : Nat) (m : Mem) (a b : Int) : execFunc env (den env N5 (k + 1)) 26 [.str [42, 42], .int .i64 a, .int .i64 b] m  =
  bif !safeB a then some (Out.ret (AVal.tup [AVal.int IntKind.i64 0, AVal.bool false]), List.take (List.length m) m)
else
  bif !safeB b then some (Out.ret (AVal.tup [AVal.int IntKind.i64 0, AVal.bool false]), List.take (List.length m) m)
  else some (Out.ret (AVal.tup [AVal.int IntKind.i64 0, AVal.bool false]), List.take (List.length m) m) := by kernel_rfl

/-! ### The document's own answer -/
def rawB (op : List UInt8) (a b : Int) : Bool :=
  match op with
  | [43] => safeB (a + b)
  | [45] => safeB (a - b)
  | [42] => safeB (a * b)
  | [47] => b != 0 && safeB (Int.tdiv a b)
  | [37] => b != 0 && safeB (Int.tmod a b)
  | _ => false
def rawN (op : List UInt8) (a b : Int) : Int :=
  match op with
  | [43] => a + b
  | [45] => a - b
  | [42] => a * b
  | [47] => Int.tdiv a b
  | [37] => Int.tmod a b
  | _ => 0
def calcB (op : List UInt8) (a b : Int) : Bool := safeB a && (safeB b && rawB op a b)
def calcN (op : List UInt8) (a b : Int) : Int := bif calcB op a b then rawN op a b else 0
def resG (op : List UInt8) (a b : Int) (m : Mem) : Option (Out × Mem) := some (.ret (.tup [.int .i64 (calcN op a b), .bool (calcB op a b)]), m)
def calcG : List AVal → Mem → Option (Out × Mem)
  | [.str [43], .int .i64 a, .int .i64 b], m => resG [43] a b m
  | [.str [45], .int .i64 a, .int .i64 b], m => resG [45] a b m
  | [.str [42], .int .i64 a, .int .i64 b], m => resG [42] a b m
  | [.str [47], .int .i64 a, .int .i64 b], m => resG [47] a b m
  | [.str [37], .int .i64 a, .int .i64 b], m => resG [37] a b m
  | [.str [42, 42], .int .i64 a, .int .i64 b], m => resG [42, 42] a b m
  | [.str [], .int .i64 a, .int .i64 b], m => resG [] a b m
  | _, _ => none

theorem wrap_mod (p : Int) : (∃ k : Int, IntKind.wrap .i64 p = p - k * 18446744073709551616) ∧ -9223372036854775808 ≤ IntKind.wrap .i64 p ∧ IntKind.wrap .i64 p ≤ 9223372036854775807 := by
  have e1 : IntKind.bits .i64 = 64 := rfl
  have e2 : IntKind.signed .i64 = true := rfl
  simp only [IntKind.wrap, e1, e2, Bool.true_and]
  split
  · rename_i h; simp only [decide_eq_true_eq, ge_iff_le] at h
    exact ⟨⟨p / 18446744073709551616 + 1, by omega⟩, by omega, by omega⟩
  · rename_i h; simp only [decide_eq_true_eq, ge_iff_le] at h
    exact ⟨⟨p / 18446744073709551616, by omega⟩, by omega, by omega⟩
theorem add_wrap {a b : Int} (ha : safeB a = true) (hb : safeB b = true) : IntKind.wrap .i64 (a + b) = a + b := by
  obtain ⟨h1, h2⟩ := safe_iff.1 ha
  obtain ⟨h3, h4⟩ := safe_iff.1 hb
  exact wrap64 (by omega) (by omega)
theorem sub_wrap {a b : Int} (ha : safeB a = true) (hb : safeB b = true) : IntKind.wrap .i64 (a - b) = a - b := by
  obtain ⟨h1, h2⟩ := safe_iff.1 ha
  obtain ⟨h3, h4⟩ := safe_iff.1 hb
  exact wrap64 (by omega) (by omega)
theorem tdiv_wrap {a : Int} (b : Int) (ha : safeB a = true) : IntKind.wrap .i64 (Int.tdiv a b) = Int.tdiv a b := by
  have := tdiv_bound a b (safe_iff.1 ha)
  exact wrap64 (by omega) (by omega)
theorem mul_wrap {p : Int} (h : safeB p = true) : IntKind.wrap .i64 p = p := by
  obtain ⟨h1, h2⟩ := safe_iff.1 h
  exact wrap64 (by omega) (by omega)
/-- where the product, gone round, is safe and its quotient comes back, it has not gone round -/
theorem mul_back {a b : Int} (hs : safeB (IntKind.wrap .i64 (a * b)) = true) (hq : IntKind.wrap .i64 (Int.tdiv (IntKind.wrap .i64 (a * b)) a) = b) : IntKind.wrap .i64 (a * b) = a * b := by
  rw [tdiv_wrap _ hs] at hq
  obtain ⟨⟨k, hk⟩, _, _⟩ := wrap_mod (a * b)
  have hd := Int.tdiv_mul_add_tmod (IntKind.wrap .i64 (a * b)) a
  have hr := tmod_bound (IntKind.wrap .i64 (a * b)) a (safe_iff.1 hs)
  rw [hq, Int.mul_comm b a] at hd
  generalize Int.tmod (IntKind.wrap .i64 (a * b)) a = r at *
  generalize IntKind.wrap .i64 (a * b) = w at *
  generalize a * b = p at *
  omega

theorem do_calc_add (a b : Int) (m : Mem) : execFunc env (den env N5 1) 25 [.str [43], .int .i64 a, .int .i64 b] m = resG [43] a b m := by
  have e : execFunc env (den env N5 (0 + 1)) 25 [.str [43], .int .i64 a, .int .i64 b] m = execFunc env (den env N1 (0 + 1)) 25 [.str [43], .int .i64 a, .int .i64 b] m := by
    rw [do_add]; kernel_rfl
  rw [show (1 : Nat) = 0 + 1 from rfl, e, do_add, List.take_length]
  unfold resG calcN calcB rawB rawN
  cases ha : safeB a <;> cases hb : safeB b <;> try rfl
  rw [add_wrap ha hb]
  cases safeB (a + b) <;> rfl
theorem do_calc_sub (a b : Int) (m : Mem) : execFunc env (den env N5 1) 25 [.str [45], .int .i64 a, .int .i64 b] m = resG [45] a b m := by
  have e : execFunc env (den env N5 (0 + 1)) 25 [.str [45], .int .i64 a, .int .i64 b] m = execFunc env (den env N1 (0 + 1)) 25 [.str [45], .int .i64 a, .int .i64 b] m := by
    rw [do_sub]; kernel_rfl
  rw [show (1 : Nat) = 0 + 1 from rfl, e, do_sub, List.take_length]
  unfold resG calcN calcB rawB rawN
  cases ha : safeB a <;> cases hb : safeB b <;> try rfl
  rw [sub_wrap ha hb]
  cases safeB (a - b) <;> rfl
theorem do_calc_mul (a b : Int) (m : Mem) : execFunc env (den env N5 1) 25 [.str [42], .int .i64 a, .int .i64 b] m = resG [42] a b m := by
  rw [show (1 : Nat) = 0 + 1 from rfl, do2_mul, List.take_length]
  unfold resG calcN calcB rawB rawN
  cases ha : safeB a <;> cases hb : safeB b <;> try rfl
  obtain ⟨h1, h2⟩ := times_eq ha hb
  rw [h1, h2]
  rfl
theorem do_calc_div (a b : Int) (m : Mem) : execFunc env (den env N5 1) 25 [.str [47], .int .i64 a, .int .i64 b] m = resG [47] a b m := by
  have e : execFunc env (den env N5 (0 + 1)) 25 [.str [47], .int .i64 a, .int .i64 b] m = execFunc env (den env N1 (0 + 1)) 25 [.str [47], .int .i64 a, .int .i64 b] m := by
    rw [do_div]; kernel_rfl
  rw [show (1 : Nat) = 0 + 1 from rfl, e, do_div, List.take_length]
  unfold resG calcN calcB rawB rawN
  cases ha : safeB a <;> cases hb : safeB b <;> try rfl
  by_cases h0 : b = 0
  · subst h0; rfl
  · have h1 : (b != 0) = true := by simpa using h0
    rw [h1, if_neg h0, tdiv_wrap b ha]
    cases safeB (Int.tdiv a b) <;> rfl
theorem do_calc_mod (a b : Int) (m : Mem) : execFunc env (den env N5 1) 25 [.str [37], .int .i64 a, .int .i64 b] m = resG [37] a b m := by
  have e : execFunc env (den env N5 (0 + 1)) 25 [.str [37], .int .i64 a, .int .i64 b] m = execFunc env (den env N1 (0 + 1)) 25 [.str [37], .int .i64 a, .int .i64 b] m := by
    rw [do_mod]; kernel_rfl
  rw [show (1 : Nat) = 0 + 1 from rfl, e, do_mod, List.take_length]
  unfold resG calcN calcB rawB rawN
  cases ha : safeB a <;> cases hb : safeB b <;> try rfl
  by_cases h0 : b = 0
  · subst h0; rfl
  · have h1 : (b != 0) = true := by simpa using h0
    rw [h1, if_neg h0]
    cases safeB (Int.tmod a b) <;> rfl
theorem do_calc_pow (a b : Int) (m : Mem) : execFunc env (den env N5 1) 25 [.str [42, 42], .int .i64 a, .int .i64 b] m = resG [42, 42] a b m := by
  rw [show (1 : Nat) = 0 + 1 from rfl, do2_pow, List.take_length]
  unfold resG calcN calcB rawB rawN
  cases safeB a <;> cases safeB b <;> rfl
theorem do_calc_none (a b : Int) (m : Mem) : execFunc env (den env N5 1) 25 [.str [], .int .i64 a, .int .i64 b] m = resG [] a b m := by
  rw [show (1 : Nat) = 0 + 1 from rfl, do2_none, List.take_length]
  unfold resG calcN calcB rawB rawN
  cases safeB a <;> cases safeB b <;> rfl
theorem op_calc_add (a b : Int) (m : Mem) : execFunc env (den env N5 1) 26 [.str [43], .int .i64 a, .int .i64 b] m = resG [43] a b m := by
  rw [show (1 : Nat) = 0 + 1 from rfl, op_add, List.take_length]
  unfold resG calcN calcB rawB rawN
  cases ha : safeB a <;> cases hb : safeB b <;> try rfl
  rw [add_wrap ha hb]
  cases safeB (a + b) <;> rfl
theorem op_calc_sub (a b : Int) (m : Mem) : execFunc env (den env N5 1) 26 [.str [45], .int .i64 a, .int .i64 b] m = resG [45] a b m := by
  rw [show (1 : Nat) = 0 + 1 from rfl, op_sub, List.take_length]
  unfold resG calcN calcB rawB rawN
  cases ha : safeB a <;> cases hb : safeB b <;> try rfl
  rw [sub_wrap ha hb]
  cases safeB (a - b) <;> rfl
theorem op_calc_mul (a b : Int) (m : Mem) : execFunc env (den env N5 1) 26 [.str [42], .int .i64 a, .int .i64 b] m = resG [42] a b m := by
  rw [show (1 : Nat) = 0 + 1 from rfl, op_mul, List.take_length]
  unfold resG calcN calcB rawB rawN
  cases ha : safeB a <;> cases hb : safeB b <;> try rfl
  by_cases h0 : a = 0
  · subst h0
    rw [Int.zero_mul]; rfl
  · have h1 : (a != 0) = true := by simpa using h0
    rw [h1, if_neg h0]
    simp only [Bool.not_true, cond_false, cond_true, Bool.true_and]
    cases hp : safeB (a * b) with
    | true =>
      have hw := mul_wrap hp
      have hd : Int.tdiv (a * b) a = b := Int.mul_tdiv_cancel_left b h0
      rw [hw, hd, mul_wrap hb, hp]
      simp
    | false =>
      by_cases hq : IntKind.wrap .i64 (Int.tdiv (IntKind.wrap .i64 (a * b)) a) = b
      · cases hs : safeB (IntKind.wrap .i64 (a * b)) with
        | true =>
          rw [mul_back hs hq] at hs
          rw [hs] at hp; cases hp
        | false =>
          rw [hq]; simp
      · have h2 : (IntKind.wrap .i64 (Int.tdiv (IntKind.wrap .i64 (a * b)) a) != b) = true := by simpa using hq
        rw [h2]; rfl
theorem op_calc_div (a b : Int) (m : Mem) : execFunc env (den env N5 1) 26 [.str [47], .int .i64 a, .int .i64 b] m = resG [47] a b m := by
  rw [show (1 : Nat) = 0 + 1 from rfl, op_div, List.take_length]
  unfold resG calcN calcB rawB rawN
  cases ha : safeB a <;> cases hb : safeB b <;> try rfl
  by_cases h0 : b = 0
  · subst h0; rfl
  · have h1 : (b != 0) = true := by simpa using h0
    have h2 : (b == 0) = false := by simpa using h0
    rw [h1, h2, if_neg h0, tdiv_wrap b ha]
    cases safeB (Int.tdiv a b) <;> rfl
theorem op_calc_mod (a b : Int) (m : Mem) : execFunc env (den env N5 1) 26 [.str [37], .int .i64 a, .int .i64 b] m = resG [37] a b m := by
  rw [show (1 : Nat) = 0 + 1 from rfl, op_mod, List.take_length]
  unfold resG calcN calcB rawB rawN
  cases ha : safeB a <;> cases hb : safeB b <;> try rfl
  by_cases h0 : b = 0
  · subst h0; rfl
  · have h1 : (b != 0) = true := by simpa using h0
    have h2 : (b == 0) = false := by simpa using h0
    rw [h1, h2, if_neg h0, if_neg h0]
    cases safeB (Int.tmod a b) <;> rfl
theorem op_calc_pow (a b : Int) (m : Mem) : execFunc env (den env N5 1) 26 [.str [42, 42], .int .i64 a, .int .i64 b] m = resG [42, 42] a b m := by
  rw [show (1 : Nat) = 0 + 1 from rfl, op_pow, List.take_length]
  unfold resG calcN calcB rawB rawN
  cases safeB a <;> cases safeB b <;> rfl
theorem op_calc_none (a b : Int) (m : Mem) : execFunc env (den env N5 1) 26 [.str [], .int .i64 a, .int .i64 b] m = resG [] a b m := by
  rw [show (1 : Nat) = 0 + 1 from rfl, op_none, List.take_length]
  unfold resG calcN calcB rawB rawN
  cases safeB a <;> cases safeB b <;> rfl

/-- with both reckoners, and with the example -/
noncomputable def N6 : Nats := fun f => match Nat.beq f 25 with
  | true => some calcG
  | false => match Nat.beq f 26 with
    | true => some calcG
    | false => match Nat.beq f 24 with
      | true => some trueG
      | false => N1 f
theorem nats6 (B : Nat) : NatsOk env Tryd.prog B N6 := by
  intro f g hf args m out m' h
  unfold N6 at hf
  split at hf
  · rename_i he
    injection hf with hf; subst hf
    obtain rfl := Nat.eq_of_beq_eq_true he
    refine by_tree (nats5 B) 1 ?_
    unfold calcG at h
    split at h
    · rw [← h]; exact do_calc_add ..
    · rw [← h]; exact do_calc_sub ..
    · rw [← h]; exact do_calc_mul ..
    · rw [← h]; exact do_calc_div ..
    · rw [← h]; exact do_calc_mod ..
    · rw [← h]; exact do_calc_pow ..
    · rw [← h]; exact do_calc_none ..
    · cases h
  · split at hf
    · rename_i he
      injection hf with hf; subst hf
      obtain rfl := Nat.eq_of_beq_eq_true he
      refine by_tree (nats5 B) 1 ?_
      unfold calcG at h
      split at h
      · rw [← h]; exact op_calc_add ..
      · rw [← h]; exact op_calc_sub ..
      · rw [← h]; exact op_calc_mul ..
      · rw [← h]; exact op_calc_div ..
      · rw [← h]; exact op_calc_mod ..
      · rw [← h]; exact op_calc_pow ..
      · rw [← h]; exact op_calc_none ..
      · cases h
    · split at hf
      · rename_i he
        injection hf with hf; subst hf
        obtain rfl := Nat.eq_of_beq_eq_true he
        unfold trueG at h
        split at h
        · refine by_tree (nats1 B) 12 ?_
          rw [alive_tree, ← h]
        · cases h
      · exact nats1 B f g hf args m out m' h
end Go.Proofs.YtlklpdifcpjlpaaDoor
