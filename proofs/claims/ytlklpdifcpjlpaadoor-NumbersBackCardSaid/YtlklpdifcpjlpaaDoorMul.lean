/- Products: the two halves of a product of 64 bits, and the safe product. -/
import Derived.Test.YtlklpdifcpjlpaaDoorLaws
import Derived.Laws.MathBits
namespace Go.Proofs.YtlklpdifcpjlpaaDoor
open Go.Abs
set_option maxRecDepth 100000
def lowB (z : Int) : Int := IntKind.wrap .u64 (BitVec.ofInt (IntKind.bits .u64) z &&& BitVec.ofInt (IntKind.bits .u64) 4294967295).toNat
def highB (z : Int) : Int := Int.fdiv z (2 ^ (min (Int.toNat 32) (IntKind.bits .u64)))
def mulHi (x y : Int) : Int :=
  let u := IntKind.wrap .u64
  let t := u (u (highB x * lowB y) + highB (u (lowB x * lowB y)))
  u (u (u (highB x * highB y) + highB t) + highB (u (lowB t + u (lowB x * highB y))))
def mulG : List AVal → Mem → Option (Out × Mem)
  | [.int .u64 x, .int .u64 y], m => some (.ret (.tup [.int .u64 (mulHi x y), .int .u64 (IntKind.wrap .u64 (x * y))]), m)
  | _, _ => none
theorem mul64_tree (D : Ora) (m : Mem) (a b : Int) : execFunc env D 52 [.int .u64 a, .int .u64 b] m = some (.ret (.tup [.int .u64 (mulHi a b), .int .u64 (IntKind.wrap .u64 (a * b))]), List.take (List.length m) m) := by kernel_rfl
noncomputable def N4 : Nats := fun f => match Nat.beq f 52 with
  | true => some mulG
  | false => N1 f
theorem nats4 (B : Nat) : NatsOk env Tryd.prog B N4 := by
  intro f g hf args m out m' h
  unfold N4 at hf
  split at hf
  · rename_i he
    injection hf with hf; subst hf
    obtain rfl := Nat.eq_of_beq_eq_true he
    unfold mulG at h
    split at h
    · refine by_tree (nats1 B) 0 ?_
      rw [mul64_tree, ← h, List.take_length]
    · cases h
  · exact nats1 B f g hf args m out m' h

theorem wrapu (n : Int) : IntKind.wrap .u64 n = n % 18446744073709551616 := by
  have e1 : IntKind.bits .u64 = 64 := rfl
  have e2 : IntKind.signed .u64 = false := rfl
  simp only [IntKind.wrap, e1, e2, Bool.false_and]
  rfl
theorem low_eq {z : Int} (h0 : 0 ≤ z) (h1 : z < 18446744073709551616) : lowB z = z % 4294967296 := and_low32 z h0 h1
theorem high_eq (z : Int) : highB z = z / 4294967296 := by
  show Int.fdiv z 4294967296 = _
  exact Int.fdiv_eq_ediv_of_nonneg _ (by omega)
theorem mulHi_eq {x y : Int} (hx0 : 0 ≤ x) (hx : x < 18446744073709551616) (hy0 : 0 ≤ y) (hy : y < 18446744073709551616) : mulHi x y = x * y / 18446744073709551616 := by
  rw [← mul64_arith x y hx0 hx hy0 hy]
  simp only [mulHi, wrapu, high_eq]
  rw [low_eq hx0 hx, low_eq hy0 hy, low_eq (by omega) (by omega)]
theorem times_tree (k : Nat) (m : Mem) (a b : Int) : execFunc env (den env N4 (k + 1)) 43 [.int .i64 a, .int .i64 b] m  =
  bif
    decide
      (mulHi
          (IntKind.wrap IntKind.u64
            (if IntKind.wrap IntKind.i64 (0 - a) > a then IntKind.wrap IntKind.i64 (0 - a) else a))
          (IntKind.wrap IntKind.u64
            (if IntKind.wrap IntKind.i64 (0 - b) > b then IntKind.wrap IntKind.i64 (0 - b) else b)) >
        0) then
  some (Out.ret (AVal.tup [AVal.int IntKind.i64 0, AVal.bool false]), List.take (List.length m) m)
else
  bif
      decide
        (IntKind.wrap IntKind.u64
            (IntKind.wrap IntKind.u64
                (if IntKind.wrap IntKind.i64 (0 - a) > a then IntKind.wrap IntKind.i64 (0 - a) else a) *
              IntKind.wrap IntKind.u64
                (if IntKind.wrap IntKind.i64 (0 - b) > b then IntKind.wrap IntKind.i64 (0 - b) else b)) >
          9007199254740991) then
    some (Out.ret (AVal.tup [AVal.int IntKind.i64 0, AVal.bool false]), List.take (List.length m) m)
  else
    some
      (Out.ret (AVal.tup [AVal.int IntKind.i64 (IntKind.wrap IntKind.i64 (a * b)), AVal.bool true]),
        List.take (List.length m) m) := by kernel_rfl

/-- a number without its sign, as the code has it -/
def magU (a : Int) : Int := IntKind.wrap IntKind.u64 (if IntKind.wrap IntKind.i64 (0 - a) > a then IntKind.wrap IntKind.i64 (0 - a) else a)
def timesB (a b : Int) : Bool := !decide (mulHi (magU a) (magU b) > 0) && !decide (IntKind.wrap IntKind.u64 (magU a * magU b) > 9007199254740991)
def timesN (a b : Int) : Int := bif timesB a b then IntKind.wrap .i64 (a * b) else 0
def timesG : List AVal → Mem → Option (Out × Mem)
  | [.int .i64 a, .int .i64 b], m => some (.ret (.tup [.int .i64 (timesN a b), .bool (timesB a b)]), m)
  | _, _ => none
/-- with products, and with the reference's own test -/
noncomputable def N5 : Nats := fun f => match Nat.beq f 43 with
  | true => some timesG
  | false => match Nat.beq f 44 with
    | true => some safeG
    | false => N1 f
theorem rsafe_tree (D : Ora) (m : Mem) (n : Int) : execFunc env D 44 [.int .i64 n] m  =
  bif decide (n ≥ -9007199254740991) then
  some (Out.ret (AVal.bool (decide (n ≤ 9007199254740991))), List.take (List.length m) m)
else some (Out.ret (AVal.bool false), List.take (List.length m) m) := by kernel_rfl
theorem nats5 (B : Nat) : NatsOk env Tryd.prog B N5 := by
  intro f g hf args m out m' h
  unfold N5 at hf
  split at hf
  · rename_i he
    injection hf with hf; subst hf
    obtain rfl := Nat.eq_of_beq_eq_true he
    unfold timesG at h
    split at h
    · rename_i a b
      refine by_tree (nats4 B) (0 + 1) ?_
      rw [times_tree, ← h, List.take_length]
      unfold timesN timesB magU
      cases decide (mulHi (IntKind.wrap IntKind.u64 (if IntKind.wrap IntKind.i64 (0 - a) > a then IntKind.wrap IntKind.i64 (0 - a) else a)) (IntKind.wrap IntKind.u64 (if IntKind.wrap IntKind.i64 (0 - b) > b then IntKind.wrap IntKind.i64 (0 - b) else b)) > 0) <;>
      cases decide (IntKind.wrap IntKind.u64 (IntKind.wrap IntKind.u64 (if IntKind.wrap IntKind.i64 (0 - a) > a then IntKind.wrap IntKind.i64 (0 - a) else a) * IntKind.wrap IntKind.u64 (if IntKind.wrap IntKind.i64 (0 - b) > b then IntKind.wrap IntKind.i64 (0 - b) else b)) > 9007199254740991) <;> rfl
    · cases h
  · split at hf
    · rename_i he
      injection hf with hf; subst hf
      obtain rfl := Nat.eq_of_beq_eq_true he
      unfold safeG at h
      split at h
      · refine by_tree (nats1 B) 0 ?_
        rw [rsafe_tree, ← h, List.take_length]
        unfold safeB
        rename_i n
        cases decide (n ≥ -9007199254740991) <;> rfl
      · cases h
    · exact nats1 B f g hf args m out m' h

theorem magU_eq {a : Int} (h : safeB a = true) : magU a = a.natAbs := by
  obtain ⟨h1, h2⟩ := safe_iff.1 h
  unfold magU
  rw [wrap64 (n := 0 - a) (by omega) (by omega), wrapu]
  split <;> omega
theorem natAbs_le {a : Int} (h : safeB a = true) : (a.natAbs : Int) ≤ 9007199254740991 := by
  obtain ⟨h1, h2⟩ := safe_iff.1 h
  omega
theorem times_eq {a b : Int} (ha : safeB a = true) (hb : safeB b = true) : timesB a b = safeB (a * b) ∧ timesN a b = bif safeB (a * b) then a * b else 0 := by
  have h1 := natAbs_le ha
  have h2 := natAbs_le hb
  have hm : (a * b).natAbs = a.natAbs * b.natAbs := Int.natAbs_mul a b
  have hp : ((a * b).natAbs : Int) = (a.natAbs : Int) * (b.natAbs : Int) := by rw [hm]; simp
  have hB : timesB a b = safeB (a * b) := by
    unfold timesB
    rw [magU_eq ha, magU_eq hb, mulHi_eq (by omega) (by omega) (by omega) (by omega), wrapu, ← hp]
    generalize a * b = p
    have : safeB p = (decide (-9007199254740991 ≤ p) && decide (p ≤ 9007199254740991)) := rfl
    rw [this]
    by_cases hq : (p.natAbs : Int) ≤ 9007199254740991
    · have e1 : ¬ ((p.natAbs : Int) / 18446744073709551616 > 0) := by omega
      have e2 : ¬ ((p.natAbs : Int) % 18446744073709551616 > 9007199254740991) := by omega
      have e3 : -9007199254740991 ≤ p := by omega
      have e4 : p ≤ 9007199254740991 := by omega
      simp [e1, e2, e3, e4]
    · by_cases e1 : (p.natAbs : Int) / 18446744073709551616 > 0
      · by_cases e3 : -9007199254740991 ≤ p
        · have e4 : ¬ (p ≤ 9007199254740991) := by omega
          simp [e1, e4]
        · simp [e1, e3]
      · have e2 : (p.natAbs : Int) % 18446744073709551616 > 9007199254740991 := by omega
        by_cases e3 : -9007199254740991 ≤ p
        · have e4 : ¬ (p ≤ 9007199254740991) := by omega
          simp [e2, e4]
        · simp [e2, e3]
  refine ⟨hB, ?_⟩
  unfold timesN
  rw [hB]
  cases hs : safeB (a * b) with
  | false => rfl
  | true =>
    obtain ⟨h5, h6⟩ := safe_iff.1 hs
    simp only [cond_true]
    exact wrap64 (by omega) (by omega)
end Go.Proofs.YtlklpdifcpjlpaaDoor
