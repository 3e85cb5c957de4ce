/- The readers of half code points, and the closure of Of. -/
import Derived.Test.YtlklpdifcpjlpaaDoorUTree1
import Derived.Test.YtlklpdifcpjlpaaDoorUTree2
import Derived.Test.YtlklpdifcpjlpaaDoorAbsBits
namespace Go.Proofs.YtlklpdifcpjlpaaDoor.U
open Go.Abs Go.Uni
set_option maxRecDepth 100000
set_option linter.unusedSimpArgs false
set_option linter.unusedVariables false

theorem and192 : ∀ n : Fin 256, (n.val &&& 192) = n.val / 64 * 64 := by decide
theorem two8 {n : Nat} (h : n < 256) : IntKind.wrap .u8 ((BitVec.ofInt (IntKind.bits .u8) (n : Int) &&& BitVec.ofInt (IntKind.bits .u8) 192).toNat : Int) = ((n / 64 * 64 : Nat) : Int) := by
  rw [bits_u8, show (192 : Int) = ((192 : Nat) : Int) from rfl, and_w 8 (by omega) (by decide), show n &&& 192 = n / 64 * 64 from and192 ⟨n, h⟩, wrap_u8_nat]
  congr 1; omega
theorem half_sum {x y : Nat} (hx : x < 64) (hy : y < 64) :
    IntKind.wrap .i64 ((BitVec.ofInt (IntKind.bits .i64) (IntKind.wrap .i64 ((BitVec.ofInt (IntKind.bits .i64) 53248 ||| BitVec.ofInt (IntKind.bits .i64) (IntKind.wrap .i64 (IntKind.wrap .i64 (x : Int) * 2 ^ min (Int.toNat 6) (IntKind.bits .i64)))).toNat : Int)) ||| BitVec.ofInt (IntKind.bits .i64) (IntKind.wrap .i64 (y : Int))).toNat : Int) = ((53248 + x * 64 + y : Nat) : Int) := by
  have e1 : IntKind.wrap .i64 (x : Int) = x := wrap_i64_nat (by omega)
  have e2 : IntKind.wrap .i64 (y : Int) = y := wrap_i64_nat (by omega)
  have e3 : (x : Int) * 2 ^ min (Int.toNat 6) (IntKind.bits .i64) = ((64 * x : Nat) : Int) := by rw [min6i]; omega
  have e4 : IntKind.wrap .i64 ((64 * x : Nat) : Int) = ((64 * x : Nat) : Int) := wrap_i64_nat (by omega)
  have o1 : 53248 ||| 64 * x = 53248 + 64 * x := or_add (i := 12) (a := 13) (by omega)
  have o2 : 53248 + 64 * x ||| y = 53248 + 64 * x + y := by
    have := or_add (i := 6) (a := 832 + x) (b := y) hy
    rw [show 2 ^ 6 * (832 + x) = 53248 + 64 * x by omega] at this
    exact this
  have e5 : IntKind.wrap .i64 ((53248 + 64 * x : Nat) : Int) = ((53248 + 64 * x : Nat) : Int) := wrap_i64_nat (by omega)
  have e6 : IntKind.wrap .i64 ((53248 + 64 * x + y : Nat) : Int) = ((53248 + 64 * x + y : Nat) : Int) := wrap_i64_nat (by omega)
  rw [e1, e2, e3, e4, bits_i64, show (53248 : Int) = ((53248 : Nat) : Int) from rfl, or_w 64 (by decide) (by omega), o1, e5, or_w 64 (by omega) (by omega), o2, e6]
  congr 1; omega
theorem halfB_237 {a b c : UInt8} {r : List UInt8} (h : halfB (a :: b :: c :: r) = true) : a.toNat = 237 ∧ 160 ≤ b.toNat ∧ b.toNat ≤ 191 ∧ 128 ≤ c.toNat ∧ c.toNat ≤ 191 := by
  have ha := b_lt a
  have hb := b_lt b
  have hc := b_lt c
  simp only [halfB, Bool.and_eq_true, beq_iff_eq] at h
  obtain ⟨h1, h2⟩ := h
  simp only [pt] at h1 h2
  repeat' split at h1
  all_goals (first | (exfalso; simp at h1; done) | skip)
  all_goals simp_all [cont, isHalf]
  all_goals omega
theorem half_of {a b c : UInt8} {r : List UInt8} (h1 : a.toNat = 237) (h2 : 160 ≤ b.toNat) (h3 : b.toNat ≤ 191) (h4 : 128 ≤ c.toNat) (h5 : c.toNat ≤ 191) : pt (a :: b :: c :: r) = (53248 + (b.toNat % 64) * 64 + c.toNat % 64, 3) := by
  have c1 : cont b = true := by simp [cont]; omega
  have c2 : cont c = true := by simp [cont]; omega
  simp only [pt, h1, c1, c2]
  rw [if_neg (by omega), if_neg (by omega), if_pos (by omega)]
  simp only [Bool.and_self, if_true]
  rw [if_neg (by omega)]
  congr 1; omega
theorem halfB_short {s : List UInt8} (h : s.length < 3) : halfB s = false := by
  have := (pt_width s).1
  have : (pt s).2 ≠ 3 := by omega
  simp [halfB, this]
theorem half_ok0 (D : Ora) (s : List UInt8) : execFunc env D 50 [.str s] [] = some (.ret (.tup [.int .i64 (halfV s), .bool (halfB s)]), []) := by
  rw [half50]
  match s with
  | [] => rw [halfV, halfB_short (by simp)]; rfl
  | [_] => rw [halfV, halfB_short (by simp)]; rfl
  | [_, _] => rw [halfV, halfB_short (by simp)]; rfl
  | a :: b :: c :: r =>
    have hl : ((a :: b :: c :: r).length : Int) = (r.length : Int) + 3 := by simp; omega
    have hb := b_lt b
    have hc := b_lt c
    have q0 : decide ((r.length : Int) + 3 < 3) = false := by simp; omega
    have q1 : (0 : Int) ≤ 0 ∧ 0 < (r.length : Int) + 3 := by omega
    have q2 : (0 : Int) ≤ 1 ∧ 1 < (r.length : Int) + 3 := by omega
    have q3 : (0 : Int) ≤ 2 ∧ 2 < (r.length : Int) + 3 := by omega
    have t0 : byteAt (a :: b :: c :: r) (Int.toNat 0) = a.toNat := rfl
    have t1 : byteAt (a :: b :: c :: r) (Int.toNat 1) = b.toNat := rfl
    have t2 : byteAt (a :: b :: c :: r) (Int.toNat 2) = c.toNat := rfl
    have no : ∀ {p : Prop}, ¬ p → (halfB (a :: b :: c :: r) = true → p) → halfB (a :: b :: c :: r) = false := fun hn hp => by
      rcases h : halfB (a :: b :: c :: r) with _ | _
      · rfl
      · exact absurd (hp h) hn
    simp only [hl, q0, q1, q2, q3, t0, t1, t2, cond_false, if_true, two8 hc, six8b hb, six8b hc, half_sum (x := b.toNat % 64) (y := c.toNat % 64) (by omega) (by omega)]
    by_cases p1 : a.toNat = 237
    · have z1 : ((a.toNat : Int) != 237) = false := by simp; omega
      by_cases p2 : 160 ≤ b.toNat
      · have z2 : decide ((b.toNat : Int) < 160) = false := by simp; omega
        by_cases p3 : b.toNat ≤ 191
        · have z3 : decide ((b.toNat : Int) > 191) = false := by simp; omega
          by_cases p4 : 128 ≤ c.toNat ∧ c.toNat ≤ 191
          · have z4 : (((c.toNat / 64 * 64 : Nat) : Int) != 128) = false := by simp; omega
            have hp := half_of (r := r) p1 p2 p3 p4.1 p4.2
            have hB : halfB (a :: b :: c :: r) = true := by simp only [halfB, hp]; simp [isHalf]; omega
            rw [z1, z2, z3, z4, halfV, hB, hp]
            rfl
          · have z4 : (((c.toNat / 64 * 64 : Nat) : Int) != 128) = true := by simp; omega
            rw [z1, z2, z3, z4, halfV, no p4 fun h => (halfB_237 h).2.2.2]; rfl
        · have z3 : decide ((b.toNat : Int) > 191) = true := by simp; omega
          rw [z1, z2, z3, halfV, no p3 fun h => (halfB_237 h).2.2.1]; rfl
      · have z2 : decide ((b.toNat : Int) < 160) = true := by simp; omega
        rw [z1, z2, halfV, no p2 fun h => (halfB_237 h).2.1]; rfl
    · have z1 : ((a.toNat : Int) != 237) = true := by simp; omega
      rw [z1, halfV, no p1 fun h => (halfB_237 h).1]; rfl
theorem half_ok (B : Nat) : NatOk env Tryd.prog B 50 halfG := by
  intro args m out m' h
  unfold halfG at h
  split at h
  · injection h with h
    simp only [Prod.mk.injEq, true_and] at h
    obtain ⟨rfl, rfl⟩ := h
    exact call_frame (by simp [flat, flatO]) rfl (call_of_tree setting (nodfr B) noNats_ok noLoops_ok 0 (half_ok0 _ _))
  · cases h
theorem yes_ok0 (D : Ora) (c : Int) : execFunc env D 39 [.int .i64 c] [] = some (.ret (.bool true), []) := by kernel_rfl
theorem yes_ok (B : Nat) : NatOk env Tryd.prog B 39 yesG := by
  intro args m out m' h
  unfold yesG at h
  split at h
  · injection h with h
    simp only [Prod.mk.injEq, true_and] at h
    obtain ⟨rfl, rfl⟩ := h
    exact call_frame (by simp [flat, flatO]) rfl (call_of_tree setting (nodfr B) noNats_ok noLoops_ok 0 (yes_ok0 _ _))
  · cases h
/-- two units of a code point -/
theorem two_units {n : Nat} (h : 65536 ≤ n) (h2 : n ≤ 1114111) :
    IntKind.wrap .u16 (IntKind.wrap .i64 (55296 + Int.fdiv (IntKind.wrap .i64 ((n : Int) - 65536)) (2 ^ min (Int.toNat 10) (IntKind.bits .i64)))) = ((55296 + (n - 65536) / 1024 : Nat) : Int) ∧
    IntKind.wrap .u16 (IntKind.wrap .i64 (56320 + IntKind.wrap .i64 ((BitVec.ofInt (IntKind.bits .i64) (IntKind.wrap .i64 ((n : Int) - 65536)) &&& BitVec.ofInt (IntKind.bits .i64) 1023).toNat : Int))) = ((56320 + (n - 65536) % 1024 : Nat) : Int) := by
  have e : (n : Int) - 65536 = ((n - 65536 : Nat) : Int) := by omega
  rw [e, wrap_i64_nat (by omega), sh10]
  constructor
  · rw [show (55296 : Int) + (((n - 65536) / 1024 : Nat) : Int) = ((55296 + (n - 65536) / 1024 : Nat) : Int) by omega, wrap_i64_nat (by omega), wrap_u16_nat, Nat.mod_eq_of_lt (by omega)]
  · rw [bits_i64, show (1023 : Int) = ((1023 : Nat) : Int) from rfl, and_w 64 (by omega) (by decide), and1023, wrap_i64_nat (by omega), show (56320 : Int) + (((n - 65536) % 1024 : Nat) : Int) = ((56320 + (n - 65536) % 1024 : Nat) : Int) by omega, wrap_i64_nat (by omega), wrap_u16_nat, Nat.mod_eq_of_lt (by omega)]
theorem uL_n (n : Nat) : uL (n : Int) = (u16 n).map unit := by simp [uL]
theorem uL2 {n : Nat} (h : 65536 ≤ n) : uL (n : Int) = [[.int .u16 ((55296 + (n - 65536) / 1024 : Nat) : Int)], [.int .u16 ((56320 + (n - 65536) % 1024 : Nat) : Int)]] := by
  rw [uL_n, u16, if_pos (by omega)]; rfl
theorem uL1 {n : Nat} (h : n < 65536) : uL (n : Int) = [[.int .u16 (n : Int)]] := by
  rw [uL_n, u16, if_neg (by omega)]; rfl
theorem roomb (es : List (List AVal)) (xs : List (List AVal)) (h : es.length ≤ 1000000) (hx : xs.length ≤ 1000) (b : Nat) (hb : b ≤ 100) : (decide (1 ≠ 0) && roomOk (es.length + xs.length) b) = true := by
  have : (es.length + xs.length) * b ≤ 1001000 * 100 := Nat.mul_le_mul (by omega) hb
  simp [roomOk]; omega
theorem of40_f (D : Ora) {n : Nat} (h : n ≤ 1114111) : execFunc env D 40 [.int .i64 (n : Int), .ptr 0 0] [.cells [.slice .full []]] = some (.ret (.bool true), [.cells [.slice (.row 23) (uL (n : Int))]]) := by
  rw [of40f]
  by_cases p : 65536 ≤ n
  · have q : decide ((n : Int) ≥ 65536) = true := by simp; omega
    obtain ⟨t1, t2⟩ := two_units p h
    rw [q, cond_true, uL2 p, t1, t2]
  · have q : decide ((n : Int) ≥ 65536) = false := by simp; omega
    rw [q, cond_false, uL1 (by omega), wrap_u16_nat, Nat.mod_eq_of_lt (by omega)]
theorem of40_r (D : Ora) {es : List (List AVal)} (he : es.length ≤ 1000000) {n : Nat} (h : n ≤ 1114111) : execFunc env D 40 [.int .i64 (n : Int), .ptr 0 0] [.cells [.slice (.row 23) es]] = some (.ret (.bool true), [.cells [.slice (.row 23) (es ++ uL (n : Int))]]) := by
  rw [of40r]
  by_cases p : 65536 ≤ n
  · have q : decide ((n : Int) ≥ 65536) = true := by simp; omega
    obtain ⟨t1, t2⟩ := two_units p h
    rw [q, cond_true, uL2 p, t1, t2]
    exact if_pos (roomb es _ he (by simp) 2 (by omega))
  · have q : decide ((n : Int) ≥ 65536) = false := by simp; omega
    rw [q, cond_false, uL1 (by omega), wrap_u16_nat, Nat.mod_eq_of_lt (by omega)]
    exact if_pos (roomb es _ he (by simp) 2 (by omega))
theorem of40_ok (B : Nat) : NatOk env Tryd.prog B 40 ofG := by
  intro args m out m' h
  unfold ofG at h
  split at h
  case h_2 => cases h
  case h_1 c o off =>
  split at h
  case h_2 => cases h
  case h_1 own es =>
  split at h
  · split at h
    · injection h with h
      simp only [Prod.mk.injEq, Bool.and_eq_true] at h
      obtain ⟨⟨hc, h1, h2⟩, rfl, rfl⟩ := h
      obtain rfl := Nat.eq_of_beq_eq_true h1
      obtain rfl := Nat.eq_of_beq_eq_true h2
      simp only [isCp, Bool.and_eq_true, decide_eq_true_eq] at hc
      obtain ⟨n, rfl⟩ := Int.eq_ofNat_of_zero_le hc.1
      exact call_of_tree setting (nodfr B) noNats_ok noLoops_ok 0 (of40_f _ (by omega))
    · cases h
  · split at h
    · rename_i e he
      obtain rfl := Nat.eq_of_beq_eq_true he
      injection h with h
      simp only [Prod.mk.injEq, Bool.and_eq_true, decide_eq_true_eq] at h
      obtain ⟨⟨hc, ⟨h1, h2⟩, hl⟩, rfl, rfl⟩ := h
      obtain rfl := Nat.eq_of_beq_eq_true h1
      obtain rfl := Nat.eq_of_beq_eq_true h2
      simp only [isCp, Bool.and_eq_true, decide_eq_true_eq] at hc
      obtain ⟨n, rfl⟩ := Int.eq_ofNat_of_zero_le hc.1
      exact call_of_tree setting (nodfr B) noNats_ok noLoops_ok 0 (of40_r _ hl (by omega))
    · cases h
  · cases h
end Go.Proofs.YtlklpdifcpjlpaaDoor.U
