/- Whole numbers of a kind: signs on bits, plain. -/
import Derived.Test.YtlklpdifcpjlpaaDoorAbsExec
import Derived.IntWalk
namespace Go.Abs

theorem bits_i64 : IntKind.bits .i64 = 64 := rfl
theorem bits_i32 : IntKind.bits .i32 = 32 := rfl
theorem bits_u8 : IntKind.bits .u8 = 8 := rfl
theorem bits_u16 : IntKind.bits .u16 = 16 := rfl
theorem bits_u32 : IntKind.bits .u32 = 32 := rfl
theorem wrap_i64_nat {n : Nat} (h : n < 9223372036854775808) : IntKind.wrap .i64 (n : Int) = n := IntWalk.i64_in _ (by omega)
theorem wrap_i32_nat {n : Nat} (h : n < 2147483648) : IntKind.wrap .i32 (n : Int) = n := IntWalk.i32_in _ (by omega)
theorem wrap_u8_nat (n : Nat) : IntKind.wrap .u8 (n : Int) = ((n % 256 : Nat) : Int) := by
  simp only [IntKind.wrap, bits_u8, show IntKind.signed .u8 = false from rfl, Bool.false_and]; simp
theorem wrap_u16_nat (n : Nat) : IntKind.wrap .u16 (n : Int) = ((n % 65536 : Nat) : Int) := by
  simp only [IntKind.wrap, bits_u16, show IntKind.signed .u16 = false from rfl, Bool.false_and]; simp
theorem wrap_u32_nat (n : Nat) : IntKind.wrap .u32 (n : Int) = ((n % 4294967296 : Nat) : Int) := by
  simp only [IntKind.wrap, bits_u32, show IntKind.signed .u32 = false from rfl, Bool.false_and]; simp
theorem bv_nat (w n : Nat) : BitVec.ofInt w (n : Int) = BitVec.ofNat w n := by
  apply BitVec.eq_of_toNat_eq
  simp
theorem bv_63 (w : Nat) : BitVec.ofInt w 63 = BitVec.ofNat w 63 := bv_nat w 63
theorem bv_128 (w : Nat) : BitVec.ofInt w 128 = BitVec.ofNat w 128 := bv_nat w 128
theorem bv_192 (w : Nat) : BitVec.ofInt w 192 = BitVec.ofNat w 192 := bv_nat w 192
theorem bv_224 (w : Nat) : BitVec.ofInt w 224 = BitVec.ofNat w 224 := bv_nat w 224
theorem bv_240 (w : Nat) : BitVec.ofInt w 240 = BitVec.ofNat w 240 := bv_nat w 240
theorem bv_1023 (w : Nat) : BitVec.ofInt w 1023 = BitVec.ofNat w 1023 := bv_nat w 1023
theorem bv_31 (w : Nat) : BitVec.ofInt w 31 = BitVec.ofNat w 31 := bv_nat w 31
theorem bv_15 (w : Nat) : BitVec.ofInt w 15 = BitVec.ofNat w 15 := bv_nat w 15
theorem bv_7 (w : Nat) : BitVec.ofInt w 7 = BitVec.ofNat w 7 := bv_nat w 7
theorem bv_53248 (w : Nat) : BitVec.ofInt w 53248 = BitVec.ofNat w 53248 := bv_nat w 53248
theorem and31 (n : Nat) : n &&& 31 = n % 32 := Nat.and_two_pow_sub_one_eq_mod n 5
theorem and15 (n : Nat) : n &&& 15 = n % 16 := Nat.and_two_pow_sub_one_eq_mod n 4
theorem and7 (n : Nat) : n &&& 7 = n % 8 := Nat.and_two_pow_sub_one_eq_mod n 3
theorem or_nat (w a b : Nat) : (BitVec.ofNat w a ||| BitVec.ofNat w b).toNat = (a % 2 ^ w) ||| (b % 2 ^ w) := by simp
theorem and_nat (w a b : Nat) : (BitVec.ofNat w a &&& BitVec.ofNat w b).toNat = (a % 2 ^ w) &&& (b % 2 ^ w) := by simp
theorem fdiv_nat (n e : Nat) : Int.fdiv (n : Int) (2 ^ e) = ((n / 2 ^ e : Nat) : Int) := by
  have h2 : (2 : Int) ^ e = ((2 ^ e : Nat) : Int) := by simp
  rw [h2, Int.fdiv_eq_ediv_of_nonneg _ (Int.natCast_nonneg _)]
  simp
theorem or_add {i a b : Nat} (h : b < 2 ^ i) : 2 ^ i * a ||| b = 2 ^ i * a + b := (Nat.two_pow_add_eq_or_of_lt h a).symm
theorem or128 {x : Nat} (h : x < 64) : 128 ||| x = 128 + x := or_add (i := 6) (a := 2) h
theorem or192 {x : Nat} (h : x < 64) : 192 ||| x = 192 + x := or_add (i := 6) (a := 3) h
theorem or224 {x : Nat} (h : x < 32) : 224 ||| x = 224 + x := or_add (i := 5) (a := 7) h
theorem or240 {x : Nat} (h : x < 16) : 240 ||| x = 240 + x := or_add (i := 4) (a := 15) h
theorem orx128 {x : Nat} (h : x < 64) : x ||| 128 = 128 + x := by rw [Nat.or_comm]; exact or128 h
theorem and63 (n : Nat) : n &&& 63 = n % 64 := Nat.and_two_pow_sub_one_eq_mod n 6
theorem and63' (n : Nat) : 63 &&& n = n % 64 := by rw [Nat.and_comm]; exact and63 n
theorem and1023 (n : Nat) : n &&& 1023 = n % 1024 := Nat.and_two_pow_sub_one_eq_mod n 10
theorem min6i : min (Int.toNat 6) (IntKind.bits .i64) = 6 := rfl
theorem min12i : min (Int.toNat 12) (IntKind.bits .i64) = 12 := rfl
theorem min18i : min (Int.toNat 18) (IntKind.bits .i64) = 18 := rfl
theorem min10i : min (Int.toNat 10) (IntKind.bits .i64) = 10 := rfl
theorem min16i : min (Int.toNat 16) (IntKind.bits .i64) = 16 := rfl
theorem min6j : min (Int.toNat 6) (IntKind.bits .i32) = 6 := rfl
theorem min12j : min (Int.toNat 12) (IntKind.bits .i32) = 12 := rfl
theorem min18j : min (Int.toNat 18) (IntKind.bits .i32) = 18 := rfl
end Go.Abs
namespace Go.Abs
theorem or_w (w : Nat) {a b : Nat} (ha : a < 2 ^ w) (hb : b < 2 ^ w) : (BitVec.ofInt w (a : Int) ||| BitVec.ofInt w (b : Int)).toNat = a ||| b := by
  rw [bv_nat, bv_nat, or_nat, Nat.mod_eq_of_lt ha, Nat.mod_eq_of_lt hb]
theorem and_w (w : Nat) {a b : Nat} (ha : a < 2 ^ w) (hb : b < 2 ^ w) : (BitVec.ofInt w (a : Int) &&& BitVec.ofInt w (b : Int)).toNat = a &&& b := by
  rw [bv_nat, bv_nat, and_nat, Nat.mod_eq_of_lt ha, Nat.mod_eq_of_lt hb]
/-- the low six bits -/
theorem six64 {n : Nat} (h : n < 9223372036854775808) : IntKind.wrap .i64 ((BitVec.ofInt (IntKind.bits .i64) (n : Int) &&& BitVec.ofInt (IntKind.bits .i64) 63).toNat : Int) = ((n % 64 : Nat) : Int) := by
  rw [bits_i64, show (63 : Int) = ((63 : Nat) : Int) from rfl, and_w 64 (by omega) (by decide), and63, wrap_i64_nat (by omega)]
theorem six8 (n : Nat) : IntKind.wrap .u8 ((BitVec.ofInt (IntKind.bits .u8) (IntKind.wrap .u8 (n : Int)) &&& BitVec.ofInt (IntKind.bits .u8) 63).toNat : Int) = ((n % 64 : Nat) : Int) := by
  rw [wrap_u8_nat n, bits_u8, show (63 : Int) = ((63 : Nat) : Int) from rfl, and_w 8 (by omega) (by decide), and63, wrap_u8_nat]
  congr 1; omega
theorem six8b {n : Nat} (h : n < 256) : IntKind.wrap .u8 ((BitVec.ofInt (IntKind.bits .u8) (n : Int) &&& BitVec.ofInt (IntKind.bits .u8) 63).toNat : Int) = ((n % 64 : Nat) : Int) := by
  rw [bits_u8, show (63 : Int) = ((63 : Nat) : Int) from rfl, and_w 8 (by omega) (by decide), and63, wrap_u8_nat]
  congr 1; omega
/-- a byte that goes on -/
theorem more64 {x : Nat} (h : x < 64) : IntKind.wrap .u8 (IntKind.wrap .i64 ((BitVec.ofInt (IntKind.bits .i64) 128 ||| BitVec.ofInt (IntKind.bits .i64) (x : Int)).toNat : Int)) = ((128 + x : Nat) : Int) := by
  rw [bits_i64, show (128 : Int) = ((128 : Nat) : Int) from rfl, or_w 64 (by decide) (by omega), or128 h, wrap_i64_nat (by omega), wrap_u8_nat, Nat.mod_eq_of_lt (by omega)]
theorem more64' {x : Nat} (h : x < 64) : IntKind.wrap .u8 (IntKind.wrap .i64 ((BitVec.ofInt (IntKind.bits .i64) (x : Int) ||| BitVec.ofInt (IntKind.bits .i64) 128).toNat : Int)) = ((128 + x : Nat) : Int) := by
  rw [bits_i64, show (128 : Int) = ((128 : Nat) : Int) from rfl, or_w 64 (by omega) (by decide), orx128 h, wrap_i64_nat (by omega), wrap_u8_nat, Nat.mod_eq_of_lt (by omega)]
theorem more8 {x : Nat} (h : x < 64) : IntKind.wrap .u8 ((BitVec.ofInt (IntKind.bits .u8) 128 ||| BitVec.ofInt (IntKind.bits .u8) (x : Int)).toNat : Int) = ((128 + x : Nat) : Int) := by
  rw [bits_u8, show (128 : Int) = ((128 : Nat) : Int) from rfl, or_w 8 (by decide) (by omega), or128 h, wrap_u8_nat, Nat.mod_eq_of_lt (by omega)]
/-- a first byte -/
theorem lead2_64 {x : Nat} (h : x < 32) : IntKind.wrap .u8 (IntKind.wrap .i64 ((BitVec.ofInt (IntKind.bits .i64) 192 ||| BitVec.ofInt (IntKind.bits .i64) (x : Int)).toNat : Int)) = ((192 + x : Nat) : Int) := by
  rw [bits_i64, show (192 : Int) = ((192 : Nat) : Int) from rfl, or_w 64 (by decide) (by omega), or192 (by omega), wrap_i64_nat (by omega), wrap_u8_nat, Nat.mod_eq_of_lt (by omega)]
theorem lead3_64 {x : Nat} (h : x < 16) : IntKind.wrap .u8 (IntKind.wrap .i64 ((BitVec.ofInt (IntKind.bits .i64) 224 ||| BitVec.ofInt (IntKind.bits .i64) (x : Int)).toNat : Int)) = ((224 + x : Nat) : Int) := by
  rw [bits_i64, show (224 : Int) = ((224 : Nat) : Int) from rfl, or_w 64 (by decide) (by omega), or224 (by omega), wrap_i64_nat (by omega), wrap_u8_nat, Nat.mod_eq_of_lt (by omega)]
theorem lead4_64 {x : Nat} (h : x < 8) : IntKind.wrap .u8 (IntKind.wrap .i64 ((BitVec.ofInt (IntKind.bits .i64) 240 ||| BitVec.ofInt (IntKind.bits .i64) (x : Int)).toNat : Int)) = ((240 + x : Nat) : Int) := by
  rw [bits_i64, show (240 : Int) = ((240 : Nat) : Int) from rfl, or_w 64 (by decide) (by omega), or240 (by omega), wrap_i64_nat (by omega), wrap_u8_nat, Nat.mod_eq_of_lt (by omega)]
theorem lead2_8 {x : Nat} (h : x < 32) : IntKind.wrap .u8 ((BitVec.ofInt (IntKind.bits .u8) 192 ||| BitVec.ofInt (IntKind.bits .u8) (IntKind.wrap .u8 (x : Int))).toNat : Int) = ((192 + x : Nat) : Int) := by
  rw [wrap_u8_nat x, Nat.mod_eq_of_lt (a := x) (by omega), bits_u8, show (192 : Int) = ((192 : Nat) : Int) from rfl, or_w 8 (by decide) (by omega), or192 (by omega), wrap_u8_nat, Nat.mod_eq_of_lt (by omega)]
theorem lead3_8 {x : Nat} (h : x < 16) : IntKind.wrap .u8 ((BitVec.ofInt (IntKind.bits .u8) 224 ||| BitVec.ofInt (IntKind.bits .u8) (IntKind.wrap .u8 (x : Int))).toNat : Int) = ((224 + x : Nat) : Int) := by
  rw [wrap_u8_nat x, Nat.mod_eq_of_lt (a := x) (by omega), bits_u8, show (224 : Int) = ((224 : Nat) : Int) from rfl, or_w 8 (by decide) (by omega), or224 (by omega), wrap_u8_nat, Nat.mod_eq_of_lt (by omega)]
theorem lead4_8 {x : Nat} (h : x < 8) : IntKind.wrap .u8 ((BitVec.ofInt (IntKind.bits .u8) 240 ||| BitVec.ofInt (IntKind.bits .u8) (IntKind.wrap .u8 (x : Int))).toNat : Int) = ((240 + x : Nat) : Int) := by
  rw [wrap_u8_nat x, Nat.mod_eq_of_lt (a := x) (by omega), bits_u8, show (240 : Int) = ((240 : Nat) : Int) from rfl, or_w 8 (by decide) (by omega), or240 (by omega), wrap_u8_nat, Nat.mod_eq_of_lt (by omega)]
theorem sh6 (n : Nat) : Int.fdiv (n : Int) (2 ^ min (Int.toNat 6) (IntKind.bits .i64)) = ((n / 64 : Nat) : Int) := fdiv_nat n 6
theorem sh12 (n : Nat) : Int.fdiv (n : Int) (2 ^ min (Int.toNat 12) (IntKind.bits .i64)) = ((n / 4096 : Nat) : Int) := fdiv_nat n 12
theorem sh18 (n : Nat) : Int.fdiv (n : Int) (2 ^ min (Int.toNat 18) (IntKind.bits .i64)) = ((n / 262144 : Nat) : Int) := fdiv_nat n 18
theorem sh10 (n : Nat) : Int.fdiv (n : Int) (2 ^ min (Int.toNat 10) (IntKind.bits .i64)) = ((n / 1024 : Nat) : Int) := fdiv_nat n 10
theorem sh6j (n : Nat) : Int.fdiv (n : Int) (2 ^ min (Int.toNat 6) (IntKind.bits .i32)) = ((n / 64 : Nat) : Int) := fdiv_nat n 6
theorem sh12j (n : Nat) : Int.fdiv (n : Int) (2 ^ min (Int.toNat 12) (IntKind.bits .i32)) = ((n / 4096 : Nat) : Int) := fdiv_nat n 12
theorem sh18j (n : Nat) : Int.fdiv (n : Int) (2 ^ min (Int.toNat 18) (IntKind.bits .i32)) = ((n / 262144 : Nat) : Int) := fdiv_nat n 18
end Go.Abs
