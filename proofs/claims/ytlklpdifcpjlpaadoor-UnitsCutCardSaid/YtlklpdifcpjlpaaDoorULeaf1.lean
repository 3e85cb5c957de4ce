/- The writers of code points. -/
import Derived.Test.YtlklpdifcpjlpaaDoorUTree1
import Derived.Test.YtlklpdifcpjlpaaDoorAbsBits
namespace Go.Proofs.YtlklpdifcpjlpaaDoor.U
open Go.Abs Go.Uni
set_option maxRecDepth 100000
set_option linter.unusedSimpArgs false
set_option linter.unusedVariables false

theorem enc1 {n : Nat} (h : n < 128) : (enc n).map byte = [[.int .u8 (n : Nat)]] := by
  simp only [enc, if_pos h, List.map, byte, ob_toNat (show n < 256 by omega)]
theorem enc2 {n : Nat} (h : ¬ n < 128) (h2 : n < 2048) : (enc n).map byte = [[.int .u8 ((192 + n / 64 : Nat) : Int)], [.int .u8 ((128 + n % 64 : Nat) : Int)]] := by
  simp only [enc, if_neg h, if_pos h2, List.map, byte, ob_toNat (show 192 + n / 64 < 256 by omega), ob_toNat (show 128 + n % 64 < 256 by omega)]
theorem enc3 {n : Nat} (h : ¬ n < 2048) (h2 : n < 65536) : (enc n).map byte = [[.int .u8 ((224 + n / 4096 : Nat) : Int)], [.int .u8 ((128 + n / 64 % 64 : Nat) : Int)], [.int .u8 ((128 + n % 64 : Nat) : Int)]] := by
  simp only [enc, if_neg h, if_neg (show ¬ n < 128 by omega), if_pos h2, List.map, byte, ob_toNat (show 224 + n / 4096 < 256 by omega), ob_toNat (show 128 + n % 64 < 256 by omega), ob_toNat (show 128 + n / 64 % 64 < 256 by omega)]
theorem enc4 {n : Nat} (h : ¬ n < 65536) (h2 : n ≤ 1114111) : (enc n).map byte = [[.int .u8 ((240 + n / 262144 : Nat) : Int)], [.int .u8 ((128 + n / 4096 % 64 : Nat) : Int)], [.int .u8 ((128 + n / 64 % 64 : Nat) : Int)], [.int .u8 ((128 + n % 64 : Nat) : Int)]] := by
  simp only [enc, if_neg h, if_neg (show ¬ n < 128 by omega), if_neg (show ¬ n < 2048 by omega), List.map, byte, ob_toNat (show 240 + n / 262144 < 256 by omega), ob_toNat (show 128 + n % 64 < 256 by omega), ob_toNat (show 128 + n / 64 % 64 < 256 by omega), ob_toNat (show 128 + n / 4096 % 64 < 256 by omega)]
theorem room1 (es : List (List AVal)) (xs : List (List AVal)) (h : es.length ≤ 1000000) (hx : xs.length ≤ 1000) (b : Nat) (hb : b ≤ 100) : (decide (1 ≠ 0) && roomOk (es.length + xs.length) b) = true := by
  have : (es.length + xs.length) * b ≤ 1001000 * 100 := Nat.mul_le_mul (by omega) hb
  simp [roomOk]; omega
theorem put59_f (D : Ora) {n : Nat} (h1 : 128 ≤ n) (h : n ≤ 1114111) (hh : isHalf n = false) : execFunc env D 59 [.slice .full [], .int .i32 (n : Int)] [] = some (.ret (.slice (.row 5) ((enc n).map byte)), []) := by
  rw [put59f]
  have w : IntKind.wrap .u32 (n : Int) = n := by rw [wrap_u32_nat, Nat.mod_eq_of_lt (by omega)]
  have b1 := more8 (x := n % 64) (by omega)
  have b2 := more8 (x := n / 64 % 64) (by omega)
  have b3 := more8 (x := n / 4096 % 64) (by omega)
  by_cases a : n < 2048
  · have l := lead2_8 (x := n / 64) (by omega)
    have q1 : decide ((n : Int) ≤ 2047) = true := by simp; omega
    simp only [w, q1, cond_true, sh6j, l, six8, b1, enc2 (by omega : ¬ n < 128) a]
  · have q1 : decide ((n : Int) ≤ 2047) = false := by simp; omega
    by_cases d : n < 65536
    · have l := lead3_8 (x := n / 4096) (by omega)
      have q4 : decide ((n : Int) > 65535) = false := by simp; omega
      have q5 : decide ((n : Int) ≤ 65535) = true := by simp; omega
      simp only [isHalf, Bool.and_eq_false_iff, decide_eq_false_iff_not] at hh
      by_cases e : n < 55296
      · have q2 : decide ((n : Int) < 55296) = true := by simp; omega
        simp only [w, q1, q2, cond_true, cond_false, sh6j, sh12j, l, six8, b1, b2, enc3 a d]
      · have q2 : decide ((n : Int) < 55296) = false := by simp; omega
        have q3 : decide (57343 < (n : Int)) = true := by simp; omega
        simp only [w, q1, q2, q3, q4, q5, cond_true, cond_false, sh6j, sh12j, l, six8, b1, b2, enc3 a d]
    · have l := lead4_8 (x := n / 262144) (by omega)
      have q2 : decide ((n : Int) < 55296) = false := by simp; omega
      have q3 : decide (57343 < (n : Int)) = true := by simp; omega
      have q4 : decide ((n : Int) > 65535) = true := by simp; omega
      have q5 : decide ((n : Int) ≤ 65535) = false := by simp; omega
      have q6 : decide ((n : Int) ≤ 1114111) = true := by simp; omega
      simp only [w, q1, q2, q3, q4, q5, q6, cond_true, cond_false, sh6j, sh12j, sh18j, l, six8, b1, b2, b3, enc4 d h]
theorem put59_r (D : Ora) {es : List (List AVal)} (he : es.length ≤ 1000000) {n : Nat} (h1 : 128 ≤ n) (h : n ≤ 1114111) (hh : isHalf n = false) : execFunc env D 59 [.slice (.row 5) es, .int .i32 (n : Int)] [] = some (.ret (.slice (.row 5) (es ++ (enc n).map byte)), []) := by
  rw [put59r]
  have w : IntKind.wrap .u32 (n : Int) = n := by rw [wrap_u32_nat, Nat.mod_eq_of_lt (by omega)]
  have b1 := more8 (x := n % 64) (by omega)
  have b2 := more8 (x := n / 64 % 64) (by omega)
  have b3 := more8 (x := n / 4096 % 64) (by omega)
  by_cases a : n < 2048
  · have l := lead2_8 (x := n / 64) (by omega)
    have q1 : decide ((n : Int) ≤ 2047) = true := by simp; omega
    simp only [w, q1, cond_true, sh6j, l, six8, b1, enc2 (by omega : ¬ n < 128) a]
    exact if_pos (room1 es _ he (by simp) 1 (by omega))
  · have q1 : decide ((n : Int) ≤ 2047) = false := by simp; omega
    by_cases d : n < 65536
    · have l := lead3_8 (x := n / 4096) (by omega)
      have q4 : decide ((n : Int) > 65535) = false := by simp; omega
      have q5 : decide ((n : Int) ≤ 65535) = true := by simp; omega
      simp only [isHalf, Bool.and_eq_false_iff, decide_eq_false_iff_not] at hh
      by_cases e : n < 55296
      · have q2 : decide ((n : Int) < 55296) = true := by simp; omega
        simp only [w, q1, q2, cond_true, cond_false, sh6j, sh12j, l, six8, b1, b2, enc3 a d]
        exact if_pos (room1 es _ he (by simp) 1 (by omega))
      · have q2 : decide ((n : Int) < 55296) = false := by simp; omega
        have q3 : decide (57343 < (n : Int)) = true := by simp; omega
        simp only [w, q1, q2, q3, q4, q5, cond_true, cond_false, sh6j, sh12j, l, six8, b1, b2, enc3 a d]
        exact if_pos (room1 es _ he (by simp) 1 (by omega))
    · have l := lead4_8 (x := n / 262144) (by omega)
      have q2 : decide ((n : Int) < 55296) = false := by simp; omega
      have q3 : decide (57343 < (n : Int)) = true := by simp; omega
      have q4 : decide ((n : Int) > 65535) = true := by simp; omega
      have q5 : decide ((n : Int) ≤ 65535) = false := by simp; omega
      have q6 : decide ((n : Int) ≤ 1114111) = true := by simp; omega
      simp only [w, q1, q2, q3, q4, q5, q6, cond_true, cond_false, sh6j, sh12j, sh18j, l, six8, b1, b2, b3, enc4 d h]
      exact if_pos (room1 es _ he (by simp) 1 (by omega))
theorem put42_f (D : Ora) {n : Nat} (h : n ≤ 1114111) : execFunc env D 42 [.slice .full [], .int .i64 (n : Int)] [] = some (.ret (.slice (.row 5) ((enc n).map byte)), []) := by
  rw [put42f]
  have b1 := more64 (x := n % 64) (by omega)
  have b2 := more64 (x := n / 64 % 64) (by omega)
  have b3 := more64 (x := n / 4096 % 64) (by omega)
  have s0 := six64 (n := n) (by omega)
  have s1 := six64 (n := n / 64) (by omega)
  have s2 := six64 (n := n / 4096) (by omega)
  by_cases z : n < 128
  · have q0 : decide ((n : Int) < 128) = true := by simp; omega
    have w : IntKind.wrap .u8 (n : Int) = n := by rw [wrap_u8_nat, Nat.mod_eq_of_lt (by omega)]
    simp only [w, q0, cond_true, enc1 z]
  · have q0 : decide ((n : Int) < 128) = false := by simp; omega
    by_cases a : n < 2048
    · have l := lead2_64 (x := n / 64) (by omega)
      have q1 : decide ((n : Int) < 2048) = true := by simp; omega
      simp only [q0, q1, cond_true, cond_false, sh6, l, s0, b1, enc2 z a]
    · have q1 : decide ((n : Int) < 2048) = false := by simp; omega
      by_cases d : n < 65536
      · have l := lead3_64 (x := n / 4096) (by omega)
        have q2 : decide ((n : Int) < 65536) = true := by simp; omega
        simp only [q0, q1, q2, cond_true, cond_false, sh6, sh12, l, s0, s1, b1, b2, enc3 a d]
      · have l := lead4_64 (x := n / 262144) (by omega)
        have q2 : decide ((n : Int) < 65536) = false := by simp; omega
        simp only [q0, q1, q2, cond_true, cond_false, sh6, sh12, sh18, l, s0, s1, s2, b1, b2, b3, enc4 d h]
theorem put42_r (D : Ora) {es : List (List AVal)} (he : es.length ≤ 1000000) {n : Nat} (h : n ≤ 1114111) : execFunc env D 42 [.slice (.row 5) es, .int .i64 (n : Int)] [] = some (.ret (.slice (.row 5) (es ++ (enc n).map byte)), []) := by
  rw [put42r]
  have b1 := more64 (x := n % 64) (by omega)
  have b2 := more64 (x := n / 64 % 64) (by omega)
  have b3 := more64 (x := n / 4096 % 64) (by omega)
  have s0 := six64 (n := n) (by omega)
  have s1 := six64 (n := n / 64) (by omega)
  have s2 := six64 (n := n / 4096) (by omega)
  by_cases z : n < 128
  · have q0 : decide ((n : Int) < 128) = true := by simp; omega
    have w : IntKind.wrap .u8 (n : Int) = n := by rw [wrap_u8_nat, Nat.mod_eq_of_lt (by omega)]
    simp only [w, q0, cond_true, enc1 z]
    exact if_pos (room1 es _ he (by simp) 1 (by omega))
  · have q0 : decide ((n : Int) < 128) = false := by simp; omega
    by_cases a : n < 2048
    · have l := lead2_64 (x := n / 64) (by omega)
      have q1 : decide ((n : Int) < 2048) = true := by simp; omega
      simp only [q0, q1, cond_true, cond_false, sh6, l, s0, b1, enc2 z a]
      exact if_pos (room1 es _ he (by simp) 1 (by omega))
    · have q1 : decide ((n : Int) < 2048) = false := by simp; omega
      by_cases d : n < 65536
      · have l := lead3_64 (x := n / 4096) (by omega)
        have q2 : decide ((n : Int) < 65536) = true := by simp; omega
        simp only [q0, q1, q2, cond_true, cond_false, sh6, sh12, l, s0, s1, b1, b2, enc3 a d]
        exact if_pos (room1 es _ he (by simp) 1 (by omega))
      · have l := lead4_64 (x := n / 262144) (by omega)
        have q2 : decide ((n : Int) < 65536) = false := by simp; omega
        simp only [q0, q1, q2, cond_true, cond_false, sh6, sh12, sh18, l, s0, s1, s2, b1, b2, b3, enc4 d h]
        exact if_pos (room1 es _ he (by simp) 1 (by omega))
theorem encL_n (n : Nat) : encL (n : Int) = (enc n).map byte := by simp [encL]
theorem enc_room (n : Nat) : ((enc n).map byte).length ≤ 1000 := by rw [List.length_map]; have := (enc_len n).2; omega
theorem put48_f (k : Nat) {n : Nat} (h : n ≤ 1114111) (hh : isHalf n = false) : execFunc env (denL env N59 noLoops (Nat.succ k)) 48 [.slice .full [], .int .i32 (n : Int)] [] = some (.ret (.slice (.row 5) ((enc n).map byte)), []) := by
  rw [put48f, wrap_u32_nat, Nat.mod_eq_of_lt (by omega)]
  by_cases z : n < 128
  · have q : decide ((n : Int) ≤ 127) = true := by simp; omega
    rw [q, cond_true, wrap_u8_nat, Nat.mod_eq_of_lt (by omega), enc1 z]
  · have q : decide ((n : Int) ≤ 127) = false := by simp; omega
    have q2 : (isCp (n : Int) && !isHalf (Int.toNat (n : Int)) && decide (128 ≤ (n : Int))) = true := by rw [Int.toNat_natCast, hh]; simp [isCp]; omega
    rw [q, q2, cond_false, cond_true, encL_n]
theorem put48_r (k : Nat) {es : List (List AVal)} (he : es.length ≤ 1000000) {n : Nat} (h : n ≤ 1114111) (hh : isHalf n = false) : execFunc env (denL env N59 noLoops (Nat.succ k)) 48 [.slice (.row 5) es, .int .i32 (n : Int)] [] = some (.ret (.slice (.row 5) (es ++ (enc n).map byte)), []) := by
  rw [put48r, wrap_u32_nat, Nat.mod_eq_of_lt (by omega)]
  by_cases z : n < 128
  · have q : decide ((n : Int) ≤ 127) = true := by simp; omega
    have r := room1 es [[AVal.int IntKind.u8 (n : Int)]] he (by simp) 1 (by omega)
    rw [q, cond_true, wrap_u8_nat, Nat.mod_eq_of_lt (by omega), enc1 z]
    show (if (decide (1 ≠ 0) && roomOk (es.length + [[AVal.int IntKind.u8 (n : Int)]].length) 1) = true then _ else _) = _
    rw [if_pos r]; rfl
  · have q : decide ((n : Int) ≤ 127) = false := by simp; omega
    have q2 : (isCp (n : Int) && !isHalf (Int.toNat (n : Int)) && decide (128 ≤ (n : Int)) && decide (es.length ≤ 1000000)) = true := by rw [Int.toNat_natCast, hh]; simp [isCp]; omega
    rw [q, q2, cond_false, cond_true, encL_n]; rfl
theorem half_enc {n : Nat} (h : 55296 ≤ n) (h2 : n < 57344) : (enc n).map byte = [[.int .u8 237], [.int .u8 ((128 + n / 64 % 64 : Nat) : Int)], [.int .u8 ((128 + n % 64 : Nat) : Int)]] := by
  rw [enc3 (by omega) (by omega), show 224 + n / 4096 = 237 by omega]; rfl
theorem put37_f (k : Nat) {n : Nat} (h : n ≤ 1114111) : execFunc env (denL env N48 noLoops (Nat.succ k)) 37 [.slice .full [], .int .i64 (n : Int)] [] = some (.ret (.slice (.row 5) ((enc n).map byte)), []) := by
  rw [put37f]
  have w : IntKind.wrap .i32 (n : Int) = n := wrap_i32_nat (by omega)
  by_cases p : 55296 ≤ n
  · have q : decide ((n : Int) ≥ 55296) = true := by simp; omega
    by_cases p2 : n < 57344
    · have q2 : decide ((n : Int) < 57344) = true := by simp; omega
      simp only [q, q2, cond_true, sh6, six64 (n := n) (by omega), six64 (n := n / 64) (by omega), more64' (x := n % 64) (by omega), more64' (x := n / 64 % 64) (by omega), half_enc p p2]
    · have q2 : decide ((n : Int) < 57344) = false := by simp; omega
      have q3 : (isCp (n : Int) && !isHalf (Int.toNat (n : Int))) = true := by rw [Int.toNat_natCast]; simp [isCp, isHalf]; omega
      simp only [q, q2, cond_true, cond_false, w, q3, encL_n]
  · have q : decide ((n : Int) ≥ 55296) = false := by simp; omega
    have q3 : (isCp (n : Int) && !isHalf (Int.toNat (n : Int))) = true := by rw [Int.toNat_natCast]; simp [isCp, isHalf]; omega
    simp only [q, cond_true, cond_false, w, q3, encL_n]
theorem put37_r (k : Nat) {es : List (List AVal)} (he : es.length ≤ 1000000) {n : Nat} (h : n ≤ 1114111) : execFunc env (denL env N48 noLoops (Nat.succ k)) 37 [.slice (.row 5) es, .int .i64 (n : Int)] [] = some (.ret (.slice (.row 5) (es ++ (enc n).map byte)), []) := by
  rw [put37r]
  have w : IntKind.wrap .i32 (n : Int) = n := wrap_i32_nat (by omega)
  by_cases p : 55296 ≤ n
  · have q : decide ((n : Int) ≥ 55296) = true := by simp; omega
    by_cases p2 : n < 57344
    · have q2 : decide ((n : Int) < 57344) = true := by simp; omega
      simp only [q, q2, cond_true, sh6, six64 (n := n) (by omega), six64 (n := n / 64) (by omega), more64' (x := n % 64) (by omega), more64' (x := n / 64 % 64) (by omega), half_enc p p2]
      exact if_pos (room1 es _ he (by simp) 1 (by omega))
    · have q2 : decide ((n : Int) < 57344) = false := by simp; omega
      have q3 : (isCp (n : Int) && !isHalf (Int.toNat (n : Int)) && decide (es.length ≤ 1000000)) = true := by rw [Int.toNat_natCast]; simp [isCp, isHalf]; omega
      simp only [q, q2, cond_true, cond_false, w, q3, encL_n, List.append_eq]
  · have q : decide ((n : Int) ≥ 55296) = false := by simp; omega
    have q3 : (isCp (n : Int) && !isHalf (Int.toNat (n : Int)) && decide (es.length ≤ 1000000)) = true := by rw [Int.toNat_natCast]; simp [isCp, isHalf]; omega
    simp only [q, cond_true, cond_false, w, q3, encL_n, List.append_eq]

/-- a writer of code points, out of what it does to a row that is not yet there, and to one that is -/
theorem put_nat {B : Nat} {f : Nat} {k : IntKind} {g : Nat1} {t : Int → Bool} (hg : ∀ args m, g args m = (match args with
    | [.slice own es, .int k' c] => (if k' = k then onRow own es (encL c) (t c) m else none)
    | _ => none))
    (ht : ∀ c, t c = true → isCp c = true)
    (h0 : ∀ n : Nat, t (n : Int) = true → CallOk env Tryd.prog B f [.slice .full [], .int k (n : Int)] [] (.ret (.slice (.row 5) ((enc n).map byte))) [])
    (h1 : ∀ (es : List (List AVal)) (n : Nat), es.length ≤ 1000000 → t (n : Int) = true → CallOk env Tryd.prog B f [.slice (.row 5) es, .int k (n : Int)] [] (.ret (.slice (.row 5) (es ++ (enc n).map byte))) []) : NatOk env Tryd.prog B f g := by
  intro args m out m' h
  rw [hg] at h
  split at h
  case h_2 => cases h
  case h_1 own es k' c =>
  split at h
  case isFalse => cases h
  case isTrue hk =>
  subst hk
  have key : ∀ {own : Own} {es : List (List AVal)}, flat (.slice own es) = true := fun {own es} => by cases own <;> rfl
  have fl : ∀ {own : Own} {es : List (List AVal)} {k : IntKind} {c : Int}, ∀ v ∈ [AVal.slice own es, .int k c], flat v = true := by
    intro own es k c v hv
    simp only [List.mem_cons, List.not_mem_nil, or_false] at hv
    rcases hv with rfl | rfl
    · exact key
    · rfl
  unfold onRow at h
  split at h
  · split at h
    · injection h with h
      simp only [Prod.mk.injEq] at h
      obtain ⟨hb, rfl, rfl⟩ := h
      have hc := ht c hb
      simp only [isCp, Bool.and_eq_true, decide_eq_true_eq] at hc
      obtain ⟨n, rfl⟩ := Int.eq_ofNat_of_zero_le hc.1
      rw [encL_n]
      exact call_frame fl key (h0 n hb)
    · cases h
  · split at h
    · rename_i e he
      obtain rfl := Nat.eq_of_beq_eq_true he
      injection h with h
      simp only [Prod.mk.injEq, Bool.and_eq_true, decide_eq_true_eq] at h
      obtain ⟨⟨hb, hl⟩, rfl, rfl⟩ := h
      have hc := ht c hb
      simp only [isCp, Bool.and_eq_true, decide_eq_true_eq] at hc
      obtain ⟨n, rfl⟩ := Int.eq_ofNat_of_zero_le hc.1
      rw [encL_n]
      exact call_frame fl key (h1 es n hl hb)
    · cases h
  · cases h
theorem put59_ok (B : Nat) : NatOk env Tryd.prog B 59 putG59 := by
  refine put_nat (k := .i32) (t := fun c => isCp c && !isHalf c.toNat && decide (128 ≤ c)) (fun args m => ?_) (fun c h => by simp only [Bool.and_eq_true] at h; exact h.1.1) (fun n h => ?_) (fun es n he h => ?_)
  · unfold putG59
    split
    · simp
    · rename_i hne; split
      · rename_i own es k' c; split
        · rename_i hk; subst hk; exact absurd rfl (hne own es c)
        · rfl
      · rfl
  · simp only [isCp, Bool.and_eq_true, decide_eq_true_eq, Int.toNat_natCast, Bool.not_eq_true'] at h
    exact call_of_tree setting (nodfr B) noNats_ok noLoops_ok 0 (put59_f _ (by omega) (by omega) h.1.2)
  · simp only [isCp, Bool.and_eq_true, decide_eq_true_eq, Int.toNat_natCast, Bool.not_eq_true'] at h
    exact call_of_tree setting (nodfr B) noNats_ok noLoops_ok 0 (put59_r _ he (by omega) (by omega) h.1.2)
theorem put48_ok (B : Nat) : NatOk env Tryd.prog B 48 putG32 := by
  refine put_nat (k := .i32) (t := fun c => isCp c && !isHalf c.toNat) (fun args m => ?_) (fun c h => by simp only [Bool.and_eq_true] at h; exact h.1) (fun n h => ?_) (fun es n he h => ?_)
  · unfold putG32
    split
    · simp
    · rename_i hne; split
      · rename_i own es k' c; split
        · rename_i hk; subst hk; exact absurd rfl (hne own es c)
        · rfl
      · rfl
  · simp only [isCp, Bool.and_eq_true, decide_eq_true_eq, Int.toNat_natCast, Bool.not_eq_true'] at h
    exact call_of_tree setting (nodfr B) (addN_ok (put59_ok B) noNats_ok) noLoops_ok 1 (put48_f _ (by omega) h.2)
  · simp only [isCp, Bool.and_eq_true, decide_eq_true_eq, Int.toNat_natCast, Bool.not_eq_true'] at h
    exact call_of_tree setting (nodfr B) (addN_ok (put59_ok B) noNats_ok) noLoops_ok 1 (put48_r _ he (by omega) h.2)
theorem put37_ok (B : Nat) : NatOk env Tryd.prog B 37 putG := by
  refine put_nat (k := .i64) (t := isCp) (fun args m => ?_) (fun c h => h) (fun n h => ?_) (fun es n he h => ?_)
  · unfold putG
    split
    · simp
    · rename_i hne; split
      · rename_i own es k' c; split
        · rename_i hk; subst hk; exact absurd rfl (hne own es c)
        · rfl
      · rfl
  · simp only [isCp, Bool.and_eq_true, decide_eq_true_eq] at h
    exact call_of_tree setting (nodfr B) (addN_ok (put48_ok B) noNats_ok) noLoops_ok 1 (put37_f _ (by omega))
  · simp only [isCp, Bool.and_eq_true, decide_eq_true_eq] at h
    exact call_of_tree setting (nodfr B) (addN_ok (put48_ok B) noNats_ok) noLoops_ok 1 (put37_r _ he (by omega))
theorem put42_ok (B : Nat) : NatOk env Tryd.prog B 42 putG := by
  refine put_nat (k := .i64) (t := isCp) (fun args m => ?_) (fun c h => h) (fun n h => ?_) (fun es n he h => ?_)
  · unfold putG
    split
    · simp
    · rename_i hne; split
      · rename_i own es k' c; split
        · rename_i hk; subst hk; exact absurd rfl (hne own es c)
        · rfl
      · rfl
  · simp only [isCp, Bool.and_eq_true, decide_eq_true_eq] at h
    exact call_of_tree setting (nodfr B) noNats_ok noLoops_ok 0 (put42_f _ (by omega))
  · simp only [isCp, Bool.and_eq_true, decide_eq_true_eq] at h
    exact call_of_tree setting (nodfr B) noNats_ok noLoops_ok 0 (put42_r _ he (by omega))
end Go.Proofs.YtlklpdifcpjlpaaDoor.U
