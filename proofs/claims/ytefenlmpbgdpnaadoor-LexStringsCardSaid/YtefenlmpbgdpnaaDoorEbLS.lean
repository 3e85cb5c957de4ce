/- LexStrings answers true. -/
import Derived.Test.YtefenlmpbgdpnaaDoorEbLZ
namespace Go.Proofs.YtefenlmpbgdpnaaDoor.L
open Go.Abs Go.Uni Go.Plain Go.Deci
open Go.Lib (itoa decDigits)
set_option maxRecDepth 100000
set_option maxHeartbeats 1000000
set_option linter.unusedVariables false
set_option linter.unusedSimpArgs false
theorem hx_range0' : ∀ a < 16, 48 ≤ (hx a).toNat ∧ (hx a).toNat ≤ 102 := by decide
theorem hx_range' {a : Nat} (h : a < 16) : 48 ≤ (hx a).toNat ∧ (hx a).toNat ≤ 102 := hx_range0' a h
theorem qu_range' (x : Nat) : ∀ c ∈ qu x, 32 ≤ c.toNat ∧ c.toNat ≤ 126 := by
  intro c hc
  unfold qu at hc
  split at hc
  · simp only [List.mem_singleton] at hc
    subst hc; simp; omega
  · simp only [escU, List.mem_cons, List.not_mem_nil, or_false] at hc
    have h1 := hx_range' (Nat.mod_lt (x / 4096) (show 16 > 0 by omega))
    have h2 := hx_range' (Nat.mod_lt (x / 256) (show 16 > 0 by omega))
    have h3 := hx_range' (Nat.mod_lt (x / 16) (show 16 > 0 by omega))
    have h4 := hx_range' (Nat.mod_lt x (show 16 > 0 by omega))
    rcases hc with rfl | rfl | rfl | rfl | rfl | rfl
    · decide
    · decide
    · omega
    · omega
    · omega
    · omega
theorem quote_range' (u : List Nat) : ∀ c ∈ quote u, 32 ≤ c.toNat ∧ c.toNat ≤ 126 := by
  intro c hc
  simp only [quote, List.mem_cons, List.mem_append, List.mem_flatMap, List.not_mem_nil, or_false] at hc
  rcases hc with rfl | ⟨x, _, hx⟩ | rfl
  · decide
  · exact qu_range' x c hx
  · decide
theorem enc1_0 : ∀ k : Fin 128, (Utf8.encode ((k.val : Nat) : Int)).data.toList = [UInt8.ofNat k.val] := by decide +kernel
theorem enc1 {c : UInt8} (h : c.toNat < 128) : (Utf8.encode ((c.toNat : Nat) : Int)).data.toList = [c] := by
  have := enc1_0 ⟨c.toNat, h⟩
  simpa using this
theorem unit1_0 : ∀ k : Fin 128, unitsOf [UInt8.ofNat k.val] = [k.val] := by decide +kernel
theorem unit1 {c : UInt8} (h : c.toNat < 128) : unitsOf [c] = [c.toNat] := by
  have := unit1_0 ⟨c.toNat, h⟩
  simpa using this
theorem of1 {c : UInt8} (h : c.toNat < 128) {n : Nat} (hn : 2000000 < n) : units_Of n (Array.toList (Utf8.encode ((c.toNat : Nat) : Int)).data) = some [unit c.toNat] := by
  rw [enc1 h, of_eq (by simp) hn, unit1 h]; rfl
theorem runeLen0 : ∀ k : Fin 128, utf8_RuneLen ((k.val : Nat) : Int) = some 1 := by decide +kernel
theorem runeLen1 {c : UInt8} (h : c.toNat < 128) : utf8_RuneLen ((c.toNat : Nat) : Int) = some 1 := runeLen0 ⟨c.toNat, h⟩
theorem hexIn0 : ∀ k : Fin 16, byteIn [48, 49, 50, 51, 52, 53, 54, 55, 56, 57, 97, 98, 99, 100, 101, 102] (((hx k.val).toNat : Nat) : Int) = (k.val : Int) := by decide +kernel
theorem hexIn {k : Nat} (h : k < 16) : byteIn [48, 49, 50, 51, 52, 53, 54, 55, 56, 57, 97, 98, 99, 100, 101, 102] (((hx k).toNat : Nat) : Int) = (k : Int) := hexIn0 ⟨k, h⟩
theorem lowHex0 : ∀ k : Fin 16, Lib.lowerB (hx k.val) = hx k.val := by decide +kernel
theorem lowHex {a b c d : Nat} (ha : a < 16) (hb : b < 16) (hc : c < 16) (hd : d < 16) : lowerS [hx a, hx b, hx c, hx d] = [hx a, hx b, hx c, hx d] := by
  unfold lowerS
  rw [Lib.toLowerD_ascii _ (fun x hm => by
    have h1 := hx_range' ha
    have h2 := hx_range' hb
    have h3 := hx_range' hc
    have h4 := hx_range' hd
    simp only [List.mem_cons, List.not_mem_nil, or_false] at hm
    rcases hm with rfl | rfl | rfl | rfl <;> omega)]
  show [Lib.lowerB (hx a), Lib.lowerB (hx b), Lib.lowerB (hx c), Lib.lowerB (hx d)] = _
  rw [lowHex0 ⟨a, ha⟩, lowHex0 ⟨b, hb⟩, lowHex0 ⟨c, hc⟩, lowHex0 ⟨d, hd⟩]
theorem esc_round (n : Nat) (v1 v4 v5 : Int) {l : List UInt8} (hl : l.length ≤ 100) {i k : Nat} (hi : i < l.length) (hk : l[i] = hx k) (hk16 : k < 16) (j acc : Nat) (ha : acc < 65536) :
    lex_escape.l0 n v1 v4 v5 (l.map byte) (l.length : Int) (j + 1) (acc : Int) (i : Int) = lex_escape.l0 n v1 v4 v5 (l.map byte) (l.length : Int) j ((16 * acc + k : Nat) : Int) ((i + 1 : Nat) : Int) := by
  have hn := nth_map byte l i hi
  have hb : byteIn [48, 49, 50, 51, 52, 53, 54, 55, 56, 57, 97, 98, 99, 100, 101, 102] (((l[i]).toNat : Nat) : Int) = (k : Int) := by rw [hk]; exact hexIn hk16
  have e : IntKind.wrap .i64 (IntKind.wrap .i64 (16 * (acc : Int)) + (k : Int)) = ((16 * acc + k : Nat) : Int) := by
    rw [w64 (x := 16 * (acc : Int)) (by omega), w64 (by omega)]; rfl
  rw [lex_escape.l0.succ, lex_escape.l0.s, dec_t (by omega)]
  simp only [cond_true]
  rw [if_pos (by simp only [List.length_map]; omega)]
  simp only [Int.toNat_natCast, hn, byte, List.length_cons, List.length_nil, cell_one, isI_int, getI_int, ibyte, optK_some, hb]
  rw [dec_f (by omega), e, w64 (x := (i : Int) + 1) (by omega)]
  rfl
theorem esc_loop (n : Nat) (v1 v4 v5 : Int) {a b c d : Nat} (ha : a < 16) (hb : b < 16) (hc : c < 16) (hd : d < 16) (hn : 10 < n) :
    lex_escape.l0 n v1 v4 v5 ([hx a, hx b, hx c, hx d].map byte) 4 n 0 0 = some (.inr (((16 * (16 * (16 * a + b) + c) + d : Nat) : Int), 4)) := by
  obtain ⟨j, rfl⟩ : ∃ k, n = k + 5 := ⟨n - 5, by omega⟩
  have h0 := esc_round (j + 5) v1 v4 v5 (l := [hx a, hx b, hx c, hx d]) (by simp) (i := 0) (k := a) (by simp) rfl ha (j + 4) 0 (by omega)
  have h1 := esc_round (j + 5) v1 v4 v5 (l := [hx a, hx b, hx c, hx d]) (by simp) (i := 1) (k := b) (by simp) rfl hb (j + 3) (16 * 0 + a) (by omega)
  have h2 := esc_round (j + 5) v1 v4 v5 (l := [hx a, hx b, hx c, hx d]) (by simp) (i := 2) (k := c) (by simp) rfl hc (j + 2) (16 * (16 * 0 + a) + b) (by omega)
  have h3 := esc_round (j + 5) v1 v4 v5 (l := [hx a, hx b, hx c, hx d]) (by simp) (i := 3) (k := d) (by simp) rfl hd (j + 1) (16 * (16 * (16 * 0 + a) + b) + c) (by omega)
  have e4 : (([hx a, hx b, hx c, hx d] : List UInt8).length : Int) = 4 := rfl
  rw [e4] at h0 h1 h2 h3
  refine h0.trans (h1.trans (h2.trans (h3.trans ?_)))
  rw [lex_escape.l0.succ, lex_escape.l0.s, dec_f (by omega)]
  simp only [cond_false]
  congr 3
  omega
theorem escape_eq {s : List UInt8} (hl : s.length ≤ 65536) {p x : Nat} {r : List UInt8} (hx : x < 65536) (hd : s.drop p = escU x ++ r) {n : Nat} (hn : 2000000 < n) : lex_escape n s (p : Int) = some (.inl ((x : Int), 6)) := by
  have hp : p ≤ s.length := by
    rcases Nat.lt_or_ge s.length p with h | h
    · rw [List.drop_eq_nil_of_le (by omega)] at hd
      simp [escU] at hd
    · exact h
  have b0 : byteAt (escU x ++ r) 0 = 92 := rfl
  have b1 : byteAt (escU x ++ r) 1 = 117 := rfl
  have i1 : byteIn [110, 116, 92, 34, 39] 117 = -1 := by decide +kernel
  have hlen : (escU x ++ r).length = 6 + r.length := by simp [escU]; omega
  have hcut : List.drop 2 (List.take 6 (escU x ++ r)) = [Go.Proofs.YtefenlmpbgdpnaaDoor.L.hx (x / 4096 % 16), Go.Proofs.YtefenlmpbgdpnaaDoor.L.hx (x / 256 % 16), Go.Proofs.YtefenlmpbgdpnaaDoor.L.hx (x / 16 % 16), Go.Proofs.YtefenlmpbgdpnaaDoor.L.hx (x % 16)] := rfl
  have m1 : x / 4096 % 16 < 16 := Nat.mod_lt _ (by omega)
  have m2 : x / 256 % 16 < 16 := Nat.mod_lt _ (by omega)
  have m3 : x / 16 % 16 < 16 := Nat.mod_lt _ (by omega)
  have m4 : x % 16 < 16 := Nat.mod_lt _ (by omega)
  unfold lex_escape lex_escape.k
  simp only [take_all, Int.toNat_natCast, hd]
  rw [if_pos (by omega), dec_t (by omega)]
  simp only [cond_true]
  rw [if_pos (by omega)]
  simp only [b1, ibyte, optK_some, i1]
  rw [dec_f (by omega)]
  simp only [cond_false]
  rw [dec_f (by omega)]
  simp only [cond_false]
  rw [bne_f rfl]
  simp only [cond_false]
  rw [if_pos (by omega), if_pos (by omega), hcut, dec_t (by simp)]
  simp only [cond_true, lowHex m1 m2 m3 m4]
  rw [if_pos (decide_eq_true (by simp))]
  have hloop := esc_loop n (p : Int) 0 0 m1 m2 m3 m4 (by omega)
  have em : List.map (fun b : UInt8 => [AVal.int IntKind.u8 ((UInt8.toNat b : Nat) : Int)]) [Go.Proofs.YtefenlmpbgdpnaaDoor.L.hx (x / 4096 % 16), Go.Proofs.YtefenlmpbgdpnaaDoor.L.hx (x / 256 % 16), Go.Proofs.YtefenlmpbgdpnaaDoor.L.hx (x / 16 % 16), Go.Proofs.YtefenlmpbgdpnaaDoor.L.hx (x % 16)] = [Go.Proofs.YtefenlmpbgdpnaaDoor.L.hx (x / 4096 % 16), Go.Proofs.YtefenlmpbgdpnaaDoor.L.hx (x / 256 % 16), Go.Proofs.YtefenlmpbgdpnaaDoor.L.hx (x / 16 % 16), Go.Proofs.YtefenlmpbgdpnaaDoor.L.hx (x % 16)].map byte := rfl
  have el : (([Go.Proofs.YtefenlmpbgdpnaaDoor.L.hx (x / 4096 % 16), Go.Proofs.YtefenlmpbgdpnaaDoor.L.hx (x / 256 % 16), Go.Proofs.YtefenlmpbgdpnaaDoor.L.hx (x / 16 % 16), Go.Proofs.YtefenlmpbgdpnaaDoor.L.hx (x % 16)].map byte).length : Int) = 4 := rfl
  rw [em, el, hloop, optK_some]
  simp only [sumK]
  rw [show 16 * (16 * (16 * (x / 4096 % 16) + x / 256 % 16) + x / 16 % 16) + x % 16 = x by omega, wu16 (by omega)]
theorem text_skip {t : List UInt8} (n : Nat) (q : Int) (s : List UInt8) (at_ : Int) (out : List (List AVal)) (u : List (List AVal)) {p k j : Nat} {c : UInt8} {r : List UInt8} (hd : t.drop p = c :: r) (hc : c.toNat < 128) (hk : k < 100) :
    lex_text.l0 n q t s at_ out (j + 1) u ((k + 1 : Nat) : Int) p = lex_text.l0 n q t s at_ out j u (k : Int) (p + 1) := by
  obtain ⟨_, hp, _⟩ := byteAt_drop hd
  have e : Utf8.decode ⟨t.toArray⟩ p = (c.toNat, 1) := by rw [decode_eq t p hp, hd, dec_ascii hc]
  rw [lex_text.l0.succ, lex_text.l0.s, if_pos hp, dec_t (by omega)]
  simp only [cond_true, e, runeLen1 hc, optK_some]
  rw [show IntKind.wrap .i64 (((k + 1 : Nat) : Int) - 1) = (k : Int) by rw [w64 (by omega)]; omega]
theorem room2 {n : Nat} (h : n ≤ 1000000) : (true && roomOk n 2) = true := by rw [Bool.true_and]; exact room_t (by omega) (by omega)
theorem text_char {t : List UInt8} {n : Nat} (hn : 2000000 < n) (s : List UInt8) (at_ : Int) (out : List (List AVal)) {o : List Nat} (ho : o.length < 10000) {p j : Nat} {c : UInt8} {r : List UInt8} (hd : t.drop p = c :: r) (hc : c.toNat < 128) (h1 : c.toNat ≠ 34) (h2 : c.toNat ≠ 10) (h3 : c.toNat ≠ 13) (h4 : c.toNat ≠ 92) :
    lex_text.l0 n 34 t s at_ out (j + 1) (o.map unit) 0 p = lex_text.l0 n 34 t s at_ out j ((o ++ [c.toNat]).map unit) 0 (p + 1) := by
  obtain ⟨_, hp, _⟩ := byteAt_drop hd
  have e : Utf8.decode ⟨t.toArray⟩ p = (c.toNat, 1) := by rw [decode_eq t p hp, hd, dec_ascii hc]
  rw [lex_text.l0.succ, lex_text.l0.s, if_pos hp, dec_f (by omega)]
  simp only [cond_false, e]
  rw [beq_f (by omega)]
  simp only [cond_false]
  rw [beq_f (by omega)]
  simp only [cond_false]
  rw [beq_f (by omega)]
  simp only [cond_false]
  rw [beq_f (by omega)]
  simp only [cond_false]
  rw [of1 hc hn, optK_some, if_pos (show uni 1 [unit c.toNat] = true from rfl), if_pos (room2 (by simp; omega)), dec_f (by simp; omega)]
  simp only [cond_false]
  have ea : List.append (o.map unit) [unit c.toNat] = (o ++ [c.toNat]).map unit := by rw [List.map_append]; rfl
  rw [ea]
theorem text_esc {t s : List UInt8} (hl : s.length ≤ 65536) (hs : s.drop 1 = t) {n : Nat} (hn : 2000000 < n) (out : List (List AVal)) {o : List Nat} (ho : o.length < 10000) {p j x : Nat} (hx : x < 65536) {r : List UInt8} (hd : t.drop p = escU x ++ r) :
    lex_text.l0 n 34 t s 0 out (j + 6) (o.map unit) 0 p = lex_text.l0 n 34 t s 0 out j ((o ++ [x]).map unit) 0 (p + 6) := by
  have hd0 : t.drop p = 92 :: ([117, Go.Proofs.YtefenlmpbgdpnaaDoor.L.hx (x / 4096 % 16), Go.Proofs.YtefenlmpbgdpnaaDoor.L.hx (x / 256 % 16), Go.Proofs.YtefenlmpbgdpnaaDoor.L.hx (x / 16 % 16), Go.Proofs.YtefenlmpbgdpnaaDoor.L.hx (x % 16)] ++ r) := hd
  obtain ⟨_, hp, d1⟩ := byteAt_drop hd0
  obtain ⟨_, _, d2⟩ := byteAt_drop d1
  obtain ⟨_, _, d3⟩ := byteAt_drop d2
  obtain ⟨_, _, d4⟩ := byteAt_drop d3
  obtain ⟨_, _, d5⟩ := byteAt_drop d4
  have r1 := hx_range' (Nat.mod_lt (x / 4096) (show 16 > 0 by omega))
  have r2 := hx_range' (Nat.mod_lt (x / 256) (show 16 > 0 by omega))
  have r3 := hx_range' (Nat.mod_lt (x / 16) (show 16 > 0 by omega))
  have r4 := hx_range' (Nat.mod_lt x (show 16 > 0 by omega))
  have e : Utf8.decode ⟨t.toArray⟩ p = (92, 1) := by rw [decode_eq t p hp, hd0, dec_ascii (by decide)]; rfl
  have hpl : p < 65536 := by
    have : t.length = s.length - 1 := by rw [← hs]; simp
    omega
  have hesc : lex_escape n s (((p + 1 : Nat) : Nat) : Int) = some (.inl ((x : Int), 6)) := escape_eq hl hx (by rw [← hd, ← hs, List.drop_drop, Nat.add_comm]) hn
  have hw : IntKind.wrap .i64 (IntKind.wrap .i64 (0 + 1) + (p : Int)) = (((p + 1 : Nat) : Nat) : Int) := by
    rw [w64 (x := 0 + 1) (by omega), w64 (by omega)]; omega
  have ea : List.append (o.map unit) [[AVal.int IntKind.u16 (x : Int)]] = (o ++ [x]).map unit := by rw [List.map_append]; rfl
  rw [lex_text.l0.succ, lex_text.l0.s, if_pos hp, dec_f (by omega)]
  simp only [cond_false, e]
  rw [beq_f (by decide)]
  simp only [cond_false]
  rw [beq_f (by decide)]
  simp only [cond_false]
  rw [beq_f (by decide)]
  simp only [cond_false]
  rw [beq_t (show ((92 : Nat) : Int) = 92 from rfl)]
  simp only [cond_true]
  rw [hw, hesc, optK_some]
  simp only [sumK]
  rw [if_pos (room2 (by simp; omega)), ea, dec_f (by simp; omega)]
  simp only [cond_false]
  rw [show IntKind.wrap .i64 (6 - 1) = ((4 + 1 : Nat) : Int) from rfl]
  refine (text_skip n 34 s 0 out _ d1 (by decide) (by omega)).trans ?_
  refine (text_skip n 34 s 0 out _ (k := 3) d2 (by omega) (by omega)).trans ?_
  refine (text_skip n 34 s 0 out _ (k := 2) d3 (by omega) (by omega)).trans ?_
  refine (text_skip n 34 s 0 out _ (k := 1) d4 (by omega) (by omega)).trans ?_
  exact text_skip n 34 s 0 out _ (k := 0) d5 (by omega) (by omega)
theorem text_run {t s : List UInt8} (hl : s.length ≤ 65536) (hs : s.drop 1 = t) {n : Nat} (hn : 2000000 < n) : ∀ (l : List Nat) (o : List Nat) (p j : Nat), (∀ x ∈ o ++ l, x < 65536) → t.drop p = l.flatMap qu ++ [34] → o.length + l.length ≤ 9000 → 6 * l.length < j →
    ∃ a b c, lex_text.l0 n 34 t s 0 [] j (o.map unit) 0 p = some (.inl (a, b, c, (s.length : Int), [tok 4 0 0 (textOf (o ++ l))])) := by
  intro l
  induction l with
  | nil =>
    intro o p j hu hd hol hj
    obtain ⟨j, rfl⟩ : ∃ k, j = k + 1 := ⟨j - 1, by omega⟩
    have hd0 : t.drop p = 34 :: [] := hd
    obtain ⟨_, hp, hd1⟩ := byteAt_drop hd0
    have e : Utf8.decode ⟨t.toArray⟩ p = (34, 1) := by rw [decode_eq t p hp, hd0, dec_ascii (by decide)]; rfl
    have hlen : p + 1 = t.length := by
      have := congrArg List.length hd0
      simp at this
      omega
    have hst : t.length + 1 = s.length := by
      have : t.length = s.length - 1 := by rw [← hs]; simp
      omega
    refine ⟨o.map unit, 0, p + 1, ?_⟩
    rw [lex_text.l0.succ, lex_text.l0.s, if_pos hp, dec_f (by omega)]
    simp only [cond_false, e]
    rw [beq_t (show ((34 : Nat) : Int) = 34 from rfl)]
    simp only [cond_true]
    rw [List.append_nil, text_eq (fun x hx => hu x (by simpa using hx)) (by omega) hn, optK_some]
    have hw : IntKind.wrap .i64 (IntKind.wrap .i64 (IntKind.wrap .i64 (0 + 1) + (p : Int)) + 1) = (s.length : Int) := by
      rw [w64 (x := 0 + 1) (by omega), w64 (x := 0 + 1 + (p : Int)) (by omega), w64 (by omega)]; omega
    rw [hw, put_some _ _ _ _ _ _ _ (by simp), optK_some]
    rfl
  | cons x l ih =>
    intro o p j hu hd hol hj
    simp only [List.length_cons] at hol hj
    have hx : x < 65536 := hu x (by simp)
    rw [List.flatMap_cons, List.append_assoc] at hd
    have hu' : ∀ y ∈ (o ++ [x]) ++ l, y < 65536 := fun y hy => hu y (by simpa using hy)
    have ho' : (o ++ [x]).length + l.length ≤ 9000 := by simp; omega
    have ea : o ++ x :: l = (o ++ [x]) ++ l := by simp
    rw [ea]
    by_cases hq : 32 ≤ x ∧ x ≤ 126 ∧ x ≠ 34 ∧ x ≠ 92
    · have e1 : qu x = [UInt8.ofNat x] := by unfold qu; rw [if_pos hq]
      rw [e1] at hd
      have hd0 : t.drop p = UInt8.ofNat x :: (l.flatMap qu ++ [34]) := hd
      have hxn : (UInt8.ofNat x).toNat = x := by simp; omega
      obtain ⟨j, rfl⟩ : ∃ k, j = k + 1 := ⟨j - 1, by omega⟩
      obtain ⟨_, _, hd1⟩ := byteAt_drop hd0
      obtain ⟨a, b, c, h⟩ := ih (o ++ [x]) (p + 1) j hu' hd1 ho' (by omega)
      refine ⟨a, b, c, ?_⟩
      rw [text_char hn s 0 [] (by omega) hd0 (by omega) (by omega) (by omega) (by omega) (by omega), hxn]
      exact h
    · have e1 : qu x = escU x := by unfold qu; rw [if_neg hq]
      rw [e1] at hd
      obtain ⟨j, rfl⟩ : ∃ k, j = k + 6 := ⟨j - 6, by omega⟩
      have hd6 : t.drop (p + 6) = l.flatMap qu ++ [34] := by
        rw [← List.drop_drop, hd]; rfl
      obtain ⟨a, b, c, h⟩ := ih (o ++ [x]) (p + 6) j hu' hd6 ho' (by omega)
      refine ⟨a, b, c, ?_⟩
      rw [text_esc hl hs hn [] (by omega) hx hd]
      exact h
theorem quote_text {u : List Nat} (hu : ∀ x ∈ u, x < 65536) (hl : u.length ≤ 9000) {n : Nat} (hn : 2000000 < n) : lex_text n (quote u) 0 [] = some (.inl (((quote u).length : Int), [tok 4 0 0 (textOf u)])) := by
  have hq := qus_len u
  have hlen : (quote u).length = (u.flatMap qu).length + 2 := by simp [quote]
  have h65 : (quote u).length ≤ 65536 := by omega
  have hs : (quote u).drop 1 = u.flatMap qu ++ [34] := rfl
  obtain ⟨a, b, c, h⟩ := text_run (s := quote u) h65 hs hn u [] 0 n (by simpa using hu) (by rw [List.drop_zero]) (by simpa using hl) (by omega)
  have hb : byteAt (quote u) 0 = 34 := rfl
  have hw : IntKind.wrap .i64 (0 + 1) = 1 := rfl
  have hw32 : IntKind.wrap .i32 34 = 34 := rfl
  unfold lex_text lex_text.k
  rw [if_pos (by omega)]
  simp only [hw, Int.toNat_zero, hb, hw32, take_all]
  rw [if_pos (by omega)]
  have h1 : List.drop (Int.toNat 1) (quote u) = u.flatMap qu ++ [34] := rfl
  rw [h1]
  have h' : lex_text.l0 n 34 (u.flatMap qu ++ [34]) (quote u) 0 [] n [] 0 0 = _ := h
  rw [h', optK_some]
  rfl
theorem LexStrings_true (s : List UInt8) : LexStrings 2000001 s = some true := by
  unfold LexStrings LexStrings.k
  rw [alive12, optK_some]
  simp only [Bool.not_true, cond_false]
  by_cases h300 : s.length ≤ 300
  · rw [dec_f (by omega)]
    simp only [cond_false]
    rw [rright_eq (by omega) (by omega), optK_some]
    cases hr : right s with
    | false => rfl
    | true =>
      simp only [Bool.not_true, cond_false]
      rw [rquote_eq (by omega) (by omega), optK_some]
      have hul := units_len s
      have hu := units_lt s
      have hq := qus_len (unitsOf s)
      have hlen : (quote (unitsOf s)).length = ((unitsOf s).flatMap qu).length + 2 := by simp [quote]
      have ha : allAscii (quote (unitsOf s)) = true := List.all_eq_true.2 fun c hc => decide_eq_true (by have := quote_range' _ c hc; omega)
      have hqs : quote (unitsOf s) = 34 :: ((unitsOf s).flatMap qu ++ [34]) := rfl
      have ht := quote_text hu (by omega) (n := 2000001) (by omega)
      rw [text_units hr] at ht
      have h1 := l1_text hqs (by omega) rfl ht (by omega)
      have h2 := tokens_one ha (by omega) hqs rfl (by decide) (n := 2000001) (by omega) h1 (fun e o h => by
        injection h with h; injection h with _ h; rw [← h]; simp)
      rw [if_pos (decide_eq_true (by omega)), map_byte, h2, optK_some]
      simp [tokR, num_eq, optK_some, tok, nthL, cellAt, tget, isI, getI, isS, getS]
      rfl
  · rw [dec_t (by omega)]
    rfl
end Go.Proofs.YtefenlmpbgdpnaaDoor.L
