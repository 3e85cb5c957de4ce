/- What values.Show computes: a text between its signs. -/
import Derived.Test.YtjlhnnphfdjmdaaDoorEAQ1
namespace Go.Proofs.YtjlhnnphfdjmdaaDoor.U
open Go.Abs Go.Uni Go.Plain L0
set_option maxRecDepth 2000000
set_option maxHeartbeats 20000000
set_option linter.unusedVariables false
set_option linter.unusedSimpArgs false
def hexl : List UInt8 := [48, 49, 50, 51, 52, 53, 54, 55, 56, 57, 97, 98, 99, 100, 101, 102]
def hx (k : Nat) : UInt8 := hexl.getD k 0
def escU (u : Nat) : List UInt8 := [92, 117, hx (u / 4096 % 16), hx (u / 256 % 16), hx (u / 16 % 16), hx (u % 16)]
def qu (u : Nat) : List UInt8 := if 32 ≤ u ∧ u ≤ 126 ∧ u ≠ 34 ∧ u ≠ 92 then [UInt8.ofNat u] else escU u
theorem hex_at {k : Nat} (h : k < 16) : byteAt (Array.toList (#[48, 49, 50, 51, 52, 53, 54, 55, 56, 57, 97, 98, 99, 100, 101, 102] : Array UInt8)) k = ((hx k).toNat : Int) := by
  rcases k with _|_|_|_|_|_|_|_|_|_|_|_|_|_|_|_|k
  all_goals first | rfl | omega
theorem qu_len (u : Nat) : (qu u).length ≤ 6 := by
  unfold qu; split <;> simp [escU]
theorem byteU_some (c : Int) (o : List UInt8) (ho : o.length ≤ 900000000) : bld_ByteU c (o.map byte) = some () := by
  unfold bld_ByteU bld_ByteU.k
  simp (disch := omega) only [ite_t, ite_f, dec_t, dec_f, beq_t, beq_f, bne_t, bne_f, nbeq_t, nbeq_f, nble_t, nble_f, cond_true, cond_false, Bool.not_true, Bool.not_false, Bool.and_true, Bool.true_and, Bool.and_self, room_t, w64, w32, wu8, wu8', wu16, wu32, fdiv_pos, and63i, and1023i, and31i, and15i, and7i, and192i, or64w, or32w, or16w, or4096w, or64r, or64b, or32b, or16b, optK_some, optK_none, toNat_ofNat, append_eq, List.length_cons, List.length_nil, List.length_append, List.length_map, reduceIte, toNat_s, cell_one, isI_u16, isI_i64, getI_n]
theorem esc_round {o : List UInt8} (ho : o.length ≤ 200000000) {u : Nat} (hu : u < 65536) (n j : Nat) {sh : Int} {p : Nat} (hp : (2 : Int) ^ min (Int.toNat sh) 64 = (p : Int)) (hsh : 0 ≤ sh ∧ sh < 100) (hp0 : 0 < p) :
    values_escaped.l0 n (u : Int) (j + 1) sh (o.map byte) = values_escaped.l0 n (u : Int) j (sh - 4) ((o ++ [hx (u / p % 16)]).map byte) := by
  rw [values_escaped.l0.succ, values_escaped.l0.s]
  have h16 : u / p % 16 < 16 := Nat.mod_lt _ (by omega)
  have hq : u / p ≤ u := Nat.div_le_self _ _
  have e1 : Int.fdiv (u : Int) (p : Int) = ((u / p : Nat) : Int) := by rw [Int.fdiv_eq_ediv_of_nonneg _ (by omega)]; rfl
  have e2 : ((u / p : Nat) : Int) % 16 = ((u / p % 16 : Nat) : Int) := by omega
  rw [hp, e1, List.map_append]
  generalize hqq : u / p = q at *
  simp (disch := omega) only [ite_t, ite_f, dec_t, dec_f, beq_t, beq_f, bne_t, bne_f, nbeq_t, nbeq_f, nble_t, nble_f, cond_true, cond_false, Bool.not_true, Bool.not_false, Bool.and_true, Bool.true_and, Bool.and_self, room_t, w64, w32, wu8, wu8', wu16, wu32, fdiv_pos, and63i, and1023i, and31i, and15i, and7i, and192i, or64w, or32w, or16w, or4096w, or64r, or64b, or32b, or16b, optK_some, optK_none, toNat_ofNat, append_eq, List.length_cons, List.length_nil, List.length_append, List.length_map, reduceIte, toNat_s, cell_one, isI_u16, isI_i64, getI_n, e2, hex_at h16, byteU_some _ o (by omega)]
  rfl
theorem escaped_eq {o : List UInt8} (ho : o.length ≤ 180000000) {u : Nat} (hu : u < 65536) {n : Nat} (hn : 100 < n) : values_escaped n (u : Int) (o.map byte) = some ((o ++ escU u).map byte) := by
  obtain ⟨n, rfl⟩ : ∃ k, n = k + 5 := ⟨n - 5, by omega⟩
  unfold values_escaped values_escaped.k
  have hw : bld_WriteU ([92, 117] : List UInt8) (o.map byte) = some () := by
    unfold bld_WriteU bld_WriteU.k
    simp (disch := omega) only [ite_t, ite_f, dec_t, dec_f, beq_t, beq_f, bne_t, bne_f, nbeq_t, nbeq_f, nble_t, nble_f, cond_true, cond_false, Bool.not_true, Bool.not_false, Bool.and_true, Bool.true_and, Bool.and_self, room_t, w64, w32, wu8, wu8', wu16, wu32, fdiv_pos, and63i, and1023i, and31i, and15i, and7i, and192i, or64w, or32w, or16w, or4096w, or64r, or64b, or32b, or16b, optK_some, optK_none, toNat_ofNat, append_eq, List.length_cons, List.length_nil, List.length_append, List.length_map, reduceIte, toNat_s, cell_one, isI_u16, isI_i64, getI_n]
  rw [hw, optK_some]
  have e : List.append (o.map byte) (List.map (fun c : UInt8 => [AVal.int IntKind.u8 ((UInt8.toNat c : Nat) : Int)]) ([92, 117] : List UInt8)) = (o ++ [92, 117]).map byte := by
    rw [List.map_append]; rfl
  rw [e, esc_round (by simp; omega) hu _ _ (p := 4096) rfl (by omega) (by omega), esc_round (by simp; omega) hu _ _ (p := 256) rfl (by omega) (by omega), esc_round (by simp; omega) hu _ _ (p := 16) rfl (by omega) (by omega), esc_round (by simp; omega) hu _ _ (p := 1) rfl (by omega) (by omega)]
  rw [values_escaped.l0.succ, values_escaped.l0.s]
  simp (disch := omega) only [ite_t, ite_f, dec_t, dec_f, beq_t, beq_f, bne_t, bne_f, nbeq_t, nbeq_f, nble_t, nble_f, cond_true, cond_false, Bool.not_true, Bool.not_false, Bool.and_true, Bool.true_and, Bool.and_self, room_t, w64, w32, wu8, wu8', wu16, wu32, fdiv_pos, and63i, and1023i, and31i, and15i, and7i, and192i, or64w, or32w, or16w, or4096w, or64r, or64b, or32b, or16b, optK_some, optK_none, toNat_ofNat, append_eq, List.length_cons, List.length_nil, List.length_append, List.length_map, reduceIte, toNat_s, cell_one, isI_u16, isI_i64, getI_n]
  congr 1
  simp [escU]
theorem units_enc {c : Nat} (h0 : 65536 ≤ c) (h1 : c ≤ 1114111) : unitsOf (enc c) = u16 c := by
  have hok : okc false [c] := ⟨h1, rfl, trivial⟩
  have h2 := cps_u16 [c] false hok
  simp only [List.flatMap_cons, List.flatMap_nil, List.append_nil] at h2
  have h3 : textOf (u16 c) = enc c := by unfold textOf; rw [h2]; simp
  rw [← h3]
  exact units_text (u16_lt h1)
theorem encode_eq {c : Nat} (h0 : 65536 ≤ c) (h1 : c ≤ 1114111) : (Utf8.encode (c : Int)).data.1 = enc c := by
  have hv : Utf8.valid (c : Int) = true := by simp [Utf8.valid]; omega
  have hc : ∀ p : Prop, [Decidable p] → ¬ p → ∀ (a b : ByteArray), (if p then a else b) = b := fun p _ h a b => if_neg h
  unfold Utf8.encode enc
  simp only [hv, if_true, Int.toNat_natCast]
  rw [if_neg (by omega), if_neg (by omega), if_neg (by omega), if_neg (by omega), if_neg (by omega), if_neg (by omega)]
  rfl
theorem ofLoop_eq {n : Nat} (hn : 100 < n) : ∀ (d i j : Nat) (l : List Nat) (o : List UInt8), l.length - i = d → i ≤ l.length → d < j → (∀ x ∈ l, x < 65536) → o.length ≤ 180000000 - 6 * d → d ≤ 1000 → l.length ≤ 2000000 →
    ∃ t, quoted_one.l0 n false (l.map unit) (l.length : Int) j (i : Int) (o.map byte) = some (t, (o ++ (l.drop i).flatMap escU).map byte) := by
  intro d
  induction d with
  | zero =>
    intro i j l o hd hi hj _ _ _ _
    obtain ⟨j, rfl⟩ : ∃ k, j = k + 1 := ⟨j - 1, by omega⟩
    refine ⟨(i : Int), ?_⟩
    rw [quoted_one.l0.succ, quoted_one.l0.s, List.drop_eq_nil_of_le (by omega)]
    simp (disch := omega) only [ite_t, ite_f, dec_t, dec_f, beq_t, beq_f, bne_t, bne_f, nbeq_t, nbeq_f, nble_t, nble_f, cond_true, cond_false, Bool.not_true, Bool.not_false, Bool.and_true, Bool.true_and, Bool.and_self, room_t, w64, w32, wu8, wu8', wu16, wu32, fdiv_pos, and63i, and1023i, and31i, and15i, and7i, and192i, or64w, or32w, or16w, or4096w, or64r, or64b, or32b, or16b, optK_some, optK_none, toNat_ofNat, append_eq, List.length_cons, List.length_nil, List.length_append, List.length_map, reduceIte, toNat_s, cell_one, isI_u16, isI_i64, getI_n, List.flatMap_nil, List.append_nil]
  | succ d ih =>
    intro i j l o hd hi hj hl ho h1000 hll
    obtain ⟨j, rfl⟩ : ∃ k, j = k + 1 := ⟨j - 1, by omega⟩
    have hil : i < l.length := by omega
    have hx := hl l[i] (List.getElem_mem hil)
    obtain ⟨t, ht⟩ := ih (i + 1) j l (o ++ escU l[i]) (by omega) (by omega) (by omega) hl (by simp [escU]; omega) (by omega) hll
    refine ⟨t, ?_⟩
    rw [quoted_one.l0.succ, quoted_one.l0.s]
    have hn1 : nthL (l.map unit) i = unit l[i] := nth_map unit l i hil
    have hn2 : (l.map unit).length = l.length := by simp
    simp (disch := omega) only [ite_t, ite_f, dec_t, dec_f, beq_t, beq_f, bne_t, bne_f, nbeq_t, nbeq_f, nble_t, nble_f, cond_true, cond_false, Bool.not_true, Bool.not_false, Bool.and_true, Bool.true_and, Bool.and_self, room_t, w64, w32, wu8, wu8', wu16, wu32, fdiv_pos, and63i, and1023i, and31i, and15i, and7i, and192i, or64w, or32w, or16w, or4096w, or64r, or64b, or32b, or16b, optK_some, optK_none, toNat_ofNat, append_eq, List.length_cons, List.length_nil, List.length_append, List.length_map, reduceIte, toNat_s, cell_one, isI_u16, isI_i64, getI_n, hn1, unit, isI_u16, w64, escaped_eq (o := o) (by omega) hx hn]
    rw [List.drop_eq_getElem_cons hil, List.flatMap_cons, ← List.append_assoc]
    exact ht
theorem flat_esc {c : Nat} (h : 65536 ≤ c) : (u16 c).flatMap escU = (u16 c).flatMap qu := by
  unfold u16
  rw [if_pos (by omega)]
  simp only [List.flatMap_cons, List.flatMap_nil, qu]
  rw [if_neg (by omega), if_neg (by omega)]
theorem quotedOne_eq {c : Nat} (hc : c ≤ 1114111) (o : List UInt8) (ho : o.length ≤ 160000000) {n : Nat} (hn : 2000000 < n) : quoted_one n (c : Int) (o.map byte) = some ((o ++ (u16 c).flatMap qu).map byte) := by
  unfold quoted_one quoted_one.k
  by_cases h : c < 65536
  · have hu : (u16 c).flatMap qu = qu c := by simp [u16, show ¬ 65535 < c by omega]
    rw [hu]
    have he := escaped_eq (o := o) (by omega) h (n := n) (by omega)
    by_cases h1 : 32 ≤ c
    · by_cases h2 : c ≤ 126
      · by_cases h3 : c = 34
        · subst h3; simp (disch := omega) only [ite_t, ite_f, dec_t, dec_f, beq_t, beq_f, bne_t, bne_f, nbeq_t, nbeq_f, nble_t, nble_f, cond_true, cond_false, Bool.not_true, Bool.not_false, Bool.and_true, Bool.true_and, Bool.and_self, room_t, w64, w32, wu8, wu8', wu16, wu32, fdiv_pos, and63i, and1023i, and31i, and15i, and7i, and192i, or64w, or32w, or16w, or4096w, or64r, or64b, or32b, or16b, optK_some, optK_none, toNat_ofNat, append_eq, List.length_cons, List.length_nil, List.length_append, List.length_map, reduceIte, toNat_s, cell_one, isI_u16, isI_i64, getI_n, ge_iff_le, he, qu]
        · by_cases h4 : c = 92
          · subst h4; simp (disch := omega) only [ite_t, ite_f, dec_t, dec_f, beq_t, beq_f, bne_t, bne_f, nbeq_t, nbeq_f, nble_t, nble_f, cond_true, cond_false, Bool.not_true, Bool.not_false, Bool.and_true, Bool.true_and, Bool.and_self, room_t, w64, w32, wu8, wu8', wu16, wu32, fdiv_pos, and63i, and1023i, and31i, and15i, and7i, and192i, or64w, or32w, or16w, or4096w, or64r, or64b, or32b, or16b, optK_some, optK_none, toNat_ofNat, append_eq, List.length_cons, List.length_nil, List.length_append, List.length_map, reduceIte, toNat_s, cell_one, isI_u16, isI_i64, getI_n, ge_iff_le, he, qu]
          · have hq : qu c = [UInt8.ofNat c] := by unfold qu; rw [if_pos ⟨h1, h2, h3, h4⟩]
            have hb : byte (UInt8.ofNat c) = [.int .u8 (c : Int)] := by
              unfold byte; congr 2; simp; omega
            simp (disch := omega) only [ite_t, ite_f, dec_t, dec_f, beq_t, beq_f, bne_t, bne_f, nbeq_t, nbeq_f, nble_t, nble_f, cond_true, cond_false, Bool.not_true, Bool.not_false, Bool.and_true, Bool.true_and, Bool.and_self, room_t, w64, w32, wu8, wu8', wu16, wu32, fdiv_pos, and63i, and1023i, and31i, and15i, and7i, and192i, or64w, or32w, or16w, or4096w, or64r, or64b, or32b, or16b, optK_some, optK_none, toNat_ofNat, append_eq, List.length_cons, List.length_nil, List.length_append, List.length_map, reduceIte, toNat_s, cell_one, isI_u16, isI_i64, getI_n, ge_iff_le, byteU_some _ o (by omega), hq, List.map_append, List.map_cons, List.map_nil, hb]
      · have hq : qu c = escU c := by unfold qu; rw [if_neg (by omega)]
        simp (disch := omega) only [ite_t, ite_f, dec_t, dec_f, beq_t, beq_f, bne_t, bne_f, nbeq_t, nbeq_f, nble_t, nble_f, cond_true, cond_false, Bool.not_true, Bool.not_false, Bool.and_true, Bool.true_and, Bool.and_self, room_t, w64, w32, wu8, wu8', wu16, wu32, fdiv_pos, and63i, and1023i, and31i, and15i, and7i, and192i, or64w, or32w, or16w, or4096w, or64r, or64b, or32b, or16b, optK_some, optK_none, toNat_ofNat, append_eq, List.length_cons, List.length_nil, List.length_append, List.length_map, reduceIte, toNat_s, cell_one, isI_u16, isI_i64, getI_n, ge_iff_le, he, hq]
    · have hq : qu c = escU c := by unfold qu; rw [if_neg (by omega)]
      simp (disch := omega) only [ite_t, ite_f, dec_t, dec_f, beq_t, beq_f, bne_t, bne_f, nbeq_t, nbeq_f, nble_t, nble_f, cond_true, cond_false, Bool.not_true, Bool.not_false, Bool.and_true, Bool.true_and, Bool.and_self, room_t, w64, w32, wu8, wu8', wu16, wu32, fdiv_pos, and63i, and1023i, and31i, and15i, and7i, and192i, or64w, or32w, or16w, or4096w, or64r, or64b, or32b, or16b, optK_some, optK_none, toNat_ofNat, append_eq, List.length_cons, List.length_nil, List.length_append, List.length_map, reduceIte, toNat_s, cell_one, isI_u16, isI_i64, getI_n, ge_iff_le, he, hq]
  · have hl : (enc c).length ≤ 4 := (enc_len c).2
    have hof := of_eq (s := enc c) (by omega) hn
    rw [units_enc (by omega) hc] at hof
    have hu2 := u16_len c
    obtain ⟨t, ht⟩ := ofLoop_eq (n := n) (by omega) (u16 c).length 0 n (u16 c) o rfl (by omega) (by omega) (u16_lt hc) (by omega) (by omega) (by omega)
    rw [List.drop_zero, flat_esc (by omega)] at ht
    have hlen : (((u16 c).map unit).length : Int) = ((u16 c).length : Int) := by simp
    have hw : IntKind.wrap .i32 (c : Int) = c := w32 (by omega)
    rw [hw, encode_eq (by omega) hc]
    simp (disch := omega) only [ite_t, ite_f, dec_t, dec_f, beq_t, beq_f, bne_t, bne_f, nbeq_t, nbeq_f, nble_t, nble_f, cond_true, cond_false, Bool.not_true, Bool.not_false, Bool.and_true, Bool.true_and, Bool.and_self, room_t, w64, w32, wu8, wu8', wu16, wu32, fdiv_pos, and63i, and1023i, and31i, and15i, and7i, and192i, or64w, or32w, or16w, or4096w, or64r, or64b, or32b, or16b, optK_some, optK_none, toNat_ofNat, append_eq, List.length_cons, List.length_nil, List.length_append, List.length_map, reduceIte, toNat_s, cell_one, isI_u16, isI_i64, getI_n, ge_iff_le, hof]
    rw [show (0 : Int) = ((0 : Nat) : Int) from rfl, ht]
    rfl
def eachQOut : (Int × Bool × Nat × List (List AVal)) ⊕ (Int × Bool × Nat × List (List AVal)) → Bool × List (List AVal)
  | .inl t => (false, t.2.2.2)
  | .inr t => (true, t.2.2.2)
theorem qus_len (l : List Nat) : (l.flatMap qu).length ≤ 6 * l.length := by
  induction l with
  | nil => simp
  | cons a r ih =>
    have := qu_len a
    rw [List.flatMap_cons, List.length_append, List.length_cons]; omega
theorem eachQ_skip {s : List UInt8} {pos : Nat} (h : pos < s.length) (n j : Nat) (b ah : Bool) {k : Int} (hk : 0 < k ∧ k < 10) (o : List UInt8) :
    units_EachQ.l0 n s b s (j + 1) k ah pos (o.map byte) = units_EachQ.l0 n s b s j (k - 1) ah (pos + (dec (s.drop pos)).2) (o.map byte) := by
  rw [units_EachQ.l0.succ, units_EachQ.l0.s]
  simp (disch := omega) only [ite_t, ite_f, dec_t, dec_f, beq_t, beq_f, bne_t, bne_f, nbeq_t, nbeq_f, nble_t, nble_f, cond_true, cond_false, Bool.not_true, Bool.not_false, Bool.and_true, Bool.true_and, Bool.and_self, room_t, w64, w32, wu8, wu8', wu16, wu32, fdiv_pos, and63i, and1023i, and31i, and15i, and7i, and192i, or64w, or32w, or16w, or4096w, or64r, or64b, or32b, or16b, optK_some, optK_none, toNat_ofNat, append_eq, List.length_cons, List.length_nil, List.length_append, List.length_map, reduceIte, toNat_s, cell_one, isI_u16, isI_i64, getI_n, h, decode_eq s pos h]
theorem eachQ_end {s : List UInt8} {pos : Nat} (h : ¬ pos < s.length) (n j : Nat) (b ah : Bool) (k : Int) (o : List UInt8) :
    units_EachQ.l0 n s b s (j + 1) k ah pos (o.map byte) = some (.inr (k, ah, pos, o.map byte)) := by
  rw [units_EachQ.l0.succ, units_EachQ.l0.s]
  simp (disch := omega) only [ite_t, ite_f, dec_t, dec_f, beq_t, beq_f, bne_t, bne_f, nbeq_t, nbeq_f, nble_t, nble_f, cond_true, cond_false, Bool.not_true, Bool.not_false, Bool.and_true, Bool.true_and, Bool.and_self, room_t, w64, w32, wu8, wu8', wu16, wu32, fdiv_pos, and63i, and1023i, and31i, and15i, and7i, and192i, or64w, or32w, or16w, or4096w, or64r, or64b, or32b, or16b, optK_some, optK_none, toNat_ofNat, append_eq, List.length_cons, List.length_nil, List.length_append, List.length_map, reduceIte, toNat_s, cell_one, isI_u16, isI_i64, getI_n, h]
theorem eachQ_bad {s : List UInt8} {pos : Nat} (h : pos < s.length) (n j : Nat) (b ah : Bool) (o : List UInt8) (hb : ((pt (s.drop pos)).2 = 0 || (ah && isLow (pt (s.drop pos)).1)) = true) :
    units_EachQ.l0 n s b s (j + 1) 0 ah pos (o.map byte) = some (.inl (0, ah, pos + 1, o.map byte)) := by
  have hne : s.drop pos ≠ [] := by simp; exact h
  rw [units_EachQ.l0.succ, units_EachQ.l0.s]
  by_cases p : (pt (s.drop pos)).2 = 0
  · simp (disch := omega) only [ite_t, ite_f, dec_t, dec_f, beq_t, beq_f, bne_t, bne_f, nbeq_t, nbeq_f, nble_t, nble_f, cond_true, cond_false, Bool.not_true, Bool.not_false, Bool.and_true, Bool.true_and, Bool.and_self, room_t, w64, w32, wu8, wu8', wu16, wu32, fdiv_pos, and63i, and1023i, and31i, and15i, and7i, and192i, or64w, or32w, or16w, or4096w, or64r, or64b, or32b, or16b, optK_some, optK_none, toNat_ofNat, append_eq, List.length_cons, List.length_nil, List.length_append, List.length_map, reduceIte, toNat_s, cell_one, isI_u16, isI_i64, getI_n, h, decode_eq s pos h, List.take_length, dec_bad p, decS_ne hne, halfAt_eq, halfB_bad p]
  · simp only [p, decide_false, Bool.false_or, Bool.and_eq_true] at hb
    obtain ⟨rfl, hb⟩ := hb
    have hh := low_half hb
    simp only [isLow, Bool.and_eq_true, decide_eq_true_eq] at hb
    simp (disch := omega) only [ite_t, ite_f, dec_t, dec_f, beq_t, beq_f, bne_t, bne_f, nbeq_t, nbeq_f, nble_t, nble_f, cond_true, cond_false, Bool.not_true, Bool.not_false, Bool.and_true, Bool.true_and, Bool.and_self, room_t, w64, w32, wu8, wu8', wu16, wu32, fdiv_pos, and63i, and1023i, and31i, and15i, and7i, and192i, or64w, or32w, or16w, or4096w, or64r, or64b, or32b, or16b, optK_some, optK_none, toNat_ofNat, append_eq, List.length_cons, List.length_nil, List.length_append, List.length_map, reduceIte, toNat_s, cell_one, isI_u16, isI_i64, getI_n, h, decode_eq s pos h, List.take_length, dec_half hh, decS_ne hne, halfAt_eq, halfB_half hh, halfV_half hh]
theorem eachQ_half {s : List UInt8} {pos : Nat} (h : pos < s.length) (n j : Nat) (b ah : Bool) (o : List UInt8) (ho : o.length ≤ 140000000) (hn : 2000000 < n) (hh : isHalf (pt (s.drop pos)).1 = true) (hb : (ah && isLow (pt (s.drop pos)).1) = false) :
    units_EachQ.l0 n s b s (j + 1) 0 ah pos (o.map byte) = units_EachQ.l0 n s b s j 2 (isLead (pt (s.drop pos)).1) (pos + 1) ((o ++ (u16 (pt (s.drop pos)).1).flatMap qu).map byte) := by
  have hne : s.drop pos ≠ [] := by simp; exact h
  have hlt := pt_lt (s.drop pos)
  have hh' := hh
  simp only [isHalf, Bool.and_eq_true, decide_eq_true_eq] at hh'
  have g2 : decide (((pt (s.drop pos)).1 : Int) < 56320) = isLead (pt (s.drop pos)).1 := by
    simp only [isLead, ← Bool.decide_and]; apply decide_eq_decide.2; omega
  rw [units_EachQ.l0.succ, units_EachQ.l0.s]
  rw [← g2]
  cases ah with
  | false => simp (disch := omega) only [ite_t, ite_f, beq_t, beq_f, cond_true, cond_false, Bool.not_true, Bool.not_false, w64, optK_some, optK_none, toNat_ofNat, dec_f, ge_iff_le, dec_t, reduceIte, h, decode_eq s pos h, List.take_length, dec_half hh, decS_ne hne, halfAt_eq, halfB_half hh, halfV_half hh, quotedOne_eq hlt o (by omega) hn]
  | true =>
    simp only [isLow, Bool.true_and, Bool.and_eq_false_iff, decide_eq_false_iff_not] at hb
    simp (disch := omega) only [ite_t, ite_f, beq_t, beq_f, cond_true, cond_false, Bool.not_true, Bool.not_false, w64, optK_some, optK_none, toNat_ofNat, dec_f, ge_iff_le, dec_t, reduceIte, h, decode_eq s pos h, List.take_length, dec_half hh, decS_ne hne, halfAt_eq, halfB_half hh, halfV_half hh, quotedOne_eq hlt o (by omega) hn]
theorem eachQ_plain {s : List UInt8} {pos : Nat} (h : pos < s.length) (n j : Nat) (b ah : Bool) (o : List UInt8) (ho : o.length ≤ 140000000) (hn : 2000000 < n) (h0 : (pt (s.drop pos)).2 ≠ 0) (hh : isHalf (pt (s.drop pos)).1 = false) :
    units_EachQ.l0 n s b s (j + 1) 0 ah pos (o.map byte) = units_EachQ.l0 n s b s j 0 (isLead (pt (s.drop pos)).1) (pos + (pt (s.drop pos)).2) ((o ++ (u16 (pt (s.drop pos)).1).flatMap qu).map byte) := by
  have hne : s.drop pos ≠ [] := by simp; exact h
  have hlt := pt_lt (s.drop pos)
  have hd := dec_plain h0 hh
  simp only [isHalf, Bool.and_eq_false_iff, decide_eq_false_iff_not] at hh
  have g0 : isLead (pt (s.drop pos)).1 = false := by simp only [isLead, Bool.and_eq_false_iff, decide_eq_false_iff_not]; omega
  rw [units_EachQ.l0.succ, units_EachQ.l0.s, g0]
  by_cases p : (pt (s.drop pos)).1 = 65533
  · have h3 := plain_3 p h0
    simp (disch := omega) only [ite_t, ite_f, dec_t, dec_f, beq_t, beq_f, bne_t, bne_f, nbeq_t, nbeq_f, nble_t, nble_f, cond_true, cond_false, Bool.not_true, Bool.not_false, Bool.and_true, Bool.true_and, Bool.and_self, room_t, w64, w32, wu8, wu8', wu16, wu32, fdiv_pos, and63i, and1023i, and31i, and15i, and7i, and192i, or64w, or32w, or16w, or4096w, or64r, or64b, or32b, or16b, optK_some, optK_none, toNat_ofNat, append_eq, List.length_cons, List.length_nil, List.length_append, List.length_map, reduceIte, toNat_s, cell_one, isI_u16, isI_i64, getI_n, h, decode_eq s pos h, List.take_length, hd, decS_ne hne, quotedOne_eq hlt o (by omega) hn]
  · by_cases p2 : 55296 ≤ (pt (s.drop pos)).1
    · simp (disch := omega) only [ite_t, ite_f, dec_t, dec_f, beq_t, beq_f, bne_t, bne_f, nbeq_t, nbeq_f, nble_t, nble_f, cond_true, cond_false, Bool.not_true, Bool.not_false, Bool.and_true, Bool.true_and, Bool.and_self, room_t, w64, w32, wu8, wu8', wu16, wu32, fdiv_pos, and63i, and1023i, and31i, and15i, and7i, and192i, or64w, or32w, or16w, or4096w, or64r, or64b, or32b, or16b, optK_some, optK_none, toNat_ofNat, append_eq, List.length_cons, List.length_nil, List.length_append, List.length_map, reduceIte, toNat_s, cell_one, isI_u16, isI_i64, getI_n, h, decode_eq s pos h, List.take_length, hd, decS_ne hne, quotedOne_eq hlt o (by omega) hn]
    · simp (disch := omega) only [ite_t, ite_f, dec_t, dec_f, beq_t, beq_f, bne_t, bne_f, nbeq_t, nbeq_f, nble_t, nble_f, cond_true, cond_false, Bool.not_true, Bool.not_false, Bool.and_true, Bool.true_and, Bool.and_self, room_t, w64, w32, wu8, wu8', wu16, wu32, fdiv_pos, and63i, and1023i, and31i, and15i, and7i, and192i, or64w, or32w, or16w, or4096w, or64r, or64b, or32b, or16b, optK_some, optK_none, toNat_ofNat, append_eq, List.length_cons, List.length_nil, List.length_append, List.length_map, reduceIte, toNat_s, cell_one, isI_u16, isI_i64, getI_n, h, decode_eq s pos h, List.take_length, hd, decS_ne hne, quotedOne_eq hlt o (by omega) hn]
theorem eachQ_loop {s : List UInt8} (hl : s.length ≤ 2000000) (n : Nat) (hn : 2000000 < n) (b : Bool) : ∀ (d f pos j : Nat) (ah : Bool) (o : List UInt8), s.length - pos = d → pos ≤ s.length → d < j → d ≤ f → o.length ≤ 12 * pos + 1 →
    ∃ x, units_EachQ.l0 n s b s j 0 ah pos (o.map byte) = some x ∧ eachQOut x = ((scan f ah (s.drop pos)).2, (o ++ ((scan f ah (s.drop pos)).1.flatMap u16).flatMap qu).map byte) := by
  intro d
  induction d using Nat.strongRecOn with
  | ind d ih =>
    intro f pos j ah o hd0 hp hj hf ho
    obtain ⟨j, rfl⟩ : ∃ i, j = i + 1 := ⟨j - 1, by omega⟩
    rcases Nat.lt_or_ge pos s.length with hlt | hge
    · obtain ⟨f, rfl⟩ : ∃ i, f = i + 1 := ⟨f - 1, by omega⟩
      have hd := drop_at s pos hlt
      have hsc : scan (f + 1) ah (s.drop pos) = if (pt (s.drop pos)).2 = 0 || (ah && isLow (pt (s.drop pos)).1) then ([], false) else ((pt (s.drop pos)).1 :: (scan f (isLead (pt (s.drop pos)).1) ((s.drop pos).drop (pt (s.drop pos)).2)).1, (scan f (isLead (pt (s.drop pos)).1) ((s.drop pos).drop (pt (s.drop pos)).2)).2) := by
        rw [hd]; rfl
      by_cases hb : ((pt (s.drop pos)).2 = 0 || (ah && isLow (pt (s.drop pos)).1)) = true
      · refine ⟨_, eachQ_bad hlt n j b ah o hb, ?_⟩
        rw [hsc, if_pos hb]
        simp [eachQOut]
      · have hb' := hb
        simp only [Bool.or_eq_true, decide_eq_true_eq, not_or, Bool.not_eq_true] at hb'
        have hw := pt_width (s.drop pos)
        rw [List.length_drop] at hw
        have hu := u16_len (pt (s.drop pos)).1
        have hq := qus_len (u16 (pt (s.drop pos)).1)
        rw [hsc, if_neg hb, List.drop_drop]
        rcases hh : isHalf (pt (s.drop pos)).1 with _ | _
        · obtain ⟨x, h, hx⟩ := ih (s.length - (pos + (pt (s.drop pos)).2)) (by omega) f (pos + (pt (s.drop pos)).2) j (isLead (pt (s.drop pos)).1) (o ++ (u16 (pt (s.drop pos)).1).flatMap qu) rfl (by omega) (by omega) (by omega) (by rw [List.length_append]; omega)
          refine ⟨x, ?_, ?_⟩
          · rw [eachQ_plain hlt n j b ah o (by omega) hn hb'.1 hh]; exact h
          · rw [hx, List.flatMap_cons, List.flatMap_append, List.append_assoc]
        · obtain ⟨c1, c2, c3⟩ := half_conts hh
          have h3 := half_w hh
          rw [List.drop_drop] at c1 c2
          rw [List.length_drop] at c3
          obtain ⟨j, rfl⟩ : ∃ i, j = i + 2 := ⟨j - 2, by omega⟩
          obtain ⟨x, h, hx⟩ := ih (s.length - (pos + 3)) (by omega) f (pos + 3) j (isLead (pt (s.drop pos)).1) (o ++ (u16 (pt (s.drop pos)).1).flatMap qu) rfl (by omega) (by omega) (by omega) (by rw [List.length_append]; omega)
          refine ⟨x, ?_, ?_⟩
          · rw [eachQ_half hlt n (j + 2) b ah o (by omega) hn hh hb'.2, eachQ_skip (by omega) n (j + 1) b _ (by omega) _, c1, show (2 : Int) - 1 = 1 from rfl, eachQ_skip (by omega) n j b _ (by omega) _, c2]
            exact h
          · rw [hx, List.flatMap_cons, List.flatMap_append, List.append_assoc, h3]
    · refine ⟨_, eachQ_end (by omega) n j b ah 0 o, ?_⟩
      have hd : s.drop pos = [] := by simp; omega
      have hs : scan f ah [] = ([], true) := by cases f <;> rfl
      rw [hd, hs]
      simp [eachQOut]
def quote (u : List Nat) : List UInt8 := 34 :: (u.flatMap qu ++ [34])
theorem okBytes_map (b : List UInt8) : okBytes (b.map byte) = true := by
  unfold okBytes
  rw [List.all_eq_true]
  intro x hx
  obtain ⟨a, _, rfl⟩ := List.mem_map.1 hx
  have := b_lt a
  simp only [byte, Bool.and_eq_true, decide_eq_true_eq]
  omega
theorem quoted_eq {s : List UInt8} (hl : s.length ≤ 2000000) (hr : right s = true) {n : Nat} (hn : 2000000 < n) : values_quoted n s = some (quote (unitsOf s)) := by
  unfold values_quoted values_quoted.k units_EachQ units_EachQ.k
  obtain ⟨x, h, hx⟩ := eachQ_loop hl n hn false s.length s.length 0 n false [34] rfl (by omega) (by omega) (by omega) (by simp)
  have hx' : eachQOut x = (true, ([34] ++ (unitsOf s).flatMap qu).map byte) := by
    rw [hx, unitsOf, if_pos hr]
    exact Prod.ext hr rfl
  have hlen := units_len s
  have hql := qus_len (unitsOf s)
  have hF : L0.bld_ByteF 34 [] = some () := rfl
  rw [hF, optK_some, show [[AVal.int IntKind.u8 34]] = List.map byte [34] from rfl, h]
  rcases x with t | t
  · exact absurd (congrArg Prod.fst hx') (by simp [eachQOut])
  · have h2 : t.2.2.2 = ([34] ++ (unitsOf s).flatMap qu).map byte := congrArg Prod.snd hx'
    have e : List.append (t.2.2.2) (List.map byte [34]) = (quote (unitsOf s)).map byte := by
      rw [h2]; simp [quote, byte]
    have hU : L0.bld_ByteU 34 t.2.2.2 = some () := by rw [h2]; exact byteU_some _ _ (by rw [List.length_append, List.length_singleton]; omega)
    simp only [sumK, optK_some, hU, e]
    have hc : isCons ((quote (unitsOf s)).map byte) = true := rfl
    simp only [okBytes_map, hc, bytesL_map]
    rfl
end Go.Proofs.YtjlhnnphfdjmdaaDoor.U
