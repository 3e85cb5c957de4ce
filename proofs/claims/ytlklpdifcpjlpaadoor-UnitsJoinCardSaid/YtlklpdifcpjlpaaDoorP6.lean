/- What the reference of chapter 1 computes. -/
import Derived.Test.YtlklpdifcpjlpaaDoorP5
namespace Go.Proofs.YtlklpdifcpjlpaaDoor
open Go.Abs Go.Uni Go.Plain
set_option maxRecDepth 100000
set_option maxHeartbeats 1000000
set_option linter.unusedVariables false
set_option linter.unusedSimpArgs false
theorem pl_bad {s : List UInt8} {p : Nat} {c : UInt8} {r : List UInt8} (h : s.drop p = c :: r) (hl : s.length ≤ 100000) (hc : cont c = false) (n j i : Nat) (a b : Int) (w m : Int) (v : Int) (k : Nat) (hk : i + k = p) (hw : (k : Int) < w) :
    ref1_point.l0 n s (i : Int) a b w m (j + 1) v (k : Int) = some (.inl (v, (k : Int))) := by
  obtain ⟨e1, e2, e3⟩ := byteAt_drop h
  have hb := b_lt c
  have e0 : (i : Int) + (k : Int) = (p : Int) := by omega
  simp only [cont, Bool.and_eq_false_iff, decide_eq_false_iff_not] at hc
  rw [ref1_point.l0.succ, ref1_point.l0.s, e0]
  by_cases h1 : 128 ≤ c.toNat
  · simp (disch := omega) only [ite_t, ite_f, dec_t, dec_f, beq_t, beq_f, bne_t, bne_f, nbeq_t, nbeq_f, nble_t, nble_f, cond_true, cond_false, Bool.not_true, Bool.not_false, Bool.and_true, Bool.true_and, Bool.and_self, room_t, w64, w32, wu8, wu8', wu16, wu32, fdiv_pos, and63i, and1023i, and31i, and15i, and7i, and192i, or64w, or32w, or16w, or4096w, or64r, or64b, or32b, or16b, optK_some, optK_none, toNat_ofNat, append_eq, List.length_cons, List.length_nil, List.length_append, List.length_map, reduceIte, toNat_s, cell_one, isI_u16, isI_i64, getI_n, e1]
  · simp (disch := omega) only [ite_t, ite_f, dec_t, dec_f, beq_t, beq_f, bne_t, bne_f, nbeq_t, nbeq_f, nble_t, nble_f, cond_true, cond_false, Bool.not_true, Bool.not_false, Bool.and_true, Bool.true_and, Bool.and_self, room_t, w64, w32, wu8, wu8', wu16, wu32, fdiv_pos, and63i, and1023i, and31i, and15i, and7i, and192i, or64w, or32w, or16w, or4096w, or64r, or64b, or32b, or16b, optK_some, optK_none, toNat_ofNat, append_eq, List.length_cons, List.length_nil, List.length_append, List.length_map, reduceIte, toNat_s, cell_one, isI_u16, isI_i64, getI_n, e1]
theorem pl_good {s : List UInt8} {p : Nat} {c : UInt8} {r : List UInt8} (h : s.drop p = c :: r) (hl : s.length ≤ 100000) (hc : cont c = true) (n j i : Nat) (a b : Int) (w m : Int) (v k : Nat) (hk : i + k = p) (hw : (k : Int) < w) (hv : v < 1000000) :
    ref1_point.l0 n s (i : Int) a b w m (j + 1) (v : Int) (k : Int) = ref1_point.l0 n s (i : Int) a b w m j ((v * 64 + (c.toNat - 128) : Nat) : Int) ((k + 1 : Nat) : Int) := by
  obtain ⟨e1, e2, e3⟩ := byteAt_drop h
  have hb := b_lt c
  have e0 : (i : Int) + (k : Int) = (p : Int) := by omega
  simp only [cont, Bool.and_eq_true, decide_eq_true_eq] at hc
  rw [ref1_point.l0.succ, ref1_point.l0.s, e0]
  simp (disch := omega) only [ite_t, ite_f, dec_t, dec_f, beq_t, beq_f, bne_t, bne_f, nbeq_t, nbeq_f, nble_t, nble_f, cond_true, cond_false, Bool.not_true, Bool.not_false, Bool.and_true, Bool.true_and, Bool.and_self, room_t, w64, w32, wu8, wu8', wu16, wu32, fdiv_pos, and63i, and1023i, and31i, and15i, and7i, and192i, or64w, or32w, or16w, or4096w, or64r, or64b, or32b, or16b, optK_some, optK_none, toNat_ofNat, append_eq, List.length_cons, List.length_nil, List.length_append, List.length_map, reduceIte, toNat_s, cell_one, isI_u16, isI_i64, getI_n, e1]
  congr 1; omega
theorem pl_end (s : List UInt8) (n j i : Nat) (a b : Int) (w m : Int) (v : Int) (k : Nat) (hw : ¬ (k : Int) < w) :
    ref1_point.l0 n s (i : Int) a b w m (j + 1) v (k : Int) = some (.inr (v, (k : Int))) := by
  rw [ref1_point.l0.succ, ref1_point.l0.s]
  simp (disch := omega) only [ite_t, ite_f, dec_t, dec_f, beq_t, beq_f, bne_t, bne_f, nbeq_t, nbeq_f, nble_t, nble_f, cond_true, cond_false, Bool.not_true, Bool.not_false, Bool.and_true, Bool.true_and, Bool.and_self, room_t, w64, w32, wu8, wu8', wu16, wu32, fdiv_pos, and63i, and1023i, and31i, and15i, and7i, and192i, or64w, or32w, or16w, or4096w, or64r, or64b, or32b, or16b, optK_some, optK_none, toNat_ofNat, append_eq, List.length_cons, List.length_nil, List.length_append, List.length_map, reduceIte, toNat_s, cell_one, isI_u16, isI_i64, getI_n]
theorem point_eq {s : List UInt8} {i : Nat} (h : i < s.length) (hl : s.length ≤ 100000) {n : Nat} (hn : 100000 < n) : ref1_point n s (i : Int) = some (((pt (s.drop i)).1 : Int), ((pt (s.drop i)).2 : Int)) := by
  obtain ⟨j, rfl⟩ : ∃ j, n = j + 4 := ⟨n - 4, by omega⟩
  rcases hd : s.drop i with _ | ⟨a, r⟩
  · simp at hd; omega
  have hlen : s.length = i + (r.length + 1) := by
    have := congrArg List.length hd
    simp at this; omega
  obtain ⟨e1, e2, e3⟩ := byteAt_drop hd
  have ha := b_lt a
  unfold ref1_point ref1_point.k
  generalize hN : j + 4 = N
  have g1 : (1 : Int) = ((1 : Nat) : Int) := rfl
  by_cases c0 : a.toNat < 128
  · have hp : pt (a :: r) = (a.toNat, 1) := by simp only [pt]; rw [if_pos c0]
    rw [hp]
    simp (disch := omega) only [ite_t, ite_f, dec_t, dec_f, beq_t, beq_f, bne_t, bne_f, nbeq_t, nbeq_f, nble_t, nble_f, cond_true, cond_false, Bool.not_true, Bool.not_false, Bool.and_true, Bool.true_and, Bool.and_self, room_t, w64, w32, wu8, wu8', wu16, wu32, fdiv_pos, and63i, and1023i, and31i, and15i, and7i, and192i, or64w, or32w, or16w, or4096w, or64r, or64b, or32b, or16b, optK_some, optK_none, toNat_ofNat, append_eq, List.length_cons, List.length_nil, List.length_append, List.length_map, reduceIte, toNat_s, cell_one, isI_u16, isI_i64, getI_n, e1]
    rfl
  by_cases c1 : a.toNat < 194
  · have hp : pt (a :: r) = (0, 0) := by simp only [pt]; rw [if_neg c0, if_neg (by omega), if_neg (by omega), if_neg (by omega)]
    rw [hp]
    simp (disch := omega) only [ite_t, ite_f, dec_t, dec_f, beq_t, beq_f, bne_t, bne_f, nbeq_t, nbeq_f, nble_t, nble_f, cond_true, cond_false, Bool.not_true, Bool.not_false, Bool.and_true, Bool.true_and, Bool.and_self, room_t, w64, w32, wu8, wu8', wu16, wu32, fdiv_pos, and63i, and1023i, and31i, and15i, and7i, and192i, or64w, or32w, or16w, or4096w, or64r, or64b, or32b, or16b, optK_some, optK_none, toNat_ofNat, append_eq, List.length_cons, List.length_nil, List.length_append, List.length_map, reduceIte, toNat_s, cell_one, isI_u16, isI_i64, getI_n, e1]
    rfl
  by_cases c2 : a.toNat ≤ 223
  · rcases r with _ | ⟨b, r⟩
    · simp only [List.length_nil] at hlen
      have hp : pt ([a]) = (0, 0) := by simp only [pt]; rw [if_neg c0, if_pos (by omega)]
      rw [hp]
      simp (disch := omega) only [ite_t, ite_f, dec_t, dec_f, beq_t, beq_f, bne_t, bne_f, nbeq_t, nbeq_f, nble_t, nble_f, cond_true, cond_false, Bool.not_true, Bool.not_false, Bool.and_true, Bool.true_and, Bool.and_self, room_t, w64, w32, wu8, wu8', wu16, wu32, fdiv_pos, and63i, and1023i, and31i, and15i, and7i, and192i, or64w, or32w, or16w, or4096w, or64r, or64b, or32b, or16b, optK_some, optK_none, toNat_ofNat, append_eq, List.length_cons, List.length_nil, List.length_append, List.length_map, reduceIte, toNat_s, cell_one, isI_u16, isI_i64, getI_n, e1, hlen]
      rfl
    · simp only [List.length_cons] at hlen
      have hp : pt (a :: b :: r) = if cont b then ((a.toNat - 192) * 64 + (b.toNat - 128), 2) else (0, 0) := by simp only [pt]; rw [if_neg c0, if_pos (by omega)]
      rw [hp]
      have hb := b_lt b
      rw [← hN]
      cases hc : cont b with
      | false =>
        simp (disch := omega) only [ite_t, ite_f, dec_t, dec_f, beq_t, beq_f, bne_t, bne_f, nbeq_t, nbeq_f, nble_t, nble_f, cond_true, cond_false, Bool.not_true, Bool.not_false, Bool.and_true, Bool.true_and, Bool.and_self, room_t, w64, w32, wu8, wu8', wu16, wu32, fdiv_pos, and63i, and1023i, and31i, and15i, and7i, and192i, or64w, or32w, or16w, or4096w, or64r, or64b, or32b, or16b, optK_some, optK_none, toNat_ofNat, append_eq, List.length_cons, List.length_nil, List.length_append, List.length_map, reduceIte, toNat_s, cell_one, isI_u16, isI_i64, getI_n, e1, hlen, and31i, sumK]
        rw [g1, pl_bad e3 hl hc (j + 4) (j + 3) i 0 0 2 128 _ 1 rfl (by omega)]
        simp (disch := omega) only [ite_t, ite_f, dec_t, dec_f, beq_t, beq_f, bne_t, bne_f, nbeq_t, nbeq_f, nble_t, nble_f, cond_true, cond_false, Bool.not_true, Bool.not_false, Bool.and_true, Bool.true_and, Bool.and_self, room_t, w64, w32, wu8, wu8', wu16, wu32, fdiv_pos, and63i, and1023i, and31i, and15i, and7i, and192i, or64w, or32w, or16w, or4096w, or64r, or64b, or32b, or16b, optK_some, optK_none, toNat_ofNat, append_eq, List.length_cons, List.length_nil, List.length_append, List.length_map, reduceIte, toNat_s, cell_one, isI_u16, isI_i64, getI_n, sumK, Bool.false_eq_true]
        rfl
      | true =>
        have e5 : (a.toNat : Int) % 32 = ((a.toNat - 192 : Nat) : Int) := by omega
        simp (disch := omega) only [ite_t, ite_f, dec_t, dec_f, beq_t, beq_f, bne_t, bne_f, nbeq_t, nbeq_f, nble_t, nble_f, cond_true, cond_false, Bool.not_true, Bool.not_false, Bool.and_true, Bool.true_and, Bool.and_self, room_t, w64, w32, wu8, wu8', wu16, wu32, fdiv_pos, and63i, and1023i, and31i, and15i, and7i, and192i, or64w, or32w, or16w, or4096w, or64r, or64b, or32b, or16b, optK_some, optK_none, toNat_ofNat, append_eq, List.length_cons, List.length_nil, List.length_append, List.length_map, reduceIte, toNat_s, cell_one, isI_u16, isI_i64, getI_n, e1, hlen, and31i, sumK]
        rw [e5, g1, pl_good e3 hl hc (j + 4) (j + 3) i 0 0 2 128 _ 1 rfl (by omega) (by omega), pl_end _ _ _ _ _ _ _ _ _ 2 (by omega)]
        simp (disch := omega) only [ite_t, ite_f, dec_t, dec_f, beq_t, beq_f, bne_t, bne_f, nbeq_t, nbeq_f, nble_t, nble_f, cond_true, cond_false, Bool.not_true, Bool.not_false, Bool.and_true, Bool.true_and, Bool.and_self, room_t, w64, w32, wu8, wu8', wu16, wu32, fdiv_pos, and63i, and1023i, and31i, and15i, and7i, and192i, or64w, or32w, or16w, or4096w, or64r, or64b, or32b, or16b, optK_some, optK_none, toNat_ofNat, append_eq, List.length_cons, List.length_nil, List.length_append, List.length_map, reduceIte, toNat_s, cell_one, isI_u16, isI_i64, getI_n, sumK]
        rfl
  by_cases c3 : a.toNat ≤ 239
  · rcases r with _ | ⟨b, _ | ⟨c, r⟩⟩
    · simp only [List.length_nil] at hlen
      have hp : pt ([a]) = (0, 0) := by simp only [pt]; rw [if_neg c0, if_neg (by omega), if_pos (by omega)]
      rw [hp]
      simp (disch := omega) only [ite_t, ite_f, dec_t, dec_f, beq_t, beq_f, bne_t, bne_f, nbeq_t, nbeq_f, nble_t, nble_f, cond_true, cond_false, Bool.not_true, Bool.not_false, Bool.and_true, Bool.true_and, Bool.and_self, room_t, w64, w32, wu8, wu8', wu16, wu32, fdiv_pos, and63i, and1023i, and31i, and15i, and7i, and192i, or64w, or32w, or16w, or4096w, or64r, or64b, or32b, or16b, optK_some, optK_none, toNat_ofNat, append_eq, List.length_cons, List.length_nil, List.length_append, List.length_map, reduceIte, toNat_s, cell_one, isI_u16, isI_i64, getI_n, e1, hlen]
      rfl
    · simp only [List.length_nil, List.length_cons] at hlen
      have hp : pt ([a, b]) = (0, 0) := by simp only [pt]; rw [if_neg c0, if_neg (by omega), if_pos (by omega)]
      rw [hp]
      simp (disch := omega) only [ite_t, ite_f, dec_t, dec_f, beq_t, beq_f, bne_t, bne_f, nbeq_t, nbeq_f, nble_t, nble_f, cond_true, cond_false, Bool.not_true, Bool.not_false, Bool.and_true, Bool.true_and, Bool.and_self, room_t, w64, w32, wu8, wu8', wu16, wu32, fdiv_pos, and63i, and1023i, and31i, and15i, and7i, and192i, or64w, or32w, or16w, or4096w, or64r, or64b, or32b, or16b, optK_some, optK_none, toNat_ofNat, append_eq, List.length_cons, List.length_nil, List.length_append, List.length_map, reduceIte, toNat_s, cell_one, isI_u16, isI_i64, getI_n, e1, hlen]
      rfl
    · simp only [List.length_cons] at hlen
      have hp : pt (a :: b :: c :: r) = if cont b && cont c then (if (a.toNat - 224) * 4096 + (b.toNat - 128) * 64 + (c.toNat - 128) < 2048 then (0, 0) else ((a.toNat - 224) * 4096 + (b.toNat - 128) * 64 + (c.toNat - 128), 3)) else (0, 0) := by simp only [pt]; rw [if_neg c0, if_neg (by omega), if_pos (by omega)]
      rw [hp]
      have hb := b_lt b
      have hc' := b_lt c
      have e4 := (byteAt_drop e3).2.2
      rw [← hN]
      have e5 : (a.toNat : Int) % 16 = ((a.toNat - 224 : Nat) : Int) := by omega
      simp (disch := omega) only [ite_t, ite_f, dec_t, dec_f, beq_t, beq_f, bne_t, bne_f, nbeq_t, nbeq_f, nble_t, nble_f, cond_true, cond_false, Bool.not_true, Bool.not_false, Bool.and_true, Bool.true_and, Bool.and_self, room_t, w64, w32, wu8, wu8', wu16, wu32, fdiv_pos, and63i, and1023i, and31i, and15i, and7i, and192i, or64w, or32w, or16w, or4096w, or64r, or64b, or32b, or16b, optK_some, optK_none, toNat_ofNat, append_eq, List.length_cons, List.length_nil, List.length_append, List.length_map, reduceIte, toNat_s, cell_one, isI_u16, isI_i64, getI_n, e1, hlen, and15i, sumK]
      rw [e5, g1]
      cases hc : cont b with
      | false =>
        rw [pl_bad e3 hl hc (j + 4) (j + 3) i 0 0 3 2048 _ 1 rfl (by omega)]
        simp (disch := omega) only [ite_t, ite_f, dec_t, dec_f, beq_t, beq_f, bne_t, bne_f, nbeq_t, nbeq_f, nble_t, nble_f, cond_true, cond_false, Bool.not_true, Bool.not_false, Bool.and_true, Bool.true_and, Bool.and_self, room_t, w64, w32, wu8, wu8', wu16, wu32, fdiv_pos, and63i, and1023i, and31i, and15i, and7i, and192i, or64w, or32w, or16w, or4096w, or64r, or64b, or32b, or16b, optK_some, optK_none, toNat_ofNat, append_eq, List.length_cons, List.length_nil, List.length_append, List.length_map, reduceIte, toNat_s, cell_one, isI_u16, isI_i64, getI_n, sumK, Bool.false_and, Bool.false_eq_true]
        rfl
      | true =>
        rw [pl_good e3 hl hc (j + 4) (j + 3) i 0 0 3 2048 _ 1 rfl (by omega) (by omega)]
        cases hd' : cont c with
        | false =>
          rw [pl_bad e4 hl hd' (j + 4) (j + 2) i 0 0 3 2048 _ 2 rfl (by omega)]
          simp (disch := omega) only [ite_t, ite_f, dec_t, dec_f, beq_t, beq_f, bne_t, bne_f, nbeq_t, nbeq_f, nble_t, nble_f, cond_true, cond_false, Bool.not_true, Bool.not_false, Bool.and_true, Bool.true_and, Bool.and_self, room_t, w64, w32, wu8, wu8', wu16, wu32, fdiv_pos, and63i, and1023i, and31i, and15i, and7i, and192i, or64w, or32w, or16w, or4096w, or64r, or64b, or32b, or16b, optK_some, optK_none, toNat_ofNat, append_eq, List.length_cons, List.length_nil, List.length_append, List.length_map, reduceIte, toNat_s, cell_one, isI_u16, isI_i64, getI_n, sumK, Bool.and_false, Bool.false_eq_true]
          rfl
        | true =>
          rw [pl_good e4 hl hd' (j + 4) (j + 2) i 0 0 3 2048 _ 2 rfl (by omega) (by omega), pl_end _ _ _ _ _ _ _ _ _ 3 (by omega)]
          simp only [cont, Bool.and_eq_true, decide_eq_true_eq] at hc hd'
          have e6 : ((a.toNat - 224) * 64 + (b.toNat - 128)) * 64 + (c.toNat - 128) = (a.toNat - 224) * 4096 + (b.toNat - 128) * 64 + (c.toNat - 128) := by omega
          rw [e6]
          by_cases q : (a.toNat - 224) * 4096 + (b.toNat - 128) * 64 + (c.toNat - 128) < 2048
          · simp (disch := omega) only [ite_t, ite_f, dec_t, dec_f, beq_t, beq_f, bne_t, bne_f, nbeq_t, nbeq_f, nble_t, nble_f, cond_true, cond_false, Bool.not_true, Bool.not_false, Bool.and_true, Bool.true_and, Bool.and_self, room_t, w64, w32, wu8, wu8', wu16, wu32, fdiv_pos, and63i, and1023i, and31i, and15i, and7i, and192i, or64w, or32w, or16w, or4096w, or64r, or64b, or32b, or16b, optK_some, optK_none, toNat_ofNat, append_eq, List.length_cons, List.length_nil, List.length_append, List.length_map, reduceIte, toNat_s, cell_one, isI_u16, isI_i64, getI_n, sumK]
            rfl
          · simp (disch := omega) only [ite_t, ite_f, dec_t, dec_f, beq_t, beq_f, bne_t, bne_f, nbeq_t, nbeq_f, nble_t, nble_f, cond_true, cond_false, Bool.not_true, Bool.not_false, Bool.and_true, Bool.true_and, Bool.and_self, room_t, w64, w32, wu8, wu8', wu16, wu32, fdiv_pos, and63i, and1023i, and31i, and15i, and7i, and192i, or64w, or32w, or16w, or4096w, or64r, or64b, or32b, or16b, optK_some, optK_none, toNat_ofNat, append_eq, List.length_cons, List.length_nil, List.length_append, List.length_map, reduceIte, toNat_s, cell_one, isI_u16, isI_i64, getI_n, sumK]
            rfl
  by_cases c4 : a.toNat ≤ 244
  · rcases r with _ | ⟨b, _ | ⟨c, _ | ⟨d, r⟩⟩⟩
    · simp only [List.length_nil] at hlen
      have hp : pt ([a]) = (0, 0) := by simp only [pt]; rw [if_neg c0, if_neg (by omega), if_neg (by omega), if_pos (by omega)]
      rw [hp]
      simp (disch := omega) only [ite_t, ite_f, dec_t, dec_f, beq_t, beq_f, bne_t, bne_f, nbeq_t, nbeq_f, nble_t, nble_f, cond_true, cond_false, Bool.not_true, Bool.not_false, Bool.and_true, Bool.true_and, Bool.and_self, room_t, w64, w32, wu8, wu8', wu16, wu32, fdiv_pos, and63i, and1023i, and31i, and15i, and7i, and192i, or64w, or32w, or16w, or4096w, or64r, or64b, or32b, or16b, optK_some, optK_none, toNat_ofNat, append_eq, List.length_cons, List.length_nil, List.length_append, List.length_map, reduceIte, toNat_s, cell_one, isI_u16, isI_i64, getI_n, e1, hlen]
      rfl
    · simp only [List.length_nil, List.length_cons] at hlen
      have hp : pt ([a, b]) = (0, 0) := by simp only [pt]; rw [if_neg c0, if_neg (by omega), if_neg (by omega), if_pos (by omega)]
      rw [hp]
      simp (disch := omega) only [ite_t, ite_f, dec_t, dec_f, beq_t, beq_f, bne_t, bne_f, nbeq_t, nbeq_f, nble_t, nble_f, cond_true, cond_false, Bool.not_true, Bool.not_false, Bool.and_true, Bool.true_and, Bool.and_self, room_t, w64, w32, wu8, wu8', wu16, wu32, fdiv_pos, and63i, and1023i, and31i, and15i, and7i, and192i, or64w, or32w, or16w, or4096w, or64r, or64b, or32b, or16b, optK_some, optK_none, toNat_ofNat, append_eq, List.length_cons, List.length_nil, List.length_append, List.length_map, reduceIte, toNat_s, cell_one, isI_u16, isI_i64, getI_n, e1, hlen]
      rfl
    · simp only [List.length_nil, List.length_cons] at hlen
      have hp : pt ([a, b, c]) = (0, 0) := by simp only [pt]; rw [if_neg c0, if_neg (by omega), if_neg (by omega), if_pos (by omega)]
      rw [hp]
      simp (disch := omega) only [ite_t, ite_f, dec_t, dec_f, beq_t, beq_f, bne_t, bne_f, nbeq_t, nbeq_f, nble_t, nble_f, cond_true, cond_false, Bool.not_true, Bool.not_false, Bool.and_true, Bool.true_and, Bool.and_self, room_t, w64, w32, wu8, wu8', wu16, wu32, fdiv_pos, and63i, and1023i, and31i, and15i, and7i, and192i, or64w, or32w, or16w, or4096w, or64r, or64b, or32b, or16b, optK_some, optK_none, toNat_ofNat, append_eq, List.length_cons, List.length_nil, List.length_append, List.length_map, reduceIte, toNat_s, cell_one, isI_u16, isI_i64, getI_n, e1, hlen]
      rfl
    · simp only [List.length_cons] at hlen
      have hp : pt (a :: b :: c :: d :: r) = if cont b && cont c && cont d then (if (a.toNat - 240) * 262144 + (b.toNat - 128) * 4096 + (c.toNat - 128) * 64 + (d.toNat - 128) < 65536 ∨ 1114111 < (a.toNat - 240) * 262144 + (b.toNat - 128) * 4096 + (c.toNat - 128) * 64 + (d.toNat - 128) then (0, 0) else ((a.toNat - 240) * 262144 + (b.toNat - 128) * 4096 + (c.toNat - 128) * 64 + (d.toNat - 128), 4)) else (0, 0) := by simp only [pt]; rw [if_neg c0, if_neg (by omega), if_neg (by omega), if_pos (by omega)]
      rw [hp]
      have hb := b_lt b
      have hc' := b_lt c
      have hd' := b_lt d
      have e4 := (byteAt_drop e3).2.2
      have e4' := (byteAt_drop e4).2.2
      rw [← hN]
      have e5 : (a.toNat : Int) % 8 = ((a.toNat - 240 : Nat) : Int) := by omega
      simp (disch := omega) only [ite_t, ite_f, dec_t, dec_f, beq_t, beq_f, bne_t, bne_f, nbeq_t, nbeq_f, nble_t, nble_f, cond_true, cond_false, Bool.not_true, Bool.not_false, Bool.and_true, Bool.true_and, Bool.and_self, room_t, w64, w32, wu8, wu8', wu16, wu32, fdiv_pos, and63i, and1023i, and31i, and15i, and7i, and192i, or64w, or32w, or16w, or4096w, or64r, or64b, or32b, or16b, optK_some, optK_none, toNat_ofNat, append_eq, List.length_cons, List.length_nil, List.length_append, List.length_map, reduceIte, toNat_s, cell_one, isI_u16, isI_i64, getI_n, e1, hlen, and7i, sumK]
      rw [e5, g1]
      cases hc : cont b with
      | false =>
        rw [pl_bad e3 hl hc (j + 4) (j + 3) i 0 0 4 65536 _ 1 rfl (by omega)]
        simp (disch := omega) only [ite_t, ite_f, dec_t, dec_f, beq_t, beq_f, bne_t, bne_f, nbeq_t, nbeq_f, nble_t, nble_f, cond_true, cond_false, Bool.not_true, Bool.not_false, Bool.and_true, Bool.true_and, Bool.and_self, room_t, w64, w32, wu8, wu8', wu16, wu32, fdiv_pos, and63i, and1023i, and31i, and15i, and7i, and192i, or64w, or32w, or16w, or4096w, or64r, or64b, or32b, or16b, optK_some, optK_none, toNat_ofNat, append_eq, List.length_cons, List.length_nil, List.length_append, List.length_map, reduceIte, toNat_s, cell_one, isI_u16, isI_i64, getI_n, sumK, Bool.false_and, Bool.false_eq_true]
        rfl
      | true =>
        rw [pl_good e3 hl hc (j + 4) (j + 3) i 0 0 4 65536 _ 1 rfl (by omega) (by omega)]
        cases hdc : cont c with
        | false =>
          rw [pl_bad e4 hl hdc (j + 4) (j + 2) i 0 0 4 65536 _ 2 rfl (by omega)]
          simp (disch := omega) only [ite_t, ite_f, dec_t, dec_f, beq_t, beq_f, bne_t, bne_f, nbeq_t, nbeq_f, nble_t, nble_f, cond_true, cond_false, Bool.not_true, Bool.not_false, Bool.and_true, Bool.true_and, Bool.and_self, room_t, w64, w32, wu8, wu8', wu16, wu32, fdiv_pos, and63i, and1023i, and31i, and15i, and7i, and192i, or64w, or32w, or16w, or4096w, or64r, or64b, or32b, or16b, optK_some, optK_none, toNat_ofNat, append_eq, List.length_cons, List.length_nil, List.length_append, List.length_map, reduceIte, toNat_s, cell_one, isI_u16, isI_i64, getI_n, sumK, Bool.and_false, Bool.false_and, Bool.false_eq_true]
          rfl
        | true =>
          rw [pl_good e4 hl hdc (j + 4) (j + 2) i 0 0 4 65536 _ 2 rfl (by omega) (by omega)]
          cases hdd : cont d with
          | false =>
            rw [pl_bad e4' hl hdd (j + 4) (j + 1) i 0 0 4 65536 _ 3 rfl (by omega)]
            simp (disch := omega) only [ite_t, ite_f, dec_t, dec_f, beq_t, beq_f, bne_t, bne_f, nbeq_t, nbeq_f, nble_t, nble_f, cond_true, cond_false, Bool.not_true, Bool.not_false, Bool.and_true, Bool.true_and, Bool.and_self, room_t, w64, w32, wu8, wu8', wu16, wu32, fdiv_pos, and63i, and1023i, and31i, and15i, and7i, and192i, or64w, or32w, or16w, or4096w, or64r, or64b, or32b, or16b, optK_some, optK_none, toNat_ofNat, append_eq, List.length_cons, List.length_nil, List.length_append, List.length_map, reduceIte, toNat_s, cell_one, isI_u16, isI_i64, getI_n, sumK, Bool.and_false, Bool.false_eq_true]
            rfl
          | true =>
            rw [pl_good e4' hl hdd (j + 4) (j + 1) i 0 0 4 65536 _ 3 rfl (by omega) (by omega), pl_end _ _ _ _ _ _ _ _ _ 4 (by omega)]
            simp only [cont, Bool.and_eq_true, decide_eq_true_eq] at hc hdc hdd
            have e6 : (((a.toNat - 240) * 64 + (b.toNat - 128)) * 64 + (c.toNat - 128)) * 64 + (d.toNat - 128) = (a.toNat - 240) * 262144 + (b.toNat - 128) * 4096 + (c.toNat - 128) * 64 + (d.toNat - 128) := by omega
            rw [e6]
            generalize (a.toNat - 240) * 262144 + (b.toNat - 128) * 4096 + (c.toNat - 128) * 64 + (d.toNat - 128) = z
            by_cases q : z < 65536
            · simp (disch := omega) only [ite_t, ite_f, dec_t, dec_f, beq_t, beq_f, bne_t, bne_f, nbeq_t, nbeq_f, nble_t, nble_f, cond_true, cond_false, Bool.not_true, Bool.not_false, Bool.and_true, Bool.true_and, Bool.and_self, room_t, w64, w32, wu8, wu8', wu16, wu32, fdiv_pos, and63i, and1023i, and31i, and15i, and7i, and192i, or64w, or32w, or16w, or4096w, or64r, or64b, or32b, or16b, optK_some, optK_none, toNat_ofNat, append_eq, List.length_cons, List.length_nil, List.length_append, List.length_map, reduceIte, toNat_s, cell_one, isI_u16, isI_i64, getI_n, sumK]
              rfl
            · by_cases q2 : 1114111 < z
              · simp (disch := omega) only [ite_t, ite_f, dec_t, dec_f, beq_t, beq_f, bne_t, bne_f, nbeq_t, nbeq_f, nble_t, nble_f, cond_true, cond_false, Bool.not_true, Bool.not_false, Bool.and_true, Bool.true_and, Bool.and_self, room_t, w64, w32, wu8, wu8', wu16, wu32, fdiv_pos, and63i, and1023i, and31i, and15i, and7i, and192i, or64w, or32w, or16w, or4096w, or64r, or64b, or32b, or16b, optK_some, optK_none, toNat_ofNat, append_eq, List.length_cons, List.length_nil, List.length_append, List.length_map, reduceIte, toNat_s, cell_one, isI_u16, isI_i64, getI_n, sumK]
                rfl
              · simp (disch := omega) only [ite_t, ite_f, dec_t, dec_f, beq_t, beq_f, bne_t, bne_f, nbeq_t, nbeq_f, nble_t, nble_f, cond_true, cond_false, Bool.not_true, Bool.not_false, Bool.and_true, Bool.true_and, Bool.and_self, room_t, w64, w32, wu8, wu8', wu16, wu32, fdiv_pos, and63i, and1023i, and31i, and15i, and7i, and192i, or64w, or32w, or16w, or4096w, or64r, or64b, or32b, or16b, optK_some, optK_none, toNat_ofNat, append_eq, List.length_cons, List.length_nil, List.length_append, List.length_map, reduceIte, toNat_s, cell_one, isI_u16, isI_i64, getI_n, sumK]
                rfl
  · have hp : pt (a :: r) = (0, 0) := by simp only [pt]; rw [if_neg c0, if_neg (by omega), if_neg (by omega), if_neg (by omega)]
    rw [hp]
    simp (disch := omega) only [ite_t, ite_f, dec_t, dec_f, beq_t, beq_f, bne_t, bne_f, nbeq_t, nbeq_f, nble_t, nble_f, cond_true, cond_false, Bool.not_true, Bool.not_false, Bool.and_true, Bool.true_and, Bool.and_self, room_t, w64, w32, wu8, wu8', wu16, wu32, fdiv_pos, and63i, and1023i, and31i, and15i, and7i, and192i, or64w, or32w, or16w, or4096w, or64r, or64b, or32b, or16b, optK_some, optK_none, toNat_ofNat, append_eq, List.length_cons, List.length_nil, List.length_append, List.length_map, reduceIte, toNat_s, cell_one, isI_u16, isI_i64, getI_n, e1]
    rfl
end Go.Proofs.YtlklpdifcpjlpaaDoor
