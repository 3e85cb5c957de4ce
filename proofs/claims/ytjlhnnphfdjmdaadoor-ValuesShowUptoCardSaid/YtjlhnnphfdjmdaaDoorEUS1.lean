/- ValuesSame, ValuesTypes and ValuesShow answer true. -/
import Derived.Test.YtjlhnnphfdjmdaaDoorEUR1
namespace Go.Proofs.YtjlhnnphfdjmdaaDoor.U
open Go.Abs Go.Uni Go.Plain L0
set_option maxRecDepth 100000
set_option maxHeartbeats 1000000
set_option linter.unusedVariables false
set_option linter.unusedSimpArgs false
theorem alive4 : law4_alive 2000001 = some true := by kernel_rfl
theorem beqc (a b : Int) : (a == b) = (b == a) := Bool.eq_iff_iff.2 ⟨fun h => beq_iff_eq.2 (beq_iff_eq.1 h).symm, fun h => beq_iff_eq.2 (beq_iff_eq.1 h).symm⟩
theorem beqs (a b : List UInt8) : (a == b) = (b == a) := Bool.eq_iff_iff.2 ⟨fun h => beq_iff_eq.2 (beq_iff_eq.1 h).symm, fun h => beq_iff_eq.2 (beq_iff_eq.1 h).symm⟩
theorem ValuesSame_true (k m : Int) (s : List UInt8) (k' m' : Int) (s' : List UInt8) : ValuesSame 2000001 k m s k' m' s' = some true := by
  unfold ValuesSame ValuesSame.k
  have hs : ∀ a b c d e f, L0.values_Same a b c d e f = some () := fun _ _ _ _ _ _ => rfl
  rw [alive4]
  simp only [hs, optK_some, cond_true, beq_self_eq_true, Bool.and_true, beqc k' k, beqc m' m, beqs s' s]
theorem types_0 : ValuesTypes 2000001 0 = some true := by kernel_rfl
theorem types_1 : ValuesTypes 2000001 1 = some true := by kernel_rfl
theorem types_2 : ValuesTypes 2000001 2 = some true := by kernel_rfl
theorem types_3 : ValuesTypes 2000001 3 = some true := by kernel_rfl
theorem types_4 : ValuesTypes 2000001 4 = some true := by kernel_rfl
theorem types_5 : ValuesTypes 2000001 5 = some true := by kernel_rfl
theorem types_6 : ValuesTypes 2000001 6 = some true := by kernel_rfl
theorem types_7 : ValuesTypes 2000001 7 = some true := by kernel_rfl
theorem types_8 : ValuesTypes 2000001 8 = some true := by kernel_rfl
theorem types_9 : ValuesTypes 2000001 9 = some true := by kernel_rfl
theorem ValuesTypes_true (a : Int) : ValuesTypes 2000001 a = some true := by
  by_cases h : 0 ≤ a ∧ a < 10
  · have : a = 0 ∨ a = 1 ∨ a = 2 ∨ a = 3 ∨ a = 4 ∨ a = 5 ∨ a = 6 ∨ a = 7 ∨ a = 8 ∨ a = 9 := by omega
    rcases this with rfl | rfl | rfl | rfl | rfl | rfl | rfl | rfl | rfl | rfl
    · exact types_0
    · exact types_1
    · exact types_2
    · exact types_3
    · exact types_4
    · exact types_5
    · exact types_6
    · exact types_7
    · exact types_8
    · exact types_9
  · unfold ValuesTypes ValuesTypes.k
    rw [alive4]
    by_cases h1 : a < 0
    · simp only [optK_some, Bool.not_true, cond_false, dec_t h1, cond_true]
    · simp only [optK_some, Bool.not_true, cond_false, dec_f h1, dec_t (show a ≥ 10 by omega), cond_true]
theorem hx_inj0 : ∀ a < 16, ∀ b < 16, hx a = hx b → a = b := by decide
theorem hx_range0 : ∀ a < 16, 48 ≤ (hx a).toNat ∧ (hx a).toNat ≤ 102 := by decide
theorem hx_inj {a b : Nat} (h : a < 16) (h' : b < 16) (e : hx a = hx b) : a = b := hx_inj0 a h b h' e
theorem hx_range {a : Nat} (h : a < 16) : 48 ≤ (hx a).toNat ∧ (hx a).toNat ≤ 102 := hx_range0 a h
theorem esc_inj {x y : Nat} (hx1 : x < 65536) (hy1 : y < 65536) {r r' : List UInt8} (h : escU x ++ r = escU y ++ r') : x = y ∧ r = r' := by
  simp only [escU, List.cons_append, List.nil_append, List.cons.injEq, true_and] at h
  obtain ⟨h1, h2, h3, h4, h5⟩ := h
  have e1 := hx_inj (Nat.mod_lt _ (by omega)) (Nat.mod_lt _ (by omega)) h1
  have e2 := hx_inj (Nat.mod_lt _ (by omega)) (Nat.mod_lt _ (by omega)) h2
  have e3 := hx_inj (Nat.mod_lt _ (by omega)) (Nat.mod_lt _ (by omega)) h3
  have e4 := hx_inj (Nat.mod_lt _ (by omega)) (Nat.mod_lt _ (by omega)) h4
  exact ⟨by omega, h5⟩
theorem qu_inj {x y : Nat} (hx1 : x < 65536) (hy1 : y < 65536) {r r' : List UInt8} (h : qu x ++ r = qu y ++ r') : x = y ∧ r = r' := by
  unfold qu at h
  split at h <;> split at h
  · rename_i h1 h2
    simp only [List.cons_append, List.nil_append, List.cons.injEq] at h
    obtain ⟨h3, h4⟩ := h
    have := congrArg UInt8.toNat h3
    simp at this
    exact ⟨by omega, h4⟩
  · rename_i h1 h2
    simp only [escU, List.cons_append, List.nil_append, List.cons.injEq] at h
    have := congrArg UInt8.toNat h.1
    simp at this
    omega
  · rename_i h1 h2
    simp only [escU, List.cons_append, List.nil_append, List.cons.injEq] at h
    have := congrArg UInt8.toNat h.1
    simp at this
    omega
  · exact esc_inj hx1 hy1 h
theorem qu_ne (x : Nat) : ∃ a r, qu x = a :: r ∧ a ≠ 34 := by
  unfold qu
  split
  · rename_i h
    refine ⟨_, _, rfl, fun e => ?_⟩
    have := congrArg UInt8.toNat e
    simp at this
    omega
  · exact ⟨92, _, rfl, by decide⟩
theorem flat_inj : ∀ {u v : List Nat}, (∀ x ∈ u, x < 65536) → (∀ x ∈ v, x < 65536) → u.flatMap qu ++ [34] = v.flatMap qu ++ [34] → u = v
  | [], [], _, _, _ => rfl
  | [], y :: v, _, _, h => by
    obtain ⟨a, r, e, hn⟩ := qu_ne y
    rw [List.flatMap_cons, e] at h
    simp only [List.flatMap_nil, List.nil_append, List.cons_append] at h
    exact absurd (List.cons.inj h).1.symm hn
  | x :: u, [], _, _, h => by
    obtain ⟨a, r, e, hn⟩ := qu_ne x
    rw [List.flatMap_cons, e] at h
    simp only [List.flatMap_nil, List.nil_append, List.cons_append] at h
    exact absurd (List.cons.inj h).1 hn
  | x :: u, y :: v, hu, hv, h => by
    rw [List.flatMap_cons, List.flatMap_cons, List.append_assoc, List.append_assoc] at h
    obtain ⟨rfl, h2⟩ := qu_inj (hu x (List.mem_cons_self ..)) (hv y (List.mem_cons_self ..)) h
    rw [flat_inj (fun z hz => hu z (List.mem_cons_of_mem _ hz)) (fun z hz => hv z (List.mem_cons_of_mem _ hz)) h2]
theorem quote_inj {a b : List UInt8} (ha : right a = true) (hb : right b = true) (h : quote (unitsOf a) = quote (unitsOf b)) : a = b := by
  have := flat_inj (units_lt a) (units_lt b) (List.cons.inj h).2
  rw [← text_units ha, ← text_units hb, this]
theorem qu_range (x : Nat) : ∀ c ∈ qu x, 32 ≤ c.toNat ∧ c.toNat ≤ 126 := by
  intro c hc
  unfold qu at hc
  split at hc
  · simp only [List.mem_singleton] at hc
    subst hc; simp; omega
  · simp only [escU, List.mem_cons, List.not_mem_nil, or_false] at hc
    have h1 := hx_range (Nat.mod_lt (x / 4096) (show 16 > 0 by omega))
    have h2 := hx_range (Nat.mod_lt (x / 256) (show 16 > 0 by omega))
    have h3 := hx_range (Nat.mod_lt (x / 16) (show 16 > 0 by omega))
    have h4 := hx_range (Nat.mod_lt x (show 16 > 0 by omega))
    rcases hc with rfl | rfl | rfl | rfl | rfl | rfl
    · decide
    · decide
    · omega
    · omega
    · omega
    · omega
theorem quote_range (u : List Nat) : ∀ c ∈ quote u, 32 ≤ c.toNat ∧ c.toNat ≤ 126 := by
  intro c hc
  simp only [quote, List.mem_cons, List.mem_append, List.mem_flatMap, List.not_mem_nil, or_false] at hc
  rcases hc with rfl | ⟨x, _, hx⟩ | rfl
  · decide
  · exact qu_range x c hx
  · decide
theorem show_loop {s : List UInt8} (hs : ∀ c ∈ s, 32 ≤ c.toNat ∧ c.toNat ≤ 126) (hl : s.length ≤ 90000) (n : Nat) (b : Bool) : ∀ (d i j : Nat), s.length - i = d → i ≤ s.length → d < j → ∃ t, ValuesShow.l0 n b s j (i : Int) = some (.inr t) := by
  intro d
  induction d with
  | zero =>
    intro i j hd hi hj
    obtain ⟨j, rfl⟩ : ∃ k, j = k + 1 := ⟨j - 1, by omega⟩
    refine ⟨(i : Int), ?_⟩
    rw [ValuesShow.l0.succ, ValuesShow.l0.s]
    simp (disch := omega) only [ite_t, ite_f, dec_t, dec_f, beq_t, beq_f, bne_t, bne_f, nbeq_t, nbeq_f, nble_t, nble_f, cond_true, cond_false, Bool.not_true, Bool.not_false, Bool.and_true, Bool.true_and, Bool.and_self, room_t, w64, w32, wu8, wu8', wu16, wu32, fdiv_pos, and63i, and1023i, and31i, and15i, and7i, and192i, or64w, or32w, or16w, or4096w, or64r, or64b, or32b, or16b, optK_some, optK_none, toNat_ofNat, append_eq, List.length_cons, List.length_nil, List.length_append, List.length_map, reduceIte, toNat_s, cell_one, isI_u16, isI_i64, getI_n]
  | succ d ih =>
    intro i j hd hi hj
    obtain ⟨j, rfl⟩ : ∃ k, j = k + 1 := ⟨j - 1, by omega⟩
    have hil : i < s.length := by omega
    obtain ⟨t, ht⟩ := ih (i + 1) j (by omega) (by omega) (by omega)
    refine ⟨t, ?_⟩
    have hc := hs s[i] (List.getElem_mem hil)
    have e : byteAt s i = (s[i].toNat : Int) := by simp [byteAt, List.getD, hil]
    rw [ValuesShow.l0.succ, ValuesShow.l0.s]
    simp (disch := omega) only [ite_t, ite_f, dec_t, dec_f, beq_t, beq_f, bne_t, bne_f, nbeq_t, nbeq_f, nble_t, nble_f, cond_true, cond_false, Bool.not_true, Bool.not_false, Bool.and_true, Bool.true_and, Bool.and_self, room_t, w64, w32, wu8, wu8', wu16, wu32, fdiv_pos, and63i, and1023i, and31i, and15i, and7i, and192i, or64w, or32w, or16w, or4096w, or64r, or64b, or32b, or16b, optK_some, optK_none, toNat_ofNat, append_eq, List.length_cons, List.length_nil, List.length_append, List.length_map, reduceIte, toNat_s, cell_one, isI_u16, isI_i64, getI_n, e]
    exact ht
theorem show_str {s : List UInt8} (hl : s.length ≤ 2000000) (hr : right s = true) (b : Bool) : values_Show 2000001 4 0 s b = some (quote (unitsOf s)) := by
  unfold values_Show values_Show.k
  rw [quoted_eq hl hr (by omega)]
  rfl
theorem quote_len (u : List Nat) : 2 ≤ (quote u).length := by simp [quote]
theorem ValuesShow_true {a b : List UInt8} (ha : a.length ≤ 2000000) (hb : b.length ≤ 2000000) : ValuesShow 2000001 a b = some true := by
  unfold ValuesShow ValuesShow.k
  rw [alive4]
  simp only [optK_some, Bool.not_true, cond_false]
  rw [rright_eq ha (by omega), rright_eq hb (by omega)]
  cases hra : right a with
  | false => rfl
  | true =>
    cases hrb : right b with
    | false => rfl
    | true =>
      by_cases h1 : (a.length : Int) > 300
      · simp only [optK_some, Bool.not_true, cond_false, dec_t h1, cond_true]
      · by_cases h2 : (b.length : Int) > 300
        · simp only [optK_some, Bool.not_true, cond_false, dec_f h1, dec_t h2, cond_true]
        · have hq := quote_len (unitsOf a)
          have hql := qus_len (unitsOf a)
          have hul := units_len a
          have h3 : ¬ (((quote (unitsOf a)).length : Int) < 2) := by omega
          have hql2 : (quote (unitsOf a)).length ≤ 90000 := by simp only [quote, List.length_cons, List.length_append, List.length_nil]; omega
          obtain ⟨t, ht⟩ := show_loop (quote_range (unitsOf a)) hql2 2000001 false _ 0 2000001 rfl (by omega) (by omega)
          have heq : (quote (unitsOf a) == quote (unitsOf b)) = (a == b) := by
            rw [Bool.eq_iff_iff, beq_iff_eq, beq_iff_eq]
            exact ⟨quote_inj hra hrb, fun e => by rw [e]⟩
          simp only [optK_some, Bool.not_true, cond_false, dec_f h1, dec_f h2, show_str ha hra, show_str hb hrb, dec_f h3, heq, beq_self_eq_true]
          have : ValuesShow.l0 2000001 false (quote (unitsOf a)) 2000001 0 = some (.inr t) := ht
          rw [this]; rfl
end Go.Proofs.YtjlhnnphfdjmdaaDoor.U
