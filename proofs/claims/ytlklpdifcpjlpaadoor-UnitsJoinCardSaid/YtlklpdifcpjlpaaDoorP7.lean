/- What the reference of chapter 1 computes: code points and units. -/
import Derived.Test.YtlklpdifcpjlpaaDoorP6
namespace Go.Proofs.YtlklpdifcpjlpaaDoor
open Go.Abs Go.Uni Go.Plain
set_option maxRecDepth 100000
set_option maxHeartbeats 1000000
set_option linter.unusedVariables false
set_option linter.unusedSimpArgs false
theorem toNat_p (n : Nat) : Int.toNat ((n : Int) - 1) = n - 1 := by omega
theorem ahOf_last {cs : List Nat} (h : 0 < cs.length) : ahOf cs = isLead (cs[cs.length - 1]) := by
  rw [ahOf, List.getLast?_eq_getElem?, List.getElem?_eq_getElem (by omega)]
theorem pts_bad {s : List UInt8} {i : Nat} (h : i < s.length) (hl : s.length ≤ 100000) {n : Nat} (hn : 100000 < n) (j : Nat) (cs : List Nat) (hc : cs.length ≤ 100000) (hb : ((pt (s.drop i)).2 = 0 || (ahOf cs && isLow (pt (s.drop i)).1)) = true) :
    ref1_points.l0 n s [] false (j + 1) (cs.map cp) (i : Int) = some (.inl (cs.map cp, (i : Int))) := by
  rw [ref1_points.l0.succ, ref1_points.l0.s]
  have hp := point_eq h hl hn
  by_cases h0 : (pt (s.drop i)).2 = 0
  · simp (disch := omega) only [ite_t, ite_f, dec_t, dec_f, beq_t, beq_f, bne_t, bne_f, nbeq_t, nbeq_f, nble_t, nble_f, cond_true, cond_false, Bool.not_true, Bool.not_false, Bool.and_true, Bool.true_and, Bool.and_self, room_t, w64, w32, wu8, wu8', wu16, wu32, fdiv_pos, and63i, and1023i, and31i, and15i, and7i, and192i, or64w, or32w, or16w, or4096w, or64r, or64b, or32b, or16b, optK_some, optK_none, toNat_ofNat, append_eq, List.length_cons, List.length_nil, List.length_append, List.length_map, reduceIte, toNat_s, cell_one, isI_u16, isI_i64, getI_n, hp, h0]
  · simp only [h0, decide_false, Bool.false_or, Bool.and_eq_true] at hb
    obtain ⟨h1, h2⟩ := hb
    have hne : 0 < cs.length := by
      rcases cs with _ | ⟨a, r⟩
      · simp [ahOf] at h1
      · simp
    rw [ahOf_last hne] at h1
    simp only [isLead, isLow, Bool.and_eq_true, decide_eq_true_eq] at h1 h2
    simp (disch := omega) only [ite_t, ite_f, dec_t, dec_f, beq_t, beq_f, bne_t, bne_f, nbeq_t, nbeq_f, nble_t, nble_f, cond_true, cond_false, Bool.not_true, Bool.not_false, Bool.and_true, Bool.true_and, Bool.and_self, room_t, w64, w32, wu8, wu8', wu16, wu32, fdiv_pos, and63i, and1023i, and31i, and15i, and7i, and192i, or64w, or32w, or16w, or4096w, or64r, or64b, or32b, or16b, optK_some, optK_none, toNat_ofNat, append_eq, List.length_cons, List.length_nil, List.length_append, List.length_map, reduceIte, toNat_s, cell_one, isI_u16, isI_i64, getI_n, hp, toNat_p, nth_map, cp]
theorem pts_good {s : List UInt8} {i : Nat} (h : i < s.length) (hl : s.length ≤ 100000) {n : Nat} (hn : 100000 < n) (j : Nat) (cs : List Nat) (hc : cs.length ≤ 100000) (hb : ((pt (s.drop i)).2 = 0 || (ahOf cs && isLow (pt (s.drop i)).1)) = false) :
    ref1_points.l0 n s [] false (j + 1) (cs.map cp) (i : Int) = ref1_points.l0 n s [] false j ((cs ++ [(pt (s.drop i)).1]).map cp) ((i + (pt (s.drop i)).2 : Nat) : Int) := by
  rw [ref1_points.l0.succ, ref1_points.l0.s]
  have hp := point_eq h hl hn
  have h4 := (pt_width (s.drop i)).2
  simp only [Bool.or_eq_false_iff, decide_eq_false_iff_not] at hb
  obtain ⟨h0, hb⟩ := hb
  rw [List.map_append]
  by_cases q1 : 56320 ≤ (pt (s.drop i)).1
  · by_cases q2 : (pt (s.drop i)).1 ≤ 57343
    · by_cases hne : 0 < cs.length
      · rw [ahOf_last hne] at hb
        simp only [isLead, isLow, Bool.and_eq_false_iff, decide_eq_false_iff_not] at hb
        by_cases q3 : 55296 ≤ cs[cs.length - 1]
        · simp (disch := omega) only [ite_t, ite_f, dec_t, dec_f, beq_t, beq_f, bne_t, bne_f, nbeq_t, nbeq_f, nble_t, nble_f, cond_true, cond_false, Bool.not_true, Bool.not_false, Bool.and_true, Bool.true_and, Bool.and_self, room_t, w64, w32, wu8, wu8', wu16, wu32, fdiv_pos, and63i, and1023i, and31i, and15i, and7i, and192i, or64w, or32w, or16w, or4096w, or64r, or64b, or32b, or16b, optK_some, optK_none, toNat_ofNat, append_eq, List.length_cons, List.length_nil, List.length_append, List.length_map, reduceIte, toNat_s, cell_one, isI_u16, isI_i64, getI_n, hp, toNat_p, nth_map, cp, List.map_cons, List.map_nil]
          rfl
        · by_cases q4 : cs[cs.length - 1] ≤ 56319
          · simp (disch := omega) only [ite_t, ite_f, dec_t, dec_f, beq_t, beq_f, bne_t, bne_f, nbeq_t, nbeq_f, nble_t, nble_f, cond_true, cond_false, Bool.not_true, Bool.not_false, Bool.and_true, Bool.true_and, Bool.and_self, room_t, w64, w32, wu8, wu8', wu16, wu32, fdiv_pos, and63i, and1023i, and31i, and15i, and7i, and192i, or64w, or32w, or16w, or4096w, or64r, or64b, or32b, or16b, optK_some, optK_none, toNat_ofNat, append_eq, List.length_cons, List.length_nil, List.length_append, List.length_map, reduceIte, toNat_s, cell_one, isI_u16, isI_i64, getI_n, hp, toNat_p, nth_map, cp, List.map_cons, List.map_nil]
            rfl
          · exfalso; omega
      · simp (disch := omega) only [ite_t, ite_f, dec_t, dec_f, beq_t, beq_f, bne_t, bne_f, nbeq_t, nbeq_f, nble_t, nble_f, cond_true, cond_false, Bool.not_true, Bool.not_false, Bool.and_true, Bool.true_and, Bool.and_self, room_t, w64, w32, wu8, wu8', wu16, wu32, fdiv_pos, and63i, and1023i, and31i, and15i, and7i, and192i, or64w, or32w, or16w, or4096w, or64r, or64b, or32b, or16b, optK_some, optK_none, toNat_ofNat, append_eq, List.length_cons, List.length_nil, List.length_append, List.length_map, reduceIte, toNat_s, cell_one, isI_u16, isI_i64, getI_n, hp, toNat_p, nth_map, cp, List.map_cons, List.map_nil]
        rfl
    · simp (disch := omega) only [ite_t, ite_f, dec_t, dec_f, beq_t, beq_f, bne_t, bne_f, nbeq_t, nbeq_f, nble_t, nble_f, cond_true, cond_false, Bool.not_true, Bool.not_false, Bool.and_true, Bool.true_and, Bool.and_self, room_t, w64, w32, wu8, wu8', wu16, wu32, fdiv_pos, and63i, and1023i, and31i, and15i, and7i, and192i, or64w, or32w, or16w, or4096w, or64r, or64b, or32b, or16b, optK_some, optK_none, toNat_ofNat, append_eq, List.length_cons, List.length_nil, List.length_append, List.length_map, reduceIte, toNat_s, cell_one, isI_u16, isI_i64, getI_n, hp, toNat_p, cp, List.map_cons, List.map_nil]
      rfl
  · simp (disch := omega) only [ite_t, ite_f, dec_t, dec_f, beq_t, beq_f, bne_t, bne_f, nbeq_t, nbeq_f, nble_t, nble_f, cond_true, cond_false, Bool.not_true, Bool.not_false, Bool.and_true, Bool.true_and, Bool.and_self, room_t, w64, w32, wu8, wu8', wu16, wu32, fdiv_pos, and63i, and1023i, and31i, and15i, and7i, and192i, or64w, or32w, or16w, or4096w, or64r, or64b, or32b, or16b, optK_some, optK_none, toNat_ofNat, append_eq, List.length_cons, List.length_nil, List.length_append, List.length_map, reduceIte, toNat_s, cell_one, isI_u16, isI_i64, getI_n, hp, toNat_p, cp, List.map_cons, List.map_nil]
    rfl
def ptsOut : List (List AVal) × Int ⊕ List (List AVal) × Int → Option (List (List AVal))
  | .inl _ => none
  | .inr t => some t.1
theorem pts_loop {s : List UInt8} (hl : s.length ≤ 100000) {n : Nat} (hn : 100000 < n) : ∀ (d f i j : Nat) (cs : List Nat), s.length - i = d → i ≤ s.length → d < j → d ≤ f → cs.length ≤ i →
    ∃ x, ref1_points.l0 n s [] false j (cs.map cp) (i : Int) = some x ∧ ptsOut x = if (scan f (ahOf cs) (s.drop i)).2 then some ((cs ++ (scan f (ahOf cs) (s.drop i)).1).map cp) else none := by
  intro d
  induction d using Nat.strongRecOn with
  | ind d ih =>
    intro f i j cs hd hp hj hf hc
    obtain ⟨j, rfl⟩ : ∃ i, j = i + 1 := ⟨j - 1, by omega⟩
    rcases Nat.lt_or_ge i s.length with hlt | hge
    · obtain ⟨f, rfl⟩ : ∃ i, f = i + 1 := ⟨f - 1, by omega⟩
      have hd := drop_at s i hlt
      have hsc : scan (f + 1) (ahOf cs) (s.drop i) = if (pt (s.drop i)).2 = 0 || (ahOf cs && isLow (pt (s.drop i)).1) then ([], false) else ((pt (s.drop i)).1 :: (scan f (isLead (pt (s.drop i)).1) ((s.drop i).drop (pt (s.drop i)).2)).1, (scan f (isLead (pt (s.drop i)).1) ((s.drop i).drop (pt (s.drop i)).2)).2) := by
        rw [hd]; rfl
      rcases hb : ((pt (s.drop i)).2 = 0 || (ahOf cs && isLow (pt (s.drop i)).1)) with _ | _
      · have hb' := hb
        simp only [Bool.or_eq_false_iff, decide_eq_false_iff_not] at hb'
        have hw := pt_width (s.drop i)
        rw [List.length_drop] at hw
        obtain ⟨x, h, hx⟩ := ih (s.length - (i + (pt (s.drop i)).2)) (by omega) f (i + (pt (s.drop i)).2) j (cs ++ [(pt (s.drop i)).1]) rfl (by omega) (by omega) (by omega) (by simp; omega)
        refine ⟨x, ?_, ?_⟩
        · rw [pts_good hlt hl hn j cs (by omega) hb]; exact h
        · rw [hx, hsc, hb, ahOf_app, List.drop_drop]
          simp only [Bool.false_eq_true, if_false, List.append_assoc, List.singleton_append]
      · refine ⟨_, pts_bad hlt hl hn j cs (by omega) hb, ?_⟩
        rw [hsc, hb]
        simp [ptsOut]
    · refine ⟨.inr (cs.map cp, (i : Int)), ?_, ?_⟩
      · rw [ref1_points.l0.succ, ref1_points.l0.s]
        simp (disch := omega) only [ite_t, ite_f, dec_t, dec_f, beq_t, beq_f, bne_t, bne_f, nbeq_t, nbeq_f, nble_t, nble_f, cond_true, cond_false, Bool.not_true, Bool.not_false, Bool.and_true, Bool.true_and, Bool.and_self, room_t, w64, w32, wu8, wu8', wu16, wu32, fdiv_pos, and63i, and1023i, and31i, and15i, and7i, and192i, or64w, or32w, or16w, or4096w, or64r, or64b, or32b, or16b, optK_some, optK_none, toNat_ofNat, append_eq, List.length_cons, List.length_nil, List.length_append, List.length_map, reduceIte, toNat_s, cell_one, isI_u16, isI_i64, getI_n]
      · have hs : scan f (ahOf cs) [] = ([], true) := by cases f <;> rfl
        rw [List.drop_eq_nil_of_le hge, hs]
        simp [ptsOut]
theorem points_eq {s : List UInt8} (hl : s.length ≤ 100000) {n : Nat} (hn : 100000 < n) : ref1_points n s = some (if right s then ((pts s).1.map cp) else [], right s) := by
  obtain ⟨x, h, hx⟩ := pts_loop hl hn s.length s.length 0 n [] rfl (by omega) (by omega) (by omega) (by simp)
  unfold ref1_points ref1_points.k
  simp only [List.map_nil] at h
  rw [show (0 : Int) = ((0 : Nat) : Int) from rfl, h]
  have e : ptsOut x = if right s then some ((pts s).1.map cp) else none := hx
  rcases x with t | t
  · cases hr : right s with
    | false => rfl
    | true => rw [hr] at e; simp [ptsOut] at e
  · cases hr : right s with
    | false => rw [hr] at e; simp [ptsOut] at e
    | true =>
      rw [hr] at e
      simp only [ptsOut, if_true, Option.some.injEq] at e
      simp only [optK_some, sumK, if_true, e]
theorem rright_eq {s : List UInt8} (hl : s.length ≤ 100000) {n : Nat} (hn : 100000 < n) : ref1_RightText n s = some (right s) := by
  unfold ref1_RightText ref1_RightText.k
  rw [points_eq hl hn, optK_some]
theorem runits_round {cs : List Nat} (hc : ∀ c ∈ cs, c ≤ 1114111) (hl : cs.length ≤ 100000) {i : Nat} (hi : i < cs.length) (n j : Nat) (o : List Nat) (ho : o.length ≤ 1000000) :
    ref1_Units.l0 n [] (cs.map cp) true (j + 1) (o.map unit) (i : Int) = ref1_Units.l0 n [] (cs.map cp) true j ((o ++ u16 cs[i]).map unit) ((i + 1 : Nat) : Int) := by
  have hx := hc cs[i] (List.getElem_mem hi)
  rw [ref1_Units.l0.succ, ref1_Units.l0.s, List.map_append]
  by_cases h : 65535 < cs[i]
  · simp (disch := omega) only [ite_t, ite_f, dec_t, dec_f, beq_t, beq_f, bne_t, bne_f, nbeq_t, nbeq_f, nble_t, nble_f, cond_true, cond_false, Bool.not_true, Bool.not_false, Bool.and_true, Bool.true_and, Bool.and_self, room_t, w64, w32, wu8, wu8', wu16, wu32, fdiv_pos, and63i, and1023i, and31i, and15i, and7i, and192i, or64w, or32w, or16w, or4096w, or64r, or64b, or32b, or16b, optK_some, optK_none, toNat_ofNat, append_eq, List.length_cons, List.length_nil, List.length_append, List.length_map, reduceIte, toNat_s, cell_one, isI_u16, isI_i64, getI_n, nth_map, cp, unit, u16, List.map_cons, List.map_nil]
    rw [show 55296 + ((cs[i] : Int) - 65536) / 1024 = ((55296 + (cs[i] - 65536) / 1024 : Nat) : Int) by omega, show 56320 + ((cs[i] : Int) - 65536) % 1024 = ((56320 + (cs[i] - 65536) % 1024 : Nat) : Int) by omega]
    rfl
  · simp (disch := omega) only [ite_t, ite_f, dec_t, dec_f, beq_t, beq_f, bne_t, bne_f, nbeq_t, nbeq_f, nble_t, nble_f, cond_true, cond_false, Bool.not_true, Bool.not_false, Bool.and_true, Bool.true_and, Bool.and_self, room_t, w64, w32, wu8, wu8', wu16, wu32, fdiv_pos, and63i, and1023i, and31i, and15i, and7i, and192i, or64w, or32w, or16w, or4096w, or64r, or64b, or32b, or16b, optK_some, optK_none, toNat_ofNat, append_eq, List.length_cons, List.length_nil, List.length_append, List.length_map, reduceIte, toNat_s, cell_one, isI_u16, isI_i64, getI_n, nth_map, cp, unit, u16, List.map_cons, List.map_nil]
    rfl
theorem runits_loop {cs : List Nat} (hc : ∀ c ∈ cs, c ≤ 1114111) (hl : cs.length ≤ 100000) (n : Nat) : ∀ (d i j : Nat) (o : List Nat), cs.length - i = d → i ≤ cs.length → d < j → o.length ≤ 2 * i →
    ∃ k, ref1_Units.l0 n [] (cs.map cp) true j (o.map unit) (i : Int) = some ((o ++ (cs.drop i).flatMap u16).map unit, k) := by
  intro d
  induction d with
  | zero =>
    intro i j o hd hi hj ho
    obtain ⟨j, rfl⟩ : ∃ i, j = i + 1 := ⟨j - 1, by omega⟩
    refine ⟨(i : Int), ?_⟩
    rw [ref1_Units.l0.succ, ref1_Units.l0.s, List.drop_eq_nil_of_le (by omega)]
    simp (disch := omega) only [ite_t, ite_f, dec_t, dec_f, beq_t, beq_f, bne_t, bne_f, nbeq_t, nbeq_f, nble_t, nble_f, cond_true, cond_false, Bool.not_true, Bool.not_false, Bool.and_true, Bool.true_and, Bool.and_self, room_t, w64, w32, wu8, wu8', wu16, wu32, fdiv_pos, and63i, and1023i, and31i, and15i, and7i, and192i, or64w, or32w, or16w, or4096w, or64r, or64b, or32b, or16b, optK_some, optK_none, toNat_ofNat, append_eq, List.length_cons, List.length_nil, List.length_append, List.length_map, reduceIte, toNat_s, cell_one, isI_u16, isI_i64, getI_n, List.flatMap_nil, List.append_nil]
  | succ d ih =>
    intro i j o hd hi hj ho
    obtain ⟨j, rfl⟩ : ∃ i, j = i + 1 := ⟨j - 1, by omega⟩
    have hlt : i < cs.length := by omega
    have := u16_len cs[i]
    obtain ⟨k, h⟩ := ih (i + 1) j (o ++ u16 cs[i]) (by omega) (by omega) (by omega) (by rw [List.length_append]; omega)
    refine ⟨k, ?_⟩
    rw [runits_round hc hl hlt n j o (by omega), h, drop_at cs i hlt, List.flatMap_cons, List.append_assoc]
theorem runits_eq {s : List UInt8} (hl : s.length ≤ 100000) {n : Nat} (hn : 100000 < n) : ref1_Units n s = some ((unitsOf s).map unit) := by
  unfold ref1_Units ref1_Units.k
  rw [points_eq hl hn, optK_some]
  cases hr : right s with
  | false =>
    obtain ⟨j, rfl⟩ : ∃ i, n = i + 1 := ⟨n - 1, by omega⟩
    rw [ref1_Units.l0.succ, ref1_Units.l0.s, unitsOf, hr]
    rfl
  | true =>
    have hlen : (pts s).1.length ≤ 100000 := Nat.le_trans (scan_len _ _ _) hl
    have hc : ∀ c ∈ (pts s).1, c ≤ 1114111 := okc_lt (scan_ok s.length false s (pts s).1 (pts_right hr)).1
    obtain ⟨k, h⟩ := runits_loop hc hlen n (pts s).1.length 0 n [] rfl (by omega) (by omega) (by simp)
    rw [if_pos rfl, show (0 : Int) = ((0 : Nat) : Int) from rfl, show ([] : List (List AVal)) = List.map unit [] from rfl]
    simp only [List.map_nil] at h ⊢
    rw [h, unitsOf, hr, if_pos rfl]
    rfl
end Go.Proofs.YtlklpdifcpjlpaaDoor
