/- LexSpace: what the statement's function answers. -/
import Derived.Test.YtefenlmpbgdpnaaDoorEsLU
namespace Go.Proofs.YtefenlmpbgdpnaaDoor.L
open Go.Abs Go.Uni Go.Plain Go.Deci
set_option maxRecDepth 100000
set_option maxHeartbeats 2000000
set_option linter.unusedVariables false
set_option linter.unusedSimpArgs false
theorem nth_drop {a : List (List AVal)} {i : Nat} {r : List AVal} {t : List (List AVal)} (h : a.drop i = r :: t) : nthL a i = r ∧ i < a.length ∧ a.drop (i + 1) = t := by
  have hl : i < a.length := by
    rcases Nat.lt_or_ge i a.length with h' | h'
    · exact h'
    · rw [List.drop_eq_nil_of_le h'] at h; cases h
  refine ⟨?_, hl, ?_⟩
  · have := drop_at a i hl
    rw [h] at this
    injection this with h1 _
    simp [nthL, List.getD_eq_getElem?_getD, List.getElem?_eq_getElem hl, h1]
  · rw [← List.drop_drop, h]; rfl
theorem uni_bytes (l : List UInt8) : uni 1 (l.map byte) = true := by
  simp [uni, byte]
theorem cp_round {b : List UInt8} (hb : b.length ≤ 1000) {W : List UInt8} (hW : W.length ≤ 20) {l : List (List AVal)} {w : Nat} (hw : w < l.length) (hWl : nthL l w = [.str W]) {a : List (List AVal)} (ha : a.length ≤ 2000) {i : Nat} {kd nm : Int} {txt : List UInt8} {k : Nat} {t : List (List AVal)}
    (hd : a.drop i = tok kd k nm txt :: t) (hk : k ≤ b.length) {c : List UInt8} (hc : c.length ≤ 60000) {from_ : Nat} (hf : from_ ≤ k) (n j : Nat) :
    LexSpace.l0 n (b.map byte) (w : Int) false l a (j + 1) (c.map byte) (from_ : Int) (i : Int) = LexSpace.l0 n (b.map byte) (w : Int) false l a j ((c ++ ((b.take k).drop from_ ++ W)).map byte) (k : Int) ((i + 1 : Nat) : Int) := by
  obtain ⟨h1, h2, h3⟩ := nth_drop hd
  have u2 : uni 1 (List.drop from_ (List.take k (b.map byte))) = true := by rw [← List.map_take, ← List.map_drop]; exact uni_bytes _
  have hcell : getI (cellAt (List.drop 1 (tok kd k nm txt)) 0) = (k : Int) := rfl
  have hi : isI .i64 (cellAt (List.drop 1 (tok kd k nm txt)) 0) = true := rfl
  have hlen : (Nat.ble 1 (List.drop 1 (tok kd k nm txt)).length && true) = true := rfl
  have hlen4 : Nat.beq (tok kd k nm txt).length 4 = true := rfl
  have hs : isS (cellAt [.str W] 0) = true := rfl
  have hg : getS (cellAt [.str W] 0) = W := rfl
  rw [LexSpace.l0.succ, LexSpace.l0.s, dec_t (by omega)]
  simp only [cond_true, Int.toNat_natCast, h1, hcell, hi, hlen, hlen4]
  have c1 : (0 : Int) ≤ (i : Int) ∧ (i : Int) < (a.length : Int) := by omega
  simp only [if_pos c1]
  rw [dec_f (by omega)]
  simp only [cond_false]
  rw [dec_f (by simp only [List.length_map]; omega)]
  simp only [cond_false]
  rw [if_pos (uni_bytes b), if_pos (by simp only [List.length_map]; omega), if_pos (by omega), if_pos u2]
  rw [if_pos (by simp only [Bool.true_and, roomOk, Bool.and_eq_true, decide_eq_true_eq, List.length_map, List.length_drop, List.length_take]; omega)]
  rw [if_pos (by omega), hWl]
  simp only [hs, hg, cond_true, Nat.beq, List.length_cons, List.length_nil, Nat.ble, Bool.true_and]
  rw [if_pos (by simp only [roomOk, Bool.and_eq_true, decide_eq_true_eq, append_eq, List.length_append, List.length_map, List.length_drop, List.length_take]; omega)]
  have e1 : List.append (List.append (c.map byte) (List.drop from_ (List.take k (b.map byte)))) (W.map fun c => [AVal.int .u8 (c.toNat : Int)]) = (c ++ ((b.take k).drop from_ ++ W)).map byte := by
    rw [append_eq, append_eq, List.map_append, List.map_append, List.map_drop, List.map_take, List.append_assoc]
    rfl
  rw [e1, w64 (by omega)]
  rfl
theorem cp_run {b : List UInt8} (hb : b.length ≤ 1000) {W : List UInt8} (hW : W.length ≤ 20) {l : List (List AVal)} {w : Nat} (hw : w < l.length) (hWl : nthL l w = [.str W]) {a : List (List AVal)} (ha : a.length ≤ 1001) (n : Nat) : ∀ (ts : List T) (pre c : List UInt8) (from_ i j : Nat),
    a.drop i = rows (from_ + pre.length) ts ++ [tok 0 (b.length : Int) 0 []] → b.drop from_ = pre ++ bytes ts → from_ ≤ b.length → c.length ≤ from_ + 20 * i → ts.length + 1 < j →
    LexSpace.l0 n (b.map byte) (w : Int) false l a j (c.map byte) (from_ : Int) (i : Int) = some (.inr ((c ++ (pre ++ W ++ bytes (ins W ts))).map byte, (b.length : Int), (a.length : Int))) := by
  intro ts
  induction ts with
  | nil =>
    intro pre c from_ i j hd hp hf hc hj
    obtain ⟨j, rfl⟩ : ∃ m, j = m + 2 := ⟨j - 2, by simp at hj; omega⟩
    have hd' : a.drop i = tok 0 (b.length : Int) 0 [] :: [] := hd
    obtain ⟨_, h2, h3⟩ := nth_drop hd'
    rw [cp_round hb hW hw hWl (by omega) hd' (Nat.le_refl _) (by omega) hf n (j + 1)]
    have hi : i + 1 = a.length := by
      have := congrArg List.length hd'
      simp at this
      omega
    rw [hi, LexSpace.l0.succ, LexSpace.l0.s, dec_f (by omega)]
    simp only [cond_false]
    rw [List.take_length, hp]
    show some (Sum.inr ((c ++ (pre ++ [] ++ W)).map byte, _, _)) = some (Sum.inr ((c ++ (pre ++ W ++ [])).map byte, _, _))
    simp
  | cons t ts ih =>
    intro pre c from_ i j hd hp hf hc hj
    simp only [List.length_cons] at hj
    obtain ⟨j, rfl⟩ : ∃ m, j = m + 1 := ⟨j - 1, by omega⟩
    have hd' : a.drop i = tok t.kd ((from_ + pre.length : Nat) : Int) t.nm t.txt :: (rows (from_ + pre.length + (t.x.length + t.g.length)) ts ++ [tok 0 (b.length : Int) 0 []]) := hd
    obtain ⟨_, h2, h3⟩ := nth_drop hd'
    rw [bytes_cons] at hp
    have hlp := congrArg List.length hp
    simp only [List.length_drop, List.length_append] at hlp
    have hcut : (b.take (from_ + pre.length)).drop from_ = pre := by
      rw [List.drop_take, hp]; simp
    rw [cp_round hb hW hw hWl (by omega) hd' (by omega) (by omega) (by omega) n j, hcut]
    have hp' : b.drop (from_ + pre.length) = (t.x ++ t.g) ++ bytes ts := by
      rw [← List.drop_drop, hp, List.append_assoc]; simp
    have := ih (t.x ++ t.g) (c ++ (pre ++ W)) (from_ + pre.length) (i + 1) j (by rw [h3]; simp) hp' (by omega) (by simp only [List.length_append]; omega) (by omega)
    rw [this, ins_cons, bytes_cons]
    simp
theorem tok_cmp (n : Nat) {a d : List (List AVal)} (ha : a.length ≤ 100000) (hd : d.length = a.length) (h : ∀ i < a.length, ∃ kd k k' nm txt, nthL a i = tok kd k nm txt ∧ nthL d i = tok kd k' nm txt) : ∀ (m i j : Nat), a.length - i = m → i ≤ a.length → m < j →
    LexSpace.l1 n false a d j (i : Int) = some (.inr (a.length : Int)) := by
  intro m
  induction m with
  | zero =>
    intro i j hm hi hj
    obtain ⟨j, rfl⟩ : ∃ m, j = m + 1 := ⟨j - 1, by omega⟩
    rw [LexSpace.l1.succ, LexSpace.l1.s, dec_f (by omega)]
    simp only [cond_false]
    rw [show i = a.length by omega]
  | succ m ih =>
    intro i j hm hi hj
    obtain ⟨j, rfl⟩ : ∃ m, j = m + 1 := ⟨j - 1, by omega⟩
    obtain ⟨kd, k, k', nm, txt, h1, h2⟩ := h i (by omega)
    have c1 : (0 : Int) ≤ (i : Int) ∧ (i : Int) < (a.length : Int) := by omega
    have c2 : (0 : Int) ≤ (i : Int) ∧ (i : Int) < (d.length : Int) := by omega
    rw [LexSpace.l1.succ, LexSpace.l1.s, dec_t (by omega)]
    simp only [cond_true, Int.toNat_natCast, h1, h2, if_pos c1, if_pos c2]
    simp only [tok, cellAt, tget, isI, getI, isS, getS, List.length_cons, List.length_nil, List.drop, Nat.beq, Nat.ble, decide_true, Bool.true_and, cond_true, bne_self_eq_false, beq_self_eq_true, Bool.not_true, cond_false]
    rw [w64 (by omega), show ((i : Int) + 1) = ((i + 1 : Nat) : Int) by omega]
    exact ih (i + 1) j (by omega) (by omega) (by omega)
theorem rows_nth : ∀ (ts : List T) (k k' e e' : Nat) (W : List UInt8) (i : Nat), i < (rows k ts ++ [tok 0 (e : Int) 0 []]).length →
    ∃ kd p p' nm txt, nthL (rows k ts ++ [tok 0 (e : Int) 0 []]) i = tok kd p nm txt ∧ nthL (rows k' (ins W ts) ++ [tok 0 (e' : Int) 0 []]) i = tok kd p' nm txt
  | [], k, k', e, e', W, i, h => by
    have : i = 0 := by simp [rows] at h; omega
    subst this
    exact ⟨0, e, e', 0, [], rfl, rfl⟩
  | t :: ts, k, k', e, e', W, 0, h => ⟨t.kd, k, k', t.nm, t.txt, rfl, rfl⟩
  | t :: ts, k, k', e, e', W, i + 1, h => by
    have := rows_nth ts (k + (t.x.length + t.g.length)) (k' + (t.x.length + (t.g ++ W).length)) e e' W i (by simpa [rows] using h)
    exact this
theorem putIn_rows (w : Nat) (hw : w < 9) : ∃ W, W ∈ putIn ∧ nthL [[AVal.str [(32 : UInt8)]], [AVal.str [(9 : UInt8)]], [AVal.str [(10 : UInt8)]], [AVal.str ([13, 10] : List UInt8)], [AVal.str ([32, 47, 47, 32, 120, 10] : List UInt8)], [AVal.str ([32, 47, 42, 32, 120, 32, 42, 47, 32] : List UInt8)], [AVal.str ([32, 47, 42, 42, 47] : List UInt8)], [AVal.str ([32, 47, 42, 32, 10, 32, 47, 47, 32, 42, 47] : List UInt8)], [AVal.str ([32, 10, 32, 9] : List UInt8)]] w = [.str W] := by
  have : w = 0 ∨ w = 1 ∨ w = 2 ∨ w = 3 ∨ w = 4 ∨ w = 5 ∨ w = 6 ∨ w = 7 ∨ w = 8 := by omega
  rcases this with rfl | rfl | rfl | rfl | rfl | rfl | rfl | rfl | rfl <;> exact ⟨_, by simp [putIn]; try decide, rfl⟩
theorem LexSpace_true (b : List UInt8) (w : Int) : LexSpace 2000001 (b.map byte) w = some true := by
  unfold LexSpace LexSpace.k
  rw [alive12, optK_some]
  simp only [Bool.not_true, cond_false]
  by_cases hb : b.length ≤ 1000
  case neg => rw [dec_t (by simp only [List.length_map]; omega)]; rfl
  rw [dec_f (by simp only [List.length_map]; omega)]
  simp only [cond_false]
  by_cases h0 : 0 ≤ w
  case neg => rw [dec_t (by omega)]; rfl
  rw [dec_f (by omega)]
  simp only [cond_false]
  by_cases h9 : w < 9
  case neg => rw [dec_t (by omega)]; rfl
  rw [dec_f (by omega)]
  simp only [cond_false]
  obtain ⟨w, rfl⟩ : ∃ m : Nat, w = (m : Int) := ⟨w.toNat, by omega⟩
  obtain ⟨W, hW, hWl⟩ := putIn_rows w (by omega)
  have hS := putIn_spc W hW
  have hWlen := putIn_len W hW
  obtain ⟨a, at_, e, ht⟩ : ∃ a at_ e, lex_Tokens 2000001 (b.map byte) = some (a, at_, e) := by
    exact tokens_total (by omega)
  rw [ht, optK_some, num_eq, optK_some]
  simp only
  by_cases he : e = 0
  case neg =>
    have : (e != 0) = true := by simpa using he
    rw [this]; rfl
  subst he
  simp only [bne_self_eq_false, cond_false]
  obtain ⟨hl, hv, g, ts, hg, hs⟩ := tokens_inv (by omega) ht
  have hgb : (g ++ bytes ts).length ≤ 65536 := by rw [← hs]; exact hl
  have ht2 := tokens_fwd (n := 2000001) (by omega) hg hgb (by rw [← hs]; exact hv)
  rw [← hs, ht] at ht2
  injection ht2 with ht2
  injection ht2 with ha _
  have hbl := congrArg List.length hs
  simp only [List.length_append] at hbl
  have htl := good_len hg
  have hal : a.length = ts.length + 1 := by rw [ha]; simp [rows_len]
  have hcp := cp_run hb (W := W) (by omega) (l := [[AVal.str [(32 : UInt8)]], [AVal.str [(9 : UInt8)]], [AVal.str [(10 : UInt8)]], [AVal.str ([13, 10] : List UInt8)], [AVal.str ([32, 47, 47, 32, 120, 10] : List UInt8)], [AVal.str ([32, 47, 42, 32, 120, 32, 42, 47, 32] : List UInt8)], [AVal.str ([32, 47, 42, 42, 47] : List UInt8)], [AVal.str ([32, 47, 42, 32, 10, 32, 47, 47, 32, 42, 47] : List UInt8)], [AVal.str ([32, 10, 32, 9] : List UInt8)]])
    (w := w) (by simp; omega) hWl (a := a) (by omega) 2000001 ts g [] 0 0 2000001 (by rw [List.drop_zero, ha, Nat.zero_add]) (by rw [List.drop_zero]; exact hs) (Nat.zero_le _) (by simp) (by omega)
  have hcp' : LexSpace.l0 2000001 (b.map byte) (w : Int) false _ a 2000001 [] 0 0 = _ := hcp
  rw [hcp', optK_some]
  simp only [sumK, List.nil_append]
  have hbi := bytes_len ts W
  have hmul : ts.length * W.length ≤ 1000 * 11 := Nat.mul_le_mul (by omega) hWlen
  have hd := tokens_fwd (n := 2000001) (by omega) (good_ins hS hg) (by simp only [List.length_append]; omega) (good_valid hS hg (by rw [← hs]; exact hv))
  rw [hd, optK_some, num_eq, optK_some]
  simp only [bne_self_eq_false, cond_false]
  have hdl : (rows (g ++ W).length (ins W ts) ++ [tok 0 ((g ++ W ++ bytes (ins W ts)).length : Int) 0 []]).length = a.length := by
    rw [hal]; simp [rows_len, ins]
  rw [hdl]
  simp only [bne_self_eq_false, cond_false]
  have hcmp := tok_cmp 2000001 (a := a) (by omega) hdl (fun i hi => by
    rw [ha] at hi ⊢
    exact rows_nth ts g.length (g ++ W).length b.length _ W i hi) a.length 0 2000001 (by omega) (by omega) (by omega)
  have hcmp' : LexSpace.l1 2000001 false a _ 2000001 0 = _ := hcmp
  rw [hcmp', optK_some]
end Go.Proofs.YtefenlmpbgdpnaaDoor.L
