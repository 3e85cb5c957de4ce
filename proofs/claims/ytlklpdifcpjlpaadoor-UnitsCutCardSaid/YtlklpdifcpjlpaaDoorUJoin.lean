/- Join as a summary, and UnitsCut. -/
import Derived.Test.YtlklpdifcpjlpaaDoorUJDef
import Derived.Test.YtlklpdifcpjlpaaDoorUFun
import Derived.Test.YtlklpdifcpjlpaaDoorULaw1
namespace Go.Proofs.YtlklpdifcpjlpaaDoor.U
open Go.Abs Go.Uni
set_option maxRecDepth 100000
set_option linter.unusedSimpArgs false
set_option linter.unusedVariables false

def uCons (s : List UInt8) : List (List AVal) := unit (uHead s) :: (uTail s).map unit
theorem u16_enc (c : Nat) : (u16 c).length ≤ (enc c).length := by
  have := (enc_len c).1
  unfold u16
  split
  · rw [enc, if_neg (by omega), if_neg (by omega), if_neg (by omega)]; simp
  · simp; omega
theorem flat_le : ∀ (l : List Nat), (l.flatMap u16).length ≤ (l.flatMap enc).length
  | [] => Nat.le_refl _
  | c :: r => by
    have h1 := flat_le r
    have h2 := u16_enc c
    rw [List.flatMap_cons, List.flatMap_cons, List.length_append, List.length_append]; omega
theorem units_len (s : List UInt8) : (unitsOf s).length ≤ s.length := by
  rcases h : right s with _ | _
  · unfold unitsOf; rw [h]; simp
  · have h1 := text_units h
    have h2 := u16_cps (unitsOf s) (units_lt s)
    have h3 := flat_le (cps (unitsOf s))
    rw [h2] at h3
    unfold textOf at h1
    rw [h1] at h3
    exact h3
theorem units_ne {s : List UInt8} (h : right s = true) (hne : s ≠ []) : unitsOf s ≠ [] := fun h0 => by
  have h1 := text_units h
  rw [h0] at h1
  exact hne h1.symm
theorem uCons_eq {s : List UInt8} (h : right s = true) (hne : s ≠ []) : uCons s = (unitsOf s).map unit := by
  have h0 := units_ne h hne
  unfold uCons uHead uTail
  cases hu : unitsOf s with
  | nil => exact absurd hu h0
  | cons a r => rfl
theorem ofJ_ok (B : Nat) : NatOk env Tryd.prog B 17 ofJG := by
  intro args m out m' h
  unfold ofJG at h
  split at h
  case h_2 => cases h
  case h_1 s m =>
  split at h
  · injection h with h
    simp only [Prod.mk.injEq, true_and] at h
    obtain ⟨rfl, rfl⟩ := h
    exact call_frame (fl1 _) rfl (of_call B [] rfl)
  · rename_i x r
    injection h with h
    simp only [Prod.mk.injEq, Bool.and_eq_true] at h
    obtain ⟨⟨hs, hr⟩, rfl, rfl⟩ := h
    have h1 := of_call B (x :: r) hs
    rw [uRow_cons (units_ne hr (by simp)), ← uCons_eq hr (by simp)] at h1
    exact call_frame (fl1 _) rfl h1
theorem NJ0_ok (B : Nat) : NatsOk env Tryd.prog B NJ0 := addN_ok (right_ok B) (addN_ok (ofJ_ok B) noNats_ok)
theorem NJ_ok (B : Nat) : NatsOk env Tryd.prog B NJ := addN_ok (text14_ok B) (NJ0_ok B)
theorem joinA (k : Nat) : execFunc env (denL env NJ0 noLoops (Nat.succ (Nat.succ (Nat.succ k)))) 22 [.str [], .str []] []  =
  some (Out.ret (AVal.str []), []) := by kernel_rfl
theorem joinB (k : Nat) (y : UInt8) (s : List UInt8) : execFunc env (denL env NJ noLoops (Nat.succ k)) 22 [.str [], .str (y :: s)] []  =
  bif short (y :: s) then
  bif !right (y :: s) then some (Out.ret (AVal.str []), [])
  else
    bif short (y :: s) && right (y :: s) then
      if uni 1 (uCons (y :: s)) = true then
        if (decide (1 ≠ 0) && roomOk (List.length ([] : List (List AVal)) + List.length (uCons (y :: s))) 2) = true then
          bif isUs (uCons (y :: s)) then some (Out.ret (AVal.str (textOf (nsOf (uCons (y :: s))))), [])
          else none
        else none
      else none
    else none
else none := by kernel_rfl
theorem joinC (k : Nat) (x : UInt8) (r : List UInt8) : execFunc env (denL env NJ noLoops (Nat.succ k)) 22 [.str (x :: r), .str []] []  =
  bif short (x :: r) then
  bif !right (x :: r) then some (Out.ret (AVal.str []), [])
  else
    bif short (x :: r) && right (x :: r) then
      if (decide (1 ≠ 0) && roomOk (List.length (uCons (x :: r)) + List.length ([] : List (List AVal))) 2) = true then
        bif isUs (List.append (uCons (x :: r)) []) then some (Out.ret (AVal.str (textOf (nsOf (List.append (uCons (x :: r)) [])))), [])
        else none
      else none
    else none
else none := by kernel_rfl
theorem joinD (k : Nat) (x y : UInt8) (r s : List UInt8) : execFunc env (denL env NJ noLoops (Nat.succ k)) 22 [.str (x :: r), .str (y :: s)] []  =
  bif short (x :: r) then
  bif !right (x :: r) then some (Out.ret (AVal.str []), [])
  else
    bif short (y :: s) then
      bif !right (y :: s) then some (Out.ret (AVal.str []), [])
      else
        bif short (x :: r) && right (x :: r) then
          bif short (y :: s) && right (y :: s) then
            if uni 1 (uCons (y :: s)) = true then
              if (decide (1 ≠ 0) && roomOk (List.length (uCons (x :: r)) + List.length (uCons (y :: s))) 2) = true then
                bif isUs (List.append (uCons (x :: r)) (uCons (y :: s))) then some (Out.ret (AVal.str (textOf (nsOf (List.append (uCons (x :: r)) (uCons (y :: s)))))), [])
                else none
              else none
            else none
          else none
        else none
    else none
else none := by kernel_rfl
theorem short40 {s : List UInt8} (h : s.length ≤ 40000) : short s = true := by simp only [short, decide_eq_true_eq]; omega
theorem roomc (n m : Nat) (h : n ≤ 100000) (h2 : m ≤ 100000) : (decide (1 ≠ 0) && roomOk (n + m) 2) = true := by
  simp [roomOk]; omega
theorem join_run {a b : List UInt8} (ha : a.length ≤ 40000) (hb : b.length ≤ 40000) (B : Nat) : CallOk env Tryd.prog B 22 [.str a, .str b] [] (.ret (.str (joinOf a b))) [] := by
  have r0 : right [] = true := rfl
  have u0 : unitsOf [] = [] := rfl
  cases a with
  | nil =>
    cases b with
    | nil => exact call_of_tree setting (nodfr B) (NJ0_ok B) noLoops_ok 3 (joinA 0)
    | cons y s =>
      refine call_of_tree setting (nodfr B) (NJ_ok B) noLoops_ok 1 ?_
      rw [joinB 0, short40 hb]
      rcases h : right (y :: s) with _ | _
      · unfold joinOf; rw [h, r0]; rfl
      · have hl := units_len (y :: s)
        have hi := isUs_units (units_lt (y :: s)) (by omega)
        rw [uCons_eq h (by simp), uni_units, List.length_map, roomc [].length _ (by simp) (by omega), hi, ns_units]
        unfold joinOf; rw [h, r0, u0]; rfl
  | cons x r =>
    cases b with
    | nil =>
      refine call_of_tree setting (nodfr B) (NJ_ok B) noLoops_ok 1 ?_
      rw [joinC 0, short40 ha]
      rcases h : right (x :: r) with _ | _
      · unfold joinOf; rw [h]; rfl
      · have hl := units_len (x :: r)
        have hi := isUs_units (units_lt (x :: r)) (by omega)
        rw [uCons_eq h (by simp), List.length_map, roomc _ [].length (by omega) (by simp), List.append_eq, List.append_nil, hi, ns_units]
        unfold joinOf; rw [h, r0, u0, List.append_nil]; rfl
    | cons y s =>
      refine call_of_tree setting (nodfr B) (NJ_ok B) noLoops_ok 1 ?_
      rw [joinD 0, short40 ha, short40 hb]
      rcases h : right (x :: r) with _ | _
      · unfold joinOf; rw [h]; rfl
      · rcases g : right (y :: s) with _ | _
        · unfold joinOf; rw [g, h]; rfl
        · have hl := units_len (x :: r)
          have gl := units_len (y :: s)
          have hi := isUs_units (u := unitsOf (x :: r) ++ unitsOf (y :: s)) (fun z hz => by
            rcases List.mem_append.1 hz with h | h
            · exact units_lt _ z h
            · exact units_lt _ z h) (by rw [List.length_append]; omega)
          rw [uCons_eq h (by simp), uCons_eq g (by simp), uni_units, List.length_map, List.length_map, roomc _ _ (by omega) (by omega), List.append_eq, ← List.map_append, hi, ns_units]
          unfold joinOf; rw [h, g]; rfl
theorem join_ok (B : Nat) : NatOk env Tryd.prog B 22 joinG := by
  intro args m out m' h
  unfold joinG at h
  split at h
  · injection h with h
    simp only [Prod.mk.injEq, Bool.and_eq_true, decide_eq_true_eq] at h
    obtain ⟨⟨ha, hb⟩, rfl, rfl⟩ := h
    exact call_frame (by simp [flat, flatO]) rfl (join_run ha hb B)
  · cases h
theorem N6_ok (B : Nat) : NatsOk env Tryd.prog B N6 := addN_ok (join_ok B) (addN_ok (alive_ok B) (addN_ok (text14_ok B) (addN_ok (len_ok B) noNats_ok)))

/-! ### UnitsCut -/
theorem law7 (k : Nat) (es : List (List AVal)) (i : Int) : execFunc env (denL env N6 noLoops (Nat.succ k)) 7 [.slice .no es, .int .i64 i] []  =
  bif decide ((↑(List.length es) : Int) > 200) then yesR
else
  bif decide (i < 0) then yesR
  else
    bif decide (i > (↑(List.length es) : Int)) then yesR
    else
      if uni 1 es = true then
        if 0 ≤ i ∧ i ≤ (↑(List.length es) : Int) then
          bif isUs (List.drop 0 (List.take (Int.toNat i) es)) then
            if uni 1 es = true then
              if 0 ≤ i ∧ i ≤ (↑(List.length es) : Int) then
                bif isUs (List.drop (Int.toNat i) (List.take (List.length es) es)) then
                  bif
                      decide (List.length (textOf (nsOf (List.drop 0 (List.take (Int.toNat i) es)))) ≤ 40000) &&
                        decide (List.length (textOf (nsOf (List.drop (Int.toNat i) (List.take (List.length es) es)))) ≤ 40000) then
                    bif isUs es then
                      bif joinOf (textOf (nsOf (List.drop 0 (List.take (Int.toNat i) es)))) (textOf (nsOf (List.drop (Int.toNat i) (List.take (List.length es) es)))) == textOf (nsOf es) then
                        bif short (textOf (nsOf (List.drop 0 (List.take (Int.toNat i) es)))) then
                          bif (↑(List.length (unitsOf (textOf (nsOf (List.drop 0 (List.take (Int.toNat i) es)))))) : Int) == i then
                            bif short (textOf (nsOf (List.drop (Int.toNat i) (List.take (List.length es) es)))) then
                              some (Out.ret (AVal.bool ((↑(List.length (unitsOf (textOf (nsOf (List.drop (Int.toNat i) (List.take (List.length es) es)))))) : Int) == IntKind.wrap IntKind.i64 ((↑(List.length es) : Int) - i))), [])
                            else none
                          else noR
                        else none
                      else noR
                    else none
                  else none
                else none
              else none
            else none
          else none
        else none
      else none := by kernel_rfl
theorem cut_true (k : Nat) {u : List Nat} (hu : ∀ x ∈ u, x < 65536) (i : Int) : execFunc env (denL env N6 noLoops (Nat.succ k)) 7 [.slice .no (u.map unit), .int .i64 i] [] = yesR := by
  rw [law7]
  by_cases h0 : (((u.map unit).length : Nat) : Int) > 200
  · rw [decide_eq_true h0]; rfl
  · rw [decide_eq_false h0, cond_false]
    by_cases h1 : i < 0
    · rw [decide_eq_true h1]; rfl
    · rw [decide_eq_false h1, cond_false]
      by_cases h2 : i > (((u.map unit).length : Nat) : Int)
      · rw [decide_eq_true h2]; rfl
      · rw [decide_eq_false h2, cond_false]
        obtain ⟨n, rfl⟩ := Int.eq_ofNat_of_zero_le (by omega : 0 ≤ i)
        rw [List.length_map] at h0 h2
        have hn : n ≤ u.length := by omega
        have c1 : 0 ≤ (n : Int) ∧ (n : Int) ≤ (((u.map unit).length : Nat) : Int) := by rw [List.length_map]; omega
        have e1 : List.drop 0 (List.take (Int.toNat (n : Int)) (u.map unit)) = (u.take n).map unit := by rw [List.drop_zero, Int.toNat_natCast, List.map_take]
        have e2 : List.drop (Int.toNat (n : Int)) (List.take (u.map unit).length (u.map unit)) = (u.drop n).map unit := by rw [List.take_length, Int.toNat_natCast, List.map_drop]
        have ht : ∀ x ∈ u.take n, x < 65536 := fun x hx => hu x (List.mem_of_mem_take hx)
        have hd : ∀ x ∈ u.drop n, x < 65536 := fun x hx => hu x (List.mem_of_mem_drop hx)
        have lt : (u.take n).length = n := by rw [List.length_take]; omega
        have ld : (u.drop n).length = u.length - n := List.length_drop ..
        have t1 := textOf_len (u.take n)
        have t2 := textOf_len (u.drop n)
        have hj : joinOf (textOf (u.take n)) (textOf (u.drop n)) = textOf u := by
          unfold joinOf
          rw [right_text ht, right_text hd, units_text ht, units_text hd, List.take_append_drop]; rfl
        have hw : IntKind.wrap .i64 ((u.length : Int) - (n : Int)) = ((u.length - n : Nat) : Int) := by rw [IntKind.wrap_i64]; omega
        rw [if_pos (uni_units u), if_pos c1, e1, e2, isUs_units ht (by omega), isUs_units hd (by omega), isUs_units hu (by omega), ns_units, ns_units, ns_units, hj, short_text (u := u.take n) (by omega), short_text (u := u.drop n) (by omega), units_text ht, units_text hd, List.length_map, hw, lt, ld,
          decide_eq_true (show (textOf (u.take n)).length ≤ 40000 by omega), decide_eq_true (show (textOf (u.drop n)).length ≤ 40000 by omega), if_pos (uni_units u)]
        simp [yesR]
        omega
end Go.Proofs.YtlklpdifcpjlpaaDoor.U
