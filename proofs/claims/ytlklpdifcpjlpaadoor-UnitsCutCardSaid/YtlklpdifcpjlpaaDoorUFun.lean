/- The functions of units as summaries. -/
import Derived.Test.YtlklpdifcpjlpaaDoorUDef2
import Derived.Test.YtlklpdifcpjlpaaDoorULeaf3
import Derived.Test.YtlklpdifcpjlpaaDoorUText
namespace Go.Abs
section
variable {P : Program} {E : Env} {B : Nat} {m m' : Mem}
theorem RepT.forget {w : World} {fx : Nat → Nat} {rho lam : List Nat} {own : Own} {es : List (List AVal)} {V : Value} (h : RepT w fx rho lam (.slice own es) V) : RepT w fx rho lam (.slice .no es) V := by
  cases own with
  | no => exact h
  | row e => exact h
  | full =>
    obtain ⟨A, n, c, Vs, h1, h2, h3, h4, h5, _, h7⟩ := h
    exact ⟨A, n, c, Vs, h1, h2, h3, h4, h5, trivial, h7⟩
theorem call_forget {f : FuncId} {args : List AVal} {own : Own} {es : List (List AVal)} (h : CallOk E P B f args m (.ret (.slice own es)) m') : CallOk E P B f args m (.ret (.slice .no es)) m' := by
  intro w fx rho vals hpre
  refine (h w fx rho vals hpre).mono fun e w' ⟨V, fx', rho', he, hp⟩ => ⟨V, fx', rho', he, ?_⟩
  have h0 : ∀ b, outOwn (.ret (.slice .no es)) V b = 0 := fun b => noRow_own (v := .slice .no es) rfl V b
  exact { hp with
    rep := ⟨hp.rep.1.forget, noRow_ok (v := .slice .no es) rfl V⟩
    tot := fun b => by have := hp.tot b; rw [h0]; omega
    low := fun b hb => hp.low b (by rw [h0] at hb; omega) }
end
end Go.Abs
namespace Go.Proofs.YtlklpdifcpjlpaaDoor.U
open Go.Abs Go.Uni
set_option maxRecDepth 100000
set_option linter.unusedSimpArgs false
set_option linter.unusedVariables false

theorem N1_ok (B : Nat) : NatsOk env Tryd.prog B N1 :=
  addN_ok (of40_ok B) (addN_ok (decode_ok B) (addN_ok (half_ok B) (addN_ok (yes_ok B) (addN_ok (put37_ok B) (addN_ok (put42_ok B) noNats_ok)))))

/-! ### Each -/
abbrev CallT := FuncId → List AVal → Mem → Option (Out × Mem)
theorem each_top39 (D : Ora) (s : List UInt8) : execFunc env D 38 [.str s, .fn 39 []] [] =
    execFunc env { call := D.call, loop := fun _ _ _ _ => D.loop 38 (loopAt Tryd.f38 0) (frEach s (.fn 39 []) 0 false 0) [] } 38 [.str s, .fn 39 []] [] := by kernel_rfl
theorem each_top40 (D : Ora) (s : List UInt8) : execFunc env D 38 [.str s, .fn 40 [.ptr 0 0]] [.cells [.slice .full []]] =
    execFunc env { call := D.call, loop := fun _ _ _ _ => D.loop 38 (loopAt Tryd.f38 0) (frEach s (.fn 40 [.ptr 0 0]) 0 false 0) [.cells [.slice .full []]] } 38 [.str s, .fn 40 [.ptr 0 0]] [.cells [.slice .full []]] := by kernel_rfl
theorem each_fin39 (D : Ora) (b ah : Bool) (s : List UInt8) (pos : Nat) : execFunc env { call := D.call, loop := fun _ _ _ _ => some (bif b then .exit 0 else .ret, frEach s (.fn 39 []) 0 ah pos, []) } 38 [.str s, .fn 39 []] [] = some (.ret (.bool b), []) := by
  cases b
  · kernel_rfl
  · kernel_rfl
theorem each_fin40 (D : Ora) (b ah : Bool) (s : List UInt8) (pos : Nat) (v : AVal) : execFunc env { call := D.call, loop := fun _ _ _ _ => some (bif b then .exit 0 else .ret, frEach s (.fn 40 [.ptr 0 0]) 0 ah pos, [.cells [v]]) } 38 [.str s, .fn 40 [.ptr 0 0]] [.cells [.slice .full []]] = some (.ret (.bool b), [.cells [v]]) := by
  cases b
  · kernel_rfl
  · kernel_rfl
theorem each39_run {s : List UInt8} (hl : s.length ≤ 100000) : ∃ k, execFunc env (denL env N1 noLoops k) 38 [.str s, .fn 39 []] [] = some (.ret (.bool (right s)), []) := by
  obtain ⟨ah, pos, h⟩ := each_loop (rounds39 s []) hl s.length s.length 0 (s.length + 1) false [] (by omega) (by omega) (by omega) (by omega) (by simp)
  refine ⟨s.length + 1 + 1, ?_⟩
  have h : (denL env N1 noLoops (s.length + 1 + 1)).loop 38 (loopAt Tryd.f38 0) (frEach s (.fn 39 []) 0 false 0) [] = some (bif right s then .exit 0 else .ret, frEach s (.fn 39 []) 0 ah pos, []) := h
  rw [each_top39, h, each_fin39]
theorem each40_run {s : List UInt8} (hl : s.length ≤ 100000) : ∃ k, execFunc env (denL env N1 noLoops k) 38 [.str s, .fn 40 [.ptr 0 0]] [.cells [.slice .full []]] = some (.ret (.bool (right s)), [.cells [uRow (told s)]]) := by
  obtain ⟨ah, pos, h⟩ := each_loop (rounds40 s) hl s.length s.length 0 (s.length + 1) false [] (by omega) (by omega) (by omega) (by omega) (by simp)
  refine ⟨s.length + 1 + 1, ?_⟩
  have h : (denL env N1 noLoops (s.length + 1 + 1)).loop 38 (loopAt Tryd.f38 0) (frEach s (.fn 40 [.ptr 0 0]) 0 false 0) [.cells [.slice .full []]] = some (bif right s then .exit 0 else .ret, frEach s (.fn 40 [.ptr 0 0]) 0 ah pos, [.cells [uRow (told s)]]) := h
  rw [each_top40, h, each_fin40]
theorem each_ok (B : Nat) (e : Bool) : NatOk env Tryd.prog B 38 (eachG e) := by
  intro args m out m' h
  unfold eachG at h
  split at h
  case h_2 => cases h
  case h_1 s f caps =>
  split at h
  · rename_i hf
    obtain rfl := Nat.eq_of_beq_eq_true hf
    split at h
    · injection h with h
      simp only [Prod.mk.injEq, short, decide_eq_true_eq] at h
      obtain ⟨hs, rfl, rfl⟩ := h
      obtain ⟨k, hk⟩ := each39_run hs
      exact call_frame (by simp [flat, flatO]) rfl (call_of_tree setting (nodfr B) (N1_ok B) noLoops_ok k hk)
    · cases h
  · split at h
    · rename_i hf
      obtain rfl := Nat.eq_of_beq_eq_true hf
      split at h
      case h_2 => cases h
      case h_1 o off =>
      split at h
      case h_2 => cases h
      case h_1 own es =>
      split at h
      case h_2 => cases h
      case h_1 =>
      split at h
      case h_2 => cases h
      case h_1 =>
      split at h
      · injection h with h
        simp only [Prod.mk.injEq, Bool.and_eq_true, short, decide_eq_true_eq] at h
        obtain ⟨⟨⟨hs, ht⟩, h1, h2⟩, rfl, rfl⟩ := h
        obtain rfl := Nat.eq_of_beq_eq_true h1
        obtain rfl := Nat.eq_of_beq_eq_true h2
        obtain ⟨k, hk⟩ := each40_run hs
        rw [show told s = [] by simpa using ht] at hk
        exact call_of_tree setting (nodfr B) (N1_ok B) noLoops_ok k hk
      · injection h with h
        simp only [Prod.mk.injEq, Bool.and_eq_true, short, decide_eq_true_eq] at h
        obtain ⟨⟨⟨hs, ht⟩, h1, h2⟩, rfl, rfl⟩ := h
        obtain rfl := Nat.eq_of_beq_eq_true h1
        obtain rfl := Nat.eq_of_beq_eq_true h2
        obtain ⟨k, hk⟩ := each40_run hs
        rw [uRow_cons (l := told s) (by simpa using ht)] at hk
        exact call_of_tree setting (nodfr B) (N1_ok B) noLoops_ok k hk
    · cases h

/-! ### Right, Of, Len -/
theorem right15 (k : Nat) (e : Bool) (s : List UInt8) : execFunc env (denL env (N3 e) noLoops (Nat.succ k)) 15 [.str s] []  =
  bif short s then some (Out.ret (AVal.bool (right s)), []) else none := by kernel_rfl
theorem of17e (k : Nat) (s : List UInt8) : execFunc env (denL env (N3 true) noLoops (Nat.succ k)) 17 [.str s] []  =
  bif short s && List.isEmpty (told s) && (Nat.beq 0 0 && Nat.beq 0 0) then
  bif !right s then some (Out.ret (AVal.slice Own.full []), []) else some (Out.ret (AVal.slice Own.full []), [])
else none := by kernel_rfl
theorem of17f (k : Nat) (s : List UInt8) : execFunc env (denL env (N3 false) noLoops (Nat.succ k)) 17 [.str s] []  =
  bif short s && !List.isEmpty (told s) && (Nat.beq 0 0 && Nat.beq 0 0) then
  bif !right s then some (Out.ret (AVal.slice Own.full []), [])
  else some (Out.ret (AVal.slice (Own.row 23) (List.map unit (told s))), [])
else none := by kernel_rfl
theorem len20 (k : Nat) (s : List UInt8) : execFunc env (denL env (addN 17 of17G noNats) noLoops (Nat.succ k)) 20 [.str s] []  =
  bif short s then some (Out.ret (AVal.int IntKind.i64 (↑(List.length (List.map unit (unitsOf s))) : Int)), [])
else none := by kernel_rfl
theorem N3_ok (B : Nat) (e : Bool) : NatsOk env Tryd.prog B (N3 e) := addN_ok (each_ok B e) noNats_ok
theorem fl1 (s : List UInt8) : ∀ v ∈ [AVal.str s], flat v = true := by simp [flat, flatO]
theorem right_ok (B : Nat) : NatOk env Tryd.prog B 15 rightG := by
  intro args m out m' h
  unfold rightG at h
  split at h
  · injection h with h
    simp only [Prod.mk.injEq] at h
    obtain ⟨hs, rfl, rfl⟩ := h
    refine call_frame (fl1 _) rfl (call_of_tree setting (nodfr B) (N3_ok B true) noLoops_ok 1 ?_)
    rw [right15 0, hs]; rfl
  · cases h
/-- Of, with its row -/
theorem of_call (B : Nat) (s : List UInt8) (hs : short s = true) : CallOk env Tryd.prog B 17 [.str s] [] (.ret (uRow (unitsOf s))) [] := by
  rcases ht : (told s).isEmpty with _ | _
  · refine call_of_tree setting (nodfr B) (N3_ok B false) noLoops_ok 1 ?_
    rw [of17f 0, hs, ht]
    unfold unitsOf
    rcases hr : right s with _ | _
    · rfl
    · show some (Out.ret (AVal.slice (Own.row 23) (List.map unit (told s))), []) = some (Out.ret (uRow (if true = true then (pts s).1.flatMap u16 else [])), [])
      rw [if_pos rfl, show (pts s).1.flatMap u16 = told s from rfl, uRow_cons (l := told s) (by intro h0; rw [h0] at ht; cases ht)]
  · have h0 : told s = [] := by simpa using ht
    refine call_of_tree setting (nodfr B) (N3_ok B true) noLoops_ok 1 ?_
    have hu : unitsOf s = [] := by
      unfold unitsOf
      split
      · exact h0
      · rfl
    rw [of17e 0, hs, ht, hu]
    rcases hr : right s with _ | _ <;> rfl
theorem uRow_slice (l : List Nat) : ∃ own, uRow l = .slice own (l.map unit) := by cases l <;> exact ⟨_, rfl⟩
theorem of17_ok (B : Nat) : NatOk env Tryd.prog B 17 of17G := by
  intro args m out m' h
  unfold of17G at h
  split at h
  · rename_i m s
    injection h with h
    simp only [Prod.mk.injEq] at h
    obtain ⟨hs, rfl, rfl⟩ := h
    have h1 := of_call B s hs
    obtain ⟨own, ho⟩ := uRow_slice (unitsOf s)
    rw [ho] at h1
    exact call_frame (fl1 _) rfl (call_forget h1)
  · cases h
theorem len_ok (B : Nat) : NatOk env Tryd.prog B 20 lenG := by
  intro args m out m' h
  unfold lenG at h
  split at h
  · injection h with h
    simp only [Prod.mk.injEq] at h
    obtain ⟨hs, rfl, rfl⟩ := h
    refine call_frame (fl1 _) rfl (call_of_tree setting (nodfr B) (addN_ok (of17_ok B) noNats_ok) noLoops_ok 1 ?_)
    rw [len20 0, hs, List.length_map]; rfl
  · cases h

/-! ### Text -/
theorem bytes_of : ∀ (l : List UInt8), bytesOf (l.map byte) = some l
  | [] => rfl
  | a :: r => by
    show (bytesOf (r.map byte)).map (UInt8.ofNat ((a.toNat : Int)).toNat :: ·) = _
    rw [bytes_of r]; simp
theorem text_top14 (D : Ora) (es : List (List AVal)) : execFunc env D 14 [.slice .no es] [] =
    execFunc env { call := D.call, loop := fun _ _ _ _ => D.loop 14 (loopAt Tryd.f14 0) (frText 64 es (.slice .full []) 0) [] } 14 [.slice .no es] [] := by kernel_rfl
theorem text_fin14 (D : Ora) (es bs : List (List AVal)) (i : Int) : execFunc env { call := D.call, loop := fun _ _ _ _ => some (.exit 0, frText 64 es (.slice (.row 5) bs) i, []) } 14 [.slice .no es] [] = bif allByte bs then some (.ret (.str (bytesL bs)), []) else none := by kernel_rfl
theorem text_fin14e (D : Ora) (es : List (List AVal)) (i : Int) : execFunc env { call := D.call, loop := fun _ _ _ _ => some (.exit 0, frText 64 es (.slice .full []) i, []) } 14 [.slice .no es] [] = some (.ret (.str []), []) := by kernel_rfl
theorem text_top21 (D : Ora) (es : List (List AVal)) : execFunc env D 21 [.slice .no es] [] =
    execFunc env { call := D.call, loop := fun _ _ _ _ => D.loop 21 (loopAt Tryd.f21 0) (frText 65 es (.slice .full []) 0) [] } 21 [.slice .no es] [] := by kernel_rfl
theorem text_fin21 (D : Ora) (es bs : List (List AVal)) (i : Int) : execFunc env { call := D.call, loop := fun _ _ _ _ => some (.exit 0, frText 65 es (.slice (.row 5) bs) i, []) } 21 [.slice .no es] [] = bif allByte bs then some (.ret (.str (bytesL bs)), []) else none := by kernel_rfl
theorem text_fin21e (D : Ora) (es : List (List AVal)) (i : Int) : execFunc env { call := D.call, loop := fun _ _ _ _ => some (.exit 0, frText 65 es (.slice .full []) i, []) } 21 [.slice .no es] [] = some (.ret (.str []), []) := by kernel_rfl
theorem text14_run {u : List Nat} (hu : ∀ x ∈ u, x < 65536) (hl : u.length ≤ 100000) : ∃ k, execFunc env (denL env N1 noLoops k) 14 [.slice .no (u.map unit)] [] = some (.ret (.str (textOf u)), []) := by
  obtain ⟨i, h⟩ := text_loop14 hu hl u.length 0 (u.length + 1) [] (by omega) (by omega) (by omega) (by simp)
  refine ⟨u.length + 1 + 1, ?_⟩
  rw [text_top14, show frText 64 (u.map unit) (.slice .full []) 0 = frText 64 (u.map unit) (bRow []) ((0 : Nat) : Int) from rfl, h, List.nil_append, List.drop_zero]
  generalize textOf u = t
  cases t with
  | nil => exact text_fin14e _ _ _
  | cons a r => exact (text_fin14 _ _ _ _).trans (by rw [allByte, bytesL, bytes_of]; rfl)
theorem text21_run {u : List Nat} (hu : ∀ x ∈ u, x < 65536) (hl : u.length ≤ 100000) : ∃ k, execFunc env (denL env N1 noLoops k) 21 [.slice .no (u.map unit)] [] = some (.ret (.str (textOf u)), []) := by
  obtain ⟨i, h⟩ := text_loop21 hu hl u.length 0 (u.length + 1) [] (by omega) (by omega) (by omega) (by simp)
  refine ⟨u.length + 1 + 1, ?_⟩
  rw [text_top21, show frText 65 (u.map unit) (.slice .full []) 0 = frText 65 (u.map unit) (bRow []) ((0 : Nat) : Int) from rfl, h, List.nil_append, List.drop_zero]
  generalize textOf u = t
  cases t with
  | nil => exact text_fin21e _ _ _
  | cons a r => exact (text_fin21 _ _ _ _).trans (by rw [allByte, bytesL, bytes_of]; rfl)
theorem fls (es : List (List AVal)) : ∀ v ∈ [AVal.slice .no es], flat v = true := by simp [flat, flatO]
theorem text14_ok (B : Nat) : NatOk env Tryd.prog B 14 textG := by
  intro args m out m' h
  unfold textG at h
  split at h
  case h_2 => cases h
  case h_1 own es =>
  split at h
  · injection h with h
    simp only [Prod.mk.injEq] at h
    obtain ⟨hs, rfl, rfl⟩ := h
    obtain ⟨h1, h2, h3⟩ := units_of hs
    obtain ⟨k, hk⟩ := text14_run h2 h3
    rw [← h1] at hk
    exact call_frame (fls _) rfl (call_of_tree setting (nodfr B) (N1_ok B) noLoops_ok k hk)
  · cases h
theorem text21_ok (B : Nat) : NatOk env Tryd.prog B 21 textG := by
  intro args m out m' h
  unfold textG at h
  split at h
  case h_2 => cases h
  case h_1 own es =>
  split at h
  · injection h with h
    simp only [Prod.mk.injEq] at h
    obtain ⟨hs, rfl, rfl⟩ := h
    obtain ⟨h1, h2, h3⟩ := units_of hs
    obtain ⟨k, hk⟩ := text21_run h2 h3
    rw [← h1] at hk
    exact call_frame (fls _) rfl (call_of_tree setting (nodfr B) (N1_ok B) noLoops_ok k hk)
  · cases h

/-! ### same -/
theorem same_top (D : Ora) (a b : List (List AVal)) : execFunc env D 16 [.slice .no a, .slice .no b] [] =
    execFunc env { call := D.call, loop := fun _ _ _ _ => D.loop 16 (loopAt Tryd.f16 0) (frSame a b 0) [] } 16 [.slice .no a, .slice .no b] [] := by kernel_rfl
theorem same_fin (D : Ora) (t : Bool) (a b : List (List AVal)) (i : Int) : execFunc env { call := D.call, loop := fun _ _ _ _ => some (bif t then .exit 0 else .ret, frSame a b i, []) } 16 [.slice .no a, .slice .no b] [] =
    bif (a.length : Int) != (b.length : Int) then some (.ret (.bool false), []) else some (.ret (.bool t), []) := by
  cases t
  · kernel_rfl
  · kernel_rfl
theorem same_ne (a b : List (List AVal)) : execFunc env (denL env noNats noLoops 0) 16 [.slice .no a, .slice .no b] [] = bif (a.length : Int) != (b.length : Int) then some (.ret (.bool false), []) else none := by kernel_rfl
theorem same_loop {u v : List Nat} (he : u.length = v.length) (hl : u.length ≤ 100000) : ∀ (n i k : Nat), u.length - i = n → i ≤ u.length → n < k →
    ∃ i' : Nat, (denL env noNats noLoops (k + 1)).loop 16 (loopAt Tryd.f16 0) (frSame (u.map unit) (v.map unit) i) [] = some (bif decide (u.drop i = v.drop i) then .exit 0 else .ret, frSame (u.map unit) (v.map unit) i', []) := by
  intro n
  induction n with
  | zero =>
    intro i k hn hi hk
    obtain ⟨k, rfl⟩ : ∃ j, k = j + 1 := ⟨k - 1, by omega⟩
    refine ⟨i, ?_⟩
    have d1 : u.drop i = [] := by simp; omega
    have d2 : v.drop i = [] := by simp; omega
    have c0 : decide ((i : Int) < ((u.map unit).length : Int)) = false := by simp; omega
    rw [d1, d2, loop_step, same16, c0]
    rfl
  | succ n ih =>
    intro i k hn hi hk
    obtain ⟨k, rfl⟩ : ∃ j, k = j + 1 := ⟨k - 1, by omega⟩
    have hiu : i < u.length := by omega
    have hiv : i < v.length := by omega
    have c0 : decide ((i : Int) < ((u.map unit).length : Int)) = true := by simp; omega
    have c1 : 0 ≤ (i : Int) ∧ (i : Int) < ((u.map unit).length : Int) := by simp; omega
    have c2 : 0 ≤ (i : Int) ∧ (i : Int) < ((v.map unit).length : Int) := by simp; omega
    have n1 : nthL (u.map unit) i = [.int .u16 u[i]] := nthL_map unit u i hiu
    have n2 : nthL (v.map unit) i = [.int .u16 v[i]] := nthL_map unit v i hiv
    have w : IntKind.wrap .i64 ((i : Int) + 1) = ((i + 1 : Nat) : Int) := by rw [IntKind.wrap_i64]; omega
    have d1 : u.drop i = u[i] :: u.drop (i + 1) := List.drop_eq_getElem_cons hiu
    have d2 : v.drop i = v[i] :: v.drop (i + 1) := List.drop_eq_getElem_cons hiv
    rw [loop_step, same16, d1, d2]
    by_cases hx : u[i] = v[i]
    · have q : ((u[i] : Int) != (v[i] : Int)) = false := by simp; omega
      obtain ⟨i', h⟩ := ih (i + 1) k (by omega) (by omega) (by omega)
      refine ⟨i', ?_⟩
      simp only [c0, c1, c2, Int.toNat_natCast, n1, n2, cell_zero, getI_int, isI_int, List.length_cons, List.length_nil, beq11, ble11, Nat.reduceAdd, Bool.and_self, cond_true, cond_false, and_self, if_true, q, w]
      have hd : decide (u[i] :: u.drop (i + 1) = v[i] :: v.drop (i + 1)) = decide (u.drop (i + 1) = v.drop (i + 1)) := decide_eq_decide.2 ⟨fun h => (List.cons.inj h).2, fun h => by rw [hx, h]⟩
      rw [hd, ← h]
      rfl
    · have q : ((u[i] : Int) != (v[i] : Int)) = true := by simp; omega
      refine ⟨i, ?_⟩
      simp only [c0, c1, c2, Int.toNat_natCast, n1, n2, cell_zero, getI_int, isI_int, List.length_cons, List.length_nil, beq11, ble11, Nat.reduceAdd, Bool.and_self, cond_true, cond_false, and_self, if_true, q]
      have hd : decide (u[i] :: u.drop (i + 1) = v[i] :: v.drop (i + 1)) = false := decide_eq_false fun h => hx (List.cons.inj h).1
      rw [hd]
      rfl
theorem same_run {u v : List Nat} (hl : u.length ≤ 100000) : ∃ k, execFunc env (denL env noNats noLoops k) 16 [.slice .no (u.map unit), .slice .no (v.map unit)] [] = some (.ret (.bool (decide (u = v))), []) := by
  by_cases he : u.length = v.length
  · obtain ⟨i, h⟩ := same_loop he hl u.length 0 (u.length + 1) (by omega) (by omega) (by omega)
    refine ⟨u.length + 1 + 1, ?_⟩
    have h : (denL env noNats noLoops (u.length + 1 + 1)).loop 16 (loopAt Tryd.f16 0) (frSame (u.map unit) (v.map unit) 0) [] = some (bif decide (u = v) then .exit 0 else .ret, frSame (u.map unit) (v.map unit) i, []) := h
    have q : (((u.map unit).length : Int) != ((v.map unit).length : Int)) = false := by simp; omega
    rw [same_top, h, same_fin, q]
    rfl
  · have q : (((u.map unit).length : Int) != ((v.map unit).length : Int)) = true := by simp; omega
    refine ⟨0, ?_⟩
    rw [same_ne, q, show decide (u = v) = false from decide_eq_false fun h => he (by rw [h])]
    rfl
theorem same_ok (B : Nat) : NatOk env Tryd.prog B 16 sameG := by
  intro args m out m' h
  unfold sameG at h
  split at h
  case h_2 => cases h
  case h_1 o1 a o2 b =>
  split at h
  case h_2 => cases h
  split at h
  case h_2 => cases h
  injection h with h
  simp only [Prod.mk.injEq, Bool.and_eq_true] at h
  obtain ⟨⟨ha, hb⟩, rfl, rfl⟩ := h
  obtain ⟨h1, h2, h3⟩ := units_of ha
  obtain ⟨g1, g2, g3⟩ := units_of hb
  obtain ⟨k, hk⟩ := same_run (u := nsOf a) (v := nsOf b) h3
  rw [← h1, ← g1] at hk
  exact call_frame (by simp [flat, flatO]) rfl (call_of_tree setting (nodfr B) noNats_ok noLoops_ok k hk)

/-! ### alive -/
theorem alive13 (k : Nat) : execFunc env (denL env (addN 15 rightG N4) noLoops (Nat.succ k)) 13 [] []  =
  some (Out.ret (AVal.bool true), []) := by kernel_rfl
theorem N4_ok (B : Nat) : NatsOk env Tryd.prog B N4 := addN_ok (of17_ok B) noNats_ok
theorem alive_ok (B : Nat) : NatOk env Tryd.prog B 13 aliveG := by
  intro args m out m' h
  unfold aliveG at h
  split at h
  · injection h with h
    simp only [Prod.mk.injEq, true_and] at h
    obtain ⟨rfl, rfl⟩ := h
    exact call_frame (by simp) rfl (call_of_tree setting (nodfr B) (addN_ok (right_ok B) (N4_ok B)) noLoops_ok 1 (alive13 0))
  · cases h
theorem N5_ok (B : Nat) : NatsOk env Tryd.prog B N5 :=
  addN_ok (alive_ok B) (addN_ok (text14_ok B) (addN_ok (text21_ok B) (addN_ok (right_ok B) (addN_ok (same_ok B) (addN_ok (len_ok B) (N4_ok B))))))
end Go.Proofs.YtlklpdifcpjlpaaDoor.U
