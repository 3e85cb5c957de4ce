/- HeapRoom answers true, as a call. -/
import Derived.Test.YtlklpdifcpjlpaaEHeapRoomSaidHF
import Derived.Test.YtlklpdifcpjlpaaEHeapRoomSaid3
namespace Go.Proofs.Ytlklpdifcpjlpaa.H
open Go.Abs Go.Plain
set_option maxRecDepth 100000
set_option maxHeartbeats 1000000
set_option linter.unusedVariables false
set_option linter.unusedSimpArgs false
theorem make_full {v R : Int} {l : List (List AVal)} {s : Int} (h : R ≤ (l.length : Int)) : heap_Make0 0 0 0 [] false 0 v 0 0 [] 0 0 [] 0 0 [] 0 0 [] false false 0 R l s = some (0, false, l) := by
  unfold heap_Make0 heap_Make0.k
  rw [dec_t (show (l.length : Int) ≥ R by omega), cond_true]
def thing (v : Int) : List AVal := [AVal.int .i64 0, .int .i64 0, .int .i64 0, .str [], .bool false, .slice .nil [], .int .i64 0, .int .i64 v, .int .i64 0, .int .i64 0, .str [], .int .i64 0, .int .i64 0, .str [], .int .i64 0, .int .i64 0, .str [], .int .i64 0, .int .i64 0, .str [], .slice .nil [], .bool false, .bool false, .int .i64 0]
theorem make_room {v R : Int} {l : List (List AVal)} {s : Int} (h : (l.length : Int) < R) (hl : l.length ≤ 1000) : ∃ l', l'.length = l.length + 1 ∧ heap_Make0 0 0 0 [] false 0 v 0 0 [] 0 0 [] 0 0 [] 0 0 [] false false 0 R l s = some ((l.length : Int), true, l') := by
  unfold heap_Make0 heap_Make0.k
  rw [dec_f (show ¬ (l.length : Int) ≥ R by omega), cond_false]
  have ho : heap_own 0 0 0 [] false 0 v 0 0 [] 0 0 [] 0 0 [] 0 0 [] false false 0 = some () := rfl
  rw [ho, optK_some]
  refine ⟨List.append l [thing v], by simp, ?_⟩
  rw [if_pos (by simp [roomOk]; omega)]
  show some (IntKind.wrap IntKind.i64 (((List.append l [thing v]).length : Int) - 1), true, List.append l [thing v]) = _
  have e : ((List.append l [thing v]).length : Int) - 1 = (l.length : Int) := by simp
  rw [e, w64 (by omega)]
theorem room_loop {room n : Int} (hn : 0 ≤ n ∧ n ≤ 100) (N : Nat) : ∀ (d i j : Nat) (l : List (List AVal)), n.toNat - i = d → i ≤ n.toNat → d < j → l.length = min i (max 0 room).toNat →
    ∃ l', l'.length = min n.toNat (max 0 room).toNat ∧ HeapRoom.l0 N room n false (if room > 0 then room else 0) j (i : Int) l (i : Int) = some (.inr ((n.toNat : Int), l', (n.toNat : Int))) := by
  intro d
  induction d with
  | zero =>
    intro i j l hd hi hj hl
    obtain ⟨j, rfl⟩ : ∃ k, j = k + 1 := ⟨j - 1, by omega⟩
    have hin : i = n.toNat := by omega
    refine ⟨l, by rw [hl, hin], ?_⟩
    rw [HeapRoom.l0.succ, HeapRoom.l0.s, dec_f (show ¬ (i : Int) < n by omega), cond_false, hin]
  | succ d ih =>
    intro i j l hd hi hj hl
    obtain ⟨j, rfl⟩ : ∃ k, j = k + 1 := ⟨j - 1, by omega⟩
    have hi1 : IntKind.wrap IntKind.i64 ((i : Int) + 1) = ((i + 1 : Nat) : Int) := by
      rw [w64 (by omega)]; rfl
    rw [HeapRoom.l0.succ, HeapRoom.l0.s, dec_t (show (i : Int) < n by omega), cond_true]
    have hR : (if room > 0 then room else 0) = max 0 room := by split <;> omega
    rw [hR]
    have hs : ∀ l s, heap_Sym0 (max 0 room) l s = some () := fun l s => rfl
    by_cases hc : (i : Int) < room
    · have hli : l.length = i := by omega
      obtain ⟨l', h1, h2⟩ := make_room (v := (i : Int)) (R := max 0 room) (l := l) (s := (i : Int)) (by omega) (by omega)
      obtain ⟨l2, h3, h4⟩ := ih (i + 1) j l' (by omega) (by omega) (by omega) (by omega)
      rw [hR] at h4
      refine ⟨l2, h3, ?_⟩
      rw [h2, optK_some, dec_t hc, hs, hi1, hli]
      refine Eq.trans ?_ h4
      simp [optK_some]
    · obtain ⟨l2, h3, h4⟩ := ih (i + 1) j l (by omega) (by omega) (by omega) (by omega)
      rw [hR] at h4
      refine ⟨l2, h3, ?_⟩
      rw [make_full (by omega), optK_some, dec_f hc, hs, hi1]
      refine Eq.trans ?_ h4
      simp [optK_some]
theorem get_out {o R s : Int} {l : List (List AVal)} (h : o = (l.length : Int)) : ∃ z, heap_Get0 o R l s = some z ∧ z.2.2.2.2.2.2.2.2.2.2.2.2.2.2.2.2.2.2.2.2.2.2 = false := by
  unfold heap_Get0 heap_Get0.k
  have hi : heap_is0 o R l s = some false := by
    unfold heap_is0 heap_is0.k
    rw [dec_t (show o ≥ 0 by omega), cond_true, decide_eq_false (by omega)]
  rw [hi]
  exact ⟨_, rfl, rfl⟩
theorem HeapRoom_true (room n : Int) : HeapRoom 101 room n = some true := by
  unfold HeapRoom HeapRoom.k
  by_cases h0 : n < 0
  · rw [dec_t h0, cond_true]
  · by_cases h1 : n > 100
    · rw [dec_f h0, dec_t h1, cond_true, cond_false]
    · obtain ⟨l, hl, hloop⟩ := room_loop (room := room) (n := n) (by omega) 101 _ 0 101 [] rfl (by omega) (by omega) (by simp)
      have hloop : HeapRoom.l0 101 room n false (if room > 0 then room else 0) 101 0 [] 0 = some (.inr ((n.toNat : Int), l, (n.toNat : Int))) := hloop
      have hnew : heap_New0 room = some () := rfl
      have hlen : ∀ R l s, heap_Len0 R l s = some () := fun _ _ _ => rfl
      simp only [dec_f h0, dec_f h1, cond_false, hnew, optK_some, hloop, sumK, hlen]
      by_cases h2 : room < n
      · simp only [dec_t h2, cond_true]
        by_cases h3 : room < 0
        · have hl0 : (0 : Int) = (l.length : Int) := by omega
          obtain ⟨z, z1, z2⟩ := get_out (R := if room > 0 then room else 0) (s := (n.toNat : Int)) (l := l) hl0
          simp only [dec_t h3, cond_true, z1, optK_some, z2, ← hl0, beq_self_eq_true, Bool.not_false]
        · have hl0 : room = (l.length : Int) := by omega
          obtain ⟨z, z1, z2⟩ := get_out (R := if room > 0 then room else 0) (s := (n.toNat : Int)) (l := l) hl0
          simp only [dec_f h3, cond_false, z1, optK_some, z2, ← hl0, beq_self_eq_true, cond_true, Bool.not_false]
      · have hl0 : n = (l.length : Int) := by omega
        obtain ⟨z, z1, z2⟩ := get_out (R := if room > 0 then room else 0) (s := (n.toNat : Int)) (l := l) hl0
        simp only [dec_f h2, cond_false, z1, optK_some, z2, ← hl0, beq_self_eq_true, cond_true, Bool.not_false]
theorem call_HeapRoom (B : Nat) (room n : Int) : CallOk env prog B 4 [.int .i64 room, .int .i64 n] [] (.ret (.bool true)) [] :=
  HeapRoom.ok B 101 _ _ _ _ (by
    show (CT.opt (HeapRoom 101 room n) _).eval = _
    rw [HeapRoom_true]; rfl)
end Go.Proofs.Ytlklpdifcpjlpaa.H
