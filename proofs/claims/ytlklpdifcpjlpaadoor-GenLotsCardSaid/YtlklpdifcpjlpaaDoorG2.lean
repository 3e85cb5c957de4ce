/- GenLots: the plain law. -/
import Derived.Test.YtlklpdifcpjlpaaDoorG1
import Derived.Test.YtlklpdifcpjlpaaDoorAbsPlain
namespace Go.Proofs.YtlklpdifcpjlpaaDoor.Gl
open Go.Abs Go.Uni Go.Plain
set_option maxRecDepth 100000
set_option linter.unusedVariables false
set_option linter.unusedSimpArgs false
def ci (x : Int) : List AVal := [.int .i64 x]
theorem next_some (a m : Int) : ∃ r, gen_Next0 a m = some r := by
  unfold gen_Next0 gen_Next0.k
  by_cases h : a < 1
  · exact ⟨0, by simp only [dec_t h, cond_true]⟩
  · have h0 : ¬ a = 0 := by omega
    exact ⟨_, by simp only [dec_f h, cond_false, if_neg h0]; rfl⟩
theorem next_eq (a m : Int) : ref_Next0 a m = gen_Next0 a m := rfl
theorem lots_loop (n : Nat) (l : List Int) (hl : l.length ≤ 200) : ∀ (k j i : Nat) (m0 m1 : Int), i + k = l.length → k < j → ∃ r, GenLots.l0 n (l.map ci) false j (i : Int) m0 m1 m0 = some (Sum.inr r)
  | k, 0, _, _, _, _, h => by omega
  | 0, j + 1, i, m0, m1, hi, _ => by
    rw [GenLots.l0.succ]
    unfold GenLots.l0.s
    simp (disch := omega) only [ite_t, ite_f, dec_t, dec_f, beq_t, beq_f, bne_t, bne_f, nbeq_t, nbeq_f, nble_t, nble_f, cond_true, cond_false, Bool.not_true, Bool.not_false, Bool.and_true, Bool.true_and, Bool.and_self, room_t, w64, w32, wu8, wu8', wu16, wu32, fdiv_pos, and63i, and1023i, and31i, and15i, and7i, and192i, or64w, or32w, or16w, or4096w, or64r, or64b, or32b, or16b, optK_some, optK_none, toNat_ofNat, append_eq, List.length_cons, List.length_nil, List.length_append, List.length_map, reduceIte, toNat_s, cell_one, isI_u16, isI_i64, getI_n, dec_f (show ¬ ((i : Int) < ((l.map ci).length : Nat)) by simp; omega)]
    exact ⟨_, rfl⟩
  | k + 1, j + 1, i, m0, m1, hi, hj => by
    have hil : i < l.length := by omega
    rw [GenLots.l0.succ]
    unfold GenLots.l0.s
    obtain ⟨r0, h0⟩ := next_some (i : Int) m1
    obtain ⟨r1, h1⟩ := next_some l[i] m0
    have hn : nthL (l.map ci) i = ci l[i] := nth_map ci l i hil
    have hlen : ((l.map ci).length : Int) = l.length := by simp
    rw [dec_t (show (i : Int) < ((l.map ci).length : Nat) by rw [hlen]; omega)]
    simp only [cond_true, h0, optK_some, if_pos (show 0 ≤ (i : Int) ∧ (i : Int) < ((l.map ci).length : Nat) by rw [hlen]; omega), toNat_ofNat, hn, ci, nbeq_t (show [AVal.int .i64 l[i]].length = 1 from rfl), nble_t (show 1 ≤ [AVal.int .i64 l[i]].length from Nat.le_refl _), Bool.and_self, cell_one, isI_i64, getI_n, h1, next_eq, bne_f (rfl : r1 = r1), cond_false, w64 (show -9223372036854775808 ≤ (i : Int) + 1 ∧ (i : Int) + 1 < 9223372036854775808 by omega)]
    exact lots_loop n l hl k j (i + 1) _ _ (by omega) (by omega)
theorem alive23 {n : Nat} (hn : 0 < n) : law23_alive n = some true := by
  obtain ⟨n, rfl⟩ : ∃ k, n = k + 1 := ⟨n - 1, by omega⟩
  unfold law23_alive law23_alive.k gen_Source gen_Source.k gen_Source.l0 gen_Source.l0.k
  kernel_rfl
theorem GenLots_true {n : Nat} (hn : 201 < n) (s : Int) (l : List Int) : GenLots n s (l.map ci) = some true := by
  unfold GenLots GenLots.k
  simp only [alive23 (show 0 < n by omega), optK_some, Bool.not_true, cond_false]
  by_cases h : ((l.map ci).length : Int) > 200
  · rw [dec_t h]; rfl
  · rw [dec_f h]
    have h' : l.length ≤ 200 := by simp at h; omega
    have hx : ∀ a, gen_New0 a = some () := fun _ => rfl
    have hy : ∀ a, ref_New0 a = some () := fun _ => rfl
    simp only [cond_false, hx, hy, optK_some]
    obtain ⟨r, hr⟩ := lots_loop n l h' l.length n 0 (IntKind.wrap IntKind.i64 ((BitVec.toNat (BitVec.ofInt 64 s &&& BitVec.ofInt 64 4294967295) : Nat) : Int)) (IntKind.wrap IntKind.i64 ((BitVec.toNat (BitVec.ofInt 64 (IntKind.wrap IntKind.i64 (s + 1)) &&& BitVec.ofInt 64 4294967295) : Nat) : Int)) (by omega) (by omega)
    refine (congrArg (fun x => optK x _) hr).trans ?_
    rfl
end Go.Proofs.YtlklpdifcpjlpaaDoor.Gl
