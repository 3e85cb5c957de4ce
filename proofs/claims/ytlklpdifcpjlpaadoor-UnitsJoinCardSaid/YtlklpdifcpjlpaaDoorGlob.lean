/- The two tables that lie in memory. -/
import Derived.Test.YtlklpdifcpjlpaaDoorDec
import Derived.Test.YtlklpdifcpjlpaaDoorRows
import Derived.Test.YtlklpdifcpjlpaaDoorAbsLaw
import Derived.Test.YtlklpdifcpjlpaaDoorAbsPlain
import Derived.Lib.LaidU8T
import Derived.MakeChecks
import Derived.OpenShut
import Derived.ChangeSlices
import Derived.WideShapes
import Derived.WalkKit
import Derived.ProofKit
import Derived.Deep.DeepHandedRow
namespace Go.Proofs.YtlklpdifcpjlpaaDoor
open Go.Abs Go.Uni Go.RowKit Go.Plain
set_option maxRecDepth 100000

theorem repL_ints {w : World} {fx : Nat → Nat} : ∀ (l : List Int), RepL w fx (l.map (AVal.int .u8)) (l.map (Value.int .u8))
  | [] => rfl
  | _ :: r => ⟨_, _, rfl, rfl, rfl, repL_ints r⟩
def firstI : List Int := (List.range 256).map fun c => ((Lib.firstT c : Nat) : Int)
def accI : List Int := (List.range 16).flatMap fun i => [((Lib.accLo i : Nat) : Int), ((Lib.accHi i : Nat) : Int)]
theorem first_eq : tabFirst = firstI.map (AVal.int .u8) := by simp [tabFirst, firstI, Function.comp_def]
theorem acc_eq : tabAcc = accI.map (AVal.int .u8) := by simp [tabAcc, accI, List.map_flatMap]
theorem accI_get : ∀ i, i < 16 → accI[2 * i]? = some ((Lib.accLo i : Nat) : Int) ∧ accI[2 * i + 1]? = some ((Lib.accHi i : Nat) : Int) := by
  intro i hi
  rcases i with _|_|_|_|_|_|_|_|_|_|_|_|_|_|_|_|i
  all_goals first | exact ⟨rfl, rfl⟩ | omega
theorem accI_len : accI.length = 32 := rfl
theorem glob_of_tabs {W : World} (h : Lib.Utf8Tabs 0 1 W) : GlobOk env W (fxAll W) := by
  intro g cells hg
  have hg : glob g = some cells := hg
  unfold glob at hg
  split at hg
  · injection hg with hg; subst hg
    refine ⟨_, first_eq ▸ repL_ints firstI, cellsAt_all fun j V hj => ?_⟩
    rw [List.getElem?_map] at hj
    have hlt : j < 256 := by
      rcases Nat.lt_or_ge j 256 with h | h
      · exact h
      · rw [List.getElem?_eq_none (by simpa [firstI] using h)] at hj; cases hj
    have hv : firstI[j]? = some ((Lib.firstT j : Nat) : Int) := by simp [firstI, hlt]
    rw [hv] at hj
    injection hj with hj
    subst hj
    rw [Nat.zero_add]
    exact h.1 j hlt
  · injection hg with hg; subst hg
    refine ⟨_, acc_eq ▸ repL_ints accI, cellsAt_all fun j V hj => ?_⟩
    rw [List.getElem?_map] at hj
    have hlt : j < 32 := by
      rcases Nat.lt_or_ge j 32 with h | h
      · exact h
      · rw [List.getElem?_eq_none (by rw [accI_len]; exact h)] at hj; cases hj
    obtain ⟨i, hi, hji⟩ : ∃ i, i < 16 ∧ (j = 2 * i ∨ j = 2 * i + 1) := ⟨j / 2, by omega, by omega⟩
    rw [Nat.zero_add]
    rcases hji with rfl | rfl
    · rw [(accI_get i hi).1] at hj
      injection hj with hj
      subst hj
      exact (h.2 i hi).1
    · rw [(accI_get i hi).2] at hj
      injection hj with hj
      subst hj
      exact (h.2 i hi).2
  · cases hg
theorem u8types : U8Types Tryd.prog Tryd.lays197_ren := { Tryd.lays197 with }
theorem u8extra : U8Extra Tryd.prog Tryd.lays197_ren where
  n3 := by kernel_rfl
  n4 := by kernel_rfl
  y3 := by kernel_rfl
  y4 := by kernel_rfl
  c5 := by kernel_rfl
  c119 := by kernel_rfl
  c138 := by kernel_rfl
theorem glob_of_laid {W : World} {l : List (String × DataW Unit)} (hL : laidMetH Tryd.prog l W) (hp : (l.all fun x => x.2.handleName?.isNone) = true)
    (h1 : ("unicode/utf8.first", Rows.laid_unicode_utf8_first) ∈ l) (h2 : ("unicode/utf8.acceptRanges", Rows.laid_unicode_utf8_acceptRanges) ∈ l) : GlobOk env W (fxAll W) := by
  rw [Go.MakeChecks.laidMetH_plain _ _ _ hp] at hL
  exact glob_of_tabs (utf8Tabs_of_readsT u8types u8extra (Go.Lib.laidMet.reads hL h1) (Go.Lib.laidMet.reads hL h2))
section
open Go.ChangeShapes Go.WideShapes Go.ChangeAt
theorem repLL_units {w : World} {fx : Nat → Nat} : ∀ (l : List Nat), RepLL w fx (l.map unit) (l.map fun n : Nat => Value.int .u16 (n : Int))
  | [] => rfl
  | n :: r => ⟨[Value.int .u16 (n : Int)], r.map (fun n : Nat => Value.int .u16 (n : Int)), rfl, ⟨Value.int .u16 (n : Int), [], rfl, rfl, rfl, rfl⟩, repLL_units r⟩
/-- a row of units that is handed over -/
theorem open_u16 {H : Type} {enc : TypeId × Value → H} {P : Program} {W : World} {base t e : Nat} {v : Value} {d : DataW H} {p : List MemPlace} (ht : P.underlying t = some (.slice e)) (he : P.underlying e = some (.int .u16)) (hc : P.cellsOf e = 1)
    (hval : Value.okWide P W .any base t v) (h : DataW.Trod enc P W 0 (fun _ => true) true t v d p) : ∃ u : List Nat, (∀ x ∈ u, x < 65536) ∧ RepT W (fxAll W) [] [] (.slice .no (u.map unit)) v := by
  obtain ⟨a1, len, cap, rfl⟩ := okWide_slice ht hval
  obtain ⟨fuel, hf⟩ := h
  have sz : ∀ (u : List Nat), ∃ sz, ∀ e ∈ u.map unit, e.length = sz := fun u => ⟨1, fun e he => by obtain ⟨x, _, rfl⟩ := List.mem_map.1 he; rfl⟩
  rcases open_ints ht he hc hf with ⟨hcs, hx⟩ | ⟨a, len', cap', zs, hcs, _, hl, hm, hz, hx, hcell, hwz⟩
  · simp [Value.cells] at hcs
    obtain ⟨rfl, rfl, rfl⟩ := hcs
    exact ⟨[], by simp, none, 0, 0, [], rfl, rfl, Nat.le_refl _, rfl, sz [], trivial, fun h => absurd rfl h⟩
  · simp [Value.cells] at hcs
    obtain ⟨rfl, rfl, rfl⟩ := hcs
    simp only [if_true] at hz
    have hb : ∀ z ∈ zs, 0 ≤ z ∧ z ≤ 65535 := fun z hz => bounds_u16 (hwz z hz)
    have hlen : ((zs.take len).map Int.toNat).length = len := by simp; omega
    refine ⟨(zs.take len).map Int.toNat, fun x hx => ?_, some a, len, cap, ((zs.take len).map Int.toNat).map (fun n : Nat => Value.int .u16 (n : Int)), rfl, by rw [List.length_map, hlen], hl, repLL_units _, sz _, trivial, fun hne => ?_⟩
    · obtain ⟨z, hz, rfl⟩ := List.mem_map.1 hx
      have := hb z (List.mem_of_mem_take hz)
      omega
    · obtain ⟨ab, ao, spot⟩ := a
      have hpos : 0 < len := by
        rcases Nat.eq_zero_or_pos len with h | h
        · rw [h] at hlen; exact absurd (List.eq_nil_of_length_eq_zero (by rw [List.length_map, h]; exact hlen)) hne
        · exact h
      have hspot : spot = none := by simpa [Addr.add] using World.cell?_spot (hcell 0 (by omega))
      subst hspot
      refine ⟨ab, ao, rfl, cellsAt_all fun j V hj => ?_⟩
      have hjl : j < len := by
        rcases Nat.lt_or_ge j len with h | h
        · exact h
        · rw [List.getElem?_eq_none (by simp; omega)] at hj; cases hj
      have hcj := hcell j (by omega)
      rw [Addr.add_lit] at hcj
      rw [hcj]
      have hjz : j < zs.length := by omega
      have hb := hb zs[j] (List.getElem_mem hjz)
      simp only [List.getElem?_map, List.getElem?_take, hjl, if_true, List.getElem?_eq_getElem hjz, Option.map_some, Option.some.injEq] at hj
      subst hj
      rw [List.getD_eq_getElem?_getD, List.getElem?_eq_getElem hjz, Option.getD_some, Int.toNat_of_nonneg hb.1]
end
end Go.Proofs.YtlklpdifcpjlpaaDoor
