/- What the rows' lists of variables tell of the memory: the lexer's tables. -/
import Derived.Test.YtefenlmpbgdpnaaDoorEsLBase
import Derived.Test.YtefenlmpbgdpnaaDoorRows
import Derived.Test.YtefenlmpbgdpnaaDoorEs2
import Derived.Test.YtefenlmpbgdpnaaDoorEs3
import Derived.Lib.LaidU8T
import Derived.Lib.LaidU8
import Derived.Lib.LaidCase
import Derived.PinnedBridge
import Derived.MakeChecks
import Derived.OpenShut
import Derived.ChangeSlices
import Derived.WideShapes
import Derived.WalkKit
import Derived.ProofKit
import Derived.Deep.DeepHandedRow
namespace Go.Proofs.YtefenlmpbgdpnaaDoor
open Go.Abs Go.Uni Go.RowKit Go.Plain
set_option maxRecDepth 100000
set_option linter.unusedVariables false
theorem repL_of_ints {w : World} {fx : Nat → Nat} {k : IntKind} : ∀ (l : List Int), RepL w fx (l.map (AVal.int k)) (l.map (Value.int k))
  | [] => rfl
  | _ :: r => ⟨_, _, rfl, rfl, rfl, repL_of_ints r⟩
def firstI : List Int := (List.range 256).map fun c => ((Lib.firstT c : Nat) : Int)
def accI : List Int := (List.range 16).flatMap fun i => [((Lib.accLo i : Nat) : Int), ((Lib.accHi i : Nat) : Int)]
theorem first_eq : tabFirst = firstI.map (AVal.int .u8) := by simp [tabFirst, firstI, Function.comp_def]
theorem acc_eq : tabAcc = accI.map (AVal.int .u8) := by simp [tabAcc, accI, List.map_flatMap]
theorem accI_get : ∀ i, i < 16 → accI[2 * i]? = some ((Lib.accLo i : Nat) : Int) ∧ accI[2 * i + 1]? = some ((Lib.accHi i : Nat) : Int) := by
  intro i hi
  rcases i with _|_|_|_|_|_|_|_|_|_|_|_|_|_|_|_|i
  all_goals first | exact ⟨rfl, rfl⟩ | omega
theorem accI_len : accI.length = 32 := rfl
def OneOk (W : World) (g : Nat) (cells : List AVal) : Prop := ∃ Vs, RepL W (fxAll W) cells Vs ∧ CellsAt W (fxAll W) g 0 Vs ∧ (L.exact g = true → Vs ≠ [] → W.cell? ⟨g, Vs.length, none⟩ = none) ∧
  (cells = [] → ∃ n, W.cell? ⟨g, 0, none⟩ = some (.int .i64 n) ∧ 0 < fxAll W g)
theorem first_one {W : World} (h : Lib.Utf8Tabs 2 3 W) : OneOk W 2 tabFirst := by
  have hr : RepL W (fxAll W) tabFirst (firstI.map (Value.int .u8)) := first_eq ▸ repL_of_ints firstI
  refine ⟨_, hr, cellsAt_all fun j V hj => ?_, fun e => (by cases e), fun e => absurd (congrArg List.length e) (by simp [tabFirst])⟩
  rw [List.getElem?_map] at hj
  have hlt : j < 256 := by
    rcases Nat.lt_or_ge j 256 with h | h
    · exact h
    · rw [List.getElem?_eq_none (by simpa [firstI] using h)] at hj; cases hj
  have hv : firstI[j]? = some ((Lib.firstT j : Nat) : Int) := by simp [firstI, hlt]
  rw [hv] at hj
  injection hj with hj
  subst hj
  rw [Nat.zero_add]
  exact h.1 j hlt
theorem acc_one {W : World} (h : Lib.Utf8Tabs 2 3 W) : OneOk W 3 tabAcc := by
  have hr : RepL W (fxAll W) tabAcc (accI.map (Value.int .u8)) := acc_eq ▸ repL_of_ints accI
  refine ⟨_, hr, cellsAt_all fun j V hj => ?_, fun e => (by cases e), fun e => absurd (congrArg List.length e) (by decide)⟩
  rw [List.getElem?_map] at hj
  have hlt : j < 32 := by
    rcases Nat.lt_or_ge j 32 with h | h
    · exact h
    · rw [List.getElem?_eq_none (by rw [accI_len]; exact h)] at hj; cases hj
  obtain ⟨i, hi, hji⟩ : ∃ i, i < 16 ∧ (j = 2 * i ∨ j = 2 * i + 1) := ⟨j / 2, by omega, by omega⟩
  rw [Nat.zero_add]
  rcases hji with rfl | rfl
  · rw [(accI_get i hi).1] at hj
    injection hj with hj
    subst hj
    exact (h.2 i hi).1
  · rw [(accI_get i hi).2] at hj
    injection hj with hj
    subst hj
    exact (h.2 i hi).2
theorem u8types : U8Types Tryd.prog Tryd.lays197_ren := { Tryd.lays197 with }
theorem u8extra : U8Extra Tryd.prog Tryd.lays197_ren where
  n3 := by kernel_rfl
  n4 := by kernel_rfl
  y3 := by kernel_rfl
  y4 := by kernel_rfl
  c5 := by kernel_rfl
  c119 := by kernel_rfl
  c138 := by kernel_rfl
theorem space_data : (Rows.laid_strings_asciiSpace : DataW Unit) = Lib.tabData .u8 Lib.asciiSpaceTab := by kernel_rfl
theorem space_one {W : World} (h : Lib.VarReads prog W "strings.asciiSpace" Rows.laid_strings_asciiSpace) : OneOk W 0 tabSpace := by
  rw [space_data] at h
  obtain ⟨g', t', cs, fuel, p, hg', hty', hvar, hd⟩ := h
  have hg : prog.globalNamed "strings.asciiSpace" = some 0 := by kernel_rfl
  obtain rfl := Option.some.inj (hg.symm.trans hg')
  have hty : (prog.globals[0]?).map (·.type) = some 91 := by kernel_rfl
  obtain rfl := Option.some.inj (hty.symm.trans hty')
  have hcs := Lib.cells_of_tab (P := prog) Tryd.underlying91 Tryd.underlying5 (by kernel_rfl) (by kernel_rfl) hd
  refine ⟨Lib.asciiSpaceTab.map (Value.int .u8), repL_of_ints _, cellsAt_all fun j V hj => ?_, fun _ _ => ?_, fun e => absurd (congrArg List.length e) (by simp [tabSpace, Lib.asciiSpaceTab])⟩
  · rw [Nat.zero_add, World.var?_cell hg hvar j, ← Array.getElem?_toList, hcs]
    exact hj
  · rw [World.var?_cell hg hvar, ← Array.getElem?_toList, hcs]
    simp
theorem lays274 : Lays.n274 Tryd.prog Tryd.lays159_ren := { Tryd.lays159 with }
theorem caseX : CaseExtra Tryd.prog Tryd.lays159_ren where
  n13 := by kernel_rfl
  y13 := by kernel_rfl
  c21 := by kernel_rfl
  c51 := by kernel_rfl
  c206 := by kernel_rfl
  c208 := by kernel_rfl
theorem rows_rep {w : World} {fx : Nat → Nat} : ∀ (l : List Lib.CaseRow), RepLL w fx (l.map caseCells) (l.flatMap fun r => [.int .u32 r.1, .int .u32 r.2.1, .int .i32 r.2.2.1, .int .i32 r.2.2.2.1, .int .i32 r.2.2.2.2])
  | [] => rfl
  | r :: l => ⟨[.int .u32 r.1, .int .u32 r.2.1, .int .i32 r.2.2.1, .int .i32 r.2.2.2.1, .int .i32 r.2.2.2.2], _, rfl, ⟨_, _, rfl, rfl, rfl, _, _, rfl, rfl, rfl, _, _, rfl, rfl, rfl, _, _, rfl, rfl, rfl, _, _, rfl, rfl, rfl, rfl⟩, rows_rep l⟩
theorem flat5b {β : Type} (f : Lib.CaseRow → List β) (h5 : ∀ a, (f a).length = 5) : ∀ (l : List Lib.CaseRow) (k : Nat) (V : β), (l.flatMap f)[k]? = some V → ∃ i j a, k = i * 5 + j ∧ j < 5 ∧ l[i]? = some a ∧ (f a)[j]? = some V
  | [], k, V, h => by simp at h
  | x :: l, k, V, h => by
    rw [List.flatMap_cons] at h
    rcases Nat.lt_or_ge k 5 with hk | hk
    · rw [List.getElem?_append_left (by rw [h5]; exact hk)] at h
      exact ⟨0, k, x, by omega, hk, rfl, h⟩
    · rw [List.getElem?_append_right (by rw [h5]; exact hk), h5] at h
      obtain ⟨i, j, a, e, hj, ha, hV⟩ := flat5b f h5 l (k - 5) V h
      exact ⟨i + 1, j, a, by omega, hj, by simpa using ha, hV⟩
theorem case_one {W : World} (h : Lib.VarReads prog W "unicode.CaseRanges" Rows.laid_unicode_CaseRanges) : OneOk W 7 tabCase := by
  have h0 : Lib.VarReads prog W "unicode.CaseRanges" Lib.caseData := by
    have e : (Rows.laid_unicode_CaseRanges : DataW Unit) = Lib.caseData := Pinned.caseRanges_eq
    rw [← e]; exact h
  obtain ⟨R, oR, cap, hcell, hT⟩ := caseVar_of_reads lays274 (by kernel_rfl) caseX h0
  have hcap : Lib.caseA.size ≤ cap := by
    obtain ⟨g', t', cs, fuel, p, hg', hty', hvar, hd⟩ := h0
    have hg : prog.globalNamed "unicode.CaseRanges" = some 7 := by kernel_rfl
    obtain rfl := Option.some.inj (hg.symm.trans hg')
    have hty : (prog.globals[7]?).map (·.type) = some 202 := by kernel_rfl
    obtain rfl := Option.some.inj (hty.symm.trans hty')
    rcases DataW.trod_slice Tryd.underlying202 hd with ⟨_, hx'⟩ | ⟨a', len, cap', el, rs, m, _, hc0, _, _, hlc, _, _, _, _, _⟩
    · cases hx'
    · have h1 := World.var?_cell hg hvar 0
      rw [← Array.getElem?_toList, hc0] at h1
      have h2 : W.cell? ⟨7, 0, none⟩ = some (.slice (some ⟨R, oR, none⟩) Lib.caseA.size cap) := hcell
      rw [h2] at h1
      simp only [List.getElem?_cons_zero, Option.some.injEq, Value.slice.injEq] at h1
      omega
  refine ⟨[.slice (some ⟨R, oR, none⟩) Lib.caseA.size cap], ⟨_, _, rfl, ⟨_, _, _, _, rfl, by simp [Lib.caseA], hcap, rows_rep _, ⟨5, fun e he => ?_⟩, trivial, fun _ => ⟨R, oR, rfl, cellsAt_all fun k V hk => ?_⟩⟩, rfl, rfl⟩, cellsAt_all fun j V hj => ?_, fun e => (by cases e), fun e => (by cases e)⟩
  · obtain ⟨r, _, rfl⟩ := List.mem_map.1 he
    rfl
  · obtain ⟨i, j, a, rfl, hj, ha, hV⟩ := flat5b (fun r : Lib.CaseRow => ([.int .u32 r.1, .int .u32 r.2.1, .int .i32 r.2.2.1, .int .i32 r.2.2.2.1, .int .i32 r.2.2.2.2] : List Value)) (fun _ => rfl) _ k V hk
    have hi : i < Lib.caseA.size := by
      have := (List.getElem?_eq_some_iff.1 ha).1
      simpa [Lib.caseA] using this
    have hget : Lib.caseA.getD i (0, 0, 0, 0, 0) = a := by
      have hi' := (List.getElem?_eq_some_iff.1 ha).1
      have := (List.getElem?_eq_some_iff.1 ha).2
      simp [Lib.caseA, Array.getD, hi', this]
    obtain ⟨t0, t1, t2, t3, t4⟩ := hT i hi
    rw [hget] at t0 t1 t2 t3 t4
    rcases j with _ | _ | _ | _ | _ | j
    · injection hV with hV; subst hV; exact t0
    · injection hV with hV; subst hV; exact t1
    · injection hV with hV; subst hV; exact t2
    · injection hV with hV; subst hV; exact t3
    · injection hV with hV; subst hV; exact t4
    · omega
  · rcases j with _ | j
    · injection hj with hj; subst hj; exact hcell
    · simp at hj
theorem int_of_shape {P : Program} {w : World} {g : Nat} {t : TypeId} {zero : Array Value} (h : w.ShapedOpen P) (hg : g < P.globals.size) (h0 : ((begin P (fun _ _ => 0) default).world.heap[g]?).bind Obj.row? = some (zero, t)) (hz : zero.size = 1)
    (hb : P.buildable t = true) (hc : P.cellTypes P.depth t = some [t]) (hu : P.underlying t = some (.int .i64)) : ∃ p, w.cell? ⟨g, 0, none⟩ = some (.int .i64 p) := by
  obtain ⟨cs, hh, hs, hr⟩ := h.1 g zero t hg h0
  obtain ⟨ts, hts, _, hall⟩ := hr hb
  rw [hc] at hts
  cases hts
  have h1 : 0 < cs.size := by omega
  obtain ⟨u, hu', hok⟩ := hall 0 cs[0] (by simp [h1])
  have : u = t := by simpa using hu'.symm
  subst this
  have hcell : w.cell? ⟨g, 0, none⟩ = some cs[0] := by simp [World.cell?, hh, h1]
  rw [hcell]
  unfold Cell.ok at hok
  rw [hu] at hok
  cases hv : cs[0] <;> rw [hv] at hok <;> simp at hok
  rename_i k n
  obtain ⟨rfl, _⟩ := hok
  exact ⟨n, rfl⟩
theorem max_one {W : World} (h : W.ShapedOpen prog) : OneOk W 4 [] := by
  obtain ⟨p, hp⟩ := int_of_shape (g := 4) (t := 3) (zero := #[.int .i64 0]) h (of_decide_eq_true (by kernel_rfl)) (by kernel_rfl) rfl (by kernel_rfl) (by kernel_rfl) Tryd.underlying3
  refine ⟨[], rfl, fun j V hj => by simp at hj, fun _ hne => absurd rfl hne, fun _ => ⟨p, hp, ?_⟩⟩
  have := (cellsAt_all (W := W) (b := 4) (off := 0) (Vs := [.int .i64 p]) fun j V hj => by
    rcases j with _ | j
    · injection hj with hj; subst hj; exact hp
    · simp at hj) 0 _ rfl
  exact Nat.lt_of_le_of_lt (Nat.zero_le _) this.2
theorem L.glob_of {W : World} {l : List (String × DataW Unit)} (hL : laidMetH prog l W) (hsh : W.ShapedOpen prog) (hp : (l.all fun x => x.2.handleName?.isNone) = true) (hK : ("unicode/utf8.acceptRanges", Rows.laid_unicode_utf8_acceptRanges) ∈ l) (hS : ("strings.asciiSpace", Rows.laid_strings_asciiSpace) ∈ l)
    (hC : ("unicode.CaseRanges", Rows.laid_unicode_CaseRanges) ∈ l) (hF : ("unicode/utf8.first", Rows.laid_unicode_utf8_first) ∈ l) : GlobOk L.env W (fxAll W) := by
  rw [Go.MakeChecks.laidMetH_plain _ _ _ hp] at hL
  intro g cells hg
  have hg : L.glob g = some cells := hg
  unfold L.glob at hg
  split at hg
  · injection hg with hg; subst hg; exact space_one (Go.Lib.laidMet.reads hL hS)
  · injection hg with hg; subst hg; exact first_one (utf8Tabs_of_readsT u8types u8extra (Go.Lib.laidMet.reads hL hF) (Go.Lib.laidMet.reads hL hK))
  · injection hg with hg; subst hg; exact acc_one (utf8Tabs_of_readsT u8types u8extra (Go.Lib.laidMet.reads hL hF) (Go.Lib.laidMet.reads hL hK))
  · injection hg with hg; subst hg; exact max_one hsh
  · injection hg with hg; subst hg; exact case_one (Go.Lib.laidMet.reads hL hC)
  · cases hg
end Go.Proofs.YtefenlmpbgdpnaaDoor
