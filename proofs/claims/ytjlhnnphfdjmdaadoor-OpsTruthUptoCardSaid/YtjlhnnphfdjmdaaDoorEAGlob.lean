/- What the rows' lists of variables tell of the memory; what plain arguments are. -/
import Derived.Test.YtjlhnnphfdjmdaaDoorEABase
import Derived.Test.YtjlhnnphfdjmdaaDoorRows
import Derived.Test.YtjlhnnphfdjmdaaDoorEA2
import Derived.Test.YtjlhnnphfdjmdaaDoorEA3
import Derived.Lib.LaidU8T
import Derived.Lib.LaidU8
import Derived.MakeChecks
import Derived.OpenShut
import Derived.ChangeSlices
import Derived.WideShapes
import Derived.WalkKit
import Derived.ProofKit
import Derived.Deep.DeepHandedRow
namespace Go.Proofs.YtjlhnnphfdjmdaaDoor
open Go.Abs Go.Uni Go.RowKit Go.Plain
set_option maxRecDepth 100000
set_option linter.unusedVariables false
theorem repL_of_ints {w : World} {fx : Nat → Nat} {k : IntKind} : ∀ (l : List Int), RepL w fx (l.map (AVal.int k)) (l.map (Value.int k))
  | [] => rfl
  | _ :: r => ⟨_, _, rfl, rfl, rfl, repL_of_ints r⟩
def firstI : List Int := (List.range 256).map fun c => ((Lib.firstT c : Nat) : Int)
def accI : List Int := (List.range 16).flatMap fun i => [((Lib.accLo i : Nat) : Int), ((Lib.accHi i : Nat) : Int)]
theorem first_eq : tabFirst = firstI.map (AVal.int .u8) := by simp [tabFirst, firstI, Function.comp_def]
theorem acc_eq : tabAcc = accI.map (AVal.int .u8) := by simp [tabAcc, accI, List.map_flatMap]
theorem accI_get : ∀ i, i < 16 → accI[2 * i]? = some ((Lib.accLo i : Nat) : Int) ∧ accI[2 * i + 1]? = some ((Lib.accHi i : Nat) : Int) := by
  intro i hi
  rcases i with _|_|_|_|_|_|_|_|_|_|_|_|_|_|_|_|i
  all_goals first | exact ⟨rfl, rfl⟩ | omega
theorem accI_len : accI.length = 32 := rfl
def OneOk (W : World) (g : Nat) (cells : List AVal) : Prop := ∃ Vs, RepL W (fxAll W) cells Vs ∧ CellsAt W (fxAll W) g 0 Vs ∧ (L0.exact g = true → Vs ≠ [] → W.cell? ⟨g, Vs.length, none⟩ = none)
theorem first_one {W : World} (h : Lib.Utf8Tabs 2 3 W) : OneOk W 2 tabFirst := by
  refine ⟨_, first_eq ▸ repL_of_ints firstI, cellsAt_all fun j V hj => ?_, fun e => by cases e⟩
  rw [List.getElem?_map] at hj
  have hlt : j < 256 := by
    rcases Nat.lt_or_ge j 256 with h | h
    · exact h
    · rw [List.getElem?_eq_none (by simpa [firstI] using h)] at hj; cases hj
  have hv : firstI[j]? = some ((Lib.firstT j : Nat) : Int) := by simp [firstI, hlt]
  rw [hv] at hj
  injection hj with hj
  subst hj
  rw [Nat.zero_add]
  exact h.1 j hlt
theorem acc_one {W : World} (h : Lib.Utf8Tabs 2 3 W) : OneOk W 3 tabAcc := by
  refine ⟨_, acc_eq ▸ repL_of_ints accI, cellsAt_all fun j V hj => ?_, fun e => by cases e⟩
  rw [List.getElem?_map] at hj
  have hlt : j < 32 := by
    rcases Nat.lt_or_ge j 32 with h | h
    · exact h
    · rw [List.getElem?_eq_none (by rw [accI_len]; exact h)] at hj; cases hj
  obtain ⟨i, hi, hji⟩ : ∃ i, i < 16 ∧ (j = 2 * i ∨ j = 2 * i + 1) := ⟨j / 2, by omega, by omega⟩
  rw [Nat.zero_add]
  rcases hji with rfl | rfl
  · rw [(accI_get i hi).1] at hj
    injection hj with hj
    subst hj
    exact (h.2 i hi).1
  · rw [(accI_get i hi).2] at hj
    injection hj with hj
    subst hj
    exact (h.2 i hi).2
theorem u8types : U8Types Tryd.prog Tryd.lays197_ren := { Tryd.lays197 with }
theorem u8extra : U8Extra Tryd.prog Tryd.lays197_ren where
  n3 := by kernel_rfl
  n4 := by kernel_rfl
  y3 := by kernel_rfl
  y4 := by kernel_rfl
  c5 := by kernel_rfl
  c119 := by kernel_rfl
  c138 := by kernel_rfl
theorem iface_of_trod {H : Type} {enc : TypeId × Value → H} {P : Program} {w : World} {base : Nat} {spare : Nat → Bool} {held : Bool} {fuel : Nat} {t : TypeId} {cs : List Value} {nm : String} {d : DataW H} {p : List MemPlace}
    (ht : ∃ m, P.underlying t = some (.interface m)) (h : DataW.trod enc P w base spare held fuel t cs = some (.iface nm d, p)) : ∃ u v, cs = [.iface u v] := by
  obtain ⟨m, ht⟩ := ht
  cases fuel with
  | zero => simp [DataW.trod] at h
  | succ n =>
    unfold DataW.trod at h
    rw [ht] at h
    split at h <;> simp_all
theorem err_glob {W : World} {g : Nat} {n nm : String} {t : TypeId} {d : DataW Unit} (hg : prog.globalNamed n = some g) (hty : (prog.globals[g]?).map (·.type) = some t) (ht : ∃ m, prog.underlying t = some (.interface m))
    (h : Lib.VarReads prog W n (.iface nm d)) : ∃ Vs, RepL W (fxAll W) [.err false] Vs ∧ CellsAt W (fxAll W) g 0 Vs := by
  obtain ⟨g', t', cs, fuel, p, hg', hty', hvar, hd⟩ := h
  obtain rfl := Option.some.inj (hg.symm.trans hg')
  obtain rfl := Option.some.inj (hty.symm.trans hty')
  obtain ⟨u, v, hc⟩ := iface_of_trod ht hd
  refine ⟨[.iface u v], ⟨_, _, rfl, .inr ⟨rfl, u, v, rfl⟩, rfl, rfl⟩, cellsAt_all fun j V hj => ?_⟩
  rw [Nat.zero_add, World.var?_cell hg hvar j, ← Array.getElem?_toList, hc]
  exact hj
theorem pow_data : (Rows.laid_internal_strconv_uint64pow10 : DataW Unit) = Lib.tabData .u64 Lib.pow10Tab := by kernel_rfl
theorem pow_glob {W : World} (h : Lib.VarReads prog W "internal/strconv.uint64pow10" Rows.laid_internal_strconv_uint64pow10) : OneOk W 4 tabPow := by
  rw [pow_data] at h
  obtain ⟨g', t', cs, fuel, p, hg', hty', hvar, hd⟩ := h
  have hg : prog.globalNamed "internal/strconv.uint64pow10" = some 4 := by kernel_rfl
  obtain rfl := Option.some.inj (hg.symm.trans hg')
  have hty : (prog.globals[4]?).map (·.type) = some 169 := by kernel_rfl
  obtain rfl := Option.some.inj (hty.symm.trans hty')
  have hcs := Lib.cells_of_tab (P := prog) Tryd.underlying169 Tryd.underlying134 (by kernel_rfl) (by kernel_rfl) hd
  refine ⟨Lib.pow10Tab.map (Value.int .u64), repL_of_ints _, cellsAt_all fun j V hj => ?_, fun _ _ => ?_⟩
  · rw [Nat.zero_add, World.var?_cell hg hvar j, ← Array.getElem?_toList, hcs]
    exact hj
  · rw [World.var?_cell hg hvar, ← Array.getElem?_toList, hcs]
    simp
theorem errR_one {W : World} (h : Lib.VarReads prog W "strconv.ErrRange" Rows.laid_strconv_ErrRange) : OneOk W 1 [.err false] := by
  obtain ⟨Vs, a, b⟩ := err_glob (g := 1) (t := 69) (by kernel_rfl) (by kernel_rfl) ⟨_, Tryd.underlying69⟩ h
  exact ⟨Vs, a, b, fun e => by cases e⟩
theorem errS_one {W : World} (h : Lib.VarReads prog W "strconv.ErrSyntax" Rows.laid_strconv_ErrSyntax) : OneOk W 0 [.err false] := by
  obtain ⟨Vs, a, b⟩ := err_glob (g := 0) (t := 69) (by kernel_rfl) (by kernel_rfl) ⟨_, Tryd.underlying69⟩ h
  exact ⟨Vs, a, b, fun e => by cases e⟩
theorem A.glob_of {W : World} {l : List (String × DataW Unit)} (hL : laidMetH prog l W) (hp : (l.all fun x => x.2.handleName?.isNone) = true) (hF : ("unicode/utf8.first", Rows.laid_unicode_utf8_first) ∈ l) (hK : ("unicode/utf8.acceptRanges", Rows.laid_unicode_utf8_acceptRanges) ∈ l) (hP : ("internal/strconv.uint64pow10", Rows.laid_internal_strconv_uint64pow10) ∈ l) (hR : ("strconv.ErrRange", Rows.laid_strconv_ErrRange) ∈ l) (hS : ("strconv.ErrSyntax", Rows.laid_strconv_ErrSyntax) ∈ l) : GlobOk A.env W (fxAll W) := by
  rw [Go.MakeChecks.laidMetH_plain _ _ _ hp] at hL
  intro g cells hg
  have hg : A.glob g = some cells := hg
  unfold A.glob at hg
  split at hg
  · injection hg with hg; subst hg; exact errS_one (Go.Lib.laidMet.reads hL hS)
  · injection hg with hg; subst hg; exact errR_one (Go.Lib.laidMet.reads hL hR)
  · injection hg with hg; subst hg; exact first_one (utf8Tabs_of_readsT u8types u8extra (Go.Lib.laidMet.reads hL hF) (Go.Lib.laidMet.reads hL hK))
  · injection hg with hg; subst hg; exact acc_one (utf8Tabs_of_readsT u8types u8extra (Go.Lib.laidMet.reads hL hF) (Go.Lib.laidMet.reads hL hK))
  · injection hg with hg; subst hg; exact pow_glob (Go.Lib.laidMet.reads hL hP)
  · cases hg
section
open Go.ChangeShapes Go.WideShapes Go.ChangeAt
theorem three {α : Type} {l : List α} (h : l.length = 3) : ∃ a b c, l = [a, b, c] := by
  match l, h with
  | [a, b, c], _ => exact ⟨a, b, c, rfl⟩
theorem open_value {H : Type} {enc : TypeId × Value → H} {P : Program} {W : World} {base base' t ti ts : Nat} {f0 f1 f2 : Field} {sp : Nat → Bool} {held : Bool} {v : Value} {d : DataW H} {p : List MemPlace}
    (ht : P.underlying t = some (.struct #[f0, f1, f2])) (hi : P.underlying ti = some (.int .i64)) (hs : P.underlying ts = some .string) (e0 : f0.type = ti ∧ f0.offset = 0) (e1 : f1.type = ti ∧ f1.offset = 1) (e2 : f2.type = ts ∧ f2.offset = 2)
    (c1 : P.cellsOf ti = 1) (c2 : P.cellsOf ts = 1) (c3 : P.cellsOf t = 3) (hval : Value.okWide P W .any base t v) (h : DataW.Trod enc P W base' sp held t v d p) :
    ∃ k m s, v = .agg #[.int .i64 k, .int .i64 m, .string ⟨s.toArray⟩] ∧ d = .agg [.lit (.int .i64 k), .lit (.int .i64 m), .lit (.string s)] ∧ (Lit.int .i64 k).wf = true ∧ (Lit.int .i64 m).wf = true ∧ s.length ≤ maxLen := by
  obtain ⟨cs, rfl, _⟩ := okWide_struct ht hval
  obtain ⟨fuel, hf⟩ := h
  obtain ⟨xs, n, _, hx, hl, hxl, hfld⟩ := DataW.trod_struct ht hf
  have hl : cs.toList.length = 3 := by rw [← c3]; exact hl
  obtain ⟨a, b, c, hcs⟩ := three hl
  obtain ⟨x0, x1, x2, rfl⟩ := three (show xs.length = 3 from hxl)
  have g0 := hfld 0 f0 rfl
  have g1 := hfld 1 f1 rfl
  have g2 := hfld 2 f2 rfl
  rw [e0.1, e0.2, c1] at g0
  rw [e1.1, e1.2, c1] at g1
  rw [e2.1, e2.2, c2] at g2
  simp only [Value.cells, hcs, List.drop_zero, List.drop_succ_cons, List.take_succ_cons, List.take_zero, List.getElem?_cons_zero, List.getElem?_cons_succ] at g0 g1 g2
  obtain ⟨k, ha, hx0, hk⟩ := DataW.trod_int hi g0
  obtain ⟨m, hb, hx1, hm⟩ := DataW.trod_int hi g1
  obtain ⟨s, hc, hx2, hsl⟩ := DataW.trod_string hs g2
  obtain rfl := (List.cons.inj ha).1
  obtain rfl := (List.cons.inj hb).1
  obtain rfl := (List.cons.inj hc).1
  subst hx0; subst hx1; subst hx2
  refine ⟨k, m, s.data.toList, ?_, (Prod.mk.inj hx).1, hk, hm, hsl⟩
  congr 1
  exact Array.ext' hcs
theorem rep_value {W : World} {k m : Int} {s : List UInt8} : RepT W (fxAll W) [] [] (.agg [.int .i64 k, .int .i64 m, .str s]) (.agg #[.int .i64 k, .int .i64 m, .string ⟨s.toArray⟩]) :=
  ⟨[_, _, _], rfl, _, _, rfl, rfl, rfl, _, _, rfl, rfl, rfl, _, _, rfl, rfl, rfl, rfl⟩
end
end Go.Proofs.YtjlhnnphfdjmdaaDoor
