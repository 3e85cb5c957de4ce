/- The numbers: what the row's list of variables tells of the memory. -/
import Derived.Test.YtlklpdifcpjlpaaDoorN3
import Derived.Test.YtlklpdifcpjlpaaDoorRows
import Derived.Test.YtlklpdifcpjlpaaDoorAbsLaw
import Derived.Lib.LaidU8
import Derived.MakeChecks
import Derived.OpenShut
import Derived.WalkKit
import Derived.ProofKit
namespace Go.Proofs.YtlklpdifcpjlpaaDoor.Nu
open Go.Abs Go.RowKit
set_option maxRecDepth 100000
set_option linter.unusedVariables false
theorem repL_of_ints {w : World} {fx : Nat → Nat} {k : IntKind} : ∀ (l : List Int), RepL w fx (l.map (AVal.int k)) (l.map (Value.int k))
  | [] => rfl
  | _ :: r => ⟨_, _, rfl, rfl, rfl, repL_of_ints r⟩
theorem iface_of_trod {H : Type} {enc : TypeId × Value → H} {P : Program} {w : World} {base : Nat} {spare : Nat → Bool} {held : Bool} {fuel : Nat} {t : TypeId} {cs : List Value} {nm : String} {d : DataW H} {p : List MemPlace}
    (ht : ∃ m, P.underlying t = some (.interface m)) (h : DataW.trod enc P w base spare held fuel t cs = some (.iface nm d, p)) : ∃ u v, cs = [.iface u v] := by
  obtain ⟨m, ht⟩ := ht
  cases fuel with
  | zero => simp [DataW.trod] at h
  | succ n =>
    unfold DataW.trod at h
    rw [ht] at h
    split at h <;> simp_all
theorem err_glob {W : World} {g : Nat} {n nm : String} {t : TypeId} {d : DataW Unit} (hg : prog.globalNamed n = some g) (hty : (prog.globals[g]?).map (·.type) = some t) (ht : ∃ m, prog.underlying t = some (.interface m))
    (h : Lib.VarReads prog W n (.iface nm d)) : ∃ Vs, RepL W (fxAll W) [.err false] Vs ∧ CellsAt W (fxAll W) g 0 Vs := by
  obtain ⟨g', t', cs, fuel, p, hg', hty', hvar, hd⟩ := h
  obtain rfl := Option.some.inj (hg.symm.trans hg')
  obtain rfl := Option.some.inj (hty.symm.trans hty')
  obtain ⟨u, v, hc⟩ := iface_of_trod ht hd
  refine ⟨[.iface u v], ⟨_, _, rfl, .inr ⟨rfl, u, v, rfl⟩, rfl, rfl⟩, cellsAt_all fun j V hj => ?_⟩
  rw [Nat.zero_add, World.var?_cell hg hvar j, ← Array.getElem?_toList, hc]
  exact hj
theorem pow_data : (Rows.laid_internal_strconv_uint64pow10 : DataW Unit) = Lib.tabData .u64 Lib.pow10Tab := by kernel_rfl
theorem pow_glob {W : World} (h : Lib.VarReads prog W "internal/strconv.uint64pow10" Rows.laid_internal_strconv_uint64pow10) : ∃ Vs, RepL W (fxAll W) tabPow Vs ∧ CellsAt W (fxAll W) 4 0 Vs ∧ (env.exact 4 = true → Vs ≠ [] → W.cell? ⟨4, Vs.length, none⟩ = none) := by
  rw [pow_data] at h
  obtain ⟨g', t', cs, fuel, p, hg', hty', hvar, hd⟩ := h
  have hg : prog.globalNamed "internal/strconv.uint64pow10" = some 4 := by kernel_rfl
  obtain rfl := Option.some.inj (hg.symm.trans hg')
  have hty : (prog.globals[4]?).map (·.type) = some 110 := by kernel_rfl
  obtain rfl := Option.some.inj (hty.symm.trans hty')
  have hcs := Lib.cells_of_tab (P := prog) Tryd.underlying110 Tryd.underlying25 (by kernel_rfl) (by kernel_rfl) hd
  refine ⟨Lib.pow10Tab.map (Value.int .u64), repL_of_ints _, cellsAt_all fun j V hj => ?_, fun _ _ => ?_⟩
  · rw [Nat.zero_add, World.var?_cell hg hvar j, ← Array.getElem?_toList, hcs]
    exact hj
  · rw [World.var?_cell hg hvar, ← Array.getElem?_toList, hcs]
    simp
theorem glob_of_laidN {W : World} {l : List (String × DataW Unit)} (hL : laidMetH prog l W) (hp : (l.all fun x => x.2.handleName?.isNone) = true)
    (h1 : ("internal/strconv.uint64pow10", Rows.laid_internal_strconv_uint64pow10) ∈ l) (h2 : ("strconv.ErrRange", Rows.laid_strconv_ErrRange) ∈ l) (h3 : ("strconv.ErrSyntax", Rows.laid_strconv_ErrSyntax) ∈ l) : GlobOk env W (fxAll W) := by
  rw [Go.MakeChecks.laidMetH_plain _ _ _ hp] at hL
  intro g cells hg
  have hg : glob g = some cells := hg
  unfold glob at hg
  split at hg
  · injection hg with hg; subst hg
    obtain ⟨Vs, a, b⟩ := err_glob (g := 2) (t := 58) (by kernel_rfl) (by kernel_rfl) ⟨_, Tryd.underlying58⟩ (Lib.laidMet.reads hL h3)
    exact ⟨Vs, a, b, fun e => by cases e⟩
  · injection hg with hg; subst hg
    obtain ⟨Vs, a, b⟩ := err_glob (g := 3) (t := 58) (by kernel_rfl) (by kernel_rfl) ⟨_, Tryd.underlying58⟩ (Lib.laidMet.reads hL h2)
    exact ⟨Vs, a, b, fun e => by cases e⟩
  · injection hg with hg; subst hg
    exact pow_glob (Lib.laidMet.reads hL h1)
  · cases hg
theorem call_NumbersTexts (B : Nat) {a : Int} (h : (Lit.int .i64 a).wf = true) (s : List UInt8) : CallOk env prog B 11 [.int .i64 a, .str s] [] (.ret (.bool true)) [] :=
  NumbersTexts.ok B 100001 _ _ _ _ (by
    have hb : -9223372036854775808 ≤ a ∧ a ≤ 9223372036854775807 := bounds_i64 h
    show (CT.opt (NumbersTexts 100001 a s) _).eval = _
    rw [NumbersTexts_true (by omega) hb.1 hb.2]; rfl)
end Go.Proofs.YtlklpdifcpjlpaaDoor.Nu
