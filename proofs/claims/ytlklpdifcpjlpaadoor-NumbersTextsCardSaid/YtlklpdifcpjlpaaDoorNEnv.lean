/- The numbers: what lies in memory, and the library's two functions on texts of numbers. -/
import Derived.Test.YtlklpdifcpjlpaaDoorEnv
import Derived.Test.YtlklpdifcpjlpaaDoorShelfN
import Derived.Test.YtlklpdifcpjlpaaDoorAbsUni3
import Derived.Lib.AppendIntMem
namespace Go.Proofs.YtlklpdifcpjlpaaDoor.Nu
open Go.Abs Go.RowKit
set_option maxRecDepth 100000
def tabPow : List AVal := Lib.pow10Tab.map (AVal.int .u64)
def glob : Nat → Option (List AVal)
  | 2 => some [.err false]
  | 3 => some [.err false]
  | 4 => some tabPow
  | _ => none
noncomputable def env : Env := { YtlklpdifcpjlpaaDoor.env with glob := glob, exact := fun g => g == 4 }
theorem fits : Fits env prog := fits_of rfl (by kernel_rfl)
theorem setting : Setting env prog where
  fits := fits
  eq := fun t n h => by cases h
  fn := (fn_of rfl funcs_ok).1
  draws := (fn_of rfl funcs_ok).2
  mixed := by kernel_rfl
theorem dfrs (B : Nat) : DfrsOk env prog B := fun f g h => by cases h
theorem repL_ints {w : World} {fx : Nat → Nat} {k : IntKind} : ∀ {l : List Int} {Vs : List Value}, RepL w fx (l.map (AVal.int k)) Vs → Vs = l.map (Value.int k)
  | [], Vs, h => h
  | n :: r, _, ⟨V, Vr, rfl, h1, _, h3⟩ => by
    obtain rfl := h1
    rw [repL_ints h3]; rfl
theorem tabIs_of_glob {w : World} {fx : Nat → Nat} (h : GlobOk env w fx) : Lib.TabIs prog w "internal/strconv.uint64pow10" .u64 Lib.pow10Tab := by
  obtain ⟨Vs, h1, h2, h3⟩ := h 4 tabPow rfl
  obtain rfl := repL_ints h1
  have h3 := h3 rfl (by decide)
  have hg : prog.globalNamed "internal/strconv.uint64pow10" = some 4 := by kernel_rfl
  have h0 := (h2 0 (.int .u64 1) rfl).1
  unfold Lib.TabIs World.var?
  rw [hg]
  simp only [Option.bind_some]
  simp only [World.cell?] at h0 h3
  cases hb : w.heap[4]? with
  | none => rw [hb] at h0; cases h0
  | some o =>
    cases o with
    | cells c t f =>
      rw [hb] at h3
      simp only [Option.some.injEq]
      refine Array.ext' (List.ext_getElem? fun j => ?_)
      rw [List.length_map] at h3
      have h3 : c[Lib.pow10Tab.length]? = none := by simpa using h3
      rcases Nat.lt_or_ge j Lib.pow10Tab.length with hj | hj
      · have h4 := (h2 j (.int .u64 Lib.pow10Tab[j]) (by simp [hj])).1
        simp only [World.cell?, hb] at h4
        have h4 : c[j]? = some (.int .u64 Lib.pow10Tab[j]) := by simpa using h4
        rw [Array.getElem?_toList, h4]
        simp [hj]
      · rw [List.getElem?_eq_none (by have := Array.getElem?_eq_none_iff.1 h3; simpa using Nat.le_trans this hj), List.getElem?_eq_none (by simpa using hj)]
    | _ => rw [hb] at h0; cases h0
theorem err_of_glob {w : World} {fx : Nat → Nat} (h : GlobOk env w fx) (g : Nat) (hg : glob g = some [.err false]) : ∃ ev, w.cell? ⟨g, 0, none⟩ = some ev ∧ (ev = .nilIface ∨ ∃ te pe, ev = .iface te pe) := by
  obtain ⟨Vs, h1, h2, _⟩ := h g _ hg
  obtain ⟨V, Vr, rfl, h3, _, h4⟩ := h1
  refine ⟨V, (h2 0 V rfl).1, ?_⟩
  rcases h3 with ⟨h5, _⟩ | ⟨_, h5⟩
  · cases h5
  · exact .inr h5
def isI64 (n : Int) : Bool := decide (-9223372036854775808 ≤ n) && decide (n ≤ 9223372036854775807)
/-- strconv.Itoa -/
def lib_Itoa.g : List AVal → Mem → CT (Out × Mem) := leafG [.c (.int .i64)] (fun args => isI64 (getI (tget args 0))) fun args => .done (.str (Lib.itoa (getI (tget args 0))))
theorem lib_Itoa.ok (B : Nat) : NatOk env prog B 45 lib_Itoa.g := nat_leaf (fun _ => rfl) fun m args w fx rho vals hb hpre => by
  obtain ⟨V, rfl, hr⟩ := vals1 hpre
  obtain rfl := hr
  simp only [isI64, Bool.and_eq_true, decide_eq_true_eq] at hb
  refine (Tryd.strconv_Itoa (getI (tget args 0)) hb.1 hb.2 w (tabIs_of_glob hpre.glob)).mono fun e w' hh => ?_
  obtain ⟨rfl, k, os, rfl⟩ := hh
  exact ⟨_, rfl, rfl, Lib.below_grow _ w (Nat.le_refl _) k os⟩
def atoiV (s : List UInt8) : Int := match Lib.atoiAll s with
  | .ok v => v
  | .range => Lib.atoiSat s
  | _ => 0
def atoiOk (s : List UInt8) : Bool := match Lib.atoiAll s with
  | .ok _ => true
  | _ => false
/-- strconv.Atoi -/
def lib_Atoi.g : List AVal → Mem → CT (Out × Mem) := leafG [.c .str] (fun args => decide ((getS (tget args 0)).length ≤ 1000000)) fun args => .done (.tup [.int .i64 (atoiV (getS (tget args 0))), .err (atoiOk (getS (tget args 0)))])
theorem lib_Atoi.ok (B : Nat) : NatOk env prog B 46 lib_Atoi.g := nat_leaf (fun _ => rfl) fun m args w fx rho vals hb hpre => by
  obtain ⟨V, rfl, hr⟩ := vals1 hpre
  obtain rfl := hr
  have hl := of_decide_eq_true hb
  have hsz : (⟨(getS (tget args 0)).toArray⟩ : ByteArray).size = (getS (tget args 0)).length := by simp [ByteArray.size]
  cases ha : Lib.atoiAll (getS (tget args 0)) with
  | ok v =>
    refine (Tryd.strconv_Atoi_ok ⟨(getS (tget args 0)).toArray⟩ (by rw [hsz]; omega) v ha w).mono fun e w' hh => ?_
    obtain ⟨rfl, hw⟩ := hh
    refine ⟨_, rfl, ⟨[_, _], rfl, ⟨_, _, rfl, ?_, _, _, rfl, .inl ⟨?_, rfl⟩, rfl⟩⟩, ?_⟩
    · show _ = Value.int .i64 (atoiV _); rw [atoiV, ha]
    · rw [atoiOk, ha]
    · rcases hw with rfl | ⟨t, rfl⟩
      · exact Below.refl _ _
      · exact Lib.bytesWorld_below _ _ _
  | range =>
    obtain ⟨ev, h1, h2⟩ := err_of_glob hpre.glob 3 rfl
    refine (Tryd.strconv_Atoi_range ⟨(getS (tget args 0)).toArray⟩ (by rw [hsz]; omega) ha ev w h1 h2).mono fun e w' hh => ?_
    obtain ⟨N, rfl, _, _, hb'⟩ := hh
    refine ⟨_, rfl, ⟨[_, _], rfl, ⟨_, _, rfl, ?_, _, _, rfl, .inr ⟨?_, _, _, rfl⟩, rfl⟩⟩, hb'⟩
    · show _ = Value.int .i64 (atoiV _); rw [atoiV, ha]
    · rw [atoiOk, ha]
  | _ =>
    obtain ⟨ev, h1, h2⟩ := err_of_glob hpre.glob 2 rfl
    refine (Tryd.strconv_Atoi_syntax ⟨(getS (tget args 0)).toArray⟩ (by rw [hsz]; omega) ha ev w h1 h2).mono fun e w' hh => ?_
    obtain ⟨N, rfl, _, _, hb'⟩ := hh
    refine ⟨_, rfl, ⟨[_, _], rfl, ⟨_, _, rfl, ?_, _, _, rfl, .inr ⟨?_, _, _, rfl⟩, rfl⟩⟩, hb'⟩
    · show _ = Value.int .i64 (atoiV _); rw [atoiV, ha]
    · rw [atoiOk, ha]
end Go.Proofs.YtlklpdifcpjlpaaDoor.Nu
