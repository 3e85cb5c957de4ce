/- The library's functions as summaries: Itoa, Atoi, the decoder, strings.Builder. -/
import Derived.Test.YtjlhnnphfdjmdaaDoorEAShelf
import Derived.Test.YtjlhnnphfdjmdaaDoorEAEnv
import Derived.Test.YtjlhnnphfdjmdaaDoorEA3
import Derived.Test.YtjlhnnphfdjmdaaDoorEA2
import Derived.Lib.Builder
import Derived.WalkKit
import Derived.ProofKit
namespace Go.Proofs.YtjlhnnphfdjmdaaDoor
open Go.Abs Go.Uni Go.RowKit
set_option maxRecDepth 100000
set_option maxHeartbeats 1000000
theorem repL_ints {w : World} {fx : Nat → Nat} {k : IntKind} : ∀ {l : List Int} {Vs : List Value}, RepL w fx (l.map (AVal.int k)) Vs → Vs = l.map (Value.int k)
  | [], Vs, h => h
  | n :: r, _, ⟨V, Vr, rfl, h1, _, h3⟩ => by
    obtain rfl := h1
    rw [repL_ints h3]; rfl
theorem repL_get {w : World} {fx : Nat → Nat} : ∀ {l : List AVal} {Vs : List Value}, RepL w fx l Vs → ∀ (i : Nat) (v : AVal), l[i]? = some v → ∃ V, Vs[i]? = some V ∧ Rep w fx v V
  | [], _, _, i, v, h => by simp at h
  | a :: r, _, ⟨V, Vr, rfl, h1, _, h3⟩, 0, v, h => by
    simp only [List.getElem?_cons_zero, Option.some.injEq] at h
    subst h
    exact ⟨V, rfl, h1⟩
  | a :: r, _, ⟨V, Vr, rfl, h1, _, h3⟩, i + 1, v, h => by
    simp only [List.getElem?_cons_succ] at h
    obtain ⟨V', h4, h5⟩ := repL_get h3 i v h
    exact ⟨V', by simpa using h4, h5⟩
theorem acc_get : ∀ i, i < 16 → tabAcc[2 * i]? = some (.int .u8 (Lib.accLo i)) ∧ tabAcc[2 * i + 1]? = some (.int .u8 (Lib.accHi i)) := by
  intro i hi
  rcases i with _|_|_|_|_|_|_|_|_|_|_|_|_|_|_|_|i
  all_goals first | exact ⟨rfl, rfl⟩ | omega
theorem first_get {c : Nat} (h : c < 256) : tabFirst[c]? = some (.int .u8 (Lib.firstT c)) := by
  simp [tabFirst, h]
theorem decodeGo_eq (s : List UInt8) : Lib.decodeGo ⟨s.toArray⟩ = decS s := by
  have hsz : (⟨s.toArray⟩ : ByteArray).size = s.length := by simp [ByteArray.size]
  cases s with
  | nil => rfl
  | cons a r =>
    unfold Lib.decodeGo
    rw [if_neg (by rw [hsz]; simp), decode_eq _ 0 (by simp)]
    rfl
def isI64 (n : Int) : Bool := decide (-9223372036854775808 ≤ n) && decide (n ≤ 9223372036854775807)
def atoiV (s : List UInt8) : Int := match Lib.atoiAll s with
  | .ok v => v
  | .range => Lib.atoiSat s
  | _ => 0
def atoiOk (s : List UInt8) : Bool := match Lib.atoiAll s with
  | .ok _ => true
  | _ => false
namespace L0
theorem tabIs_of_glob {w : World} {fx : Nat → Nat} (h : GlobOk env w fx) : Lib.TabIs prog w "internal/strconv.uint64pow10" .u64 Lib.pow10Tab := by
  obtain ⟨Vs, h1, h2, h3⟩ := h 4 tabPow rfl
  obtain rfl := repL_ints h1
  have h3 := h3 rfl (by decide)
  have hg : prog.globalNamed "internal/strconv.uint64pow10" = some 4 := by kernel_rfl
  have h0 := (h2 0 (.int .u64 1) rfl).1
  unfold Lib.TabIs World.var?
  rw [hg]
  simp only [Option.bind_some]
  simp only [World.cell?] at h0 h3
  cases hb : w.heap[4]? with
  | none => rw [hb] at h0; cases h0
  | some o =>
    cases o with
    | cells c t f =>
      rw [hb] at h3
      simp only [Option.some.injEq]
      refine Array.ext' (List.ext_getElem? fun j => ?_)
      rw [List.length_map] at h3
      have h3 : c[Lib.pow10Tab.length]? = none := by simpa using h3
      rcases Nat.lt_or_ge j Lib.pow10Tab.length with hj | hj
      · have h4 := (h2 j (.int .u64 Lib.pow10Tab[j]) (by simp [hj])).1
        simp only [World.cell?, hb] at h4
        have h4 : c[j]? = some (.int .u64 Lib.pow10Tab[j]) := by simpa using h4
        rw [Array.getElem?_toList, h4]
        simp [hj]
      · rw [List.getElem?_eq_none (by have := Array.getElem?_eq_none_iff.1 h3; simpa using Nat.le_trans this hj), List.getElem?_eq_none (by simpa using hj)]
    | _ => rw [hb] at h0; cases h0
def lib_Itoa.g : List AVal → Mem → CT (Out × Mem) := leafG [.c (.int .i64)] (fun args => isI64 (getI (tget args 0))) fun args => .done (.str (Lib.itoa (getI (tget args 0))))
theorem lib_Itoa.ok (B : Nat) : NatOk env prog B 55 lib_Itoa.g := nat_leaf (fun _ => rfl) fun m args w fx rho vals hb hpre => by
  obtain ⟨V, rfl, hr⟩ := vals1 hpre
  obtain rfl := hr
  simp only [isI64, Bool.and_eq_true, decide_eq_true_eq] at hb
  refine (Tryd.strconv_Itoa (getI (tget args 0)) hb.1 hb.2 w (tabIs_of_glob hpre.glob)).mono fun e w' hh => ?_
  obtain ⟨rfl, k, os, rfl⟩ := hh
  exact ⟨_, rfl, rfl, Lib.below_grow _ w (Nat.le_refl _) k os⟩
theorem copyCheck_used (b : Nat) (w : World) (h0 : w.cell? ⟨b, 0, none⟩ = some (.pointer (some ⟨b, 0, none⟩))) :
    Calls prog 88 #[.pointer (some ⟨b, 0, none⟩)] w fun e w' => e = .returned (.tuple #[]) ∧ w' = w := by
  have X := Tryd.Builder_Extra_169
  obtain ⟨j, hj, _⟩ := Option.map_eq_some_iff.1 X.sizeBuilder
  have mixed := Tryd.lays169.mixed
  go_enter Tryd.func88, (show Tryd.f88.ntmps = 20 from rfl)
  go_wp2
  rw [Lib.run_neq_ptr_same w _ Tryd.underlying89 hj]
  go_wp2
  go_end0
  exact ⟨rfl, rfl⟩
theorem copyCheck_fresh (b : Nat) (w : World) (h0 : w.cell? ⟨b, 0, none⟩ = some (.pointer none)) (hsh : w.shape? b = some (92, 2)) (hfz : w.frozen? ⟨b, 0, none⟩ = false) :
    Calls prog 88 #[.pointer (some ⟨b, 0, none⟩)] w fun e w' => e = .returned (.tuple #[]) ∧ w' = w.setCell ⟨b, 0, none⟩ (.pointer (some ⟨b, 0, none⟩)) := by
  have X := Tryd.Builder_Extra_169
  obtain ⟨j, hj, hjs⟩ := Option.map_eq_some_iff.1 X.sizeBuilder
  have mixed := Tryd.lays169.mixed
  go_enter Tryd.func88, (show Tryd.f88.ntmps = 20 from rfl)
  go_wp2
  rw [Lib.run_to_unsafe w ⟨b, 0, none⟩ Tryd.underlying89 Tryd.underlying138 hj (by rw [hjs]; decide) hsh (Nat.zero_lt_succ 1)]
  simp only [Result.andThen]
  rw [Oper.upon_value]
  go_wp2
  rw [run_callFunc_extern Tryd.func113 (by kernel_rfl) (by kernel_rfl) (by kernel_rfl) (e := Extern.AbiNoEscape.same) (by kernel_rfl)]
  rw [Lib.run_noEscape]
  simp only [Result.andThen]
  rw [Oper.upon_value]
  go_wp2
  rw [Lib.run_from_unsafe w ⟨b, 0, none⟩ Tryd.underlying138 Tryd.underlying89 hj hsh X.liesBuilder]
  simp only [Result.andThen]
  rw [Oper.upon_value]
  go_wp2
  go_end0
  exact ⟨rfl, rfl⟩
theorem builder_String (b g cap : Nat) (cur : Array Value) (p : Value) (l : List UInt8) (w : World) (h0 : l ≠ []) (hbk : w.heap[b]? = some (.cells #[p, .slice (some ⟨g, 0, none⟩) l.length cap] 92 (0, 0)))
    (hg : w.heap[g]? = some (.cells cur 5 (0, 0))) (hnc : l.length ≤ cap) (hcm : cap ≤ maxLen) (hcs : cur.size = cap) (htake : ∀ j x, l[j]? = some x → w.cell? ⟨g, j, none⟩ = some (.int .u8 x.toNat)) :
    Calls prog 74 #[.pointer (some ⟨b, 0, none⟩)] w fun e w' => e = .returned (.string ⟨l.toArray⟩) ∧ w' = w.drew.freeze ⟨g, 0, none⟩ l.length := by
  have X := Tryd.Builder_Extra_169
  have L := Tryd.lays169
  have hl0 : l.length ≠ 0 := by simpa using h0
  have c1 : w.drew.cell? ⟨b, 1, none⟩ = some (.slice (some ⟨g, 0, none⟩) l.length cap) := by
    have : w.drew.heap[b]? = some (.cells #[p, .slice (some ⟨g, 0, none⟩) l.length cap] 92 (0, 0)) := hbk
    rw [Lib.cell_of_heap this]; rfl
  have hSD : (Builtin.unsafeSliceData_ #[90] 115 #[.slice (some ⟨g, 0, none⟩) l.length cap]).run prog w.drew = .ok (.pointer (some ⟨g, 0, none⟩)) w.drew :=
    Lib.run_unsafeSliceData_row _ _ _ _ _ _ (by omega)
  have hUS : (Builtin.unsafeString_ #[115, 3] 9 #[.pointer (some ⟨g, 0, none⟩), .int .i64 l.length]).run prog w.drew = .ok (.string ⟨l.toArray⟩) (w.drew.freeze ⟨g, 0, none⟩ l.length) := by
    refine Lib.run_unsafeString_row w.drew 115 3 9 5 L.t127 X.cellsByte g cur.size (by have hg' : w.drew.heap[g]? = some (.cells cur 5 (0, 0)) := hg; simp [World.shape?, hg']) l h0 (by omega) (by unfold maxLen at hcm; omega) ?_
    intro j x hx
    have := htake j x hx
    have e : (⟨g, 0, none⟩ : Addr).add j = ⟨g, j, none⟩ := by rw [Addr.add_lit, Nat.zero_add]
    rw [e]
    exact this
  have mixed := L.mixed
  go_enter Tryd.func74, (show Tryd.f74.ntmps = 14 from rfl)
  go_wp2
  go_region_o
  all_goals (go_wp2; go_ret; exact ⟨rfl, rfl⟩)
def bld_check0.g : List AVal → Mem → CT (Out × Mem) := copyG
theorem bld_check0.ok (B : Nat) : NatOk env prog B 88 bld_check0.g := nat_copyCheck (T := 92) rfl copyCheck_used copyCheck_fresh
def bld_String0.g : List AVal → Mem → CT (Out × Mem) := stringG 5
theorem bld_String0.ok (B : Nat) : NatOk env prog B 74 bld_String0.g := nat_builderString (T := 92) (e5 := 5) rfl builder_String
def bld_check.g : List AVal → Mem → CT (Out × Mem) := atG bld_check0.g
theorem bld_check.ok (B : Nat) : NatOk env prog B 88 bld_check.g := nat_at (bld_check0.ok B)
def bld_String.g : List AVal → Mem → CT (Out × Mem) := atG bld_String0.g
theorem bld_String.ok (B : Nat) : NatOk env prog B 74 bld_String.g := nat_at (bld_String0.ok B)
end L0
namespace U
theorem tabs_of_glob {w : World} {fx : Nat → Nat} (h : GlobOk env w fx) : Lib.Utf8Tabs 2 3 w := by
  constructor
  · intro c hc
    obtain ⟨Vs, h1, h2, _⟩ := h 2 tabFirst rfl
    obtain ⟨V, h3, h4⟩ := repL_get h1 c _ (first_get hc)
    have := (h2 c V h3).1
    rw [Nat.zero_add] at this
    rw [this]
    exact congrArg some h4
  · intro i hi
    obtain ⟨Vs, h1, h2, _⟩ := h 3 tabAcc rfl
    obtain ⟨V, h3, h4⟩ := repL_get h1 _ _ (acc_get i hi).1
    obtain ⟨V', h5, h6⟩ := repL_get h1 _ _ (acc_get i hi).2
    have a1 := (h2 _ V h3).1
    have a2 := (h2 _ V' h5).1
    rw [Nat.zero_add] at a1 a2
    rw [a1, a2]
    exact ⟨congrArg some h4, congrArg some h6⟩
def utf8_Dec.g : List AVal → Mem → CT (Out × Mem) := leafG [.c .str] (fun _ => true) fun args => .done (.tup [.int .i32 (decS (getS (tget args 0))).1, .int .i64 (decS (getS (tget args 0))).2])
theorem utf8_Dec.ok (B : Nat) : NatOk env prog B 89 utf8_Dec.g := nat_leaf (fun _ => rfl) fun m args w fx rho vals _ hpre => by
  obtain ⟨V, rfl, hr⟩ := vals1 hpre
  obtain rfl := hr
  refine (Tryd.utf8_DecodeRuneInString ⟨(getS (tget args 0)).toArray⟩ w (tabs_of_glob hpre.glob)).mono fun e w' hh => ?_
  rw [decodeGo_eq] at hh
  exact ⟨_, hh.1, ⟨[_, _], rfl, ⟨_, _, rfl, rfl, _, _, rfl, rfl, rfl⟩⟩, hh.2⟩
end U
namespace C
theorem err_of_glob {w : World} {fx : Nat → Nat} (h : GlobOk env w fx) (g : Nat) (hg : glob g = some [.err false]) : ∃ ev, w.cell? ⟨g, 0, none⟩ = some ev ∧ (ev = .nilIface ∨ ∃ te pe, ev = .iface te pe) := by
  obtain ⟨Vs, h1, h2, _⟩ := h g _ hg
  obtain ⟨V, Vr, rfl, h3, _, h4⟩ := h1
  refine ⟨V, (h2 0 V rfl).1, ?_⟩
  rcases h3 with ⟨h5, _⟩ | ⟨_, h5⟩
  · cases h5
  · exact .inr h5
def lib_Atoi.g : List AVal → Mem → CT (Out × Mem) := leafG [.c .str] (fun args => decide ((getS (tget args 0)).length ≤ 1000000)) fun args => .done (.tup [.int .i64 (atoiV (getS (tget args 0))), .err (atoiOk (getS (tget args 0)))])
theorem lib_Atoi.ok (B : Nat) : NatOk env prog B 54 lib_Atoi.g := nat_leaf (fun _ => rfl) fun m args w fx rho vals hb hpre => by
  obtain ⟨V, rfl, hr⟩ := vals1 hpre
  obtain rfl := hr
  have hl := of_decide_eq_true hb
  have hsz : (⟨(getS (tget args 0)).toArray⟩ : ByteArray).size = (getS (tget args 0)).length := by simp [ByteArray.size]
  cases ha : Lib.atoiAll (getS (tget args 0)) with
  | ok v =>
    refine (Tryd.strconv_Atoi_ok ⟨(getS (tget args 0)).toArray⟩ (by rw [hsz]; omega) v ha w).mono fun e w' hh => ?_
    obtain ⟨rfl, hw⟩ := hh
    refine ⟨_, rfl, ⟨[_, _], rfl, ⟨_, _, rfl, ?_, _, _, rfl, .inl ⟨?_, rfl⟩, rfl⟩⟩, ?_⟩
    · show _ = Value.int .i64 (atoiV _); rw [atoiV, ha]
    · rw [atoiOk, ha]
    · rcases hw with rfl | ⟨t, rfl⟩
      · exact Below.refl _ _
      · exact Lib.bytesWorld_below _ _ _
  | range =>
    obtain ⟨ev, h1, h2⟩ := err_of_glob hpre.glob 1 rfl
    refine (Tryd.strconv_Atoi_range ⟨(getS (tget args 0)).toArray⟩ (by rw [hsz]; omega) ha ev w h1 h2).mono fun e w' hh => ?_
    obtain ⟨N, rfl, _, _, hb'⟩ := hh
    refine ⟨_, rfl, ⟨[_, _], rfl, ⟨_, _, rfl, ?_, _, _, rfl, .inr ⟨?_, _, _, rfl⟩, rfl⟩⟩, hb'⟩
    · show _ = Value.int .i64 (atoiV _); rw [atoiV, ha]
    · rw [atoiOk, ha]
  | _ =>
    obtain ⟨ev, h1, h2⟩ := err_of_glob hpre.glob 0 rfl
    refine (Tryd.strconv_Atoi_syntax ⟨(getS (tget args 0)).toArray⟩ (by rw [hsz]; omega) ha ev w h1 h2).mono fun e w' hh => ?_
    obtain ⟨N, rfl, _, _, hb'⟩ := hh
    refine ⟨_, rfl, ⟨[_, _], rfl, ⟨_, _, rfl, ?_, _, _, rfl, .inr ⟨?_, _, _, rfl⟩, rfl⟩⟩, hb'⟩
    · show _ = Value.int .i64 (atoiV _); rw [atoiV, ha]
    · rw [atoiOk, ha]
end C
end Go.Proofs.YtjlhnnphfdjmdaaDoor
