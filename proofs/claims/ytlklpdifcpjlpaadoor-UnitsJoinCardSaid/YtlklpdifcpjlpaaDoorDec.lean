/- The library's decoder as a summary. -/
import Derived.Test.YtlklpdifcpjlpaaDoorShelf
import Derived.Test.YtlklpdifcpjlpaaDoorEnv
import Derived.Test.YtlklpdifcpjlpaaDoorAbsUni3
namespace Go.Proofs.YtlklpdifcpjlpaaDoor
open Go.Abs Go.Uni Go.RowKit
set_option maxRecDepth 100000
theorem repL_get {w : World} {fx : Nat → Nat} : ∀ {l : List AVal} {Vs : List Value}, RepL w fx l Vs → ∀ (i : Nat) (v : AVal), l[i]? = some v → ∃ V, Vs[i]? = some V ∧ Rep w fx v V
  | [], _, _, i, v, h => by simp at h
  | a :: r, _, ⟨V, Vr, rfl, h1, _, h3⟩, 0, v, h => by
    simp only [List.getElem?_cons_zero, Option.some.injEq] at h
    subst h
    exact ⟨V, rfl, h1⟩
  | a :: r, _, ⟨V, Vr, rfl, h1, _, h3⟩, i + 1, v, h => by
    simp only [List.getElem?_cons_succ] at h
    obtain ⟨V', h4, h5⟩ := repL_get h3 i v h
    exact ⟨V', by simpa using h4, h5⟩
theorem acc_get : ∀ i, i < 16 → tabAcc[2 * i]? = some (.int .u8 (Lib.accLo i)) ∧ tabAcc[2 * i + 1]? = some (.int .u8 (Lib.accHi i)) := by
  intro i hi
  rcases i with _|_|_|_|_|_|_|_|_|_|_|_|_|_|_|_|i
  all_goals first | exact ⟨rfl, rfl⟩ | omega
theorem first_get {c : Nat} (h : c < 256) : tabFirst[c]? = some (.int .u8 (Lib.firstT c)) := by
  simp [tabFirst, h]
theorem tabs_of_glob {w : World} {fx : Nat → Nat} (h : GlobOk env w fx) : Lib.Utf8Tabs 0 1 w := by
  constructor
  · intro c hc
    obtain ⟨Vs, h1, h2⟩ := h 0 tabFirst rfl
    obtain ⟨V, h3, h4⟩ := repL_get h1 c _ (first_get hc)
    have := (h2 c V h3).1
    rw [Nat.zero_add] at this
    rw [this]
    exact congrArg some h4
  · intro i hi
    obtain ⟨Vs, h1, h2⟩ := h 1 tabAcc rfl
    obtain ⟨V, h3, h4⟩ := repL_get h1 _ _ (acc_get i hi).1
    obtain ⟨V', h5, h6⟩ := repL_get h1 _ _ (acc_get i hi).2
    have a1 := (h2 _ V h3).1
    have a2 := (h2 _ V' h5).1
    rw [Nat.zero_add] at a1 a2
    rw [a1, a2]
    exact ⟨congrArg some h4, congrArg some h6⟩
theorem decodeGo_eq (s : List UInt8) : Lib.decodeGo ⟨s.toArray⟩ = decS s := by
  have hsz : (⟨s.toArray⟩ : ByteArray).size = s.length := by simp [ByteArray.size]
  cases s with
  | nil => rfl
  | cons a r =>
    unfold Lib.decodeGo
    rw [if_neg (by rw [hsz]; simp), decode_eq _ 0 (by simp)]
    rfl
/-- DecodeRuneInString -/
def utf8_Dec.g : List AVal → Mem → CT (Out × Mem) := leafG [.c .str] (fun _ => true) fun args => .done (.tup [.int .i32 (decS (getS (tget args 0))).1, .int .i64 (decS (getS (tget args 0))).2])
theorem utf8_Dec.ok (B : Nat) : NatOk env prog B 49 utf8_Dec.g := nat_leaf (fun _ => rfl) fun m args w fx rho vals _ hpre => by
  obtain ⟨V, rfl, hr⟩ := vals1 hpre
  obtain rfl := hr
  refine (Tryd.utf8_DecodeRuneInString ⟨(getS (tget args 0)).toArray⟩ w (tabs_of_glob hpre.glob)).mono fun e w' hh => ?_
  rw [decodeGo_eq] at hh
  exact ⟨_, hh.1, ⟨[_, _], rfl, ⟨_, _, rfl, rfl, _, _, rfl, rfl, rfl⟩⟩, hh.2⟩
end Go.Proofs.YtlklpdifcpjlpaaDoor
