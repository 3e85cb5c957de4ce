/- LexSpace as a call. -/
import Derived.Test.YtefenlmpbgdpnaaDoorEsLO
import Derived.Test.YtefenlmpbgdpnaaDoorEsLGlob
import Derived.Test.YtefenlmpbgdpnaaDoorEs3
namespace Go.Proofs.YtefenlmpbgdpnaaDoor.L
open Go.Abs Go.Uni Go.Plain Go.RowKit
set_option maxRecDepth 100000
theorem ty_bytes {P : Program} {n : Nat} {t e : TypeId} {cs : List AVal} (hu : P.underlying t = some (.slice e)) (he : P.underlying e = some (.int .u8)) (h : TyL P n t cs) : ∃ l : List UInt8, cs = [.slice .no (l.map byte)] ∧ l.length ≤ maxLen := by
  obtain ⟨m, es, rfl, hl, h⟩ := ty_slice hu h
  obtain ⟨l, rfl, _⟩ := rows_of (f := byte) (R := fun _ => True) (fun x hx => by
    obtain ⟨v, rfl, hw⟩ := ty_int he (h x hx)
    have hw : (Lit.int .u8 v).wf = true := hw
    have h1 : 0 ≤ v ∧ v < 256 := by
      simp only [Lit.wf, Bool.and_eq_true, decide_eq_true_eq] at hw
      have h2 : IntKind.u8.min = 0 := by decide
      have h3 : IntKind.u8.max = 255 := by decide
      omega
    refine ⟨UInt8.ofNat v.toNat, ?_, trivial⟩
    have : ((UInt8.ofNat v.toNat).toNat : Int) = v := by simp; omega
    simp only [byte, this]) (fun x hx => hx)
  exact ⟨l, rfl, by simpa using hl⟩
theorem call_LexSpace (B : Nat) (b : List UInt8) (w : Int) : CallOk env prog B 4 [.slice .no (b.map byte), .int .i64 w] [] (.ret (.bool true)) [] :=
  LexSpace.ok B 2000001 _ _ _ _ (by
    show (CT.opt (LexSpace 2000001 (b.map byte) w) _).eval = _
    rw [LexSpace_true]; rfl)
end Go.Proofs.YtefenlmpbgdpnaaDoor.L
