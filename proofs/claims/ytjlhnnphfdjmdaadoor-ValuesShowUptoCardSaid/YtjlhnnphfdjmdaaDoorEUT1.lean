/- ValuesSame, ValuesTypes and ValuesShow as calls. -/
import Derived.Test.YtjlhnnphfdjmdaaDoorEUS1
import Derived.Test.YtjlhnnphfdjmdaaDoorEUGlob
namespace Go.Proofs.YtjlhnnphfdjmdaaDoor.U
open Go.Abs Go.Uni Go.Plain
set_option maxRecDepth 100000
theorem call_ValuesSame (B : Nat) (k m : Int) (s : List UInt8) (k' m' : Int) (s' : List UInt8) : CallOk env prog B 4 [.agg [.int .i64 k, .int .i64 m, .str s], .agg [.int .i64 k', .int .i64 m', .str s']] [] (.ret (.bool true)) [] :=
  ValuesSame.ok B 2000001 _ _ _ _ (by
    show (CT.opt (ValuesSame 2000001 k m s k' m' s') _).eval = _
    rw [ValuesSame_true]; rfl)
theorem call_ValuesTypes (B : Nat) (a : Int) : CallOk env prog B 5 [.int .i64 a] [] (.ret (.bool true)) [] :=
  ValuesTypes.ok B 2000001 _ _ _ _ (by
    show (CT.opt (ValuesTypes 2000001 a) _).eval = _
    rw [ValuesTypes_true]; rfl)
theorem call_ValuesShow (B : Nat) {s t : List UInt8} (hs : s.length ≤ 2000000) (ht : t.length ≤ 2000000) : CallOk env prog B 3 [.str s, .str t] [] (.ret (.bool true)) [] :=
  ValuesShow.ok B 2000001 _ _ _ _ (by
    show (CT.opt (ValuesShow 2000001 s t) _).eval = _
    rw [ValuesShow_true hs ht]; rfl)
end Go.Proofs.YtjlhnnphfdjmdaaDoor.U
