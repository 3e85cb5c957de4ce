/- Join: summaries. -/
import Derived.Test.YtlklpdifcpjlpaaDoorUDef2
namespace Go.Proofs.YtlklpdifcpjlpaaDoor.U
open Go.Abs Go.Uni
set_option maxRecDepth 100000
def uHead (s : List UInt8) : Nat := (unitsOf s).headD 0
def uTail (s : List UInt8) : List Nat := (unitsOf s).tail
def ofJG : Nat1
  | [.str s], m => (match s with
    | [] => some (true, .ret (.slice .full []), m)
    | x :: r => some (short (x :: r) && right (x :: r), .ret (.slice (.row 23) (unit (uHead (x :: r)) :: (uTail (x :: r)).map unit)), m))
  | _, _ => none
def joinOf (a b : List UInt8) : List UInt8 := bif right a && right b then textOf (unitsOf a ++ unitsOf b) else []
def joinG : Nat1
  | [.str a, .str b], m => some (decide (a.length ≤ 40000) && decide (b.length ≤ 40000), .ret (.str (joinOf a b)), m)
  | _, _ => none
noncomputable def NJ0 : Nats := addN 15 rightG (addN 17 ofJG noNats)
noncomputable def NJ : Nats := addN 14 textG NJ0
noncomputable def N6 : Nats := addN 22 joinG (addN 13 aliveG (addN 14 textG (addN 20 lenG noNats)))
end Go.Proofs.YtlklpdifcpjlpaaDoor.U
