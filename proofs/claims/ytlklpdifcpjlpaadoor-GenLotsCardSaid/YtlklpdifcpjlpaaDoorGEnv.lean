/- gen: the setting, and strings.Builder's two functions by hand. -/
import Derived.Test.YtlklpdifcpjlpaaDoorBld
import Derived.Test.YtlklpdifcpjlpaaDoorAbsBld
import Derived.Test.YtlklpdifcpjlpaaDoorAbsNew
import Derived.Test.YtlklpdifcpjlpaaDoorAbsSh
namespace Go.Proofs.YtlklpdifcpjlpaaDoor.Gl
open Go.Abs Go.RowKit
set_option maxRecDepth 100000
noncomputable def env : Env := { YtlklpdifcpjlpaaDoor.env with glob := fun _ => none, bld := some 77 }
theorem fits : Fits env prog := fits_of rfl (by kernel_rfl)
theorem setting : Setting env prog where
  fits := fits
  eq := fun t n h => by cases h
  fn := (fn_of rfl funcs_ok).1
  draws := (fn_of rfl funcs_ok).2
  mixed := by kernel_rfl
theorem dfrs (B : Nat) : DfrsOk env prog B := fun f g h => by cases h
def bld_check.g : List AVal → Mem → CT (Out × Mem) := copyG
theorem bld_check.ok (B : Nat) : NatOk env prog B 67 bld_check.g := nat_copyCheck (T := 77) rfl copyCheck_used copyCheck_fresh
def bld_String.g : List AVal → Mem → CT (Out × Mem) := stringG 5
theorem bld_String.ok (B : Nat) : NatOk env prog B 58 bld_String.g := nat_builderString (T := 77) (e5 := 5) rfl builder_String
def bld_checkAt.g : List AVal → Mem → CT (Out × Mem) := atG bld_check.g
theorem bld_checkAt.ok (B : Nat) : NatOk env prog B 67 bld_checkAt.g := nat_at (bld_check.ok B)
def bld_StringAt.g : List AVal → Mem → CT (Out × Mem) := atG bld_String.g
theorem bld_StringAt.ok (B : Nat) : NatOk env prog B 58 bld_StringAt.g := nat_at (bld_String.ok B)
def gen_line0.g : List AVal → Mem → CT (Out × Mem) := failG
theorem gen_line0.ok (B : Nat) : NatOk env prog B 57 gen_line0.g := nat_fail
end Go.Proofs.YtlklpdifcpjlpaaDoor.Gl
