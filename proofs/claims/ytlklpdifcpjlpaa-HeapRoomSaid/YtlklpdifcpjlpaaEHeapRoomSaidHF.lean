/- The heap's functions, printed. -/
import Derived.Test.YtlklpdifcpjlpaaEHeapRoomSaidHEnv
import Derived.KernelRfl
namespace Go.Proofs.Ytlklpdifcpjlpaa.H
open Go.Abs
set_option maxRecDepth 100000
set_option linter.unusedVariables false
set_option linter.unusedSimpArgs false
def heap_New0.sa : List ASh := [.c (.int .i64)]
def heap_New0.sm : List OSh := []
noncomputable def heap_New0.N : CNats := noCalls
theorem heap_New0.N_ok (B : Nat) : NatsOk env prog B (heap_New0.N) := noCalls_ok
noncomputable def heap_New0.L : LNats := noLoops
theorem heap_New0.L_ok (B : Nat) : LoopsOk env prog B (heap_New0.L) := noLoops_ok
def heap_New0.k {X : Type} (a0 : Int) (ret : Unit → Option X) : Option X :=
  ret ()
def heap_New0 (a0 : Int) : Option (Unit) := heap_New0.k a0 some
theorem heap_New0.nat {X : Type} (a0 : Int) (ret : Unit → Option X) : heap_New0.k a0 ret = optK (heap_New0 a0) ret := by
  first | rfl | simp only [heap_New0, heap_New0.k, optK_cond, optK_ite, optK_assoc, optK_sum, optK_some, optK_none]
def heap_New0.om (a0 : Int) (x : Unit) : Out × Mem := (let t := x; (Out.ret (AVal.ptr (0 : Nat) (0 : Nat)), [AObj.cells [AVal.int IntKind.i64 (if a0 > (0 : Int) then a0 else (0 : Int)), AVal.slice (Own.row (27 : Nat)) [], AVal.int IntKind.i64 (0 : Int)]]))
def heap_New0.ct (a0 : Int) (x : Unit) : CT (Out × Mem) := (CT.done ((fun t => (Out.ret (AVal.ptr (0 : Nat) (0 : Nat)), [AObj.cells [AVal.int IntKind.i64 (if a0 > (0 : Int) then a0 else (0 : Int)), AVal.slice (Own.row (27 : Nat)) [], AVal.int IntKind.i64 (0 : Int)]])) x))
theorem heap_New0.hct (a0 : Int) (x : Unit) : (heap_New0.ct a0 x).eval = some ((heap_New0.om a0 x).1, (heap_New0.om a0 x).2) := rfl
set_option maxRecDepth 100000 in
theorem heap_New0.tree (args : List AVal) (m : Mem) : execFunc env (ora (heap_New0.N) (heap_New0.L)) 7 (bldArgs heap_New0.sa 0 args) (bldOs heap_New0.sm 0 m) = heap_New0.k (getI (tget args 0)) (fun x => some (heap_New0.om (getI (tget args 0)) x)) := by kernel_rfl
def heap_New0.g : List AVal → Mem → CT (Out × Mem) := shapeX heap_New0.sa heap_New0.sm fun args m => .opt (heap_New0 (getI (tget args 0))) (heap_New0.ct (getI (tget args 0)))
theorem heap_New0.ok (B : Nat) : NatOk env prog B 7 (heap_New0.g) :=
  nat_ofX setting (dfrs B) (heap_New0.N_ok B) (heap_New0.L_ok B) (fun args m => heap_New0.tree args m) (fun args m out m' h => by
    rw [heap_New0.nat]
    exact opt_hX (oc := fun x => (heap_New0.om (getI (tget args 0)) x).1) (mt := fun x => (heap_New0.om (getI (tget args 0)) x).2) (heap_New0.hct (getI (tget args 0))) h)
def heap_New.g : List AVal → Mem → CT (Out × Mem) := newG heap_New0.g
theorem heap_New.ok (B : Nat) : NatOk env prog B 7 heap_New.g := nat_new (heap_New0.ok B)
def clone_E.sa : List ASh := [.c (.fix (.slice .nil []))]
def clone_E.sm : List OSh := []
noncomputable def clone_E.N : CNats := noCalls
theorem clone_E.N_ok (B : Nat) : NatsOk env prog B (clone_E.N) := noCalls_ok
noncomputable def clone_E.L : LNats := noLoops
theorem clone_E.L_ok (B : Nat) : LoopsOk env prog B (clone_E.L) := noLoops_ok
def clone_E.k {X : Type} (ret : Unit → Option X) : Option X :=
  ret ()
def clone_E : Option (Unit) := clone_E.k some
theorem clone_E.nat {X : Type} (ret : Unit → Option X) : clone_E.k ret = optK (clone_E) ret := by
  first | rfl | simp only [clone_E, clone_E.k, optK_cond, optK_ite, optK_assoc, optK_sum, optK_some, optK_none]
def clone_E.om (x : Unit) : Out × Mem := (let t := x; (Out.ret (AVal.slice Own.nil []), []))
def clone_E.ct (rest : Mem) (x : Unit) : CT (Out × Mem) := (CT.done ((fun t => (Out.ret (AVal.slice Own.nil []), ([] : Mem) ++ rest)) x))
theorem clone_E.hct (rest : Mem) (x : Unit) : (clone_E.ct rest x).eval = some ((clone_E.om x).1, (clone_E.om x).2 ++ rest) := rfl
theorem clone_E.hlen (x : Unit) : (clone_E.om x).2.length = (clone_E.sm).length := rfl
set_option maxRecDepth 100000 in
theorem clone_E.tree (args : List AVal) (m : Mem) : execFunc env (ora (clone_E.N) (clone_E.L)) 17 (bldArgs clone_E.sa 0 args) (bldOs clone_E.sm 0 m) = clone_E.k (fun x => some (clone_E.om x)) := by kernel_rfl
def clone_E.g : List AVal → Mem → CT (Out × Mem) := shapeG clone_E.sa clone_E.sm fun args m => .opt (clone_E) (clone_E.ct (m.drop clone_E.sm.length))
theorem clone_E.ok (B : Nat) : NatOk env prog B 17 (clone_E.g) :=
  nat_of setting (dfrs B) (clone_E.N_ok B) (clone_E.L_ok B) rfl (fun args m => clone_E.tree args m) (fun args m out m' h => by
    rw [clone_E.nat]
    exact opt_hG (oc := fun x => (clone_E.om x).1) (mt := fun x => (clone_E.om x).2) (clone_E.hct (m.drop clone_E.sm.length)) (clone_E.hlen) h)
def clone_V.sa : List ASh := [.c (.fix (.slice .nil []))]
def clone_V.sm : List OSh := []
noncomputable def clone_V.N : CNats := noCalls
theorem clone_V.N_ok (B : Nat) : NatsOk env prog B (clone_V.N) := noCalls_ok
noncomputable def clone_V.L : LNats := noLoops
theorem clone_V.L_ok (B : Nat) : LoopsOk env prog B (clone_V.L) := noLoops_ok
def clone_V.k {X : Type} (ret : Unit → Option X) : Option X :=
  ret ()
def clone_V : Option (Unit) := clone_V.k some
theorem clone_V.nat {X : Type} (ret : Unit → Option X) : clone_V.k ret = optK (clone_V) ret := by
  first | rfl | simp only [clone_V, clone_V.k, optK_cond, optK_ite, optK_assoc, optK_sum, optK_some, optK_none]
def clone_V.om (x : Unit) : Out × Mem := (let t := x; (Out.ret (AVal.slice Own.nil []), []))
def clone_V.ct (rest : Mem) (x : Unit) : CT (Out × Mem) := (CT.done ((fun t => (Out.ret (AVal.slice Own.nil []), ([] : Mem) ++ rest)) x))
theorem clone_V.hct (rest : Mem) (x : Unit) : (clone_V.ct rest x).eval = some ((clone_V.om x).1, (clone_V.om x).2 ++ rest) := rfl
theorem clone_V.hlen (x : Unit) : (clone_V.om x).2.length = (clone_V.sm).length := rfl
set_option maxRecDepth 100000 in
theorem clone_V.tree (args : List AVal) (m : Mem) : execFunc env (ora (clone_V.N) (clone_V.L)) 18 (bldArgs clone_V.sa 0 args) (bldOs clone_V.sm 0 m) = clone_V.k (fun x => some (clone_V.om x)) := by kernel_rfl
def clone_V.g : List AVal → Mem → CT (Out × Mem) := shapeG clone_V.sa clone_V.sm fun args m => .opt (clone_V) (clone_V.ct (m.drop clone_V.sm.length))
theorem clone_V.ok (B : Nat) : NatOk env prog B 18 (clone_V.g) :=
  nat_of setting (dfrs B) (clone_V.N_ok B) (clone_V.L_ok B) rfl (fun args m => clone_V.tree args m) (fun args m out m' h => by
    rw [clone_V.nat]
    exact opt_hG (oc := fun x => (clone_V.om x).1) (mt := fun x => (clone_V.om x).2) (clone_V.hct (m.drop clone_V.sm.length)) (clone_V.hlen) h)
def heap_own.sa : List ASh := [.agg [.int .i64, .int .i64, .int .i64, .str, .bool, .fix (.slice .nil []), .int .i64, .int .i64, .int .i64, .int .i64, .str, .int .i64, .int .i64, .str, .int .i64, .int .i64, .str, .int .i64, .int .i64, .str, .fix (.slice .nil []), .bool, .bool, .int .i64]]
def heap_own.sm : List OSh := []
noncomputable def heap_own.N : CNats := (addN 17 (clone_E.g) (addN 18 (clone_V.g) noCalls))
theorem heap_own.N_ok (B : Nat) : NatsOk env prog B (heap_own.N) := addN_ok (clone_E.ok B) (addN_ok (clone_V.ok B) (noCalls_ok))
noncomputable def heap_own.L : LNats := noLoops
theorem heap_own.L_ok (B : Nat) : LoopsOk env prog B (heap_own.L) := noLoops_ok
def heap_own.k {X : Type} (a0_0 : Int) (a0_1 : Int) (a0_2 : Int) (a0_3 : List UInt8) (a0_4 : Bool) (a0_6 : Int) (a0_7 : Int) (a0_8 : Int) (a0_9 : Int) (a0_10 : List UInt8) (a0_11 : Int) (a0_12 : Int) (a0_13 : List UInt8) (a0_14 : Int) (a0_15 : Int) (a0_16 : List UInt8) (a0_17 : Int) (a0_18 : Int) (a0_19 : List UInt8) (a0_21 : Bool) (a0_22 : Bool) (a0_23 : Int) (ret : Unit → Option X) : Option X :=
  optK clone_E fun b => optK clone_V fun b => ret ()
def heap_own (a0_0 : Int) (a0_1 : Int) (a0_2 : Int) (a0_3 : List UInt8) (a0_4 : Bool) (a0_6 : Int) (a0_7 : Int) (a0_8 : Int) (a0_9 : Int) (a0_10 : List UInt8) (a0_11 : Int) (a0_12 : Int) (a0_13 : List UInt8) (a0_14 : Int) (a0_15 : Int) (a0_16 : List UInt8) (a0_17 : Int) (a0_18 : Int) (a0_19 : List UInt8) (a0_21 : Bool) (a0_22 : Bool) (a0_23 : Int) : Option (Unit) := heap_own.k a0_0 a0_1 a0_2 a0_3 a0_4 a0_6 a0_7 a0_8 a0_9 a0_10 a0_11 a0_12 a0_13 a0_14 a0_15 a0_16 a0_17 a0_18 a0_19 a0_21 a0_22 a0_23 some
theorem heap_own.nat {X : Type} (a0_0 : Int) (a0_1 : Int) (a0_2 : Int) (a0_3 : List UInt8) (a0_4 : Bool) (a0_6 : Int) (a0_7 : Int) (a0_8 : Int) (a0_9 : Int) (a0_10 : List UInt8) (a0_11 : Int) (a0_12 : Int) (a0_13 : List UInt8) (a0_14 : Int) (a0_15 : Int) (a0_16 : List UInt8) (a0_17 : Int) (a0_18 : Int) (a0_19 : List UInt8) (a0_21 : Bool) (a0_22 : Bool) (a0_23 : Int) (ret : Unit → Option X) : heap_own.k a0_0 a0_1 a0_2 a0_3 a0_4 a0_6 a0_7 a0_8 a0_9 a0_10 a0_11 a0_12 a0_13 a0_14 a0_15 a0_16 a0_17 a0_18 a0_19 a0_21 a0_22 a0_23 ret = optK (heap_own a0_0 a0_1 a0_2 a0_3 a0_4 a0_6 a0_7 a0_8 a0_9 a0_10 a0_11 a0_12 a0_13 a0_14 a0_15 a0_16 a0_17 a0_18 a0_19 a0_21 a0_22 a0_23) ret := by
  first | rfl | simp only [heap_own, heap_own.k, optK_cond, optK_ite, optK_assoc, optK_sum, optK_some, optK_none]
def heap_own.om (a0_0 : Int) (a0_1 : Int) (a0_2 : Int) (a0_3 : List UInt8) (a0_4 : Bool) (a0_6 : Int) (a0_7 : Int) (a0_8 : Int) (a0_9 : Int) (a0_10 : List UInt8) (a0_11 : Int) (a0_12 : Int) (a0_13 : List UInt8) (a0_14 : Int) (a0_15 : Int) (a0_16 : List UInt8) (a0_17 : Int) (a0_18 : Int) (a0_19 : List UInt8) (a0_21 : Bool) (a0_22 : Bool) (a0_23 : Int) (x : Unit) : Out × Mem := (let t := x; (Out.ret (AVal.agg [AVal.int IntKind.i64 a0_0, AVal.int IntKind.i64 a0_1, AVal.int IntKind.i64 a0_2, AVal.str a0_3, AVal.bool a0_4, AVal.slice Own.nil [], AVal.int IntKind.i64 a0_6, AVal.int IntKind.i64 a0_7, AVal.int IntKind.i64 a0_8, AVal.int IntKind.i64 a0_9, AVal.str a0_10, AVal.int IntKind.i64 a0_11, AVal.int IntKind.i64 a0_12, AVal.str a0_13, AVal.int IntKind.i64 a0_14, AVal.int IntKind.i64 a0_15, AVal.str a0_16, AVal.int IntKind.i64 a0_17, AVal.int IntKind.i64 a0_18, AVal.str a0_19, AVal.slice Own.nil [], AVal.bool a0_21, AVal.bool a0_22, AVal.int IntKind.i64 a0_23]), []))
def heap_own.ct (a0_0 : Int) (a0_1 : Int) (a0_2 : Int) (a0_3 : List UInt8) (a0_4 : Bool) (a0_6 : Int) (a0_7 : Int) (a0_8 : Int) (a0_9 : Int) (a0_10 : List UInt8) (a0_11 : Int) (a0_12 : Int) (a0_13 : List UInt8) (a0_14 : Int) (a0_15 : Int) (a0_16 : List UInt8) (a0_17 : Int) (a0_18 : Int) (a0_19 : List UInt8) (a0_21 : Bool) (a0_22 : Bool) (a0_23 : Int) (rest : Mem) (x : Unit) : CT (Out × Mem) := (CT.done ((fun t => (Out.ret (AVal.agg [AVal.int IntKind.i64 a0_0, AVal.int IntKind.i64 a0_1, AVal.int IntKind.i64 a0_2, AVal.str a0_3, AVal.bool a0_4, AVal.slice Own.nil [], AVal.int IntKind.i64 a0_6, AVal.int IntKind.i64 a0_7, AVal.int IntKind.i64 a0_8, AVal.int IntKind.i64 a0_9, AVal.str a0_10, AVal.int IntKind.i64 a0_11, AVal.int IntKind.i64 a0_12, AVal.str a0_13, AVal.int IntKind.i64 a0_14, AVal.int IntKind.i64 a0_15, AVal.str a0_16, AVal.int IntKind.i64 a0_17, AVal.int IntKind.i64 a0_18, AVal.str a0_19, AVal.slice Own.nil [], AVal.bool a0_21, AVal.bool a0_22, AVal.int IntKind.i64 a0_23]), ([] : Mem) ++ rest)) x))
theorem heap_own.hct (a0_0 : Int) (a0_1 : Int) (a0_2 : Int) (a0_3 : List UInt8) (a0_4 : Bool) (a0_6 : Int) (a0_7 : Int) (a0_8 : Int) (a0_9 : Int) (a0_10 : List UInt8) (a0_11 : Int) (a0_12 : Int) (a0_13 : List UInt8) (a0_14 : Int) (a0_15 : Int) (a0_16 : List UInt8) (a0_17 : Int) (a0_18 : Int) (a0_19 : List UInt8) (a0_21 : Bool) (a0_22 : Bool) (a0_23 : Int) (rest : Mem) (x : Unit) : (heap_own.ct a0_0 a0_1 a0_2 a0_3 a0_4 a0_6 a0_7 a0_8 a0_9 a0_10 a0_11 a0_12 a0_13 a0_14 a0_15 a0_16 a0_17 a0_18 a0_19 a0_21 a0_22 a0_23 rest x).eval = some ((heap_own.om a0_0 a0_1 a0_2 a0_3 a0_4 a0_6 a0_7 a0_8 a0_9 a0_10 a0_11 a0_12 a0_13 a0_14 a0_15 a0_16 a0_17 a0_18 a0_19 a0_21 a0_22 a0_23 x).1, (heap_own.om a0_0 a0_1 a0_2 a0_3 a0_4 a0_6 a0_7 a0_8 a0_9 a0_10 a0_11 a0_12 a0_13 a0_14 a0_15 a0_16 a0_17 a0_18 a0_19 a0_21 a0_22 a0_23 x).2 ++ rest) := rfl
theorem heap_own.hlen (a0_0 : Int) (a0_1 : Int) (a0_2 : Int) (a0_3 : List UInt8) (a0_4 : Bool) (a0_6 : Int) (a0_7 : Int) (a0_8 : Int) (a0_9 : Int) (a0_10 : List UInt8) (a0_11 : Int) (a0_12 : Int) (a0_13 : List UInt8) (a0_14 : Int) (a0_15 : Int) (a0_16 : List UInt8) (a0_17 : Int) (a0_18 : Int) (a0_19 : List UInt8) (a0_21 : Bool) (a0_22 : Bool) (a0_23 : Int) (x : Unit) : (heap_own.om a0_0 a0_1 a0_2 a0_3 a0_4 a0_6 a0_7 a0_8 a0_9 a0_10 a0_11 a0_12 a0_13 a0_14 a0_15 a0_16 a0_17 a0_18 a0_19 a0_21 a0_22 a0_23 x).2.length = (heap_own.sm).length := rfl
set_option maxRecDepth 100000 in
theorem heap_own.tree (args : List AVal) (m : Mem) : execFunc env (ora (heap_own.N) (heap_own.L)) 14 (bldArgs heap_own.sa 0 args) (bldOs heap_own.sm 0 m) = heap_own.k (getI (tget (aggC (tget args 0)) 0)) (getI (tget (aggC (tget args 0)) 1)) (getI (tget (aggC (tget args 0)) 2)) (getS (tget (aggC (tget args 0)) 3)) (getB (tget (aggC (tget args 0)) 4)) (getI (tget (aggC (tget args 0)) 6)) (getI (tget (aggC (tget args 0)) 7)) (getI (tget (aggC (tget args 0)) 8)) (getI (tget (aggC (tget args 0)) 9)) (getS (tget (aggC (tget args 0)) 10)) (getI (tget (aggC (tget args 0)) 11)) (getI (tget (aggC (tget args 0)) 12)) (getS (tget (aggC (tget args 0)) 13)) (getI (tget (aggC (tget args 0)) 14)) (getI (tget (aggC (tget args 0)) 15)) (getS (tget (aggC (tget args 0)) 16)) (getI (tget (aggC (tget args 0)) 17)) (getI (tget (aggC (tget args 0)) 18)) (getS (tget (aggC (tget args 0)) 19)) (getB (tget (aggC (tget args 0)) 21)) (getB (tget (aggC (tget args 0)) 22)) (getI (tget (aggC (tget args 0)) 23)) (fun x => some (heap_own.om (getI (tget (aggC (tget args 0)) 0)) (getI (tget (aggC (tget args 0)) 1)) (getI (tget (aggC (tget args 0)) 2)) (getS (tget (aggC (tget args 0)) 3)) (getB (tget (aggC (tget args 0)) 4)) (getI (tget (aggC (tget args 0)) 6)) (getI (tget (aggC (tget args 0)) 7)) (getI (tget (aggC (tget args 0)) 8)) (getI (tget (aggC (tget args 0)) 9)) (getS (tget (aggC (tget args 0)) 10)) (getI (tget (aggC (tget args 0)) 11)) (getI (tget (aggC (tget args 0)) 12)) (getS (tget (aggC (tget args 0)) 13)) (getI (tget (aggC (tget args 0)) 14)) (getI (tget (aggC (tget args 0)) 15)) (getS (tget (aggC (tget args 0)) 16)) (getI (tget (aggC (tget args 0)) 17)) (getI (tget (aggC (tget args 0)) 18)) (getS (tget (aggC (tget args 0)) 19)) (getB (tget (aggC (tget args 0)) 21)) (getB (tget (aggC (tget args 0)) 22)) (getI (tget (aggC (tget args 0)) 23)) x)) := by kernel_rfl
def heap_own.g : List AVal → Mem → CT (Out × Mem) := shapeG heap_own.sa heap_own.sm fun args m => .opt (heap_own (getI (tget (aggC (tget args 0)) 0)) (getI (tget (aggC (tget args 0)) 1)) (getI (tget (aggC (tget args 0)) 2)) (getS (tget (aggC (tget args 0)) 3)) (getB (tget (aggC (tget args 0)) 4)) (getI (tget (aggC (tget args 0)) 6)) (getI (tget (aggC (tget args 0)) 7)) (getI (tget (aggC (tget args 0)) 8)) (getI (tget (aggC (tget args 0)) 9)) (getS (tget (aggC (tget args 0)) 10)) (getI (tget (aggC (tget args 0)) 11)) (getI (tget (aggC (tget args 0)) 12)) (getS (tget (aggC (tget args 0)) 13)) (getI (tget (aggC (tget args 0)) 14)) (getI (tget (aggC (tget args 0)) 15)) (getS (tget (aggC (tget args 0)) 16)) (getI (tget (aggC (tget args 0)) 17)) (getI (tget (aggC (tget args 0)) 18)) (getS (tget (aggC (tget args 0)) 19)) (getB (tget (aggC (tget args 0)) 21)) (getB (tget (aggC (tget args 0)) 22)) (getI (tget (aggC (tget args 0)) 23))) (heap_own.ct (getI (tget (aggC (tget args 0)) 0)) (getI (tget (aggC (tget args 0)) 1)) (getI (tget (aggC (tget args 0)) 2)) (getS (tget (aggC (tget args 0)) 3)) (getB (tget (aggC (tget args 0)) 4)) (getI (tget (aggC (tget args 0)) 6)) (getI (tget (aggC (tget args 0)) 7)) (getI (tget (aggC (tget args 0)) 8)) (getI (tget (aggC (tget args 0)) 9)) (getS (tget (aggC (tget args 0)) 10)) (getI (tget (aggC (tget args 0)) 11)) (getI (tget (aggC (tget args 0)) 12)) (getS (tget (aggC (tget args 0)) 13)) (getI (tget (aggC (tget args 0)) 14)) (getI (tget (aggC (tget args 0)) 15)) (getS (tget (aggC (tget args 0)) 16)) (getI (tget (aggC (tget args 0)) 17)) (getI (tget (aggC (tget args 0)) 18)) (getS (tget (aggC (tget args 0)) 19)) (getB (tget (aggC (tget args 0)) 21)) (getB (tget (aggC (tget args 0)) 22)) (getI (tget (aggC (tget args 0)) 23)) (m.drop heap_own.sm.length))
theorem heap_own.ok (B : Nat) : NatOk env prog B 14 (heap_own.g) :=
  nat_of setting (dfrs B) (heap_own.N_ok B) (heap_own.L_ok B) rfl (fun args m => heap_own.tree args m) (fun args m out m' h => by
    rw [heap_own.nat]
    exact opt_hG (oc := fun x => (heap_own.om (getI (tget (aggC (tget args 0)) 0)) (getI (tget (aggC (tget args 0)) 1)) (getI (tget (aggC (tget args 0)) 2)) (getS (tget (aggC (tget args 0)) 3)) (getB (tget (aggC (tget args 0)) 4)) (getI (tget (aggC (tget args 0)) 6)) (getI (tget (aggC (tget args 0)) 7)) (getI (tget (aggC (tget args 0)) 8)) (getI (tget (aggC (tget args 0)) 9)) (getS (tget (aggC (tget args 0)) 10)) (getI (tget (aggC (tget args 0)) 11)) (getI (tget (aggC (tget args 0)) 12)) (getS (tget (aggC (tget args 0)) 13)) (getI (tget (aggC (tget args 0)) 14)) (getI (tget (aggC (tget args 0)) 15)) (getS (tget (aggC (tget args 0)) 16)) (getI (tget (aggC (tget args 0)) 17)) (getI (tget (aggC (tget args 0)) 18)) (getS (tget (aggC (tget args 0)) 19)) (getB (tget (aggC (tget args 0)) 21)) (getB (tget (aggC (tget args 0)) 22)) (getI (tget (aggC (tget args 0)) 23)) x).1) (mt := fun x => (heap_own.om (getI (tget (aggC (tget args 0)) 0)) (getI (tget (aggC (tget args 0)) 1)) (getI (tget (aggC (tget args 0)) 2)) (getS (tget (aggC (tget args 0)) 3)) (getB (tget (aggC (tget args 0)) 4)) (getI (tget (aggC (tget args 0)) 6)) (getI (tget (aggC (tget args 0)) 7)) (getI (tget (aggC (tget args 0)) 8)) (getI (tget (aggC (tget args 0)) 9)) (getS (tget (aggC (tget args 0)) 10)) (getI (tget (aggC (tget args 0)) 11)) (getI (tget (aggC (tget args 0)) 12)) (getS (tget (aggC (tget args 0)) 13)) (getI (tget (aggC (tget args 0)) 14)) (getI (tget (aggC (tget args 0)) 15)) (getS (tget (aggC (tget args 0)) 16)) (getI (tget (aggC (tget args 0)) 17)) (getI (tget (aggC (tget args 0)) 18)) (getS (tget (aggC (tget args 0)) 19)) (getB (tget (aggC (tget args 0)) 21)) (getB (tget (aggC (tget args 0)) 22)) (getI (tget (aggC (tget args 0)) 23)) x).2) (heap_own.hct (getI (tget (aggC (tget args 0)) 0)) (getI (tget (aggC (tget args 0)) 1)) (getI (tget (aggC (tget args 0)) 2)) (getS (tget (aggC (tget args 0)) 3)) (getB (tget (aggC (tget args 0)) 4)) (getI (tget (aggC (tget args 0)) 6)) (getI (tget (aggC (tget args 0)) 7)) (getI (tget (aggC (tget args 0)) 8)) (getI (tget (aggC (tget args 0)) 9)) (getS (tget (aggC (tget args 0)) 10)) (getI (tget (aggC (tget args 0)) 11)) (getI (tget (aggC (tget args 0)) 12)) (getS (tget (aggC (tget args 0)) 13)) (getI (tget (aggC (tget args 0)) 14)) (getI (tget (aggC (tget args 0)) 15)) (getS (tget (aggC (tget args 0)) 16)) (getI (tget (aggC (tget args 0)) 17)) (getI (tget (aggC (tget args 0)) 18)) (getS (tget (aggC (tget args 0)) 19)) (getB (tget (aggC (tget args 0)) 21)) (getB (tget (aggC (tget args 0)) 22)) (getI (tget (aggC (tget args 0)) 23)) (m.drop heap_own.sm.length)) (heap_own.hlen (getI (tget (aggC (tget args 0)) 0)) (getI (tget (aggC (tget args 0)) 1)) (getI (tget (aggC (tget args 0)) 2)) (getS (tget (aggC (tget args 0)) 3)) (getB (tget (aggC (tget args 0)) 4)) (getI (tget (aggC (tget args 0)) 6)) (getI (tget (aggC (tget args 0)) 7)) (getI (tget (aggC (tget args 0)) 8)) (getI (tget (aggC (tget args 0)) 9)) (getS (tget (aggC (tget args 0)) 10)) (getI (tget (aggC (tget args 0)) 11)) (getI (tget (aggC (tget args 0)) 12)) (getS (tget (aggC (tget args 0)) 13)) (getI (tget (aggC (tget args 0)) 14)) (getI (tget (aggC (tget args 0)) 15)) (getS (tget (aggC (tget args 0)) 16)) (getI (tget (aggC (tget args 0)) 17)) (getI (tget (aggC (tget args 0)) 18)) (getS (tget (aggC (tget args 0)) 19)) (getB (tget (aggC (tget args 0)) 21)) (getB (tget (aggC (tget args 0)) 22)) (getI (tget (aggC (tget args 0)) 23))) h)
def heap_Make0.sa : List ASh := [.c (.fix (.ptr 0 0)), .agg [.int .i64, .int .i64, .int .i64, .str, .bool, .fix (.slice .nil []), .int .i64, .int .i64, .int .i64, .int .i64, .str, .int .i64, .int .i64, .str, .int .i64, .int .i64, .str, .int .i64, .int .i64, .str, .fix (.slice .nil []), .bool, .bool, .int .i64]]
def heap_Make0.sm : List OSh := [.cells [.int .i64, .sl (.row 27), .int .i64]]
noncomputable def heap_Make0.N : CNats := (addN 14 (heap_own.g) noCalls)
theorem heap_Make0.N_ok (B : Nat) : NatsOk env prog B (heap_Make0.N) := addN_ok (heap_own.ok B) (noCalls_ok)
noncomputable def heap_Make0.L : LNats := noLoops
theorem heap_Make0.L_ok (B : Nat) : LoopsOk env prog B (heap_Make0.L) := noLoops_ok
def heap_Make0.k {X : Type} (a1_0 : Int) (a1_1 : Int) (a1_2 : Int) (a1_3 : List UInt8) (a1_4 : Bool) (a1_6 : Int) (a1_7 : Int) (a1_8 : Int) (a1_9 : Int) (a1_10 : List UInt8) (a1_11 : Int) (a1_12 : Int) (a1_13 : List UInt8) (a1_14 : Int) (a1_15 : Int) (a1_16 : List UInt8) (a1_17 : Int) (a1_18 : Int) (a1_19 : List UInt8) (a1_21 : Bool) (a1_22 : Bool) (a1_23 : Int) (m0_0 : Int) (m0_1 : List (List AVal)) (m0_2 : Int) (ret : Int × Bool × List (List AVal) → Option X) : Option X :=
  bif decide ((↑(List.length m0_1) : Int) ≥ m0_0) then ret ((0 : Int), false, m0_1) else optK (heap_own a1_0 a1_1 a1_2 a1_3 a1_4 a1_6 a1_7 a1_8 a1_9 a1_10 a1_11 a1_12 a1_13 a1_14 a1_15 a1_16 a1_17 a1_18 a1_19 a1_21 a1_22 a1_23) fun b => if (true && roomOk (List.length m0_1 + List.length [[AVal.int IntKind.i64 a1_0, AVal.int IntKind.i64 a1_1, AVal.int IntKind.i64 a1_2, AVal.str a1_3, AVal.bool a1_4, AVal.slice Own.nil [], AVal.int IntKind.i64 a1_6, AVal.int IntKind.i64 a1_7, AVal.int IntKind.i64 a1_8, AVal.int IntKind.i64 a1_9, AVal.str a1_10, AVal.int IntKind.i64 a1_11, AVal.int IntKind.i64 a1_12, AVal.str a1_13, AVal.int IntKind.i64 a1_14, AVal.int IntKind.i64 a1_15, AVal.str a1_16, AVal.int IntKind.i64 a1_17, AVal.int IntKind.i64 a1_18, AVal.str a1_19, AVal.slice Own.nil [], AVal.bool a1_21, AVal.bool a1_22, AVal.int IntKind.i64 a1_23]]) (256 : Nat)) = true then ret (IntKind.wrap IntKind.i64 ((↑(List.length (List.append m0_1 [[AVal.int IntKind.i64 a1_0, AVal.int IntKind.i64 a1_1, AVal.int IntKind.i64 a1_2, AVal.str a1_3, AVal.bool a1_4, AVal.slice Own.nil [], AVal.int IntKind.i64 a1_6, AVal.int IntKind.i64 a1_7, AVal.int IntKind.i64 a1_8, AVal.int IntKind.i64 a1_9, AVal.str a1_10, AVal.int IntKind.i64 a1_11, AVal.int IntKind.i64 a1_12, AVal.str a1_13, AVal.int IntKind.i64 a1_14, AVal.int IntKind.i64 a1_15, AVal.str a1_16, AVal.int IntKind.i64 a1_17, AVal.int IntKind.i64 a1_18, AVal.str a1_19, AVal.slice Own.nil [], AVal.bool a1_21, AVal.bool a1_22, AVal.int IntKind.i64 a1_23]])) : Int) - (1 : Int)), true, List.append m0_1 [[AVal.int IntKind.i64 a1_0, AVal.int IntKind.i64 a1_1, AVal.int IntKind.i64 a1_2, AVal.str a1_3, AVal.bool a1_4, AVal.slice Own.nil [], AVal.int IntKind.i64 a1_6, AVal.int IntKind.i64 a1_7, AVal.int IntKind.i64 a1_8, AVal.int IntKind.i64 a1_9, AVal.str a1_10, AVal.int IntKind.i64 a1_11, AVal.int IntKind.i64 a1_12, AVal.str a1_13, AVal.int IntKind.i64 a1_14, AVal.int IntKind.i64 a1_15, AVal.str a1_16, AVal.int IntKind.i64 a1_17, AVal.int IntKind.i64 a1_18, AVal.str a1_19, AVal.slice Own.nil [], AVal.bool a1_21, AVal.bool a1_22, AVal.int IntKind.i64 a1_23]]) else none
def heap_Make0 (a1_0 : Int) (a1_1 : Int) (a1_2 : Int) (a1_3 : List UInt8) (a1_4 : Bool) (a1_6 : Int) (a1_7 : Int) (a1_8 : Int) (a1_9 : Int) (a1_10 : List UInt8) (a1_11 : Int) (a1_12 : Int) (a1_13 : List UInt8) (a1_14 : Int) (a1_15 : Int) (a1_16 : List UInt8) (a1_17 : Int) (a1_18 : Int) (a1_19 : List UInt8) (a1_21 : Bool) (a1_22 : Bool) (a1_23 : Int) (m0_0 : Int) (m0_1 : List (List AVal)) (m0_2 : Int) : Option (Int × Bool × List (List AVal)) := heap_Make0.k a1_0 a1_1 a1_2 a1_3 a1_4 a1_6 a1_7 a1_8 a1_9 a1_10 a1_11 a1_12 a1_13 a1_14 a1_15 a1_16 a1_17 a1_18 a1_19 a1_21 a1_22 a1_23 m0_0 m0_1 m0_2 some
theorem heap_Make0.nat {X : Type} (a1_0 : Int) (a1_1 : Int) (a1_2 : Int) (a1_3 : List UInt8) (a1_4 : Bool) (a1_6 : Int) (a1_7 : Int) (a1_8 : Int) (a1_9 : Int) (a1_10 : List UInt8) (a1_11 : Int) (a1_12 : Int) (a1_13 : List UInt8) (a1_14 : Int) (a1_15 : Int) (a1_16 : List UInt8) (a1_17 : Int) (a1_18 : Int) (a1_19 : List UInt8) (a1_21 : Bool) (a1_22 : Bool) (a1_23 : Int) (m0_0 : Int) (m0_1 : List (List AVal)) (m0_2 : Int) (ret : Int × Bool × List (List AVal) → Option X) : heap_Make0.k a1_0 a1_1 a1_2 a1_3 a1_4 a1_6 a1_7 a1_8 a1_9 a1_10 a1_11 a1_12 a1_13 a1_14 a1_15 a1_16 a1_17 a1_18 a1_19 a1_21 a1_22 a1_23 m0_0 m0_1 m0_2 ret = optK (heap_Make0 a1_0 a1_1 a1_2 a1_3 a1_4 a1_6 a1_7 a1_8 a1_9 a1_10 a1_11 a1_12 a1_13 a1_14 a1_15 a1_16 a1_17 a1_18 a1_19 a1_21 a1_22 a1_23 m0_0 m0_1 m0_2) ret := by
  first | rfl | simp only [heap_Make0, heap_Make0.k, optK_cond, optK_ite, optK_assoc, optK_sum, optK_some, optK_none]
def heap_Make0.om (a1_0 : Int) (a1_1 : Int) (a1_2 : Int) (a1_3 : List UInt8) (a1_4 : Bool) (a1_6 : Int) (a1_7 : Int) (a1_8 : Int) (a1_9 : Int) (a1_10 : List UInt8) (a1_11 : Int) (a1_12 : Int) (a1_13 : List UInt8) (a1_14 : Int) (a1_15 : Int) (a1_16 : List UInt8) (a1_17 : Int) (a1_18 : Int) (a1_19 : List UInt8) (a1_21 : Bool) (a1_22 : Bool) (a1_23 : Int) (m0_0 : Int) (m0_1 : List (List AVal)) (m0_2 : Int) (x : Int × Bool × List (List AVal)) : Out × Mem := (let t := x; (Out.ret (AVal.tup [AVal.int IntKind.i64 (Prod.fst t), AVal.bool (Prod.fst (Prod.snd t))]), [AObj.cells [AVal.int IntKind.i64 m0_0, AVal.slice (Own.row (27 : Nat)) (Prod.snd (Prod.snd t)), AVal.int IntKind.i64 m0_2]]))
def heap_Make0.ct (a1_0 : Int) (a1_1 : Int) (a1_2 : Int) (a1_3 : List UInt8) (a1_4 : Bool) (a1_6 : Int) (a1_7 : Int) (a1_8 : Int) (a1_9 : Int) (a1_10 : List UInt8) (a1_11 : Int) (a1_12 : Int) (a1_13 : List UInt8) (a1_14 : Int) (a1_15 : Int) (a1_16 : List UInt8) (a1_17 : Int) (a1_18 : Int) (a1_19 : List UInt8) (a1_21 : Bool) (a1_22 : Bool) (a1_23 : Int) (m0_0 : Int) (m0_1 : List (List AVal)) (m0_2 : Int) (rest : Mem) (x : Int × Bool × List (List AVal)) : CT (Out × Mem) := (CT.done ((fun t => (Out.ret (AVal.tup [AVal.int IntKind.i64 (Prod.fst t), AVal.bool (Prod.fst (Prod.snd t))]), ([AObj.cells [AVal.int IntKind.i64 m0_0, AVal.slice (Own.row (27 : Nat)) (Prod.snd (Prod.snd t)), AVal.int IntKind.i64 m0_2]] : Mem) ++ rest)) x))
theorem heap_Make0.hct (a1_0 : Int) (a1_1 : Int) (a1_2 : Int) (a1_3 : List UInt8) (a1_4 : Bool) (a1_6 : Int) (a1_7 : Int) (a1_8 : Int) (a1_9 : Int) (a1_10 : List UInt8) (a1_11 : Int) (a1_12 : Int) (a1_13 : List UInt8) (a1_14 : Int) (a1_15 : Int) (a1_16 : List UInt8) (a1_17 : Int) (a1_18 : Int) (a1_19 : List UInt8) (a1_21 : Bool) (a1_22 : Bool) (a1_23 : Int) (m0_0 : Int) (m0_1 : List (List AVal)) (m0_2 : Int) (rest : Mem) (x : Int × Bool × List (List AVal)) : (heap_Make0.ct a1_0 a1_1 a1_2 a1_3 a1_4 a1_6 a1_7 a1_8 a1_9 a1_10 a1_11 a1_12 a1_13 a1_14 a1_15 a1_16 a1_17 a1_18 a1_19 a1_21 a1_22 a1_23 m0_0 m0_1 m0_2 rest x).eval = some ((heap_Make0.om a1_0 a1_1 a1_2 a1_3 a1_4 a1_6 a1_7 a1_8 a1_9 a1_10 a1_11 a1_12 a1_13 a1_14 a1_15 a1_16 a1_17 a1_18 a1_19 a1_21 a1_22 a1_23 m0_0 m0_1 m0_2 x).1, (heap_Make0.om a1_0 a1_1 a1_2 a1_3 a1_4 a1_6 a1_7 a1_8 a1_9 a1_10 a1_11 a1_12 a1_13 a1_14 a1_15 a1_16 a1_17 a1_18 a1_19 a1_21 a1_22 a1_23 m0_0 m0_1 m0_2 x).2 ++ rest) := rfl
theorem heap_Make0.hlen (a1_0 : Int) (a1_1 : Int) (a1_2 : Int) (a1_3 : List UInt8) (a1_4 : Bool) (a1_6 : Int) (a1_7 : Int) (a1_8 : Int) (a1_9 : Int) (a1_10 : List UInt8) (a1_11 : Int) (a1_12 : Int) (a1_13 : List UInt8) (a1_14 : Int) (a1_15 : Int) (a1_16 : List UInt8) (a1_17 : Int) (a1_18 : Int) (a1_19 : List UInt8) (a1_21 : Bool) (a1_22 : Bool) (a1_23 : Int) (m0_0 : Int) (m0_1 : List (List AVal)) (m0_2 : Int) (x : Int × Bool × List (List AVal)) : (heap_Make0.om a1_0 a1_1 a1_2 a1_3 a1_4 a1_6 a1_7 a1_8 a1_9 a1_10 a1_11 a1_12 a1_13 a1_14 a1_15 a1_16 a1_17 a1_18 a1_19 a1_21 a1_22 a1_23 m0_0 m0_1 m0_2 x).2.length = (heap_Make0.sm).length := rfl
set_option maxRecDepth 100000 in
theorem heap_Make0.tree (args : List AVal) (m : Mem) : execFunc env (ora (heap_Make0.N) (heap_Make0.L)) 9 (bldArgs heap_Make0.sa 0 args) (bldOs heap_Make0.sm 0 m) = heap_Make0.k (getI (tget (aggC (tget args 1)) 0)) (getI (tget (aggC (tget args 1)) 1)) (getI (tget (aggC (tget args 1)) 2)) (getS (tget (aggC (tget args 1)) 3)) (getB (tget (aggC (tget args 1)) 4)) (getI (tget (aggC (tget args 1)) 6)) (getI (tget (aggC (tget args 1)) 7)) (getI (tget (aggC (tget args 1)) 8)) (getI (tget (aggC (tget args 1)) 9)) (getS (tget (aggC (tget args 1)) 10)) (getI (tget (aggC (tget args 1)) 11)) (getI (tget (aggC (tget args 1)) 12)) (getS (tget (aggC (tget args 1)) 13)) (getI (tget (aggC (tget args 1)) 14)) (getI (tget (aggC (tget args 1)) 15)) (getS (tget (aggC (tget args 1)) 16)) (getI (tget (aggC (tget args 1)) 17)) (getI (tget (aggC (tget args 1)) 18)) (getS (tget (aggC (tget args 1)) 19)) (getB (tget (aggC (tget args 1)) 21)) (getB (tget (aggC (tget args 1)) 22)) (getI (tget (aggC (tget args 1)) 23)) (getI (tget (cellsO (oAt m 0)) 0)) (getSl (tget (cellsO (oAt m 0)) 1)) (getI (tget (cellsO (oAt m 0)) 2)) (fun x => some (heap_Make0.om (getI (tget (aggC (tget args 1)) 0)) (getI (tget (aggC (tget args 1)) 1)) (getI (tget (aggC (tget args 1)) 2)) (getS (tget (aggC (tget args 1)) 3)) (getB (tget (aggC (tget args 1)) 4)) (getI (tget (aggC (tget args 1)) 6)) (getI (tget (aggC (tget args 1)) 7)) (getI (tget (aggC (tget args 1)) 8)) (getI (tget (aggC (tget args 1)) 9)) (getS (tget (aggC (tget args 1)) 10)) (getI (tget (aggC (tget args 1)) 11)) (getI (tget (aggC (tget args 1)) 12)) (getS (tget (aggC (tget args 1)) 13)) (getI (tget (aggC (tget args 1)) 14)) (getI (tget (aggC (tget args 1)) 15)) (getS (tget (aggC (tget args 1)) 16)) (getI (tget (aggC (tget args 1)) 17)) (getI (tget (aggC (tget args 1)) 18)) (getS (tget (aggC (tget args 1)) 19)) (getB (tget (aggC (tget args 1)) 21)) (getB (tget (aggC (tget args 1)) 22)) (getI (tget (aggC (tget args 1)) 23)) (getI (tget (cellsO (oAt m 0)) 0)) (getSl (tget (cellsO (oAt m 0)) 1)) (getI (tget (cellsO (oAt m 0)) 2)) x)) := by kernel_rfl
def heap_Make0.g : List AVal → Mem → CT (Out × Mem) := shapeG heap_Make0.sa heap_Make0.sm fun args m => .opt (heap_Make0 (getI (tget (aggC (tget args 1)) 0)) (getI (tget (aggC (tget args 1)) 1)) (getI (tget (aggC (tget args 1)) 2)) (getS (tget (aggC (tget args 1)) 3)) (getB (tget (aggC (tget args 1)) 4)) (getI (tget (aggC (tget args 1)) 6)) (getI (tget (aggC (tget args 1)) 7)) (getI (tget (aggC (tget args 1)) 8)) (getI (tget (aggC (tget args 1)) 9)) (getS (tget (aggC (tget args 1)) 10)) (getI (tget (aggC (tget args 1)) 11)) (getI (tget (aggC (tget args 1)) 12)) (getS (tget (aggC (tget args 1)) 13)) (getI (tget (aggC (tget args 1)) 14)) (getI (tget (aggC (tget args 1)) 15)) (getS (tget (aggC (tget args 1)) 16)) (getI (tget (aggC (tget args 1)) 17)) (getI (tget (aggC (tget args 1)) 18)) (getS (tget (aggC (tget args 1)) 19)) (getB (tget (aggC (tget args 1)) 21)) (getB (tget (aggC (tget args 1)) 22)) (getI (tget (aggC (tget args 1)) 23)) (getI (tget (cellsO (oAt m 0)) 0)) (getSl (tget (cellsO (oAt m 0)) 1)) (getI (tget (cellsO (oAt m 0)) 2))) (heap_Make0.ct (getI (tget (aggC (tget args 1)) 0)) (getI (tget (aggC (tget args 1)) 1)) (getI (tget (aggC (tget args 1)) 2)) (getS (tget (aggC (tget args 1)) 3)) (getB (tget (aggC (tget args 1)) 4)) (getI (tget (aggC (tget args 1)) 6)) (getI (tget (aggC (tget args 1)) 7)) (getI (tget (aggC (tget args 1)) 8)) (getI (tget (aggC (tget args 1)) 9)) (getS (tget (aggC (tget args 1)) 10)) (getI (tget (aggC (tget args 1)) 11)) (getI (tget (aggC (tget args 1)) 12)) (getS (tget (aggC (tget args 1)) 13)) (getI (tget (aggC (tget args 1)) 14)) (getI (tget (aggC (tget args 1)) 15)) (getS (tget (aggC (tget args 1)) 16)) (getI (tget (aggC (tget args 1)) 17)) (getI (tget (aggC (tget args 1)) 18)) (getS (tget (aggC (tget args 1)) 19)) (getB (tget (aggC (tget args 1)) 21)) (getB (tget (aggC (tget args 1)) 22)) (getI (tget (aggC (tget args 1)) 23)) (getI (tget (cellsO (oAt m 0)) 0)) (getSl (tget (cellsO (oAt m 0)) 1)) (getI (tget (cellsO (oAt m 0)) 2)) (m.drop heap_Make0.sm.length))
theorem heap_Make0.ok (B : Nat) : NatOk env prog B 9 (heap_Make0.g) :=
  nat_of setting (dfrs B) (heap_Make0.N_ok B) (heap_Make0.L_ok B) rfl (fun args m => heap_Make0.tree args m) (fun args m out m' h => by
    rw [heap_Make0.nat]
    exact opt_hG (oc := fun x => (heap_Make0.om (getI (tget (aggC (tget args 1)) 0)) (getI (tget (aggC (tget args 1)) 1)) (getI (tget (aggC (tget args 1)) 2)) (getS (tget (aggC (tget args 1)) 3)) (getB (tget (aggC (tget args 1)) 4)) (getI (tget (aggC (tget args 1)) 6)) (getI (tget (aggC (tget args 1)) 7)) (getI (tget (aggC (tget args 1)) 8)) (getI (tget (aggC (tget args 1)) 9)) (getS (tget (aggC (tget args 1)) 10)) (getI (tget (aggC (tget args 1)) 11)) (getI (tget (aggC (tget args 1)) 12)) (getS (tget (aggC (tget args 1)) 13)) (getI (tget (aggC (tget args 1)) 14)) (getI (tget (aggC (tget args 1)) 15)) (getS (tget (aggC (tget args 1)) 16)) (getI (tget (aggC (tget args 1)) 17)) (getI (tget (aggC (tget args 1)) 18)) (getS (tget (aggC (tget args 1)) 19)) (getB (tget (aggC (tget args 1)) 21)) (getB (tget (aggC (tget args 1)) 22)) (getI (tget (aggC (tget args 1)) 23)) (getI (tget (cellsO (oAt m 0)) 0)) (getSl (tget (cellsO (oAt m 0)) 1)) (getI (tget (cellsO (oAt m 0)) 2)) x).1) (mt := fun x => (heap_Make0.om (getI (tget (aggC (tget args 1)) 0)) (getI (tget (aggC (tget args 1)) 1)) (getI (tget (aggC (tget args 1)) 2)) (getS (tget (aggC (tget args 1)) 3)) (getB (tget (aggC (tget args 1)) 4)) (getI (tget (aggC (tget args 1)) 6)) (getI (tget (aggC (tget args 1)) 7)) (getI (tget (aggC (tget args 1)) 8)) (getI (tget (aggC (tget args 1)) 9)) (getS (tget (aggC (tget args 1)) 10)) (getI (tget (aggC (tget args 1)) 11)) (getI (tget (aggC (tget args 1)) 12)) (getS (tget (aggC (tget args 1)) 13)) (getI (tget (aggC (tget args 1)) 14)) (getI (tget (aggC (tget args 1)) 15)) (getS (tget (aggC (tget args 1)) 16)) (getI (tget (aggC (tget args 1)) 17)) (getI (tget (aggC (tget args 1)) 18)) (getS (tget (aggC (tget args 1)) 19)) (getB (tget (aggC (tget args 1)) 21)) (getB (tget (aggC (tget args 1)) 22)) (getI (tget (aggC (tget args 1)) 23)) (getI (tget (cellsO (oAt m 0)) 0)) (getSl (tget (cellsO (oAt m 0)) 1)) (getI (tget (cellsO (oAt m 0)) 2)) x).2) (heap_Make0.hct (getI (tget (aggC (tget args 1)) 0)) (getI (tget (aggC (tget args 1)) 1)) (getI (tget (aggC (tget args 1)) 2)) (getS (tget (aggC (tget args 1)) 3)) (getB (tget (aggC (tget args 1)) 4)) (getI (tget (aggC (tget args 1)) 6)) (getI (tget (aggC (tget args 1)) 7)) (getI (tget (aggC (tget args 1)) 8)) (getI (tget (aggC (tget args 1)) 9)) (getS (tget (aggC (tget args 1)) 10)) (getI (tget (aggC (tget args 1)) 11)) (getI (tget (aggC (tget args 1)) 12)) (getS (tget (aggC (tget args 1)) 13)) (getI (tget (aggC (tget args 1)) 14)) (getI (tget (aggC (tget args 1)) 15)) (getS (tget (aggC (tget args 1)) 16)) (getI (tget (aggC (tget args 1)) 17)) (getI (tget (aggC (tget args 1)) 18)) (getS (tget (aggC (tget args 1)) 19)) (getB (tget (aggC (tget args 1)) 21)) (getB (tget (aggC (tget args 1)) 22)) (getI (tget (aggC (tget args 1)) 23)) (getI (tget (cellsO (oAt m 0)) 0)) (getSl (tget (cellsO (oAt m 0)) 1)) (getI (tget (cellsO (oAt m 0)) 2)) (m.drop heap_Make0.sm.length)) (heap_Make0.hlen (getI (tget (aggC (tget args 1)) 0)) (getI (tget (aggC (tget args 1)) 1)) (getI (tget (aggC (tget args 1)) 2)) (getS (tget (aggC (tget args 1)) 3)) (getB (tget (aggC (tget args 1)) 4)) (getI (tget (aggC (tget args 1)) 6)) (getI (tget (aggC (tget args 1)) 7)) (getI (tget (aggC (tget args 1)) 8)) (getI (tget (aggC (tget args 1)) 9)) (getS (tget (aggC (tget args 1)) 10)) (getI (tget (aggC (tget args 1)) 11)) (getI (tget (aggC (tget args 1)) 12)) (getS (tget (aggC (tget args 1)) 13)) (getI (tget (aggC (tget args 1)) 14)) (getI (tget (aggC (tget args 1)) 15)) (getS (tget (aggC (tget args 1)) 16)) (getI (tget (aggC (tget args 1)) 17)) (getI (tget (aggC (tget args 1)) 18)) (getS (tget (aggC (tget args 1)) 19)) (getB (tget (aggC (tget args 1)) 21)) (getB (tget (aggC (tget args 1)) 22)) (getI (tget (aggC (tget args 1)) 23)) (getI (tget (cellsO (oAt m 0)) 0)) (getSl (tget (cellsO (oAt m 0)) 1)) (getI (tget (cellsO (oAt m 0)) 2))) h)
def heap_Make.g : List AVal → Mem → CT (Out × Mem) := atG heap_Make0.g
theorem heap_Make.ok (B : Nat) : NatOk env prog B 9 heap_Make.g := nat_at (heap_Make0.ok B)
def heap_is0.sa : List ASh := [.c (.fix (.ptr 0 0)), .c (.int .i64)]
def heap_is0.sm : List OSh := [.cells [.int .i64, .sl (.row 27), .int .i64]]
noncomputable def heap_is0.N : CNats := noCalls
theorem heap_is0.N_ok (B : Nat) : NatsOk env prog B (heap_is0.N) := noCalls_ok
noncomputable def heap_is0.L : LNats := noLoops
theorem heap_is0.L_ok (B : Nat) : LoopsOk env prog B (heap_is0.L) := noLoops_ok
def heap_is0.k {X : Type} (a1 : Int) (m0_0 : Int) (m0_1 : List (List AVal)) (m0_2 : Int) (ret : Bool → Option X) : Option X :=
  bif decide (a1 ≥ (0 : Int)) then ret (decide (a1 < (↑(List.length m0_1) : Int))) else ret false
def heap_is0 (a1 : Int) (m0_0 : Int) (m0_1 : List (List AVal)) (m0_2 : Int) : Option (Bool) := heap_is0.k a1 m0_0 m0_1 m0_2 some
theorem heap_is0.nat {X : Type} (a1 : Int) (m0_0 : Int) (m0_1 : List (List AVal)) (m0_2 : Int) (ret : Bool → Option X) : heap_is0.k a1 m0_0 m0_1 m0_2 ret = optK (heap_is0 a1 m0_0 m0_1 m0_2) ret := by
  first | rfl | simp only [heap_is0, heap_is0.k, optK_cond, optK_ite, optK_assoc, optK_sum, optK_some, optK_none]
def heap_is0.om (a1 : Int) (m0_0 : Int) (m0_1 : List (List AVal)) (m0_2 : Int) (x : Bool) : Out × Mem := (let t := x; (Out.ret (AVal.bool t), [AObj.cells [AVal.int IntKind.i64 m0_0, AVal.slice (Own.row (27 : Nat)) m0_1, AVal.int IntKind.i64 m0_2]]))
def heap_is0.ct (a1 : Int) (m0_0 : Int) (m0_1 : List (List AVal)) (m0_2 : Int) (rest : Mem) (x : Bool) : CT (Out × Mem) := (CT.done ((fun t => (Out.ret (AVal.bool t), ([AObj.cells [AVal.int IntKind.i64 m0_0, AVal.slice (Own.row (27 : Nat)) m0_1, AVal.int IntKind.i64 m0_2]] : Mem) ++ rest)) x))
theorem heap_is0.hct (a1 : Int) (m0_0 : Int) (m0_1 : List (List AVal)) (m0_2 : Int) (rest : Mem) (x : Bool) : (heap_is0.ct a1 m0_0 m0_1 m0_2 rest x).eval = some ((heap_is0.om a1 m0_0 m0_1 m0_2 x).1, (heap_is0.om a1 m0_0 m0_1 m0_2 x).2 ++ rest) := rfl
theorem heap_is0.hlen (a1 : Int) (m0_0 : Int) (m0_1 : List (List AVal)) (m0_2 : Int) (x : Bool) : (heap_is0.om a1 m0_0 m0_1 m0_2 x).2.length = (heap_is0.sm).length := rfl
set_option maxRecDepth 100000 in
theorem heap_is0.tree (args : List AVal) (m : Mem) : execFunc env (ora (heap_is0.N) (heap_is0.L)) 15 (bldArgs heap_is0.sa 0 args) (bldOs heap_is0.sm 0 m) = heap_is0.k (getI (tget args 1)) (getI (tget (cellsO (oAt m 0)) 0)) (getSl (tget (cellsO (oAt m 0)) 1)) (getI (tget (cellsO (oAt m 0)) 2)) (fun x => some (heap_is0.om (getI (tget args 1)) (getI (tget (cellsO (oAt m 0)) 0)) (getSl (tget (cellsO (oAt m 0)) 1)) (getI (tget (cellsO (oAt m 0)) 2)) x)) := by kernel_rfl
def heap_is0.g : List AVal → Mem → CT (Out × Mem) := shapeG heap_is0.sa heap_is0.sm fun args m => .opt (heap_is0 (getI (tget args 1)) (getI (tget (cellsO (oAt m 0)) 0)) (getSl (tget (cellsO (oAt m 0)) 1)) (getI (tget (cellsO (oAt m 0)) 2))) (heap_is0.ct (getI (tget args 1)) (getI (tget (cellsO (oAt m 0)) 0)) (getSl (tget (cellsO (oAt m 0)) 1)) (getI (tget (cellsO (oAt m 0)) 2)) (m.drop heap_is0.sm.length))
theorem heap_is0.ok (B : Nat) : NatOk env prog B 15 (heap_is0.g) :=
  nat_of setting (dfrs B) (heap_is0.N_ok B) (heap_is0.L_ok B) rfl (fun args m => heap_is0.tree args m) (fun args m out m' h => by
    rw [heap_is0.nat]
    exact opt_hG (oc := fun x => (heap_is0.om (getI (tget args 1)) (getI (tget (cellsO (oAt m 0)) 0)) (getSl (tget (cellsO (oAt m 0)) 1)) (getI (tget (cellsO (oAt m 0)) 2)) x).1) (mt := fun x => (heap_is0.om (getI (tget args 1)) (getI (tget (cellsO (oAt m 0)) 0)) (getSl (tget (cellsO (oAt m 0)) 1)) (getI (tget (cellsO (oAt m 0)) 2)) x).2) (heap_is0.hct (getI (tget args 1)) (getI (tget (cellsO (oAt m 0)) 0)) (getSl (tget (cellsO (oAt m 0)) 1)) (getI (tget (cellsO (oAt m 0)) 2)) (m.drop heap_is0.sm.length)) (heap_is0.hlen (getI (tget args 1)) (getI (tget (cellsO (oAt m 0)) 0)) (getSl (tget (cellsO (oAt m 0)) 1)) (getI (tget (cellsO (oAt m 0)) 2))) h)
def heap_is.g : List AVal → Mem → CT (Out × Mem) := atG heap_is0.g
theorem heap_is.ok (B : Nat) : NatOk env prog B 15 heap_is.g := nat_at (heap_is0.ok B)
def heap_Get0.sa : List ASh := [.c (.fix (.ptr 0 0)), .c (.int .i64)]
def heap_Get0.sm : List OSh := [.cells [.int .i64, .sl (.row 27), .int .i64]]
noncomputable def heap_Get0.N : CNats := (addN 15 (heap_is.g) (addN 14 (heap_own.g) noCalls))
theorem heap_Get0.N_ok (B : Nat) : NatsOk env prog B (heap_Get0.N) := addN_ok (heap_is.ok B) (addN_ok (heap_own.ok B) (noCalls_ok))
noncomputable def heap_Get0.L : LNats := noLoops
theorem heap_Get0.L_ok (B : Nat) : LoopsOk env prog B (heap_Get0.L) := noLoops_ok
def heap_Get0.k {X : Type} (a1 : Int) (m0_0 : Int) (m0_1 : List (List AVal)) (m0_2 : Int) (ret : Int × Int × Int × List UInt8 × Bool × Int × Int × Int × Int × List UInt8 × Int × Int × List UInt8 × Int × Int × List UInt8 × Int × Int × List UInt8 × Bool × Bool × Int × Bool → Option X) : Option X :=
  optK (heap_is0 a1 m0_0 m0_1 m0_2) fun b =>
  bif !b then ret ((0 : Int), (0 : Int), (0 : Int), [], false, (0 : Int), (0 : Int), (0 : Int), (0 : Int), [], (0 : Int), (0 : Int), [], (0 : Int), (0 : Int), [], (0 : Int), (0 : Int), [], false, false, (0 : Int), false)
  else
    if (0 : Int) ≤ a1 ∧ a1 < (↑(List.length m0_1) : Int) then
      bif Nat.beq (List.length (nthL m0_1 (Int.toNat a1))) (24 : Nat) then
        bif Nat.ble (24 : Nat) (List.length (nthL m0_1 (Int.toNat a1))) && true then
          bif isI IntKind.i64 (cellAt (nthL m0_1 (Int.toNat a1)) (0 : Nat)) then
            bif isI IntKind.i64 (cellAt (nthL m0_1 (Int.toNat a1)) (1 : Nat)) then
              bif isI IntKind.i64 (cellAt (nthL m0_1 (Int.toNat a1)) (2 : Nat)) then
                bif isS (cellAt (nthL m0_1 (Int.toNat a1)) (3 : Nat)) then
                  bif isB (cellAt (nthL m0_1 (Int.toNat a1)) (4 : Nat)) then
                    bif isNilS (cellAt (nthL m0_1 (Int.toNat a1)) (5 : Nat)) then
                      bif isI IntKind.i64 (cellAt (nthL m0_1 (Int.toNat a1)) (6 : Nat)) then
                        bif isI IntKind.i64 (cellAt (nthL m0_1 (Int.toNat a1)) (7 : Nat)) then
                          bif isI IntKind.i64 (cellAt (nthL m0_1 (Int.toNat a1)) (8 : Nat)) then
                            bif isI IntKind.i64 (cellAt (nthL m0_1 (Int.toNat a1)) (9 : Nat)) then
                              bif isS (cellAt (nthL m0_1 (Int.toNat a1)) (10 : Nat)) then
                                bif isI IntKind.i64 (cellAt (nthL m0_1 (Int.toNat a1)) (11 : Nat)) then
                                  bif isI IntKind.i64 (cellAt (nthL m0_1 (Int.toNat a1)) (12 : Nat)) then
                                    bif isS (cellAt (nthL m0_1 (Int.toNat a1)) (13 : Nat)) then
                                      bif isI IntKind.i64 (cellAt (nthL m0_1 (Int.toNat a1)) (14 : Nat)) then
                                        bif isI IntKind.i64 (cellAt (nthL m0_1 (Int.toNat a1)) (15 : Nat)) then
                                          bif isS (cellAt (nthL m0_1 (Int.toNat a1)) (16 : Nat)) then
                                            bif isI IntKind.i64 (cellAt (nthL m0_1 (Int.toNat a1)) (17 : Nat)) then
                                              bif isI IntKind.i64 (cellAt (nthL m0_1 (Int.toNat a1)) (18 : Nat)) then
                                                bif isS (cellAt (nthL m0_1 (Int.toNat a1)) (19 : Nat)) then
                                                  bif isNilS (cellAt (nthL m0_1 (Int.toNat a1)) (20 : Nat)) then
                                                    bif isB (cellAt (nthL m0_1 (Int.toNat a1)) (21 : Nat)) then
                                                      bif isB (cellAt (nthL m0_1 (Int.toNat a1)) (22 : Nat)) then
                                                        bif isI IntKind.i64 (cellAt (nthL m0_1 (Int.toNat a1)) (23 : Nat)) then
                                                          optK (heap_own (getI (cellAt (nthL m0_1 (Int.toNat a1)) (0 : Nat))) (getI (cellAt (nthL m0_1 (Int.toNat a1)) (1 : Nat))) (getI (cellAt (nthL m0_1 (Int.toNat a1)) (2 : Nat))) (getS (cellAt (nthL m0_1 (Int.toNat a1)) (3 : Nat))) (getB (cellAt (nthL m0_1 (Int.toNat a1)) (4 : Nat))) (getI (cellAt (nthL m0_1 (Int.toNat a1)) (6 : Nat))) (getI (cellAt (nthL m0_1 (Int.toNat a1)) (7 : Nat))) (getI (cellAt (nthL m0_1 (Int.toNat a1)) (8 : Nat))) (getI (cellAt (nthL m0_1 (Int.toNat a1)) (9 : Nat))) (getS (cellAt (nthL m0_1 (Int.toNat a1)) (10 : Nat))) (getI (cellAt (nthL m0_1 (Int.toNat a1)) (11 : Nat))) (getI (cellAt (nthL m0_1 (Int.toNat a1)) (12 : Nat))) (getS (cellAt (nthL m0_1 (Int.toNat a1)) (13 : Nat))) (getI (cellAt (nthL m0_1 (Int.toNat a1)) (14 : Nat))) (getI (cellAt (nthL m0_1 (Int.toNat a1)) (15 : Nat))) (getS (cellAt (nthL m0_1 (Int.toNat a1)) (16 : Nat))) (getI (cellAt (nthL m0_1 (Int.toNat a1)) (17 : Nat))) (getI (cellAt (nthL m0_1 (Int.toNat a1)) (18 : Nat))) (getS (cellAt (nthL m0_1 (Int.toNat a1)) (19 : Nat))) (getB (cellAt (nthL m0_1 (Int.toNat a1)) (21 : Nat))) (getB (cellAt (nthL m0_1 (Int.toNat a1)) (22 : Nat))) (getI (cellAt (nthL m0_1 (Int.toNat a1)) (23 : Nat)))) fun b =>
                                                            ret
                                                              (match cellAt (nthL m0_1 (Int.toNat a1)) (0 : Nat) with
                                                                | AVal.int k n => n
                                                                | x => (0 : Int),
                                                                match cellAt (nthL m0_1 (Int.toNat a1)) (1 : Nat) with
                                                                | AVal.int k n => n
                                                                | x => (0 : Int),
                                                                match cellAt (nthL m0_1 (Int.toNat a1)) (2 : Nat) with
                                                                | AVal.int k n => n
                                                                | x => (0 : Int),
                                                                match cellAt (nthL m0_1 (Int.toNat a1)) (3 : Nat) with
                                                                | AVal.str s => s
                                                                | x => [],
                                                                match cellAt (nthL m0_1 (Int.toNat a1)) (4 : Nat) with
                                                                | AVal.bool b => b
                                                                | x => false,
                                                                match cellAt (nthL m0_1 (Int.toNat a1)) (6 : Nat) with
                                                                | AVal.int k n => n
                                                                | x => (0 : Int),
                                                                match cellAt (nthL m0_1 (Int.toNat a1)) (7 : Nat) with
                                                                | AVal.int k n => n
                                                                | x => (0 : Int),
                                                                match cellAt (nthL m0_1 (Int.toNat a1)) (8 : Nat) with
                                                                | AVal.int k n => n
                                                                | x => (0 : Int),
                                                                match cellAt (nthL m0_1 (Int.toNat a1)) (9 : Nat) with
                                                                | AVal.int k n => n
                                                                | x => (0 : Int),
                                                                match cellAt (nthL m0_1 (Int.toNat a1)) (10 : Nat) with
                                                                | AVal.str s => s
                                                                | x => [],
                                                                match cellAt (nthL m0_1 (Int.toNat a1)) (11 : Nat) with
                                                                | AVal.int k n => n
                                                                | x => (0 : Int),
                                                                match cellAt (nthL m0_1 (Int.toNat a1)) (12 : Nat) with
                                                                | AVal.int k n => n
                                                                | x => (0 : Int),
                                                                match cellAt (nthL m0_1 (Int.toNat a1)) (13 : Nat) with
                                                                | AVal.str s => s
                                                                | x => [],
                                                                match cellAt (nthL m0_1 (Int.toNat a1)) (14 : Nat) with
                                                                | AVal.int k n => n
                                                                | x => (0 : Int),
                                                                match cellAt (nthL m0_1 (Int.toNat a1)) (15 : Nat) with
                                                                | AVal.int k n => n
                                                                | x => (0 : Int),
                                                                match cellAt (nthL m0_1 (Int.toNat a1)) (16 : Nat) with
                                                                | AVal.str s => s
                                                                | x => [],
                                                                match cellAt (nthL m0_1 (Int.toNat a1)) (17 : Nat) with
                                                                | AVal.int k n => n
                                                                | x => (0 : Int),
                                                                match cellAt (nthL m0_1 (Int.toNat a1)) (18 : Nat) with
                                                                | AVal.int k n => n
                                                                | x => (0 : Int),
                                                                match cellAt (nthL m0_1 (Int.toNat a1)) (19 : Nat) with
                                                                | AVal.str s => s
                                                                | x => [],
                                                                match cellAt (nthL m0_1 (Int.toNat a1)) (21 : Nat) with
                                                                | AVal.bool b => b
                                                                | x => false,
                                                                match cellAt (nthL m0_1 (Int.toNat a1)) (22 : Nat) with
                                                                | AVal.bool b => b
                                                                | x => false,
                                                                match cellAt (nthL m0_1 (Int.toNat a1)) (23 : Nat) with
                                                                | AVal.int k n => n
                                                                | x => (0 : Int),
                                                                true)
                                                        else none
                                                      else none
                                                    else none
                                                  else
                                                    bif isSl (cellAt (nthL m0_1 (Int.toNat a1)) (20 : Nat)) then
                                                      bif isB (cellAt (nthL m0_1 (Int.toNat a1)) (21 : Nat)) then
                                                        bif isB (cellAt (nthL m0_1 (Int.toNat a1)) (22 : Nat)) then
                                                          bif isI IntKind.i64 (cellAt (nthL m0_1 (Int.toNat a1)) (23 : Nat)) then
                                                            bif chkArgs heap_own.sa [AVal.agg [AVal.int IntKind.i64 (getI (cellAt (nthL m0_1 (Int.toNat a1)) (0 : Nat))), AVal.int IntKind.i64 (getI (cellAt (nthL m0_1 (Int.toNat a1)) (1 : Nat))), AVal.int IntKind.i64 (getI (cellAt (nthL m0_1 (Int.toNat a1)) (2 : Nat))), AVal.str (getS (cellAt (nthL m0_1 (Int.toNat a1)) (3 : Nat))), AVal.bool (getB (cellAt (nthL m0_1 (Int.toNat a1)) (4 : Nat))), AVal.slice Own.nil [], AVal.int IntKind.i64 (getI (cellAt (nthL m0_1 (Int.toNat a1)) (6 : Nat))), AVal.int IntKind.i64 (getI (cellAt (nthL m0_1 (Int.toNat a1)) (7 : Nat))), AVal.int IntKind.i64 (getI (cellAt (nthL m0_1 (Int.toNat a1)) (8 : Nat))), AVal.int IntKind.i64 (getI (cellAt (nthL m0_1 (Int.toNat a1)) (9 : Nat))), AVal.str (getS (cellAt (nthL m0_1 (Int.toNat a1)) (10 : Nat))), AVal.int IntKind.i64 (getI (cellAt (nthL m0_1 (Int.toNat a1)) (11 : Nat))), AVal.int IntKind.i64 (getI (cellAt (nthL m0_1 (Int.toNat a1)) (12 : Nat))), AVal.str (getS (cellAt (nthL m0_1 (Int.toNat a1)) (13 : Nat))), AVal.int IntKind.i64 (getI (cellAt (nthL m0_1 (Int.toNat a1)) (14 : Nat))), AVal.int IntKind.i64 (getI (cellAt (nthL m0_1 (Int.toNat a1)) (15 : Nat))), AVal.str (getS (cellAt (nthL m0_1 (Int.toNat a1)) (16 : Nat))), AVal.int IntKind.i64 (getI (cellAt (nthL m0_1 (Int.toNat a1)) (17 : Nat))), AVal.int IntKind.i64 (getI (cellAt (nthL m0_1 (Int.toNat a1)) (18 : Nat))), AVal.str (getS (cellAt (nthL m0_1 (Int.toNat a1)) (19 : Nat))), AVal.slice Own.no (getSl (cellAt (nthL m0_1 (Int.toNat a1)) (20 : Nat))), AVal.bool (getB (cellAt (nthL m0_1 (Int.toNat a1)) (21 : Nat))), AVal.bool (getB (cellAt (nthL m0_1 (Int.toNat a1)) (22 : Nat))), AVal.int IntKind.i64 (getI (cellAt (nthL m0_1 (Int.toNat a1)) (23 : Nat)))]] && chkOp heap_own.sm [] then
                                                              optK (heap_own (getI (cellAt (nthL m0_1 (Int.toNat a1)) (0 : Nat))) (getI (cellAt (nthL m0_1 (Int.toNat a1)) (1 : Nat))) (getI (cellAt (nthL m0_1 (Int.toNat a1)) (2 : Nat))) (getS (cellAt (nthL m0_1 (Int.toNat a1)) (3 : Nat))) (getB (cellAt (nthL m0_1 (Int.toNat a1)) (4 : Nat))) (getI (cellAt (nthL m0_1 (Int.toNat a1)) (6 : Nat))) (getI (cellAt (nthL m0_1 (Int.toNat a1)) (7 : Nat))) (getI (cellAt (nthL m0_1 (Int.toNat a1)) (8 : Nat))) (getI (cellAt (nthL m0_1 (Int.toNat a1)) (9 : Nat))) (getS (cellAt (nthL m0_1 (Int.toNat a1)) (10 : Nat))) (getI (cellAt (nthL m0_1 (Int.toNat a1)) (11 : Nat))) (getI (cellAt (nthL m0_1 (Int.toNat a1)) (12 : Nat))) (getS (cellAt (nthL m0_1 (Int.toNat a1)) (13 : Nat))) (getI (cellAt (nthL m0_1 (Int.toNat a1)) (14 : Nat))) (getI (cellAt (nthL m0_1 (Int.toNat a1)) (15 : Nat))) (getS (cellAt (nthL m0_1 (Int.toNat a1)) (16 : Nat))) (getI (cellAt (nthL m0_1 (Int.toNat a1)) (17 : Nat))) (getI (cellAt (nthL m0_1 (Int.toNat a1)) (18 : Nat))) (getS (cellAt (nthL m0_1 (Int.toNat a1)) (19 : Nat))) (getB (cellAt (nthL m0_1 (Int.toNat a1)) (21 : Nat))) (getB (cellAt (nthL m0_1 (Int.toNat a1)) (22 : Nat))) (getI (cellAt (nthL m0_1 (Int.toNat a1)) (23 : Nat)))) fun b =>
                                                                ret
                                                                  (match cellAt (nthL m0_1 (Int.toNat a1)) (0 : Nat) with
                                                                    | AVal.int k n => n
                                                                    | x => (0 : Int),
                                                                    match cellAt (nthL m0_1 (Int.toNat a1)) (1 : Nat) with
                                                                    | AVal.int k n => n
                                                                    | x => (0 : Int),
                                                                    match cellAt (nthL m0_1 (Int.toNat a1)) (2 : Nat) with
                                                                    | AVal.int k n => n
                                                                    | x => (0 : Int),
                                                                    match cellAt (nthL m0_1 (Int.toNat a1)) (3 : Nat) with
                                                                    | AVal.str s => s
                                                                    | x => [],
                                                                    match cellAt (nthL m0_1 (Int.toNat a1)) (4 : Nat) with
                                                                    | AVal.bool b => b
                                                                    | x => false,
                                                                    match cellAt (nthL m0_1 (Int.toNat a1)) (6 : Nat) with
                                                                    | AVal.int k n => n
                                                                    | x => (0 : Int),
                                                                    match cellAt (nthL m0_1 (Int.toNat a1)) (7 : Nat) with
                                                                    | AVal.int k n => n
                                                                    | x => (0 : Int),
                                                                    match cellAt (nthL m0_1 (Int.toNat a1)) (8 : Nat) with
                                                                    | AVal.int k n => n
                                                                    | x => (0 : Int),
                                                                    match cellAt (nthL m0_1 (Int.toNat a1)) (9 : Nat) with
                                                                    | AVal.int k n => n
                                                                    | x => (0 : Int),
                                                                    match cellAt (nthL m0_1 (Int.toNat a1)) (10 : Nat) with
                                                                    | AVal.str s => s
                                                                    | x => [],
                                                                    match cellAt (nthL m0_1 (Int.toNat a1)) (11 : Nat) with
                                                                    | AVal.int k n => n
                                                                    | x => (0 : Int),
                                                                    match cellAt (nthL m0_1 (Int.toNat a1)) (12 : Nat) with
                                                                    | AVal.int k n => n
                                                                    | x => (0 : Int),
                                                                    match cellAt (nthL m0_1 (Int.toNat a1)) (13 : Nat) with
                                                                    | AVal.str s => s
                                                                    | x => [],
                                                                    match cellAt (nthL m0_1 (Int.toNat a1)) (14 : Nat) with
                                                                    | AVal.int k n => n
                                                                    | x => (0 : Int),
                                                                    match cellAt (nthL m0_1 (Int.toNat a1)) (15 : Nat) with
                                                                    | AVal.int k n => n
                                                                    | x => (0 : Int),
                                                                    match cellAt (nthL m0_1 (Int.toNat a1)) (16 : Nat) with
                                                                    | AVal.str s => s
                                                                    | x => [],
                                                                    match cellAt (nthL m0_1 (Int.toNat a1)) (17 : Nat) with
                                                                    | AVal.int k n => n
                                                                    | x => (0 : Int),
                                                                    match cellAt (nthL m0_1 (Int.toNat a1)) (18 : Nat) with
                                                                    | AVal.int k n => n
                                                                    | x => (0 : Int),
                                                                    match cellAt (nthL m0_1 (Int.toNat a1)) (19 : Nat) with
                                                                    | AVal.str s => s
                                                                    | x => [],
                                                                    match cellAt (nthL m0_1 (Int.toNat a1)) (21 : Nat) with
                                                                    | AVal.bool b => b
                                                                    | x => false,
                                                                    match cellAt (nthL m0_1 (Int.toNat a1)) (22 : Nat) with
                                                                    | AVal.bool b => b
                                                                    | x => false,
                                                                    match cellAt (nthL m0_1 (Int.toNat a1)) (23 : Nat) with
                                                                    | AVal.int k n => n
                                                                    | x => (0 : Int),
                                                                    true)
                                                            else none
                                                          else none
                                                        else none
                                                      else none
                                                    else none
                                                else none
                                              else none
                                            else none
                                          else none
                                        else none
                                      else none
                                    else none
                                  else none
                                else none
                              else none
                            else none
                          else none
                        else none
                      else none
                    else
                      bif isSl (cellAt (nthL m0_1 (Int.toNat a1)) (5 : Nat)) then
                        bif isI IntKind.i64 (cellAt (nthL m0_1 (Int.toNat a1)) (6 : Nat)) then
                          bif isI IntKind.i64 (cellAt (nthL m0_1 (Int.toNat a1)) (7 : Nat)) then
                            bif isI IntKind.i64 (cellAt (nthL m0_1 (Int.toNat a1)) (8 : Nat)) then
                              bif isI IntKind.i64 (cellAt (nthL m0_1 (Int.toNat a1)) (9 : Nat)) then
                                bif isS (cellAt (nthL m0_1 (Int.toNat a1)) (10 : Nat)) then
                                  bif isI IntKind.i64 (cellAt (nthL m0_1 (Int.toNat a1)) (11 : Nat)) then
                                    bif isI IntKind.i64 (cellAt (nthL m0_1 (Int.toNat a1)) (12 : Nat)) then
                                      bif isS (cellAt (nthL m0_1 (Int.toNat a1)) (13 : Nat)) then
                                        bif isI IntKind.i64 (cellAt (nthL m0_1 (Int.toNat a1)) (14 : Nat)) then
                                          bif isI IntKind.i64 (cellAt (nthL m0_1 (Int.toNat a1)) (15 : Nat)) then
                                            bif isS (cellAt (nthL m0_1 (Int.toNat a1)) (16 : Nat)) then
                                              bif isI IntKind.i64 (cellAt (nthL m0_1 (Int.toNat a1)) (17 : Nat)) then
                                                bif isI IntKind.i64 (cellAt (nthL m0_1 (Int.toNat a1)) (18 : Nat)) then
                                                  bif isS (cellAt (nthL m0_1 (Int.toNat a1)) (19 : Nat)) then
                                                    bif isNilS (cellAt (nthL m0_1 (Int.toNat a1)) (20 : Nat)) then
                                                      bif isB (cellAt (nthL m0_1 (Int.toNat a1)) (21 : Nat)) then
                                                        bif isB (cellAt (nthL m0_1 (Int.toNat a1)) (22 : Nat)) then
                                                          bif isI IntKind.i64 (cellAt (nthL m0_1 (Int.toNat a1)) (23 : Nat)) then
                                                            bif chkArgs heap_own.sa [AVal.agg [AVal.int IntKind.i64 (getI (cellAt (nthL m0_1 (Int.toNat a1)) (0 : Nat))), AVal.int IntKind.i64 (getI (cellAt (nthL m0_1 (Int.toNat a1)) (1 : Nat))), AVal.int IntKind.i64 (getI (cellAt (nthL m0_1 (Int.toNat a1)) (2 : Nat))), AVal.str (getS (cellAt (nthL m0_1 (Int.toNat a1)) (3 : Nat))), AVal.bool (getB (cellAt (nthL m0_1 (Int.toNat a1)) (4 : Nat))), AVal.slice Own.no (getSl (cellAt (nthL m0_1 (Int.toNat a1)) (5 : Nat))), AVal.int IntKind.i64 (getI (cellAt (nthL m0_1 (Int.toNat a1)) (6 : Nat))), AVal.int IntKind.i64 (getI (cellAt (nthL m0_1 (Int.toNat a1)) (7 : Nat))), AVal.int IntKind.i64 (getI (cellAt (nthL m0_1 (Int.toNat a1)) (8 : Nat))), AVal.int IntKind.i64 (getI (cellAt (nthL m0_1 (Int.toNat a1)) (9 : Nat))), AVal.str (getS (cellAt (nthL m0_1 (Int.toNat a1)) (10 : Nat))), AVal.int IntKind.i64 (getI (cellAt (nthL m0_1 (Int.toNat a1)) (11 : Nat))), AVal.int IntKind.i64 (getI (cellAt (nthL m0_1 (Int.toNat a1)) (12 : Nat))), AVal.str (getS (cellAt (nthL m0_1 (Int.toNat a1)) (13 : Nat))), AVal.int IntKind.i64 (getI (cellAt (nthL m0_1 (Int.toNat a1)) (14 : Nat))), AVal.int IntKind.i64 (getI (cellAt (nthL m0_1 (Int.toNat a1)) (15 : Nat))), AVal.str (getS (cellAt (nthL m0_1 (Int.toNat a1)) (16 : Nat))), AVal.int IntKind.i64 (getI (cellAt (nthL m0_1 (Int.toNat a1)) (17 : Nat))), AVal.int IntKind.i64 (getI (cellAt (nthL m0_1 (Int.toNat a1)) (18 : Nat))), AVal.str (getS (cellAt (nthL m0_1 (Int.toNat a1)) (19 : Nat))), AVal.slice Own.nil [], AVal.bool (getB (cellAt (nthL m0_1 (Int.toNat a1)) (21 : Nat))), AVal.bool (getB (cellAt (nthL m0_1 (Int.toNat a1)) (22 : Nat))), AVal.int IntKind.i64 (getI (cellAt (nthL m0_1 (Int.toNat a1)) (23 : Nat)))]] && chkOp heap_own.sm [] then
                                                              optK (heap_own (getI (cellAt (nthL m0_1 (Int.toNat a1)) (0 : Nat))) (getI (cellAt (nthL m0_1 (Int.toNat a1)) (1 : Nat))) (getI (cellAt (nthL m0_1 (Int.toNat a1)) (2 : Nat))) (getS (cellAt (nthL m0_1 (Int.toNat a1)) (3 : Nat))) (getB (cellAt (nthL m0_1 (Int.toNat a1)) (4 : Nat))) (getI (cellAt (nthL m0_1 (Int.toNat a1)) (6 : Nat))) (getI (cellAt (nthL m0_1 (Int.toNat a1)) (7 : Nat))) (getI (cellAt (nthL m0_1 (Int.toNat a1)) (8 : Nat))) (getI (cellAt (nthL m0_1 (Int.toNat a1)) (9 : Nat))) (getS (cellAt (nthL m0_1 (Int.toNat a1)) (10 : Nat))) (getI (cellAt (nthL m0_1 (Int.toNat a1)) (11 : Nat))) (getI (cellAt (nthL m0_1 (Int.toNat a1)) (12 : Nat))) (getS (cellAt (nthL m0_1 (Int.toNat a1)) (13 : Nat))) (getI (cellAt (nthL m0_1 (Int.toNat a1)) (14 : Nat))) (getI (cellAt (nthL m0_1 (Int.toNat a1)) (15 : Nat))) (getS (cellAt (nthL m0_1 (Int.toNat a1)) (16 : Nat))) (getI (cellAt (nthL m0_1 (Int.toNat a1)) (17 : Nat))) (getI (cellAt (nthL m0_1 (Int.toNat a1)) (18 : Nat))) (getS (cellAt (nthL m0_1 (Int.toNat a1)) (19 : Nat))) (getB (cellAt (nthL m0_1 (Int.toNat a1)) (21 : Nat))) (getB (cellAt (nthL m0_1 (Int.toNat a1)) (22 : Nat))) (getI (cellAt (nthL m0_1 (Int.toNat a1)) (23 : Nat)))) fun b =>
                                                                ret
                                                                  (match cellAt (nthL m0_1 (Int.toNat a1)) (0 : Nat) with
                                                                    | AVal.int k n => n
                                                                    | x => (0 : Int),
                                                                    match cellAt (nthL m0_1 (Int.toNat a1)) (1 : Nat) with
                                                                    | AVal.int k n => n
                                                                    | x => (0 : Int),
                                                                    match cellAt (nthL m0_1 (Int.toNat a1)) (2 : Nat) with
                                                                    | AVal.int k n => n
                                                                    | x => (0 : Int),
                                                                    match cellAt (nthL m0_1 (Int.toNat a1)) (3 : Nat) with
                                                                    | AVal.str s => s
                                                                    | x => [],
                                                                    match cellAt (nthL m0_1 (Int.toNat a1)) (4 : Nat) with
                                                                    | AVal.bool b => b
                                                                    | x => false,
                                                                    match cellAt (nthL m0_1 (Int.toNat a1)) (6 : Nat) with
                                                                    | AVal.int k n => n
                                                                    | x => (0 : Int),
                                                                    match cellAt (nthL m0_1 (Int.toNat a1)) (7 : Nat) with
                                                                    | AVal.int k n => n
                                                                    | x => (0 : Int),
                                                                    match cellAt (nthL m0_1 (Int.toNat a1)) (8 : Nat) with
                                                                    | AVal.int k n => n
                                                                    | x => (0 : Int),
                                                                    match cellAt (nthL m0_1 (Int.toNat a1)) (9 : Nat) with
                                                                    | AVal.int k n => n
                                                                    | x => (0 : Int),
                                                                    match cellAt (nthL m0_1 (Int.toNat a1)) (10 : Nat) with
                                                                    | AVal.str s => s
                                                                    | x => [],
                                                                    match cellAt (nthL m0_1 (Int.toNat a1)) (11 : Nat) with
                                                                    | AVal.int k n => n
                                                                    | x => (0 : Int),
                                                                    match cellAt (nthL m0_1 (Int.toNat a1)) (12 : Nat) with
                                                                    | AVal.int k n => n
                                                                    | x => (0 : Int),
                                                                    match cellAt (nthL m0_1 (Int.toNat a1)) (13 : Nat) with
                                                                    | AVal.str s => s
                                                                    | x => [],
                                                                    match cellAt (nthL m0_1 (Int.toNat a1)) (14 : Nat) with
                                                                    | AVal.int k n => n
                                                                    | x => (0 : Int),
                                                                    match cellAt (nthL m0_1 (Int.toNat a1)) (15 : Nat) with
                                                                    | AVal.int k n => n
                                                                    | x => (0 : Int),
                                                                    match cellAt (nthL m0_1 (Int.toNat a1)) (16 : Nat) with
                                                                    | AVal.str s => s
                                                                    | x => [],
                                                                    match cellAt (nthL m0_1 (Int.toNat a1)) (17 : Nat) with
                                                                    | AVal.int k n => n
                                                                    | x => (0 : Int),
                                                                    match cellAt (nthL m0_1 (Int.toNat a1)) (18 : Nat) with
                                                                    | AVal.int k n => n
                                                                    | x => (0 : Int),
                                                                    match cellAt (nthL m0_1 (Int.toNat a1)) (19 : Nat) with
                                                                    | AVal.str s => s
                                                                    | x => [],
                                                                    match cellAt (nthL m0_1 (Int.toNat a1)) (21 : Nat) with
                                                                    | AVal.bool b => b
                                                                    | x => false,
                                                                    match cellAt (nthL m0_1 (Int.toNat a1)) (22 : Nat) with
                                                                    | AVal.bool b => b
                                                                    | x => false,
                                                                    match cellAt (nthL m0_1 (Int.toNat a1)) (23 : Nat) with
                                                                    | AVal.int k n => n
                                                                    | x => (0 : Int),
                                                                    true)
                                                            else none
                                                          else none
                                                        else none
                                                      else none
                                                    else
                                                      bif isSl (cellAt (nthL m0_1 (Int.toNat a1)) (20 : Nat)) then
                                                        bif isB (cellAt (nthL m0_1 (Int.toNat a1)) (21 : Nat)) then
                                                          bif isB (cellAt (nthL m0_1 (Int.toNat a1)) (22 : Nat)) then
                                                            bif isI IntKind.i64 (cellAt (nthL m0_1 (Int.toNat a1)) (23 : Nat)) then
                                                              bif chkArgs heap_own.sa [AVal.agg [AVal.int IntKind.i64 (getI (cellAt (nthL m0_1 (Int.toNat a1)) (0 : Nat))), AVal.int IntKind.i64 (getI (cellAt (nthL m0_1 (Int.toNat a1)) (1 : Nat))), AVal.int IntKind.i64 (getI (cellAt (nthL m0_1 (Int.toNat a1)) (2 : Nat))), AVal.str (getS (cellAt (nthL m0_1 (Int.toNat a1)) (3 : Nat))), AVal.bool (getB (cellAt (nthL m0_1 (Int.toNat a1)) (4 : Nat))), AVal.slice Own.no (getSl (cellAt (nthL m0_1 (Int.toNat a1)) (5 : Nat))), AVal.int IntKind.i64 (getI (cellAt (nthL m0_1 (Int.toNat a1)) (6 : Nat))), AVal.int IntKind.i64 (getI (cellAt (nthL m0_1 (Int.toNat a1)) (7 : Nat))), AVal.int IntKind.i64 (getI (cellAt (nthL m0_1 (Int.toNat a1)) (8 : Nat))), AVal.int IntKind.i64 (getI (cellAt (nthL m0_1 (Int.toNat a1)) (9 : Nat))), AVal.str (getS (cellAt (nthL m0_1 (Int.toNat a1)) (10 : Nat))), AVal.int IntKind.i64 (getI (cellAt (nthL m0_1 (Int.toNat a1)) (11 : Nat))), AVal.int IntKind.i64 (getI (cellAt (nthL m0_1 (Int.toNat a1)) (12 : Nat))), AVal.str (getS (cellAt (nthL m0_1 (Int.toNat a1)) (13 : Nat))), AVal.int IntKind.i64 (getI (cellAt (nthL m0_1 (Int.toNat a1)) (14 : Nat))), AVal.int IntKind.i64 (getI (cellAt (nthL m0_1 (Int.toNat a1)) (15 : Nat))), AVal.str (getS (cellAt (nthL m0_1 (Int.toNat a1)) (16 : Nat))), AVal.int IntKind.i64 (getI (cellAt (nthL m0_1 (Int.toNat a1)) (17 : Nat))), AVal.int IntKind.i64 (getI (cellAt (nthL m0_1 (Int.toNat a1)) (18 : Nat))), AVal.str (getS (cellAt (nthL m0_1 (Int.toNat a1)) (19 : Nat))), AVal.slice Own.no (getSl (cellAt (nthL m0_1 (Int.toNat a1)) (20 : Nat))), AVal.bool (getB (cellAt (nthL m0_1 (Int.toNat a1)) (21 : Nat))), AVal.bool (getB (cellAt (nthL m0_1 (Int.toNat a1)) (22 : Nat))), AVal.int IntKind.i64 (getI (cellAt (nthL m0_1 (Int.toNat a1)) (23 : Nat)))]] && chkOp heap_own.sm [] then
                                                                optK (heap_own (getI (cellAt (nthL m0_1 (Int.toNat a1)) (0 : Nat))) (getI (cellAt (nthL m0_1 (Int.toNat a1)) (1 : Nat))) (getI (cellAt (nthL m0_1 (Int.toNat a1)) (2 : Nat))) (getS (cellAt (nthL m0_1 (Int.toNat a1)) (3 : Nat))) (getB (cellAt (nthL m0_1 (Int.toNat a1)) (4 : Nat))) (getI (cellAt (nthL m0_1 (Int.toNat a1)) (6 : Nat))) (getI (cellAt (nthL m0_1 (Int.toNat a1)) (7 : Nat))) (getI (cellAt (nthL m0_1 (Int.toNat a1)) (8 : Nat))) (getI (cellAt (nthL m0_1 (Int.toNat a1)) (9 : Nat))) (getS (cellAt (nthL m0_1 (Int.toNat a1)) (10 : Nat))) (getI (cellAt (nthL m0_1 (Int.toNat a1)) (11 : Nat))) (getI (cellAt (nthL m0_1 (Int.toNat a1)) (12 : Nat))) (getS (cellAt (nthL m0_1 (Int.toNat a1)) (13 : Nat))) (getI (cellAt (nthL m0_1 (Int.toNat a1)) (14 : Nat))) (getI (cellAt (nthL m0_1 (Int.toNat a1)) (15 : Nat))) (getS (cellAt (nthL m0_1 (Int.toNat a1)) (16 : Nat))) (getI (cellAt (nthL m0_1 (Int.toNat a1)) (17 : Nat))) (getI (cellAt (nthL m0_1 (Int.toNat a1)) (18 : Nat))) (getS (cellAt (nthL m0_1 (Int.toNat a1)) (19 : Nat))) (getB (cellAt (nthL m0_1 (Int.toNat a1)) (21 : Nat))) (getB (cellAt (nthL m0_1 (Int.toNat a1)) (22 : Nat))) (getI (cellAt (nthL m0_1 (Int.toNat a1)) (23 : Nat)))) fun b =>
                                                                  ret
                                                                    (match cellAt (nthL m0_1 (Int.toNat a1)) (0 : Nat) with
                                                                      | AVal.int k n => n
                                                                      | x => (0 : Int),
                                                                      match cellAt (nthL m0_1 (Int.toNat a1)) (1 : Nat) with
                                                                      | AVal.int k n => n
                                                                      | x => (0 : Int),
                                                                      match cellAt (nthL m0_1 (Int.toNat a1)) (2 : Nat) with
                                                                      | AVal.int k n => n
                                                                      | x => (0 : Int),
                                                                      match cellAt (nthL m0_1 (Int.toNat a1)) (3 : Nat) with
                                                                      | AVal.str s => s
                                                                      | x => [],
                                                                      match cellAt (nthL m0_1 (Int.toNat a1)) (4 : Nat) with
                                                                      | AVal.bool b => b
                                                                      | x => false,
                                                                      match cellAt (nthL m0_1 (Int.toNat a1)) (6 : Nat) with
                                                                      | AVal.int k n => n
                                                                      | x => (0 : Int),
                                                                      match cellAt (nthL m0_1 (Int.toNat a1)) (7 : Nat) with
                                                                      | AVal.int k n => n
                                                                      | x => (0 : Int),
                                                                      match cellAt (nthL m0_1 (Int.toNat a1)) (8 : Nat) with
                                                                      | AVal.int k n => n
                                                                      | x => (0 : Int),
                                                                      match cellAt (nthL m0_1 (Int.toNat a1)) (9 : Nat) with
                                                                      | AVal.int k n => n
                                                                      | x => (0 : Int),
                                                                      match cellAt (nthL m0_1 (Int.toNat a1)) (10 : Nat) with
                                                                      | AVal.str s => s
                                                                      | x => [],
                                                                      match cellAt (nthL m0_1 (Int.toNat a1)) (11 : Nat) with
                                                                      | AVal.int k n => n
                                                                      | x => (0 : Int),
                                                                      match cellAt (nthL m0_1 (Int.toNat a1)) (12 : Nat) with
                                                                      | AVal.int k n => n
                                                                      | x => (0 : Int),
                                                                      match cellAt (nthL m0_1 (Int.toNat a1)) (13 : Nat) with
                                                                      | AVal.str s => s
                                                                      | x => [],
                                                                      match cellAt (nthL m0_1 (Int.toNat a1)) (14 : Nat) with
                                                                      | AVal.int k n => n
                                                                      | x => (0 : Int),
                                                                      match cellAt (nthL m0_1 (Int.toNat a1)) (15 : Nat) with
                                                                      | AVal.int k n => n
                                                                      | x => (0 : Int),
                                                                      match cellAt (nthL m0_1 (Int.toNat a1)) (16 : Nat) with
                                                                      | AVal.str s => s
                                                                      | x => [],
                                                                      match cellAt (nthL m0_1 (Int.toNat a1)) (17 : Nat) with
                                                                      | AVal.int k n => n
                                                                      | x => (0 : Int),
                                                                      match cellAt (nthL m0_1 (Int.toNat a1)) (18 : Nat) with
                                                                      | AVal.int k n => n
                                                                      | x => (0 : Int),
                                                                      match cellAt (nthL m0_1 (Int.toNat a1)) (19 : Nat) with
                                                                      | AVal.str s => s
                                                                      | x => [],
                                                                      match cellAt (nthL m0_1 (Int.toNat a1)) (21 : Nat) with
                                                                      | AVal.bool b => b
                                                                      | x => false,
                                                                      match cellAt (nthL m0_1 (Int.toNat a1)) (22 : Nat) with
                                                                      | AVal.bool b => b
                                                                      | x => false,
                                                                      match cellAt (nthL m0_1 (Int.toNat a1)) (23 : Nat) with
                                                                      | AVal.int k n => n
                                                                      | x => (0 : Int),
                                                                      true)
                                                              else none
                                                            else none
                                                          else none
                                                        else none
                                                      else none
                                                  else none
                                                else none
                                              else none
                                            else none
                                          else none
                                        else none
                                      else none
                                    else none
                                  else none
                                else none
                              else none
                            else none
                          else none
                        else none
                      else none
                  else none
                else none
              else none
            else none
          else none
        else none
      else none
    else none
def heap_Get0 (a1 : Int) (m0_0 : Int) (m0_1 : List (List AVal)) (m0_2 : Int) : Option (Int × Int × Int × List UInt8 × Bool × Int × Int × Int × Int × List UInt8 × Int × Int × List UInt8 × Int × Int × List UInt8 × Int × Int × List UInt8 × Bool × Bool × Int × Bool) := heap_Get0.k a1 m0_0 m0_1 m0_2 some
theorem heap_Get0.nat {X : Type} (a1 : Int) (m0_0 : Int) (m0_1 : List (List AVal)) (m0_2 : Int) (ret : Int × Int × Int × List UInt8 × Bool × Int × Int × Int × Int × List UInt8 × Int × Int × List UInt8 × Int × Int × List UInt8 × Int × Int × List UInt8 × Bool × Bool × Int × Bool → Option X) : heap_Get0.k a1 m0_0 m0_1 m0_2 ret = optK (heap_Get0 a1 m0_0 m0_1 m0_2) ret := by
  first | rfl | simp only [heap_Get0, heap_Get0.k, optK_cond, optK_ite, optK_assoc, optK_sum, optK_some, optK_none]
def heap_Get0.om (a1 : Int) (m0_0 : Int) (m0_1 : List (List AVal)) (m0_2 : Int) (x : Int × Int × Int × List UInt8 × Bool × Int × Int × Int × Int × List UInt8 × Int × Int × List UInt8 × Int × Int × List UInt8 × Int × Int × List UInt8 × Bool × Bool × Int × Bool) : Out × Mem := (let t := x; (Out.ret (AVal.tup [AVal.agg [AVal.int IntKind.i64 (Prod.fst t), AVal.int IntKind.i64 (Prod.fst (Prod.snd t)), AVal.int IntKind.i64 (Prod.fst (Prod.snd (Prod.snd t))), AVal.str (Prod.fst (Prod.snd (Prod.snd (Prod.snd t)))), AVal.bool (Prod.fst (Prod.snd (Prod.snd (Prod.snd (Prod.snd t))))), AVal.slice Own.nil [], AVal.int IntKind.i64 (Prod.fst (Prod.snd (Prod.snd (Prod.snd (Prod.snd (Prod.snd t)))))), AVal.int IntKind.i64 (Prod.fst (Prod.snd (Prod.snd (Prod.snd (Prod.snd (Prod.snd (Prod.snd t))))))), AVal.int IntKind.i64 (Prod.fst (Prod.snd (Prod.snd (Prod.snd (Prod.snd (Prod.snd (Prod.snd (Prod.snd t)))))))), AVal.int IntKind.i64 (Prod.fst (Prod.snd (Prod.snd (Prod.snd (Prod.snd (Prod.snd (Prod.snd (Prod.snd (Prod.snd t))))))))), AVal.str (Prod.fst (Prod.snd (Prod.snd (Prod.snd (Prod.snd (Prod.snd (Prod.snd (Prod.snd (Prod.snd (Prod.snd t)))))))))), AVal.int IntKind.i64 (Prod.fst (Prod.snd (Prod.snd (Prod.snd (Prod.snd (Prod.snd (Prod.snd (Prod.snd (Prod.snd (Prod.snd (Prod.snd t))))))))))), AVal.int IntKind.i64 (Prod.fst (Prod.snd (Prod.snd (Prod.snd (Prod.snd (Prod.snd (Prod.snd (Prod.snd (Prod.snd (Prod.snd (Prod.snd (Prod.snd t)))))))))))), AVal.str (Prod.fst (Prod.snd (Prod.snd (Prod.snd (Prod.snd (Prod.snd (Prod.snd (Prod.snd (Prod.snd (Prod.snd (Prod.snd (Prod.snd (Prod.snd t))))))))))))), AVal.int IntKind.i64 (Prod.fst (Prod.snd (Prod.snd (Prod.snd (Prod.snd (Prod.snd (Prod.snd (Prod.snd (Prod.snd (Prod.snd (Prod.snd (Prod.snd (Prod.snd (Prod.snd t)))))))))))))), AVal.int IntKind.i64 (Prod.fst (Prod.snd (Prod.snd (Prod.snd (Prod.snd (Prod.snd (Prod.snd (Prod.snd (Prod.snd (Prod.snd (Prod.snd (Prod.snd (Prod.snd (Prod.snd (Prod.snd t))))))))))))))), AVal.str (Prod.fst (Prod.snd (Prod.snd (Prod.snd (Prod.snd (Prod.snd (Prod.snd (Prod.snd (Prod.snd (Prod.snd (Prod.snd (Prod.snd (Prod.snd (Prod.snd (Prod.snd (Prod.snd t)))))))))))))))), AVal.int IntKind.i64 (Prod.fst (Prod.snd (Prod.snd (Prod.snd (Prod.snd (Prod.snd (Prod.snd (Prod.snd (Prod.snd (Prod.snd (Prod.snd (Prod.snd (Prod.snd (Prod.snd (Prod.snd (Prod.snd (Prod.snd t))))))))))))))))), AVal.int IntKind.i64 (Prod.fst (Prod.snd (Prod.snd (Prod.snd (Prod.snd (Prod.snd (Prod.snd (Prod.snd (Prod.snd (Prod.snd (Prod.snd (Prod.snd (Prod.snd (Prod.snd (Prod.snd (Prod.snd (Prod.snd (Prod.snd t)))))))))))))))))), AVal.str (Prod.fst (Prod.snd (Prod.snd (Prod.snd (Prod.snd (Prod.snd (Prod.snd (Prod.snd (Prod.snd (Prod.snd (Prod.snd (Prod.snd (Prod.snd (Prod.snd (Prod.snd (Prod.snd (Prod.snd (Prod.snd (Prod.snd t))))))))))))))))))), AVal.slice Own.nil [], AVal.bool (Prod.fst (Prod.snd (Prod.snd (Prod.snd (Prod.snd (Prod.snd (Prod.snd (Prod.snd (Prod.snd (Prod.snd (Prod.snd (Prod.snd (Prod.snd (Prod.snd (Prod.snd (Prod.snd (Prod.snd (Prod.snd (Prod.snd (Prod.snd t)))))))))))))))))))), AVal.bool (Prod.fst (Prod.snd (Prod.snd (Prod.snd (Prod.snd (Prod.snd (Prod.snd (Prod.snd (Prod.snd (Prod.snd (Prod.snd (Prod.snd (Prod.snd (Prod.snd (Prod.snd (Prod.snd (Prod.snd (Prod.snd (Prod.snd (Prod.snd (Prod.snd t))))))))))))))))))))), AVal.int IntKind.i64 (Prod.fst (Prod.snd (Prod.snd (Prod.snd (Prod.snd (Prod.snd (Prod.snd (Prod.snd (Prod.snd (Prod.snd (Prod.snd (Prod.snd (Prod.snd (Prod.snd (Prod.snd (Prod.snd (Prod.snd (Prod.snd (Prod.snd (Prod.snd (Prod.snd (Prod.snd t))))))))))))))))))))))], AVal.bool (Prod.snd (Prod.snd (Prod.snd (Prod.snd (Prod.snd (Prod.snd (Prod.snd (Prod.snd (Prod.snd (Prod.snd (Prod.snd (Prod.snd (Prod.snd (Prod.snd (Prod.snd (Prod.snd (Prod.snd (Prod.snd (Prod.snd (Prod.snd (Prod.snd (Prod.snd t))))))))))))))))))))))]), [AObj.cells [AVal.int IntKind.i64 m0_0, AVal.slice (Own.row (27 : Nat)) m0_1, AVal.int IntKind.i64 m0_2]]))
def heap_Get0.ct (a1 : Int) (m0_0 : Int) (m0_1 : List (List AVal)) (m0_2 : Int) (rest : Mem) (x : Int × Int × Int × List UInt8 × Bool × Int × Int × Int × Int × List UInt8 × Int × Int × List UInt8 × Int × Int × List UInt8 × Int × Int × List UInt8 × Bool × Bool × Int × Bool) : CT (Out × Mem) := (CT.done ((fun t => (Out.ret (AVal.tup [AVal.agg [AVal.int IntKind.i64 (Prod.fst t), AVal.int IntKind.i64 (Prod.fst (Prod.snd t)), AVal.int IntKind.i64 (Prod.fst (Prod.snd (Prod.snd t))), AVal.str (Prod.fst (Prod.snd (Prod.snd (Prod.snd t)))), AVal.bool (Prod.fst (Prod.snd (Prod.snd (Prod.snd (Prod.snd t))))), AVal.slice Own.nil [], AVal.int IntKind.i64 (Prod.fst (Prod.snd (Prod.snd (Prod.snd (Prod.snd (Prod.snd t)))))), AVal.int IntKind.i64 (Prod.fst (Prod.snd (Prod.snd (Prod.snd (Prod.snd (Prod.snd (Prod.snd t))))))), AVal.int IntKind.i64 (Prod.fst (Prod.snd (Prod.snd (Prod.snd (Prod.snd (Prod.snd (Prod.snd (Prod.snd t)))))))), AVal.int IntKind.i64 (Prod.fst (Prod.snd (Prod.snd (Prod.snd (Prod.snd (Prod.snd (Prod.snd (Prod.snd (Prod.snd t))))))))), AVal.str (Prod.fst (Prod.snd (Prod.snd (Prod.snd (Prod.snd (Prod.snd (Prod.snd (Prod.snd (Prod.snd (Prod.snd t)))))))))), AVal.int IntKind.i64 (Prod.fst (Prod.snd (Prod.snd (Prod.snd (Prod.snd (Prod.snd (Prod.snd (Prod.snd (Prod.snd (Prod.snd (Prod.snd t))))))))))), AVal.int IntKind.i64 (Prod.fst (Prod.snd (Prod.snd (Prod.snd (Prod.snd (Prod.snd (Prod.snd (Prod.snd (Prod.snd (Prod.snd (Prod.snd (Prod.snd t)))))))))))), AVal.str (Prod.fst (Prod.snd (Prod.snd (Prod.snd (Prod.snd (Prod.snd (Prod.snd (Prod.snd (Prod.snd (Prod.snd (Prod.snd (Prod.snd (Prod.snd t))))))))))))), AVal.int IntKind.i64 (Prod.fst (Prod.snd (Prod.snd (Prod.snd (Prod.snd (Prod.snd (Prod.snd (Prod.snd (Prod.snd (Prod.snd (Prod.snd (Prod.snd (Prod.snd (Prod.snd t)))))))))))))), AVal.int IntKind.i64 (Prod.fst (Prod.snd (Prod.snd (Prod.snd (Prod.snd (Prod.snd (Prod.snd (Prod.snd (Prod.snd (Prod.snd (Prod.snd (Prod.snd (Prod.snd (Prod.snd (Prod.snd t))))))))))))))), AVal.str (Prod.fst (Prod.snd (Prod.snd (Prod.snd (Prod.snd (Prod.snd (Prod.snd (Prod.snd (Prod.snd (Prod.snd (Prod.snd (Prod.snd (Prod.snd (Prod.snd (Prod.snd (Prod.snd t)))))))))))))))), AVal.int IntKind.i64 (Prod.fst (Prod.snd (Prod.snd (Prod.snd (Prod.snd (Prod.snd (Prod.snd (Prod.snd (Prod.snd (Prod.snd (Prod.snd (Prod.snd (Prod.snd (Prod.snd (Prod.snd (Prod.snd (Prod.snd t))))))))))))))))), AVal.int IntKind.i64 (Prod.fst (Prod.snd (Prod.snd (Prod.snd (Prod.snd (Prod.snd (Prod.snd (Prod.snd (Prod.snd (Prod.snd (Prod.snd (Prod.snd (Prod.snd (Prod.snd (Prod.snd (Prod.snd (Prod.snd (Prod.snd t)))))))))))))))))), AVal.str (Prod.fst (Prod.snd (Prod.snd (Prod.snd (Prod.snd (Prod.snd (Prod.snd (Prod.snd (Prod.snd (Prod.snd (Prod.snd (Prod.snd (Prod.snd (Prod.snd (Prod.snd (Prod.snd (Prod.snd (Prod.snd (Prod.snd t))))))))))))))))))), AVal.slice Own.nil [], AVal.bool (Prod.fst (Prod.snd (Prod.snd (Prod.snd (Prod.snd (Prod.snd (Prod.snd (Prod.snd (Prod.snd (Prod.snd (Prod.snd (Prod.snd (Prod.snd (Prod.snd (Prod.snd (Prod.snd (Prod.snd (Prod.snd (Prod.snd (Prod.snd t)))))))))))))))))))), AVal.bool (Prod.fst (Prod.snd (Prod.snd (Prod.snd (Prod.snd (Prod.snd (Prod.snd (Prod.snd (Prod.snd (Prod.snd (Prod.snd (Prod.snd (Prod.snd (Prod.snd (Prod.snd (Prod.snd (Prod.snd (Prod.snd (Prod.snd (Prod.snd (Prod.snd t))))))))))))))))))))), AVal.int IntKind.i64 (Prod.fst (Prod.snd (Prod.snd (Prod.snd (Prod.snd (Prod.snd (Prod.snd (Prod.snd (Prod.snd (Prod.snd (Prod.snd (Prod.snd (Prod.snd (Prod.snd (Prod.snd (Prod.snd (Prod.snd (Prod.snd (Prod.snd (Prod.snd (Prod.snd (Prod.snd t))))))))))))))))))))))], AVal.bool (Prod.snd (Prod.snd (Prod.snd (Prod.snd (Prod.snd (Prod.snd (Prod.snd (Prod.snd (Prod.snd (Prod.snd (Prod.snd (Prod.snd (Prod.snd (Prod.snd (Prod.snd (Prod.snd (Prod.snd (Prod.snd (Prod.snd (Prod.snd (Prod.snd (Prod.snd t))))))))))))))))))))))]), ([AObj.cells [AVal.int IntKind.i64 m0_0, AVal.slice (Own.row (27 : Nat)) m0_1, AVal.int IntKind.i64 m0_2]] : Mem) ++ rest)) x))
theorem heap_Get0.hct (a1 : Int) (m0_0 : Int) (m0_1 : List (List AVal)) (m0_2 : Int) (rest : Mem) (x : Int × Int × Int × List UInt8 × Bool × Int × Int × Int × Int × List UInt8 × Int × Int × List UInt8 × Int × Int × List UInt8 × Int × Int × List UInt8 × Bool × Bool × Int × Bool) : (heap_Get0.ct a1 m0_0 m0_1 m0_2 rest x).eval = some ((heap_Get0.om a1 m0_0 m0_1 m0_2 x).1, (heap_Get0.om a1 m0_0 m0_1 m0_2 x).2 ++ rest) := rfl
theorem heap_Get0.hlen (a1 : Int) (m0_0 : Int) (m0_1 : List (List AVal)) (m0_2 : Int) (x : Int × Int × Int × List UInt8 × Bool × Int × Int × Int × Int × List UInt8 × Int × Int × List UInt8 × Int × Int × List UInt8 × Int × Int × List UInt8 × Bool × Bool × Int × Bool) : (heap_Get0.om a1 m0_0 m0_1 m0_2 x).2.length = (heap_Get0.sm).length := rfl
set_option maxRecDepth 100000 in
theorem heap_Get0.tree (args : List AVal) (m : Mem) : execFunc env (ora (heap_Get0.N) (heap_Get0.L)) 10 (bldArgs heap_Get0.sa 0 args) (bldOs heap_Get0.sm 0 m) = heap_Get0.k (getI (tget args 1)) (getI (tget (cellsO (oAt m 0)) 0)) (getSl (tget (cellsO (oAt m 0)) 1)) (getI (tget (cellsO (oAt m 0)) 2)) (fun x => some (heap_Get0.om (getI (tget args 1)) (getI (tget (cellsO (oAt m 0)) 0)) (getSl (tget (cellsO (oAt m 0)) 1)) (getI (tget (cellsO (oAt m 0)) 2)) x)) := by kernel_rfl
def heap_Get0.g : List AVal → Mem → CT (Out × Mem) := shapeG heap_Get0.sa heap_Get0.sm fun args m => .opt (heap_Get0 (getI (tget args 1)) (getI (tget (cellsO (oAt m 0)) 0)) (getSl (tget (cellsO (oAt m 0)) 1)) (getI (tget (cellsO (oAt m 0)) 2))) (heap_Get0.ct (getI (tget args 1)) (getI (tget (cellsO (oAt m 0)) 0)) (getSl (tget (cellsO (oAt m 0)) 1)) (getI (tget (cellsO (oAt m 0)) 2)) (m.drop heap_Get0.sm.length))
theorem heap_Get0.ok (B : Nat) : NatOk env prog B 10 (heap_Get0.g) :=
  nat_of setting (dfrs B) (heap_Get0.N_ok B) (heap_Get0.L_ok B) rfl (fun args m => heap_Get0.tree args m) (fun args m out m' h => by
    rw [heap_Get0.nat]
    exact opt_hG (oc := fun x => (heap_Get0.om (getI (tget args 1)) (getI (tget (cellsO (oAt m 0)) 0)) (getSl (tget (cellsO (oAt m 0)) 1)) (getI (tget (cellsO (oAt m 0)) 2)) x).1) (mt := fun x => (heap_Get0.om (getI (tget args 1)) (getI (tget (cellsO (oAt m 0)) 0)) (getSl (tget (cellsO (oAt m 0)) 1)) (getI (tget (cellsO (oAt m 0)) 2)) x).2) (heap_Get0.hct (getI (tget args 1)) (getI (tget (cellsO (oAt m 0)) 0)) (getSl (tget (cellsO (oAt m 0)) 1)) (getI (tget (cellsO (oAt m 0)) 2)) (m.drop heap_Get0.sm.length)) (heap_Get0.hlen (getI (tget args 1)) (getI (tget (cellsO (oAt m 0)) 0)) (getSl (tget (cellsO (oAt m 0)) 1)) (getI (tget (cellsO (oAt m 0)) 2))) h)
def heap_Get.g : List AVal → Mem → CT (Out × Mem) := atG heap_Get0.g
theorem heap_Get.ok (B : Nat) : NatOk env prog B 10 heap_Get.g := nat_at (heap_Get0.ok B)
def heap_Sym0.sa : List ASh := [.c (.fix (.ptr 0 0))]
def heap_Sym0.sm : List OSh := [.cells [.int .i64, .sl (.row 27), .int .i64]]
noncomputable def heap_Sym0.N : CNats := noCalls
theorem heap_Sym0.N_ok (B : Nat) : NatsOk env prog B (heap_Sym0.N) := noCalls_ok
noncomputable def heap_Sym0.L : LNats := noLoops
theorem heap_Sym0.L_ok (B : Nat) : LoopsOk env prog B (heap_Sym0.L) := noLoops_ok
def heap_Sym0.k {X : Type} (m0_0 : Int) (m0_1 : List (List AVal)) (m0_2 : Int) (ret : Unit → Option X) : Option X :=
  ret ()
def heap_Sym0 (m0_0 : Int) (m0_1 : List (List AVal)) (m0_2 : Int) : Option (Unit) := heap_Sym0.k m0_0 m0_1 m0_2 some
theorem heap_Sym0.nat {X : Type} (m0_0 : Int) (m0_1 : List (List AVal)) (m0_2 : Int) (ret : Unit → Option X) : heap_Sym0.k m0_0 m0_1 m0_2 ret = optK (heap_Sym0 m0_0 m0_1 m0_2) ret := by
  first | rfl | simp only [heap_Sym0, heap_Sym0.k, optK_cond, optK_ite, optK_assoc, optK_sum, optK_some, optK_none]
def heap_Sym0.om (m0_0 : Int) (m0_1 : List (List AVal)) (m0_2 : Int) (x : Unit) : Out × Mem := (let t := x; (Out.ret (AVal.int IntKind.i64 (IntKind.wrap IntKind.i64 (m0_2 + (1 : Int)))), [AObj.cells [AVal.int IntKind.i64 m0_0, AVal.slice (Own.row (27 : Nat)) m0_1, AVal.int IntKind.i64 (IntKind.wrap IntKind.i64 (m0_2 + (1 : Int)))]]))
def heap_Sym0.ct (m0_0 : Int) (m0_1 : List (List AVal)) (m0_2 : Int) (rest : Mem) (x : Unit) : CT (Out × Mem) := (CT.done ((fun t => (Out.ret (AVal.int IntKind.i64 (IntKind.wrap IntKind.i64 (m0_2 + (1 : Int)))), ([AObj.cells [AVal.int IntKind.i64 m0_0, AVal.slice (Own.row (27 : Nat)) m0_1, AVal.int IntKind.i64 (IntKind.wrap IntKind.i64 (m0_2 + (1 : Int)))]] : Mem) ++ rest)) x))
theorem heap_Sym0.hct (m0_0 : Int) (m0_1 : List (List AVal)) (m0_2 : Int) (rest : Mem) (x : Unit) : (heap_Sym0.ct m0_0 m0_1 m0_2 rest x).eval = some ((heap_Sym0.om m0_0 m0_1 m0_2 x).1, (heap_Sym0.om m0_0 m0_1 m0_2 x).2 ++ rest) := rfl
theorem heap_Sym0.hlen (m0_0 : Int) (m0_1 : List (List AVal)) (m0_2 : Int) (x : Unit) : (heap_Sym0.om m0_0 m0_1 m0_2 x).2.length = (heap_Sym0.sm).length := rfl
set_option maxRecDepth 100000 in
theorem heap_Sym0.tree (args : List AVal) (m : Mem) : execFunc env (ora (heap_Sym0.N) (heap_Sym0.L)) 12 (bldArgs heap_Sym0.sa 0 args) (bldOs heap_Sym0.sm 0 m) = heap_Sym0.k (getI (tget (cellsO (oAt m 0)) 0)) (getSl (tget (cellsO (oAt m 0)) 1)) (getI (tget (cellsO (oAt m 0)) 2)) (fun x => some (heap_Sym0.om (getI (tget (cellsO (oAt m 0)) 0)) (getSl (tget (cellsO (oAt m 0)) 1)) (getI (tget (cellsO (oAt m 0)) 2)) x)) := by kernel_rfl
def heap_Sym0.g : List AVal → Mem → CT (Out × Mem) := shapeG heap_Sym0.sa heap_Sym0.sm fun args m => .opt (heap_Sym0 (getI (tget (cellsO (oAt m 0)) 0)) (getSl (tget (cellsO (oAt m 0)) 1)) (getI (tget (cellsO (oAt m 0)) 2))) (heap_Sym0.ct (getI (tget (cellsO (oAt m 0)) 0)) (getSl (tget (cellsO (oAt m 0)) 1)) (getI (tget (cellsO (oAt m 0)) 2)) (m.drop heap_Sym0.sm.length))
theorem heap_Sym0.ok (B : Nat) : NatOk env prog B 12 (heap_Sym0.g) :=
  nat_of setting (dfrs B) (heap_Sym0.N_ok B) (heap_Sym0.L_ok B) rfl (fun args m => heap_Sym0.tree args m) (fun args m out m' h => by
    rw [heap_Sym0.nat]
    exact opt_hG (oc := fun x => (heap_Sym0.om (getI (tget (cellsO (oAt m 0)) 0)) (getSl (tget (cellsO (oAt m 0)) 1)) (getI (tget (cellsO (oAt m 0)) 2)) x).1) (mt := fun x => (heap_Sym0.om (getI (tget (cellsO (oAt m 0)) 0)) (getSl (tget (cellsO (oAt m 0)) 1)) (getI (tget (cellsO (oAt m 0)) 2)) x).2) (heap_Sym0.hct (getI (tget (cellsO (oAt m 0)) 0)) (getSl (tget (cellsO (oAt m 0)) 1)) (getI (tget (cellsO (oAt m 0)) 2)) (m.drop heap_Sym0.sm.length)) (heap_Sym0.hlen (getI (tget (cellsO (oAt m 0)) 0)) (getSl (tget (cellsO (oAt m 0)) 1)) (getI (tget (cellsO (oAt m 0)) 2))) h)
def heap_Sym.g : List AVal → Mem → CT (Out × Mem) := atG heap_Sym0.g
theorem heap_Sym.ok (B : Nat) : NatOk env prog B 12 heap_Sym.g := nat_at (heap_Sym0.ok B)
def heap_Len0.sa : List ASh := [.c (.fix (.ptr 0 0))]
def heap_Len0.sm : List OSh := [.cells [.int .i64, .sl (.row 27), .int .i64]]
noncomputable def heap_Len0.N : CNats := noCalls
theorem heap_Len0.N_ok (B : Nat) : NatsOk env prog B (heap_Len0.N) := noCalls_ok
noncomputable def heap_Len0.L : LNats := noLoops
theorem heap_Len0.L_ok (B : Nat) : LoopsOk env prog B (heap_Len0.L) := noLoops_ok
def heap_Len0.k {X : Type} (m0_0 : Int) (m0_1 : List (List AVal)) (m0_2 : Int) (ret : Unit → Option X) : Option X :=
  ret ()
def heap_Len0 (m0_0 : Int) (m0_1 : List (List AVal)) (m0_2 : Int) : Option (Unit) := heap_Len0.k m0_0 m0_1 m0_2 some
theorem heap_Len0.nat {X : Type} (m0_0 : Int) (m0_1 : List (List AVal)) (m0_2 : Int) (ret : Unit → Option X) : heap_Len0.k m0_0 m0_1 m0_2 ret = optK (heap_Len0 m0_0 m0_1 m0_2) ret := by
  first | rfl | simp only [heap_Len0, heap_Len0.k, optK_cond, optK_ite, optK_assoc, optK_sum, optK_some, optK_none]
def heap_Len0.om (m0_0 : Int) (m0_1 : List (List AVal)) (m0_2 : Int) (x : Unit) : Out × Mem := (let t := x; (Out.ret (AVal.int IntKind.i64 (↑(List.length m0_1) : Int)), [AObj.cells [AVal.int IntKind.i64 m0_0, AVal.slice (Own.row (27 : Nat)) m0_1, AVal.int IntKind.i64 m0_2]]))
def heap_Len0.ct (m0_0 : Int) (m0_1 : List (List AVal)) (m0_2 : Int) (rest : Mem) (x : Unit) : CT (Out × Mem) := (CT.done ((fun t => (Out.ret (AVal.int IntKind.i64 (↑(List.length m0_1) : Int)), ([AObj.cells [AVal.int IntKind.i64 m0_0, AVal.slice (Own.row (27 : Nat)) m0_1, AVal.int IntKind.i64 m0_2]] : Mem) ++ rest)) x))
theorem heap_Len0.hct (m0_0 : Int) (m0_1 : List (List AVal)) (m0_2 : Int) (rest : Mem) (x : Unit) : (heap_Len0.ct m0_0 m0_1 m0_2 rest x).eval = some ((heap_Len0.om m0_0 m0_1 m0_2 x).1, (heap_Len0.om m0_0 m0_1 m0_2 x).2 ++ rest) := rfl
theorem heap_Len0.hlen (m0_0 : Int) (m0_1 : List (List AVal)) (m0_2 : Int) (x : Unit) : (heap_Len0.om m0_0 m0_1 m0_2 x).2.length = (heap_Len0.sm).length := rfl
set_option maxRecDepth 100000 in
theorem heap_Len0.tree (args : List AVal) (m : Mem) : execFunc env (ora (heap_Len0.N) (heap_Len0.L)) 13 (bldArgs heap_Len0.sa 0 args) (bldOs heap_Len0.sm 0 m) = heap_Len0.k (getI (tget (cellsO (oAt m 0)) 0)) (getSl (tget (cellsO (oAt m 0)) 1)) (getI (tget (cellsO (oAt m 0)) 2)) (fun x => some (heap_Len0.om (getI (tget (cellsO (oAt m 0)) 0)) (getSl (tget (cellsO (oAt m 0)) 1)) (getI (tget (cellsO (oAt m 0)) 2)) x)) := by kernel_rfl
def heap_Len0.g : List AVal → Mem → CT (Out × Mem) := shapeG heap_Len0.sa heap_Len0.sm fun args m => .opt (heap_Len0 (getI (tget (cellsO (oAt m 0)) 0)) (getSl (tget (cellsO (oAt m 0)) 1)) (getI (tget (cellsO (oAt m 0)) 2))) (heap_Len0.ct (getI (tget (cellsO (oAt m 0)) 0)) (getSl (tget (cellsO (oAt m 0)) 1)) (getI (tget (cellsO (oAt m 0)) 2)) (m.drop heap_Len0.sm.length))
theorem heap_Len0.ok (B : Nat) : NatOk env prog B 13 (heap_Len0.g) :=
  nat_of setting (dfrs B) (heap_Len0.N_ok B) (heap_Len0.L_ok B) rfl (fun args m => heap_Len0.tree args m) (fun args m out m' h => by
    rw [heap_Len0.nat]
    exact opt_hG (oc := fun x => (heap_Len0.om (getI (tget (cellsO (oAt m 0)) 0)) (getSl (tget (cellsO (oAt m 0)) 1)) (getI (tget (cellsO (oAt m 0)) 2)) x).1) (mt := fun x => (heap_Len0.om (getI (tget (cellsO (oAt m 0)) 0)) (getSl (tget (cellsO (oAt m 0)) 1)) (getI (tget (cellsO (oAt m 0)) 2)) x).2) (heap_Len0.hct (getI (tget (cellsO (oAt m 0)) 0)) (getSl (tget (cellsO (oAt m 0)) 1)) (getI (tget (cellsO (oAt m 0)) 2)) (m.drop heap_Len0.sm.length)) (heap_Len0.hlen (getI (tget (cellsO (oAt m 0)) 0)) (getSl (tget (cellsO (oAt m 0)) 1)) (getI (tget (cellsO (oAt m 0)) 2))) h)
def heap_Len.g : List AVal → Mem → CT (Out × Mem) := atG heap_Len0.g
theorem heap_Len.ok (B : Nat) : NatOk env prog B 13 heap_Len.g := nat_at (heap_Len0.ok B)
def h_alive.g : List AVal → Mem → CT (Out × Mem) := closedG [] (.ret (.bool true))
theorem h_alive.ok (B : Nat) : NatOk env prog B 5 h_alive.g := nat_closed setting (dfrs B) noCalls_ok 20 rfl (fun args => by kernel_rfl)
def HeapRoom.sa : List ASh := [.c (.int .i64), .c (.int .i64)]
def HeapRoom.sm : List OSh := []
noncomputable def HeapRoom.N (n : Nat) : CNats := (addN 5 (h_alive.g) (addN 7 (heap_New.g) (addN 9 (heap_Make.g) (addN 12 (heap_Sym.g) (addN 10 (heap_Get.g) (addN 13 (heap_Len.g) noCalls))))))
theorem HeapRoom.N_ok (B : Nat) (n : Nat) : NatsOk env prog B (HeapRoom.N n) := addN_ok (h_alive.ok B) (addN_ok (heap_New.ok B) (addN_ok (heap_Make.ok B) (addN_ok (heap_Sym.ok B) (addN_ok (heap_Get.ok B) (addN_ok (heap_Len.ok B) (noCalls_ok))))))
def HeapRoom.l0.T : FSh := { tmps := [.int IntKind.i64, .int IntKind.i64, .any, .any, .bool, .any, .fix (AVal.ptr (0 : Nat) (0 : Nat)), .int IntKind.i64, .any, .any, .any, .any, .any, .any, .any, .any, .any, .any, .any, .any, .any, .any, .any, .any, .any, .any, .any, .any, .any, .any, .any, .any, .any, .any, .any, .any, .any, .any, .any, .any, .any, .any, .any, .any, .any, .any, .any, .any, .any, .any, .any, .any, .any, .any, .any, .any, .any, .any, .any, .any, .any, .any, .any, .any, .any, .any, .any, .any, .any, .any, .any, .any, .any, .any, .any, .any, .any, .any, .any, .any], locs := [], mem := [.cells [.int IntKind.i64, .sl (Own.row (27 : Nat)), .int IntKind.i64]], defs := [] }
def HeapRoom.l0.s {X : Type} (n : Nat) (v0 : Int) (v1 : Int) (v4 : Bool) (m0_0 : Int) (kx : Int × List (List AVal) × Int ⊕ Int × List (List AVal) × Int → Option X) (rec_ : Int → List (List AVal) → Int → Option X) (v7 : Int) (m0_1 : List (List AVal)) (m0_2 : Int) : Option X :=
  bif decide (v7 < v1) then optK (heap_Make0 (0 : Int) (0 : Int) (0 : Int) [] false (0 : Int) v7 (0 : Int) (0 : Int) [] (0 : Int) (0 : Int) [] (0 : Int) (0 : Int) [] (0 : Int) (0 : Int) [] false false (0 : Int) m0_0 m0_1 m0_2) fun b => bif false == (Prod.fst (Prod.snd b) == decide (v7 < v0)) then kx (Sum.inl (v7, (Prod.snd b).2, m0_2)) else bif Prod.fst (Prod.snd b) then bif Prod.fst b != v7 then kx (Sum.inl (v7, (Prod.snd b).2, m0_2)) else optK (heap_Sym0 m0_0 (Prod.snd b).2 m0_2) fun b_1 => bif IntKind.wrap IntKind.i64 (m0_2 + (1 : Int)) != IntKind.wrap IntKind.i64 (v7 + (1 : Int)) then kx (Sum.inl (v7, (Prod.snd b).2, IntKind.wrap IntKind.i64 (m0_2 + (1 : Int)))) else rec_ (IntKind.wrap IntKind.i64 (v7 + (1 : Int))) (Prod.snd b).2 (IntKind.wrap IntKind.i64 (m0_2 + (1 : Int))) else optK (heap_Sym0 m0_0 (Prod.snd b).2 m0_2) fun b_1 => bif IntKind.wrap IntKind.i64 (m0_2 + (1 : Int)) != IntKind.wrap IntKind.i64 (v7 + (1 : Int)) then kx (Sum.inl (v7, (Prod.snd b).2, IntKind.wrap IntKind.i64 (m0_2 + (1 : Int)))) else rec_ (IntKind.wrap IntKind.i64 (v7 + (1 : Int))) (Prod.snd b).2 (IntKind.wrap IntKind.i64 (m0_2 + (1 : Int))) else kx (Sum.inr (v7, m0_1, m0_2))
def HeapRoom.l0.k {X : Type} (n : Nat) (v0 : Int) (v1 : Int) (v4 : Bool) (m0_0 : Int) (kx : Int × List (List AVal) × Int ⊕ Int × List (List AVal) × Int → Option X) (j : Nat) : Int → List (List AVal) → Int → Option X :=
  Nat.rec (motive := fun _ => Int → List (List AVal) → Int → Option X) (fun _ _ _ => none) (fun _ r => fun v7 m0_1 m0_2 => HeapRoom.l0.s n v0 v1 v4 m0_0 kx r v7 m0_1 m0_2) j
def HeapRoom.l0 (n : Nat) (v0 : Int) (v1 : Int) (v4 : Bool) (m0_0 : Int) (j : Nat) (v7 : Int) (m0_1 : List (List AVal)) (m0_2 : Int) : Option (Int × List (List AVal) × Int ⊕ Int × List (List AVal) × Int) := HeapRoom.l0.k n v0 v1 v4 m0_0 some j v7 m0_1 m0_2
theorem HeapRoom.l0.s_nat {X : Type} (n : Nat) (v0 : Int) (v1 : Int) (v4 : Bool) (m0_0 : Int) (kx : Int × List (List AVal) × Int ⊕ Int × List (List AVal) × Int → Option X) (r : Int → List (List AVal) → Int → Option X) (r0 : Int → List (List AVal) → Int → Option (Int × List (List AVal) × Int ⊕ Int × List (List AVal) × Int)) (h : ∀ (v7 : Int) (m0_1 : List (List AVal)) (m0_2 : Int), r v7 m0_1 m0_2 = optK (r0 v7 m0_1 m0_2) kx) (v7 : Int) (m0_1 : List (List AVal)) (m0_2 : Int) : HeapRoom.l0.s n v0 v1 v4 m0_0 kx r v7 m0_1 m0_2 = optK (HeapRoom.l0.s n v0 v1 v4 m0_0 some r0 v7 m0_1 m0_2) kx := by
  simp only [HeapRoom.l0.s, optK_cond, optK_ite, optK_assoc, optK_sum, optK_some, optK_none, h]
theorem HeapRoom.l0.nat {X : Type} (n : Nat) (v0 : Int) (v1 : Int) (v4 : Bool) (m0_0 : Int) (kx : Int × List (List AVal) × Int ⊕ Int × List (List AVal) × Int → Option X) (j : Nat) : ∀ (v7 : Int) (m0_1 : List (List AVal)) (m0_2 : Int), HeapRoom.l0.k n v0 v1 v4 m0_0 kx j v7 m0_1 m0_2 = optK (HeapRoom.l0 n v0 v1 v4 m0_0 j v7 m0_1 m0_2) kx := by
  induction j with
  | zero => intros; rfl
  | succ j ih => intros; exact HeapRoom.l0.s_nat n v0 v1 v4 m0_0 kx _ _ ih  _ _ _
theorem HeapRoom.l0.succ (n : Nat) (v0 : Int) (v1 : Int) (v4 : Bool) (m0_0 : Int) (j : Nat) (v7 : Int) (m0_1 : List (List AVal)) (m0_2 : Int) : HeapRoom.l0 n v0 v1 v4 m0_0 (j + 1) v7 m0_1 m0_2 = HeapRoom.l0.s n v0 v1 v4 m0_0 some (HeapRoom.l0 n v0 v1 v4 m0_0 j) v7 m0_1 m0_2 := rfl
theorem HeapRoom.l0.zero (n : Nat) (v0 : Int) (v1 : Int) (v4 : Bool) (m0_0 : Int) (v7 : Int) (m0_1 : List (List AVal)) (m0_2 : Int) : HeapRoom.l0 n v0 v1 v4 m0_0 0 v7 m0_1 m0_2 = none := rfl
def HeapRoom.l0.lc (v0 : Int) (v1 : Int) (v4 : Bool) (m0_0 : Int) (x : Int × List (List AVal) × Int ⊕ Int × List (List AVal) × Int) : AExit × AFrame × Mem := (match x with | .inl t => (AExit.ret, { tmps := [AVal.int IntKind.i64 v0, AVal.int IntKind.i64 v1, AVal.any, AVal.any, AVal.bool false, AVal.any, AVal.ptr (0 : Nat) (0 : Nat), AVal.int IntKind.i64 (Prod.fst t), AVal.any, AVal.any, AVal.any, AVal.any, AVal.any, AVal.any, AVal.any, AVal.any, AVal.any, AVal.any, AVal.any, AVal.any, AVal.any, AVal.any, AVal.any, AVal.any, AVal.any, AVal.any, AVal.any, AVal.any, AVal.any, AVal.any, AVal.any, AVal.any, AVal.any, AVal.any, AVal.any, AVal.any, AVal.any, AVal.any, AVal.any, AVal.any, AVal.any, AVal.any, AVal.any, AVal.any, AVal.any, AVal.any, AVal.any, AVal.any, AVal.any, AVal.any, AVal.any, AVal.any, AVal.any, AVal.any, AVal.any, AVal.any, AVal.any, AVal.any, AVal.any, AVal.any, AVal.any, AVal.any, AVal.any, AVal.any, AVal.any, AVal.any, AVal.any, AVal.any, AVal.any, AVal.any, AVal.any, AVal.any, AVal.any, AVal.any, AVal.any, AVal.any, AVal.any, AVal.any, AVal.any, AVal.any], locs := [], defers := [] }, [AObj.cells [AVal.int IntKind.i64 m0_0, AVal.slice (Own.row (27 : Nat)) (Prod.fst (Prod.snd t)), AVal.int IntKind.i64 (Prod.snd (Prod.snd t))]]) | .inr u => (let t := u; (AExit.exit (0 : Nat), { tmps := [AVal.int IntKind.i64 v0, AVal.int IntKind.i64 v1, AVal.any, AVal.any, AVal.bool v4, AVal.any, AVal.ptr (0 : Nat) (0 : Nat), AVal.int IntKind.i64 (Prod.fst t), AVal.any, AVal.any, AVal.any, AVal.any, AVal.any, AVal.any, AVal.any, AVal.any, AVal.any, AVal.any, AVal.any, AVal.any, AVal.any, AVal.any, AVal.any, AVal.any, AVal.any, AVal.any, AVal.any, AVal.any, AVal.any, AVal.any, AVal.any, AVal.any, AVal.any, AVal.any, AVal.any, AVal.any, AVal.any, AVal.any, AVal.any, AVal.any, AVal.any, AVal.any, AVal.any, AVal.any, AVal.any, AVal.any, AVal.any, AVal.any, AVal.any, AVal.any, AVal.any, AVal.any, AVal.any, AVal.any, AVal.any, AVal.any, AVal.any, AVal.any, AVal.any, AVal.any, AVal.any, AVal.any, AVal.any, AVal.any, AVal.any, AVal.any, AVal.any, AVal.any, AVal.any, AVal.any, AVal.any, AVal.any, AVal.any, AVal.any, AVal.any, AVal.any, AVal.any, AVal.any, AVal.any, AVal.any], locs := [], defers := [] }, [AObj.cells [AVal.int IntKind.i64 m0_0, AVal.slice (Own.row (27 : Nat)) (Prod.fst (Prod.snd t)), AVal.int IntKind.i64 (Prod.snd (Prod.snd t))]])))
def HeapRoom.l0.ct (v0 : Int) (v1 : Int) (v4 : Bool) (m0_0 : Int) (x : Int × List (List AVal) × Int ⊕ Int × List (List AVal) × Int) : CT (AExit × AFrame × Mem) := (CT.sum x (fun t => CT.done ((AExit.ret, { tmps := [AVal.int IntKind.i64 v0, AVal.int IntKind.i64 v1, AVal.any, AVal.any, AVal.bool false, AVal.any, AVal.ptr (0 : Nat) (0 : Nat), AVal.int IntKind.i64 (Prod.fst t), AVal.any, AVal.any, AVal.any, AVal.any, AVal.any, AVal.any, AVal.any, AVal.any, AVal.any, AVal.any, AVal.any, AVal.any, AVal.any, AVal.any, AVal.any, AVal.any, AVal.any, AVal.any, AVal.any, AVal.any, AVal.any, AVal.any, AVal.any, AVal.any, AVal.any, AVal.any, AVal.any, AVal.any, AVal.any, AVal.any, AVal.any, AVal.any, AVal.any, AVal.any, AVal.any, AVal.any, AVal.any, AVal.any, AVal.any, AVal.any, AVal.any, AVal.any, AVal.any, AVal.any, AVal.any, AVal.any, AVal.any, AVal.any, AVal.any, AVal.any, AVal.any, AVal.any, AVal.any, AVal.any, AVal.any, AVal.any, AVal.any, AVal.any, AVal.any, AVal.any, AVal.any, AVal.any, AVal.any, AVal.any, AVal.any, AVal.any, AVal.any, AVal.any, AVal.any, AVal.any, AVal.any, AVal.any], locs := [], defers := [] }, [AObj.cells [AVal.int IntKind.i64 m0_0, AVal.slice (Own.row (27 : Nat)) (Prod.fst (Prod.snd t)), AVal.int IntKind.i64 (Prod.snd (Prod.snd t))]]))) (fun u => (CT.done ((fun t => (AExit.exit (0 : Nat), { tmps := [AVal.int IntKind.i64 v0, AVal.int IntKind.i64 v1, AVal.any, AVal.any, AVal.bool v4, AVal.any, AVal.ptr (0 : Nat) (0 : Nat), AVal.int IntKind.i64 (Prod.fst t), AVal.any, AVal.any, AVal.any, AVal.any, AVal.any, AVal.any, AVal.any, AVal.any, AVal.any, AVal.any, AVal.any, AVal.any, AVal.any, AVal.any, AVal.any, AVal.any, AVal.any, AVal.any, AVal.any, AVal.any, AVal.any, AVal.any, AVal.any, AVal.any, AVal.any, AVal.any, AVal.any, AVal.any, AVal.any, AVal.any, AVal.any, AVal.any, AVal.any, AVal.any, AVal.any, AVal.any, AVal.any, AVal.any, AVal.any, AVal.any, AVal.any, AVal.any, AVal.any, AVal.any, AVal.any, AVal.any, AVal.any, AVal.any, AVal.any, AVal.any, AVal.any, AVal.any, AVal.any, AVal.any, AVal.any, AVal.any, AVal.any, AVal.any, AVal.any, AVal.any, AVal.any, AVal.any, AVal.any, AVal.any, AVal.any, AVal.any, AVal.any, AVal.any, AVal.any, AVal.any, AVal.any, AVal.any], locs := [], defers := [] }, [AObj.cells [AVal.int IntKind.i64 m0_0, AVal.slice (Own.row (27 : Nat)) (Prod.fst (Prod.snd t)), AVal.int IntKind.i64 (Prod.snd (Prod.snd t))]])) u))))
theorem HeapRoom.l0.hct (v0 : Int) (v1 : Int) (v4 : Bool) (m0_0 : Int) (x : Int × List (List AVal) × Int ⊕ Int × List (List AVal) × Int) : (HeapRoom.l0.ct v0 v1 v4 m0_0 x).eval = some (HeapRoom.l0.lc v0 v1 v4 m0_0 x) := by rcases x with x | x <;> rfl
def HeapRoom.l0.g (n : Nat) : AFrame → Mem → CT (AExit × AFrame × Mem) := fun fr m => .ite (chkF HeapRoom.l0.T fr m) (.opt (HeapRoom.l0 n (getI (tget fr.tmps 0)) (getI (tget fr.tmps 1)) (getB (tget fr.tmps 4)) (getI (tget (cellsO (oAt m 0)) 0)) n (getI (tget fr.tmps 7)) (getSl (tget (cellsO (oAt m 0)) 1)) (getI (tget (cellsO (oAt m 0)) 2))) (HeapRoom.l0.ct (getI (tget fr.tmps 0)) (getI (tget fr.tmps 1)) (getB (tget fr.tmps 4)) (getI (tget (cellsO (oAt m 0)) 0)))) .fail
set_option maxRecDepth 100000 in
theorem HeapRoom.l0.tree (n : Nat) (j : Nat) (fr : AFrame) (m : Mem) : exec env (ora (HeapRoom.N n) noLoops) 4 (loopAt Try.f4 0) (bldF HeapRoom.l0.T fr) (bldOs HeapRoom.l0.T.mem 0 m) (loopK env 4 (some 6) (loopC HeapRoom.l0.T fun fr m => HeapRoom.l0.k n (getI (tget fr.tmps 0)) (getI (tget fr.tmps 1)) (getB (tget fr.tmps 4)) (getI (tget (cellsO (oAt m 0)) 0)) (fun x => some (HeapRoom.l0.lc (getI (tget fr.tmps 0)) (getI (tget fr.tmps 1)) (getB (tget fr.tmps 4)) (getI (tget (cellsO (oAt m 0)) 0)) x)) j (getI (tget fr.tmps 7)) (getSl (tget (cellsO (oAt m 0)) 1)) (getI (tget (cellsO (oAt m 0)) 2)))) = HeapRoom.l0.k n (getI (tget fr.tmps 0)) (getI (tget fr.tmps 1)) (getB (tget fr.tmps 4)) (getI (tget (cellsO (oAt m 0)) 0)) (fun x => some (HeapRoom.l0.lc (getI (tget fr.tmps 0)) (getI (tget fr.tmps 1)) (getB (tget fr.tmps 4)) (getI (tget (cellsO (oAt m 0)) 0)) x)) (Nat.succ j) (getI (tget fr.tmps 7)) (getSl (tget (cellsO (oAt m 0)) 1)) (getI (tget (cellsO (oAt m 0)) 2)) := by kernel_rfl
theorem HeapRoom.l0.ok (B : Nat) (n : Nat) : LoopNat env prog B (loopAt Try.f4 0) (HeapRoom.l0.g n) :=
  loopnat_of setting (HeapRoom.N_ok B n) noLoops_ok (inF_at (F := 4) (fn := Try.f4) (n := 0) (by kernel_rfl) (by kernel_rfl)) (T := HeapRoom.l0.T) (C := fun j fr m => HeapRoom.l0.k n (getI (tget fr.tmps 0)) (getI (tget fr.tmps 1)) (getB (tget fr.tmps 4)) (getI (tget (cellsO (oAt m 0)) 0)) (fun x => some (HeapRoom.l0.lc (getI (tget fr.tmps 0)) (getI (tget fr.tmps 1)) (getB (tget fr.tmps 4)) (getI (tget (cellsO (oAt m 0)) 0)) x)) j (getI (tget fr.tmps 7)) (getSl (tget (cellsO (oAt m 0)) 1)) (getI (tget (cellsO (oAt m 0)) 2))) (fun _ _ => rfl) (fun j fr m => HeapRoom.l0.tree n j fr m) n (fun fr m r h => by
    rw [HeapRoom.l0.nat]
    exact opt_hL (HeapRoom.l0.hct (getI (tget fr.tmps 0)) (getI (tget fr.tmps 1)) (getB (tget fr.tmps 4)) (getI (tget (cellsO (oAt m 0)) 0))) h)
noncomputable def HeapRoom.L (n : Nat) : LNats := (addL 4 6 (HeapRoom.l0.g n) noLoops)
theorem HeapRoom.L_ok (B : Nat) (n : Nat) : LoopsOk env prog B (HeapRoom.L n) := (addL_at (fn := Try.f4) (n := 0) (by kernel_rfl) (by kernel_rfl) (HeapRoom.l0.ok B n) noLoops_ok)
def HeapRoom.k {X : Type} (n : Nat) (a0 : Int) (a1 : Int) (ret : Bool → Option X) : Option X :=
  bif decide (a1 < (0 : Int)) then ret true else bif decide (a1 > (100 : Int)) then ret true else optK (heap_New0 a0) fun b => optK (HeapRoom.l0 n a0 a1 false (if a0 > (0 : Int) then a0 else (0 : Int)) n (0 : Int) [] (0 : Int)) fun b => sumK b (fun b => ret false) fun b => bif decide (a0 < a1) then bif decide (a0 < (0 : Int)) then optK (heap_Get0 (0 : Int) (if a0 > (0 : Int) then a0 else (0 : Int)) (Prod.snd b).1 (Prod.snd (Prod.snd b))) fun b_1 => optK (heap_Len0 (if a0 > (0 : Int) then a0 else (0 : Int)) (Prod.snd b).1 (Prod.snd b).2) fun b_2 => bif (↑(List.length (Prod.snd b).1) : Int) == (0 : Int) then ret !Prod.snd (Prod.snd (Prod.snd (Prod.snd (Prod.snd (Prod.snd (Prod.snd (Prod.snd (Prod.snd (Prod.snd (Prod.snd (Prod.snd (Prod.snd (Prod.snd (Prod.snd (Prod.snd (Prod.snd (Prod.snd (Prod.snd (Prod.snd (Prod.snd (Prod.snd b_1))))))))))))))))))))) else ret false else optK (heap_Get0 a0 (if a0 > (0 : Int) then a0 else (0 : Int)) (Prod.snd b).1 (Prod.snd (Prod.snd b))) fun b_1 => optK (heap_Len0 (if a0 > (0 : Int) then a0 else (0 : Int)) (Prod.snd b).1 (Prod.snd b).2) fun b_2 => bif (↑(List.length (Prod.snd b).1) : Int) == a0 then ret !Prod.snd (Prod.snd (Prod.snd (Prod.snd (Prod.snd (Prod.snd (Prod.snd (Prod.snd (Prod.snd (Prod.snd (Prod.snd (Prod.snd (Prod.snd (Prod.snd (Prod.snd (Prod.snd (Prod.snd (Prod.snd (Prod.snd (Prod.snd (Prod.snd (Prod.snd b_1))))))))))))))))))))) else ret false else bif decide (a1 < (0 : Int)) then optK (heap_Get0 (0 : Int) (if a0 > (0 : Int) then a0 else (0 : Int)) (Prod.snd b).1 (Prod.snd (Prod.snd b))) fun b_1 => optK (heap_Len0 (if a0 > (0 : Int) then a0 else (0 : Int)) (Prod.snd b).1 (Prod.snd b).2) fun b_2 => bif (↑(List.length (Prod.snd b).1) : Int) == (0 : Int) then ret !Prod.snd (Prod.snd (Prod.snd (Prod.snd (Prod.snd (Prod.snd (Prod.snd (Prod.snd (Prod.snd (Prod.snd (Prod.snd (Prod.snd (Prod.snd (Prod.snd (Prod.snd (Prod.snd (Prod.snd (Prod.snd (Prod.snd (Prod.snd (Prod.snd (Prod.snd b_1))))))))))))))))))))) else ret false else optK (heap_Get0 a1 (if a0 > (0 : Int) then a0 else (0 : Int)) (Prod.snd b).1 (Prod.snd (Prod.snd b))) fun b_1 => optK (heap_Len0 (if a0 > (0 : Int) then a0 else (0 : Int)) (Prod.snd b).1 (Prod.snd b).2) fun b_2 => bif (↑(List.length (Prod.snd b).1) : Int) == a1 then ret !Prod.snd (Prod.snd (Prod.snd (Prod.snd (Prod.snd (Prod.snd (Prod.snd (Prod.snd (Prod.snd (Prod.snd (Prod.snd (Prod.snd (Prod.snd (Prod.snd (Prod.snd (Prod.snd (Prod.snd (Prod.snd (Prod.snd (Prod.snd (Prod.snd (Prod.snd b_1))))))))))))))))))))) else ret false
def HeapRoom (n : Nat) (a0 : Int) (a1 : Int) : Option (Bool) := HeapRoom.k n a0 a1 some
theorem HeapRoom.nat {X : Type} (n : Nat) (a0 : Int) (a1 : Int) (ret : Bool → Option X) : HeapRoom.k n a0 a1 ret = optK (HeapRoom n a0 a1) ret := by
  first | rfl | simp only [HeapRoom, HeapRoom.k, optK_cond, optK_ite, optK_assoc, optK_sum, optK_some, optK_none]
def HeapRoom.om (a0 : Int) (a1 : Int) (x : Bool) : Out × Mem := (let t := x; (Out.ret (AVal.bool t), []))
def HeapRoom.ct (a0 : Int) (a1 : Int) (rest : Mem) (x : Bool) : CT (Out × Mem) := (CT.done ((fun t => (Out.ret (AVal.bool t), ([] : Mem) ++ rest)) x))
theorem HeapRoom.hct (a0 : Int) (a1 : Int) (rest : Mem) (x : Bool) : (HeapRoom.ct a0 a1 rest x).eval = some ((HeapRoom.om a0 a1 x).1, (HeapRoom.om a0 a1 x).2 ++ rest) := rfl
theorem HeapRoom.hlen (a0 : Int) (a1 : Int) (x : Bool) : (HeapRoom.om a0 a1 x).2.length = (HeapRoom.sm).length := rfl
set_option maxRecDepth 100000 in
theorem HeapRoom.tree (n : Nat) (args : List AVal) (m : Mem) : execFunc env (ora (HeapRoom.N n) (HeapRoom.L n)) 4 (bldArgs HeapRoom.sa 0 args) (bldOs HeapRoom.sm 0 m) = HeapRoom.k n (getI (tget args 0)) (getI (tget args 1)) (fun x => some (HeapRoom.om (getI (tget args 0)) (getI (tget args 1)) x)) := by kernel_rfl
def HeapRoom.g (n : Nat) : List AVal → Mem → CT (Out × Mem) := shapeG HeapRoom.sa HeapRoom.sm fun args m => .opt (HeapRoom n (getI (tget args 0)) (getI (tget args 1))) (HeapRoom.ct (getI (tget args 0)) (getI (tget args 1)) (m.drop HeapRoom.sm.length))
theorem HeapRoom.ok (B : Nat) (n : Nat) : NatOk env prog B 4 (HeapRoom.g n) :=
  nat_of setting (dfrs B) (HeapRoom.N_ok B n) (HeapRoom.L_ok B n) rfl (fun args m => HeapRoom.tree n args m) (fun args m out m' h => by
    rw [HeapRoom.nat]
    exact opt_hG (oc := fun x => (HeapRoom.om (getI (tget args 0)) (getI (tget args 1)) x).1) (mt := fun x => (HeapRoom.om (getI (tget args 0)) (getI (tget args 1)) x).2) (HeapRoom.hct (getI (tget args 0)) (getI (tget args 1)) (m.drop HeapRoom.sm.length)) (HeapRoom.hlen (getI (tget args 0)) (getI (tget args 1))) h)
end Go.Proofs.Ytlklpdifcpjlpaa.H
