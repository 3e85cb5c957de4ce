/- The functions that read numbers, printed. -/
import Derived.Test.YtjlhnnphfdjmdaaDoorEAF0
import Derived.Test.YtjlhnnphfdjmdaaDoorEA3
import Derived.KernelRfl
namespace Go.Proofs.YtjlhnnphfdjmdaaDoor.C
open Go.Abs
set_option maxRecDepth 100000
set_option linter.unusedVariables false
set_option linter.unusedSimpArgs false
noncomputable def lib_Itoa.g : List AVal → Mem → CT (Out × Mem) := L0.lib_Itoa.g
theorem lib_Itoa.ok (B : Nat) : NatOk env prog B 55 (lib_Itoa.g) := more B (L0.lib_Itoa.ok B)
noncomputable def numbers_Text.g : List AVal → Mem → CT (Out × Mem) := L0.numbers_Text.g
theorem numbers_Text.ok (B : Nat) : NatOk env prog B 77 (numbers_Text.g) := more B (L0.numbers_Text.ok B)
noncomputable def numbers_Safe.g : List AVal → Mem → CT (Out × Mem) := L0.numbers_Safe.g
theorem numbers_Safe.ok (B : Nat) : NatOk env prog B 47 (numbers_Safe.g) := more B (L0.numbers_Safe.ok B)
noncomputable def ref1_Dec.g (n : Nat) : List AVal → Mem → CT (Out × Mem) := L0.ref1_Dec.g n
theorem ref1_Dec.ok (B : Nat) (n : Nat) : NatOk env prog B 35 (ref1_Dec.g n) := more B (L0.ref1_Dec.ok B n)
def numbers_Read.sa : List ASh := [.c (.str)]
def numbers_Read.sm : List OSh := []
noncomputable def numbers_Read.N : CNats := (addN 54 (lib_Atoi.g) (addN 47 (numbers_Safe.g) (addN 77 (numbers_Text.g) noCalls)))
theorem numbers_Read.N_ok (B : Nat) : NatsOk env prog B (numbers_Read.N) := addN_ok (lib_Atoi.ok B) (addN_ok (numbers_Safe.ok B) (addN_ok (numbers_Text.ok B) (noCalls_ok)))
noncomputable def numbers_Read.L : LNats := noLoops
theorem numbers_Read.L_ok (B : Nat) : LoopsOk env prog B (numbers_Read.L) := noLoops_ok
def numbers_Read.k {X : Type} (a0 : List UInt8) (ret : Int × Bool → Option X) : Option X :=
  bif decide (List.length a0 ≤ (1000000 : Nat)) then bif false == atoiOk a0 then ret ((0 : Int), false) else optK (L0.numbers_Safe (atoiV a0)) fun b => bif !b then ret ((0 : Int), false) else optK (L0.numbers_Text (atoiV a0)) fun b => bif !Lib.itoa (atoiV a0) == a0 then ret ((0 : Int), false) else ret (atoiV a0, true) else none
def numbers_Read (a0 : List UInt8) : Option (Int × Bool) := numbers_Read.k a0 some
theorem numbers_Read.nat {X : Type} (a0 : List UInt8) (ret : Int × Bool → Option X) : numbers_Read.k a0 ret = optK (numbers_Read a0) ret := by
  first | rfl | simp only [numbers_Read, numbers_Read.k, optK_cond, optK_ite, optK_assoc, optK_sum, optK_some, optK_none]
def numbers_Read.om (a0 : List UInt8) (x : Int × Bool) : Out × Mem := (let t := x; (Out.ret (AVal.tup [AVal.int IntKind.i64 (Prod.fst t), AVal.bool (Prod.snd t)]), []))
def numbers_Read.ct (a0 : List UInt8) (rest : Mem) (x : Int × Bool) : CT (Out × Mem) := (CT.done ((fun t => (Out.ret (AVal.tup [AVal.int IntKind.i64 (Prod.fst t), AVal.bool (Prod.snd t)]), ([] : Mem) ++ rest)) x))
theorem numbers_Read.hct (a0 : List UInt8) (rest : Mem) (x : Int × Bool) : (numbers_Read.ct a0 rest x).eval = some ((numbers_Read.om a0 x).1, (numbers_Read.om a0 x).2 ++ rest) := rfl
theorem numbers_Read.hlen (a0 : List UInt8) (x : Int × Bool) : (numbers_Read.om a0 x).2.length = (numbers_Read.sm).length := rfl
set_option maxRecDepth 100000 in
theorem numbers_Read.tree (args : List AVal) (m : Mem) : execFunc env (ora (numbers_Read.N) (numbers_Read.L)) 51 (bldArgs numbers_Read.sa 0 args) (bldOs numbers_Read.sm 0 m) = numbers_Read.k (getS (tget args 0)) (fun x => some (numbers_Read.om (getS (tget args 0)) x)) := by kernel_rfl
def numbers_Read.g : List AVal → Mem → CT (Out × Mem) := shapeG numbers_Read.sa numbers_Read.sm fun args m => .opt (numbers_Read (getS (tget args 0))) (numbers_Read.ct (getS (tget args 0)) (m.drop numbers_Read.sm.length))
theorem numbers_Read.ok (B : Nat) : NatOk env prog B 51 (numbers_Read.g) :=
  nat_of setting (dfrs B) (numbers_Read.N_ok B) (numbers_Read.L_ok B) rfl (fun args m => numbers_Read.tree args m) (fun args m out m' h => by
    rw [numbers_Read.nat]
    exact opt_hG (oc := fun x => (numbers_Read.om (getS (tget args 0)) x).1) (mt := fun x => (numbers_Read.om (getS (tget args 0)) x).2) (numbers_Read.hct (getS (tget args 0)) (m.drop numbers_Read.sm.length)) (numbers_Read.hlen (getS (tget args 0))) h)
def values_Number.sa : List ASh := [.agg [.int .i64, .int .i64, .str]]
def values_Number.sm : List OSh := []
noncomputable def values_Number.N : CNats := (addN 51 (numbers_Read.g) noCalls)
theorem values_Number.N_ok (B : Nat) : NatsOk env prog B (values_Number.N) := addN_ok (numbers_Read.ok B) (noCalls_ok)
noncomputable def values_Number.L : LNats := noLoops
theorem values_Number.L_ok (B : Nat) : LoopsOk env prog B (values_Number.L) := noLoops_ok
def values_Number.k {X : Type} (a0_0 : Int) (a0_1 : Int) (a0_2 : List UInt8) (ret : Int × Bool → Option X) : Option X :=
  bif a0_0 == (3 : Int) then bif a0_0 == (3 : Int) then ret (a0_1, true) else bif a0_0 == (1 : Int) then ret ((0 : Int), true) else bif a0_0 == (4 : Int) then bif a0_2 == Array.toList #[] then ret ((0 : Int), true) else optK (numbers_Read a0_2) fun b => ret (Prod.fst b, Prod.snd b) else ret ((0 : Int), false) else bif a0_0 == (2 : Int) then ret (a0_1, true) else bif a0_0 == (1 : Int) then ret ((0 : Int), true) else bif a0_0 == (4 : Int) then bif a0_2 == Array.toList #[] then ret ((0 : Int), true) else optK (numbers_Read a0_2) fun b => ret (Prod.fst b, Prod.snd b) else ret ((0 : Int), false)
def values_Number (a0_0 : Int) (a0_1 : Int) (a0_2 : List UInt8) : Option (Int × Bool) := values_Number.k a0_0 a0_1 a0_2 some
theorem values_Number.nat {X : Type} (a0_0 : Int) (a0_1 : Int) (a0_2 : List UInt8) (ret : Int × Bool → Option X) : values_Number.k a0_0 a0_1 a0_2 ret = optK (values_Number a0_0 a0_1 a0_2) ret := by
  first | rfl | simp only [values_Number, values_Number.k, optK_cond, optK_ite, optK_assoc, optK_sum, optK_some, optK_none]
def values_Number.om (a0_0 : Int) (a0_1 : Int) (a0_2 : List UInt8) (x : Int × Bool) : Out × Mem := (let t := x; (Out.ret (AVal.tup [AVal.int IntKind.i64 (Prod.fst t), AVal.bool (Prod.snd t)]), []))
def values_Number.ct (a0_0 : Int) (a0_1 : Int) (a0_2 : List UInt8) (rest : Mem) (x : Int × Bool) : CT (Out × Mem) := (CT.done ((fun t => (Out.ret (AVal.tup [AVal.int IntKind.i64 (Prod.fst t), AVal.bool (Prod.snd t)]), ([] : Mem) ++ rest)) x))
theorem values_Number.hct (a0_0 : Int) (a0_1 : Int) (a0_2 : List UInt8) (rest : Mem) (x : Int × Bool) : (values_Number.ct a0_0 a0_1 a0_2 rest x).eval = some ((values_Number.om a0_0 a0_1 a0_2 x).1, (values_Number.om a0_0 a0_1 a0_2 x).2 ++ rest) := rfl
theorem values_Number.hlen (a0_0 : Int) (a0_1 : Int) (a0_2 : List UInt8) (x : Int × Bool) : (values_Number.om a0_0 a0_1 a0_2 x).2.length = (values_Number.sm).length := rfl
set_option maxRecDepth 100000 in
theorem values_Number.tree (args : List AVal) (m : Mem) : execFunc env (ora (values_Number.N) (values_Number.L)) 24 (bldArgs values_Number.sa 0 args) (bldOs values_Number.sm 0 m) = values_Number.k (getI (tget (aggC (tget args 0)) 0)) (getI (tget (aggC (tget args 0)) 1)) (getS (tget (aggC (tget args 0)) 2)) (fun x => some (values_Number.om (getI (tget (aggC (tget args 0)) 0)) (getI (tget (aggC (tget args 0)) 1)) (getS (tget (aggC (tget args 0)) 2)) x)) := by kernel_rfl
def values_Number.g : List AVal → Mem → CT (Out × Mem) := shapeG values_Number.sa values_Number.sm fun args m => .opt (values_Number (getI (tget (aggC (tget args 0)) 0)) (getI (tget (aggC (tget args 0)) 1)) (getS (tget (aggC (tget args 0)) 2))) (values_Number.ct (getI (tget (aggC (tget args 0)) 0)) (getI (tget (aggC (tget args 0)) 1)) (getS (tget (aggC (tget args 0)) 2)) (m.drop values_Number.sm.length))
theorem values_Number.ok (B : Nat) : NatOk env prog B 24 (values_Number.g) :=
  nat_of setting (dfrs B) (values_Number.N_ok B) (values_Number.L_ok B) rfl (fun args m => values_Number.tree args m) (fun args m out m' h => by
    rw [values_Number.nat]
    exact opt_hG (oc := fun x => (values_Number.om (getI (tget (aggC (tget args 0)) 0)) (getI (tget (aggC (tget args 0)) 1)) (getS (tget (aggC (tget args 0)) 2)) x).1) (mt := fun x => (values_Number.om (getI (tget (aggC (tget args 0)) 0)) (getI (tget (aggC (tget args 0)) 1)) (getS (tget (aggC (tget args 0)) 2)) x).2) (values_Number.hct (getI (tget (aggC (tget args 0)) 0)) (getI (tget (aggC (tget args 0)) 1)) (getS (tget (aggC (tget args 0)) 2)) (m.drop values_Number.sm.length)) (values_Number.hlen (getI (tget (aggC (tget args 0)) 0)) (getI (tget (aggC (tget args 0)) 1)) (getS (tget (aggC (tget args 0)) 2))) h)
def keys_Index.sa : List ASh := [.agg [.str, .int .i64]]
def keys_Index.sm : List OSh := []
noncomputable def keys_Index.N : CNats := (addN 54 (lib_Atoi.g) (addN 55 (lib_Itoa.g) noCalls))
theorem keys_Index.N_ok (B : Nat) : NatsOk env prog B (keys_Index.N) := addN_ok (lib_Atoi.ok B) (addN_ok (lib_Itoa.ok B) (noCalls_ok))
noncomputable def keys_Index.L : LNats := noLoops
theorem keys_Index.L_ok (B : Nat) : LoopsOk env prog B (keys_Index.L) := noLoops_ok
def keys_Index.k {X : Type} (a0_0 : List UInt8) (a0_1 : Int) (ret : Int × Bool → Option X) : Option X :=
  bif decide (List.length a0_0 ≤ (1000000 : Nat)) then bif a0_1 != (0 : Int) then ret ((0 : Int), false) else bif false == atoiOk a0_0 then ret ((0 : Int), false) else bif decide (atoiV a0_0 < (0 : Int)) then ret ((0 : Int), false) else bif decide (atoiV a0_0 > (4294967294 : Int)) then ret ((0 : Int), false) else bif isI64 (atoiV a0_0) then bif !Lib.itoa (atoiV a0_0) == a0_0 then ret ((0 : Int), false) else ret (atoiV a0_0, true) else none else none
def keys_Index (a0_0 : List UInt8) (a0_1 : Int) : Option (Int × Bool) := keys_Index.k a0_0 a0_1 some
theorem keys_Index.nat {X : Type} (a0_0 : List UInt8) (a0_1 : Int) (ret : Int × Bool → Option X) : keys_Index.k a0_0 a0_1 ret = optK (keys_Index a0_0 a0_1) ret := by
  first | rfl | simp only [keys_Index, keys_Index.k, optK_cond, optK_ite, optK_assoc, optK_sum, optK_some, optK_none]
def keys_Index.om (a0_0 : List UInt8) (a0_1 : Int) (x : Int × Bool) : Out × Mem := (let t := x; (Out.ret (AVal.tup [AVal.int IntKind.i64 (Prod.fst t), AVal.bool (Prod.snd t)]), []))
def keys_Index.ct (a0_0 : List UInt8) (a0_1 : Int) (rest : Mem) (x : Int × Bool) : CT (Out × Mem) := (CT.done ((fun t => (Out.ret (AVal.tup [AVal.int IntKind.i64 (Prod.fst t), AVal.bool (Prod.snd t)]), ([] : Mem) ++ rest)) x))
theorem keys_Index.hct (a0_0 : List UInt8) (a0_1 : Int) (rest : Mem) (x : Int × Bool) : (keys_Index.ct a0_0 a0_1 rest x).eval = some ((keys_Index.om a0_0 a0_1 x).1, (keys_Index.om a0_0 a0_1 x).2 ++ rest) := rfl
theorem keys_Index.hlen (a0_0 : List UInt8) (a0_1 : Int) (x : Int × Bool) : (keys_Index.om a0_0 a0_1 x).2.length = (keys_Index.sm).length := rfl
set_option maxRecDepth 100000 in
theorem keys_Index.tree (args : List AVal) (m : Mem) : execFunc env (ora (keys_Index.N) (keys_Index.L)) 33 (bldArgs keys_Index.sa 0 args) (bldOs keys_Index.sm 0 m) = keys_Index.k (getS (tget (aggC (tget args 0)) 0)) (getI (tget (aggC (tget args 0)) 1)) (fun x => some (keys_Index.om (getS (tget (aggC (tget args 0)) 0)) (getI (tget (aggC (tget args 0)) 1)) x)) := by kernel_rfl
def keys_Index.g : List AVal → Mem → CT (Out × Mem) := shapeG keys_Index.sa keys_Index.sm fun args m => .opt (keys_Index (getS (tget (aggC (tget args 0)) 0)) (getI (tget (aggC (tget args 0)) 1))) (keys_Index.ct (getS (tget (aggC (tget args 0)) 0)) (getI (tget (aggC (tget args 0)) 1)) (m.drop keys_Index.sm.length))
theorem keys_Index.ok (B : Nat) : NatOk env prog B 33 (keys_Index.g) :=
  nat_of setting (dfrs B) (keys_Index.N_ok B) (keys_Index.L_ok B) rfl (fun args m => keys_Index.tree args m) (fun args m out m' h => by
    rw [keys_Index.nat]
    exact opt_hG (oc := fun x => (keys_Index.om (getS (tget (aggC (tget args 0)) 0)) (getI (tget (aggC (tget args 0)) 1)) x).1) (mt := fun x => (keys_Index.om (getS (tget (aggC (tget args 0)) 0)) (getI (tget (aggC (tget args 0)) 1)) x).2) (keys_Index.hct (getS (tget (aggC (tget args 0)) 0)) (getI (tget (aggC (tget args 0)) 1)) (m.drop keys_Index.sm.length)) (keys_Index.hlen (getS (tget (aggC (tget args 0)) 0)) (getI (tget (aggC (tget args 0)) 1))) h)
noncomputable def arrays_stop.N (n : Nat) : CNats := (addN 33 (keys_Index.g) noCalls)
theorem arrays_stop.N_ok (B : Nat) (n : Nat) : NatsOk env prog B (arrays_stop.N n) := addN_ok (keys_Index.ok B) (noCalls_ok)
def arrays_stop.l0.T : FSh := { tmps := [.any, .int IntKind.i64, .any, .any, .int IntKind.i64, .any, .any, .any, .any, .sl (Own.no), .int IntKind.i64, .int IntKind.i64, .any, .any, .any, .any, .any, .any, .any, .any, .any, .any, .any, .any, .any, .any, .any, .any, .any, .any, .any, .any, .any, .any, .any, .any, .any], locs := [], mem := [], defs := [] }
def arrays_stop.l0.s {X : Type} (n : Nat) (v4 : Int) (v9 : List (List AVal)) (v10 : Int) (kx : Int × Int → Option X) (rec_ : Int → Int → Option X) (v1 : Int) (v11 : Int) : Option X :=
  bif decide (v11 < v10) then if (0 : Int) ≤ v11 ∧ v11 < (↑(List.length v9) : Int) then bif Nat.beq (List.length (nthL v9 (Int.toNat v11))) (20 : Nat) then bif Nat.ble (20 : Nat) (List.length (nthL v9 (Int.toNat v11))) && true then bif isS (cellAt (nthL v9 (Int.toNat v11)) (0 : Nat)) then bif isI IntKind.i64 (cellAt (nthL v9 (Int.toNat v11)) (1 : Nat)) then bif isB (cellAt (nthL v9 (Int.toNat v11)) (2 : Nat)) then bif isB (cellAt (nthL v9 (Int.toNat v11)) (3 : Nat)) then bif isB (cellAt (nthL v9 (Int.toNat v11)) (4 : Nat)) then bif isB (cellAt (nthL v9 (Int.toNat v11)) (5 : Nat)) then bif isB (cellAt (nthL v9 (Int.toNat v11)) (6 : Nat)) then bif isB (cellAt (nthL v9 (Int.toNat v11)) (7 : Nat)) then bif isI IntKind.i64 (cellAt (nthL v9 (Int.toNat v11)) (8 : Nat)) then bif isI IntKind.i64 (cellAt (nthL v9 (Int.toNat v11)) (9 : Nat)) then bif isS (cellAt (nthL v9 (Int.toNat v11)) (10 : Nat)) then bif isI IntKind.i64 (cellAt (nthL v9 (Int.toNat v11)) (11 : Nat)) then bif isI IntKind.i64 (cellAt (nthL v9 (Int.toNat v11)) (12 : Nat)) then bif isS (cellAt (nthL v9 (Int.toNat v11)) (13 : Nat)) then bif isI IntKind.i64 (cellAt (nthL v9 (Int.toNat v11)) (14 : Nat)) then bif isI IntKind.i64 (cellAt (nthL v9 (Int.toNat v11)) (15 : Nat)) then bif isS (cellAt (nthL v9 (Int.toNat v11)) (16 : Nat)) then bif isB (cellAt (nthL v9 (Int.toNat v11)) (17 : Nat)) then bif isB (cellAt (nthL v9 (Int.toNat v11)) (18 : Nat)) then bif isB (cellAt (nthL v9 (Int.toNat v11)) (19 : Nat)) then optK (keys_Index (getS (cellAt (nthL v9 (Int.toNat v11)) (0 : Nat))) (getI (cellAt (nthL v9 (Int.toNat v11)) (1 : Nat)))) fun b => bif Prod.snd b then bif decide (Prod.fst b ≥ v1) then bif !getB (cellAt (nthL v9 (Int.toNat v11)) (19 : Nat)) then rec_ (IntKind.wrap IntKind.i64 (Prod.fst b + (1 : Int))) (IntKind.wrap IntKind.i64 (v11 + (1 : Int))) else rec_ v1 (IntKind.wrap IntKind.i64 (v11 + (1 : Int))) else rec_ v1 (IntKind.wrap IntKind.i64 (v11 + (1 : Int))) else rec_ v1 (IntKind.wrap IntKind.i64 (v11 + (1 : Int))) else none else none else none else none else none else none else none else none else none else none else none else none else none else none else none else none else none else none else none else none else none else none else none else kx (v1, v11)
def arrays_stop.l0.k {X : Type} (n : Nat) (v4 : Int) (v9 : List (List AVal)) (v10 : Int) (kx : Int × Int → Option X) (j : Nat) : Int → Int → Option X :=
  Nat.rec (motive := fun _ => Int → Int → Option X) (fun _ _ => none) (fun _ r => fun v1 v11 => arrays_stop.l0.s n v4 v9 v10 kx r v1 v11) j
def arrays_stop.l0 (n : Nat) (v4 : Int) (v9 : List (List AVal)) (v10 : Int) (j : Nat) (v1 : Int) (v11 : Int) : Option (Int × Int) := arrays_stop.l0.k n v4 v9 v10 some j v1 v11
theorem arrays_stop.l0.s_nat {X : Type} (n : Nat) (v4 : Int) (v9 : List (List AVal)) (v10 : Int) (kx : Int × Int → Option X) (r : Int → Int → Option X) (r0 : Int → Int → Option (Int × Int)) (h : ∀ (v1 : Int) (v11 : Int), r v1 v11 = optK (r0 v1 v11) kx) (v1 : Int) (v11 : Int) : arrays_stop.l0.s n v4 v9 v10 kx r v1 v11 = optK (arrays_stop.l0.s n v4 v9 v10 some r0 v1 v11) kx := by
  simp only [arrays_stop.l0.s, optK_cond, optK_ite, optK_assoc, optK_sum, optK_some, optK_none, h]
theorem arrays_stop.l0.nat {X : Type} (n : Nat) (v4 : Int) (v9 : List (List AVal)) (v10 : Int) (kx : Int × Int → Option X) (j : Nat) : ∀ (v1 : Int) (v11 : Int), arrays_stop.l0.k n v4 v9 v10 kx j v1 v11 = optK (arrays_stop.l0 n v4 v9 v10 j v1 v11) kx := by
  induction j with
  | zero => intros; rfl
  | succ j ih => intros; exact arrays_stop.l0.s_nat n v4 v9 v10 kx _ _ ih  _ _
theorem arrays_stop.l0.succ (n : Nat) (v4 : Int) (v9 : List (List AVal)) (v10 : Int) (j : Nat) (v1 : Int) (v11 : Int) : arrays_stop.l0 n v4 v9 v10 (j + 1) v1 v11 = arrays_stop.l0.s n v4 v9 v10 some (arrays_stop.l0 n v4 v9 v10 j) v1 v11 := rfl
def arrays_stop.l0.lc (v4 : Int) (v9 : List (List AVal)) (v10 : Int) (x : Int × Int) : AExit × AFrame × Mem := (let t := x; (AExit.exit (0 : Nat), { tmps := [AVal.any, AVal.int IntKind.i64 (Prod.fst t), AVal.any, AVal.any, AVal.int IntKind.i64 v4, AVal.any, AVal.any, AVal.any, AVal.any, AVal.slice Own.no v9, AVal.int IntKind.i64 v10, AVal.int IntKind.i64 (Prod.snd t), AVal.any, AVal.any, AVal.any, AVal.any, AVal.any, AVal.any, AVal.any, AVal.any, AVal.any, AVal.any, AVal.any, AVal.any, AVal.any, AVal.any, AVal.any, AVal.any, AVal.any, AVal.any, AVal.any, AVal.any, AVal.any, AVal.any, AVal.any, AVal.any, AVal.any], locs := [], defers := [] }, []))
def arrays_stop.l0.ct (v4 : Int) (v9 : List (List AVal)) (v10 : Int) (x : Int × Int) : CT (AExit × AFrame × Mem) := (CT.done ((fun t => (AExit.exit (0 : Nat), { tmps := [AVal.any, AVal.int IntKind.i64 (Prod.fst t), AVal.any, AVal.any, AVal.int IntKind.i64 v4, AVal.any, AVal.any, AVal.any, AVal.any, AVal.slice Own.no v9, AVal.int IntKind.i64 v10, AVal.int IntKind.i64 (Prod.snd t), AVal.any, AVal.any, AVal.any, AVal.any, AVal.any, AVal.any, AVal.any, AVal.any, AVal.any, AVal.any, AVal.any, AVal.any, AVal.any, AVal.any, AVal.any, AVal.any, AVal.any, AVal.any, AVal.any, AVal.any, AVal.any, AVal.any, AVal.any, AVal.any, AVal.any], locs := [], defers := [] }, [])) x))
theorem arrays_stop.l0.hct (v4 : Int) (v9 : List (List AVal)) (v10 : Int) (x : Int × Int) : (arrays_stop.l0.ct v4 v9 v10 x).eval = some (arrays_stop.l0.lc v4 v9 v10 x) := rfl
def arrays_stop.l0.g (n : Nat) : AFrame → Mem → CT (AExit × AFrame × Mem) := fun fr m => .ite (chkF arrays_stop.l0.T fr m) (.opt (arrays_stop.l0 n (getI (tget fr.tmps 4)) (getSl (tget fr.tmps 9)) (getI (tget fr.tmps 10)) n (getI (tget fr.tmps 1)) (getI (tget fr.tmps 11))) (arrays_stop.l0.ct (getI (tget fr.tmps 4)) (getSl (tget fr.tmps 9)) (getI (tget fr.tmps 10)))) .fail
set_option maxRecDepth 100000 in
theorem arrays_stop.l0.tree (n : Nat) (j : Nat) (fr : AFrame) (m : Mem) : exec env (ora (arrays_stop.N n) noLoops) 59 (loopAt Tryd.f59 0) (bldF arrays_stop.l0.T fr) (bldOs arrays_stop.l0.T.mem 0 m) (loopK env 59 (some 2) (loopC arrays_stop.l0.T fun fr m => arrays_stop.l0.k n (getI (tget fr.tmps 4)) (getSl (tget fr.tmps 9)) (getI (tget fr.tmps 10)) (fun x => some (arrays_stop.l0.lc (getI (tget fr.tmps 4)) (getSl (tget fr.tmps 9)) (getI (tget fr.tmps 10)) x)) j (getI (tget fr.tmps 1)) (getI (tget fr.tmps 11)))) = arrays_stop.l0.k n (getI (tget fr.tmps 4)) (getSl (tget fr.tmps 9)) (getI (tget fr.tmps 10)) (fun x => some (arrays_stop.l0.lc (getI (tget fr.tmps 4)) (getSl (tget fr.tmps 9)) (getI (tget fr.tmps 10)) x)) (Nat.succ j) (getI (tget fr.tmps 1)) (getI (tget fr.tmps 11)) := by kernel_rfl
theorem arrays_stop.l0.ok (B : Nat) (n : Nat) : LoopNat env prog B (loopAt Tryd.f59 0) (arrays_stop.l0.g n) :=
  loopnat_of setting (arrays_stop.N_ok B n) noLoops_ok (inF_at (F := 59) (fn := Tryd.f59) (n := 0) (by kernel_rfl) (by kernel_rfl)) (T := arrays_stop.l0.T) (C := fun j fr m => arrays_stop.l0.k n (getI (tget fr.tmps 4)) (getSl (tget fr.tmps 9)) (getI (tget fr.tmps 10)) (fun x => some (arrays_stop.l0.lc (getI (tget fr.tmps 4)) (getSl (tget fr.tmps 9)) (getI (tget fr.tmps 10)) x)) j (getI (tget fr.tmps 1)) (getI (tget fr.tmps 11))) (fun _ _ => rfl) (fun j fr m => arrays_stop.l0.tree n j fr m) n (fun fr m r h => by
    rw [arrays_stop.l0.nat]
    exact opt_hL (arrays_stop.l0.hct (getI (tget fr.tmps 4)) (getSl (tget fr.tmps 9)) (getI (tget fr.tmps 10))) h)
def arrays_stop.k {X : Type} (n : Nat) (a0 : List (List AVal)) (a1 : Int) (ret : Int → Option X) : Option X :=
  optK (arrays_stop.l0 n (0 : Int) a0 (↑(List.length a0) : Int) n a1 (0 : Int)) fun b => ret (Prod.fst b)
def arrays_stop (n : Nat) (a0 : List (List AVal)) (a1 : Int) : Option (Int) := arrays_stop.k n a0 a1 some
end Go.Proofs.YtjlhnnphfdjmdaaDoor.C
