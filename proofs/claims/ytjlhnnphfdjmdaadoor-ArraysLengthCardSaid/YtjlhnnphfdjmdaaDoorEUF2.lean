/- The functions that read numbers, printed. -/
import Derived.Test.YtjlhnnphfdjmdaaDoorEUF0
import Derived.Test.YtjlhnnphfdjmdaaDoorEU3
import Derived.KernelRfl
namespace Go.Proofs.YtjlhnnphfdjmdaaDoor.C
open Go.Abs
set_option maxRecDepth 100000
set_option linter.unusedVariables false
set_option linter.unusedSimpArgs false
noncomputable def lib_Itoa.g : List AVal → Mem → CT (Out × Mem) := L0.lib_Itoa.g
theorem lib_Itoa.ok (B : Nat) : NatOk env prog B 55 (lib_Itoa.g) := more B (L0.lib_Itoa.ok B)
noncomputable def numbers_Text.g : List AVal → Mem → CT (Out × Mem) := L0.numbers_Text.g
theorem numbers_Text.ok (B : Nat) : NatOk env prog B 77 (numbers_Text.g) := more B (L0.numbers_Text.ok B)
noncomputable def numbers_Safe.g : List AVal → Mem → CT (Out × Mem) := L0.numbers_Safe.g
theorem numbers_Safe.ok (B : Nat) : NatOk env prog B 47 (numbers_Safe.g) := more B (L0.numbers_Safe.ok B)
noncomputable def ref1_Index.g (n : Nat) : List AVal → Mem → CT (Out × Mem) := L0.ref1_Index.g n
theorem ref1_Index.ok (B : Nat) (n : Nat) : NatOk env prog B 34 (ref1_Index.g n) := more B (L0.ref1_Index.ok B n)
noncomputable def ref1_Dec.g (n : Nat) : List AVal → Mem → CT (Out × Mem) := L0.ref1_Dec.g n
theorem ref1_Dec.ok (B : Nat) (n : Nat) : NatOk env prog B 35 (ref1_Dec.g n) := more B (L0.ref1_Dec.ok B n)
noncomputable def arrays_Length.g : List AVal → Mem → CT (Out × Mem) := L0.arrays_Length.g
theorem arrays_Length.ok (B : Nat) : NatOk env prog B 38 (arrays_Length.g) := more B (L0.arrays_Length.ok B)
noncomputable def ref1_Length.g : List AVal → Mem → CT (Out × Mem) := L0.ref1_Length.g
theorem ref1_Length.ok (B : Nat) : NatOk env prog B 39 (ref1_Length.g) := more B (L0.ref1_Length.ok B)
def keys_Index.sa : List ASh := [.agg [.str, .int .i64]]
def keys_Index.sm : List OSh := []
noncomputable def keys_Index.N : CNats := (addN 54 (lib_Atoi.g) (addN 55 (lib_Itoa.g) noCalls))
theorem keys_Index.N_ok (B : Nat) : NatsOk env prog B (keys_Index.N) := addN_ok (lib_Atoi.ok B) (addN_ok (lib_Itoa.ok B) (noCalls_ok))
noncomputable def keys_Index.L : LNats := noLoops
theorem keys_Index.L_ok (B : Nat) : LoopsOk env prog B (keys_Index.L) := noLoops_ok
def keys_Index.k {X : Type} (a0_0 : List UInt8) (a0_1 : Int) (ret : Int × Bool → Option X) : Option X :=
  bif decide (List.length a0_0 ≤ (1000000 : Nat)) then bif a0_1 != (0 : Int) then ret ((0 : Int), false) else bif false == atoiOk a0_0 then ret ((0 : Int), false) else bif decide (atoiV a0_0 < (0 : Int)) then ret ((0 : Int), false) else bif decide (atoiV a0_0 > (4294967294 : Int)) then ret ((0 : Int), false) else bif isI64 (atoiV a0_0) then bif !Lib.itoa (atoiV a0_0) == a0_0 then ret ((0 : Int), false) else ret (atoiV a0_0, true) else none else none
def keys_Index (a0_0 : List UInt8) (a0_1 : Int) : Option (Int × Bool) := keys_Index.k a0_0 a0_1 some
theorem keys_Index.nat {X : Type} (a0_0 : List UInt8) (a0_1 : Int) (ret : Int × Bool → Option X) : keys_Index.k a0_0 a0_1 ret = optK (keys_Index a0_0 a0_1) ret := by
  first | rfl | simp only [keys_Index, keys_Index.k, optK_cond, optK_ite, optK_assoc, optK_sum, optK_some, optK_none]
def keys_Index.om (a0_0 : List UInt8) (a0_1 : Int) (x : Int × Bool) : Out × Mem := (let t := x; (Out.ret (AVal.tup [AVal.int IntKind.i64 (Prod.fst t), AVal.bool (Prod.snd t)]), []))
def keys_Index.ct (a0_0 : List UInt8) (a0_1 : Int) (rest : Mem) (x : Int × Bool) : CT (Out × Mem) := (CT.done ((fun t => (Out.ret (AVal.tup [AVal.int IntKind.i64 (Prod.fst t), AVal.bool (Prod.snd t)]), ([] : Mem) ++ rest)) x))
theorem keys_Index.hct (a0_0 : List UInt8) (a0_1 : Int) (rest : Mem) (x : Int × Bool) : (keys_Index.ct a0_0 a0_1 rest x).eval = some ((keys_Index.om a0_0 a0_1 x).1, (keys_Index.om a0_0 a0_1 x).2 ++ rest) := rfl
theorem keys_Index.hlen (a0_0 : List UInt8) (a0_1 : Int) (x : Int × Bool) : (keys_Index.om a0_0 a0_1 x).2.length = (keys_Index.sm).length := rfl
set_option maxRecDepth 100000 in
theorem keys_Index.tree (args : List AVal) (m : Mem) : execFunc env (ora (keys_Index.N) (keys_Index.L)) 33 (bldArgs keys_Index.sa 0 args) (bldOs keys_Index.sm 0 m) = keys_Index.k (getS (tget (aggC (tget args 0)) 0)) (getI (tget (aggC (tget args 0)) 1)) (fun x => some (keys_Index.om (getS (tget (aggC (tget args 0)) 0)) (getI (tget (aggC (tget args 0)) 1)) x)) := by kernel_rfl
def keys_Index.g : List AVal → Mem → CT (Out × Mem) := shapeG keys_Index.sa keys_Index.sm fun args m => .opt (keys_Index (getS (tget (aggC (tget args 0)) 0)) (getI (tget (aggC (tget args 0)) 1))) (keys_Index.ct (getS (tget (aggC (tget args 0)) 0)) (getI (tget (aggC (tget args 0)) 1)) (m.drop keys_Index.sm.length))
theorem keys_Index.ok (B : Nat) : NatOk env prog B 33 (keys_Index.g) :=
  nat_of setting (dfrs B) (keys_Index.N_ok B) (keys_Index.L_ok B) rfl (fun args m => keys_Index.tree args m) (fun args m out m' h => by
    rw [keys_Index.nat]
    exact opt_hG (oc := fun x => (keys_Index.om (getS (tget (aggC (tget args 0)) 0)) (getI (tget (aggC (tget args 0)) 1)) x).1) (mt := fun x => (keys_Index.om (getS (tget (aggC (tget args 0)) 0)) (getI (tget (aggC (tget args 0)) 1)) x).2) (keys_Index.hct (getS (tget (aggC (tget args 0)) 0)) (getI (tget (aggC (tget args 0)) 1)) (m.drop keys_Index.sm.length)) (keys_Index.hlen (getS (tget (aggC (tget args 0)) 0)) (getI (tget (aggC (tget args 0)) 1))) h)
def law3_alive.sa : List ASh := []
def law3_alive.sm : List OSh := []
noncomputable def law3_alive.N : CNats := (addN 33 (keys_Index.g) noCalls)
theorem law3_alive.N_ok (B : Nat) : NatsOk env prog B (law3_alive.N) := addN_ok (keys_Index.ok B) (noCalls_ok)
noncomputable def law3_alive.L : LNats := noLoops
theorem law3_alive.L_ok (B : Nat) : LoopsOk env prog B (law3_alive.L) := noLoops_ok
def law3_alive.k {X : Type} (ret : Bool → Option X) : Option X :=
  optK (keys_Index ([48, 55] : List UInt8) (0 : Int)) fun b => optK (keys_Index [(55 : UInt8)] (0 : Int)) fun b_1 => bif !Prod.snd b then bif Prod.snd b_1 then ret (Prod.fst b_1 == (7 : Int)) else ret false else ret false
def law3_alive : Option (Bool) := law3_alive.k some
theorem law3_alive.nat {X : Type} (ret : Bool → Option X) : law3_alive.k ret = optK (law3_alive) ret := by
  first | rfl | simp only [law3_alive, law3_alive.k, optK_cond, optK_ite, optK_assoc, optK_sum, optK_some, optK_none]
def law3_alive.om (x : Bool) : Out × Mem := (let t := x; (Out.ret (AVal.bool t), []))
def law3_alive.ct (rest : Mem) (x : Bool) : CT (Out × Mem) := (CT.done ((fun t => (Out.ret (AVal.bool t), ([] : Mem) ++ rest)) x))
theorem law3_alive.hct (rest : Mem) (x : Bool) : (law3_alive.ct rest x).eval = some ((law3_alive.om x).1, (law3_alive.om x).2 ++ rest) := rfl
theorem law3_alive.hlen (x : Bool) : (law3_alive.om x).2.length = (law3_alive.sm).length := rfl
set_option maxRecDepth 100000 in
theorem law3_alive.tree (args : List AVal) (m : Mem) : execFunc env (ora (law3_alive.N) (law3_alive.L)) 32 (bldArgs law3_alive.sa 0 args) (bldOs law3_alive.sm 0 m) = law3_alive.k (fun x => some (law3_alive.om x)) := by kernel_rfl
def law3_alive.g : List AVal → Mem → CT (Out × Mem) := shapeG law3_alive.sa law3_alive.sm fun args m => .opt (law3_alive) (law3_alive.ct (m.drop law3_alive.sm.length))
theorem law3_alive.ok (B : Nat) : NatOk env prog B 32 (law3_alive.g) :=
  nat_of setting (dfrs B) (law3_alive.N_ok B) (law3_alive.L_ok B) rfl (fun args m => law3_alive.tree args m) (fun args m out m' h => by
    rw [law3_alive.nat]
    exact opt_hG (oc := fun x => (law3_alive.om x).1) (mt := fun x => (law3_alive.om x).2) (law3_alive.hct (m.drop law3_alive.sm.length)) (law3_alive.hlen) h)
def KeysIndex.sa : List ASh := [.c (.str), .c (.int .i64), .c (.int .i64)]
def KeysIndex.sm : List OSh := []
noncomputable def KeysIndex.N (n : Nat) : CNats := (addN 32 (law3_alive.g) (addN 33 (keys_Index.g) (addN 34 (ref1_Index.g n) (addN 35 (ref1_Dec.g n) noCalls))))
theorem KeysIndex.N_ok (B : Nat) (n : Nat) : NatsOk env prog B (KeysIndex.N n) := addN_ok (law3_alive.ok B) (addN_ok (keys_Index.ok B) (addN_ok (ref1_Index.ok B n) (addN_ok (ref1_Dec.ok B n) (noCalls_ok))))
noncomputable def KeysIndex.L (n : Nat) : LNats := noLoops
theorem KeysIndex.L_ok (B : Nat) (n : Nat) : LoopsOk env prog B (KeysIndex.L n) := noLoops_ok
def KeysIndex.k {X : Type} (n : Nat) (a0 : List UInt8) (a1 : Int) (a2 : Int) (ret : Bool → Option X) : Option X :=
  optK law3_alive fun b => bif !b then ret b else bif decide ((↑(List.length a0) : Int) > (100 : Int)) then ret b else optK (keys_Index a0 a1) fun b => optK (L0.ref1_Index n a0 a1) fun b_1 => bif Prod.fst b != Prod.fst b_1 then ret false else bif false == (Prod.snd b == Prod.snd b_1) then ret false else bif decide (a2 < (0 : Int)) then ret true else optK (L0.ref1_Dec n a2) fun b => optK (keys_Index b (0 : Int)) fun b => bif true == (Prod.snd b == decide (a2 ≤ (4294967294 : Int))) then bif !Prod.snd b then ret true else ret (Prod.fst b == a2) else ret false
def KeysIndex (n : Nat) (a0 : List UInt8) (a1 : Int) (a2 : Int) : Option (Bool) := KeysIndex.k n a0 a1 a2 some
theorem KeysIndex.nat {X : Type} (n : Nat) (a0 : List UInt8) (a1 : Int) (a2 : Int) (ret : Bool → Option X) : KeysIndex.k n a0 a1 a2 ret = optK (KeysIndex n a0 a1 a2) ret := by
  first | rfl | simp only [KeysIndex, KeysIndex.k, optK_cond, optK_ite, optK_assoc, optK_sum, optK_some, optK_none]
def KeysIndex.om (a0 : List UInt8) (a1 : Int) (a2 : Int) (x : Bool) : Out × Mem := (let t := x; (Out.ret (AVal.bool t), []))
def KeysIndex.ct (a0 : List UInt8) (a1 : Int) (a2 : Int) (rest : Mem) (x : Bool) : CT (Out × Mem) := (CT.done ((fun t => (Out.ret (AVal.bool t), ([] : Mem) ++ rest)) x))
theorem KeysIndex.hct (a0 : List UInt8) (a1 : Int) (a2 : Int) (rest : Mem) (x : Bool) : (KeysIndex.ct a0 a1 a2 rest x).eval = some ((KeysIndex.om a0 a1 a2 x).1, (KeysIndex.om a0 a1 a2 x).2 ++ rest) := rfl
theorem KeysIndex.hlen (a0 : List UInt8) (a1 : Int) (a2 : Int) (x : Bool) : (KeysIndex.om a0 a1 a2 x).2.length = (KeysIndex.sm).length := rfl
set_option maxRecDepth 100000 in
theorem KeysIndex.tree (n : Nat) (args : List AVal) (m : Mem) : execFunc env (ora (KeysIndex.N n) (KeysIndex.L n)) 8 (bldArgs KeysIndex.sa 0 args) (bldOs KeysIndex.sm 0 m) = KeysIndex.k n (getS (tget args 0)) (getI (tget args 1)) (getI (tget args 2)) (fun x => some (KeysIndex.om (getS (tget args 0)) (getI (tget args 1)) (getI (tget args 2)) x)) := by kernel_rfl
def KeysIndex.g (n : Nat) : List AVal → Mem → CT (Out × Mem) := shapeG KeysIndex.sa KeysIndex.sm fun args m => .opt (KeysIndex n (getS (tget args 0)) (getI (tget args 1)) (getI (tget args 2))) (KeysIndex.ct (getS (tget args 0)) (getI (tget args 1)) (getI (tget args 2)) (m.drop KeysIndex.sm.length))
theorem KeysIndex.ok (B : Nat) (n : Nat) : NatOk env prog B 8 (KeysIndex.g n) :=
  nat_of setting (dfrs B) (KeysIndex.N_ok B n) (KeysIndex.L_ok B n) rfl (fun args m => KeysIndex.tree n args m) (fun args m out m' h => by
    rw [KeysIndex.nat]
    exact opt_hG (oc := fun x => (KeysIndex.om (getS (tget args 0)) (getI (tget args 1)) (getI (tget args 2)) x).1) (mt := fun x => (KeysIndex.om (getS (tget args 0)) (getI (tget args 1)) (getI (tget args 2)) x).2) (KeysIndex.hct (getS (tget args 0)) (getI (tget args 1)) (getI (tget args 2)) (m.drop KeysIndex.sm.length)) (KeysIndex.hlen (getS (tget args 0)) (getI (tget args 1)) (getI (tget args 2))) h)
noncomputable def arrays_stop.N (n : Nat) : CNats := (addN 33 (keys_Index.g) noCalls)
theorem arrays_stop.N_ok (B : Nat) (n : Nat) : NatsOk env prog B (arrays_stop.N n) := addN_ok (keys_Index.ok B) (noCalls_ok)
def arrays_stop.l0.T : FSh := { tmps := [.any, .int IntKind.i64, .any, .any, .int IntKind.i64, .any, .any, .any, .any, .sl (Own.no), .int IntKind.i64, .int IntKind.i64, .any, .any, .any, .any, .any, .any, .any, .any, .any, .any, .any, .any, .any, .any, .any, .any, .any, .any, .any, .any, .any, .any, .any, .any, .any], locs := [], mem := [], defs := [] }
def arrays_stop.l0.s {X : Type} (n : Nat) (v4 : Int) (v9 : List (List AVal)) (v10 : Int) (kx : Int × Int → Option X) (rec_ : Int → Int → Option X) (v1 : Int) (v11 : Int) : Option X :=
  bif decide (v11 < v10) then if (0 : Int) ≤ v11 ∧ v11 < (↑(List.length v9) : Int) then bif Nat.beq (List.length (nthL v9 (Int.toNat v11))) (20 : Nat) then bif Nat.ble (20 : Nat) (List.length (nthL v9 (Int.toNat v11))) && true then bif isS (cellAt (nthL v9 (Int.toNat v11)) (0 : Nat)) then bif isI IntKind.i64 (cellAt (nthL v9 (Int.toNat v11)) (1 : Nat)) then bif isB (cellAt (nthL v9 (Int.toNat v11)) (2 : Nat)) then bif isB (cellAt (nthL v9 (Int.toNat v11)) (3 : Nat)) then bif isB (cellAt (nthL v9 (Int.toNat v11)) (4 : Nat)) then bif isB (cellAt (nthL v9 (Int.toNat v11)) (5 : Nat)) then bif isB (cellAt (nthL v9 (Int.toNat v11)) (6 : Nat)) then bif isB (cellAt (nthL v9 (Int.toNat v11)) (7 : Nat)) then bif isI IntKind.i64 (cellAt (nthL v9 (Int.toNat v11)) (8 : Nat)) then bif isI IntKind.i64 (cellAt (nthL v9 (Int.toNat v11)) (9 : Nat)) then bif isS (cellAt (nthL v9 (Int.toNat v11)) (10 : Nat)) then bif isI IntKind.i64 (cellAt (nthL v9 (Int.toNat v11)) (11 : Nat)) then bif isI IntKind.i64 (cellAt (nthL v9 (Int.toNat v11)) (12 : Nat)) then bif isS (cellAt (nthL v9 (Int.toNat v11)) (13 : Nat)) then bif isI IntKind.i64 (cellAt (nthL v9 (Int.toNat v11)) (14 : Nat)) then bif isI IntKind.i64 (cellAt (nthL v9 (Int.toNat v11)) (15 : Nat)) then bif isS (cellAt (nthL v9 (Int.toNat v11)) (16 : Nat)) then bif isB (cellAt (nthL v9 (Int.toNat v11)) (17 : Nat)) then bif isB (cellAt (nthL v9 (Int.toNat v11)) (18 : Nat)) then bif isB (cellAt (nthL v9 (Int.toNat v11)) (19 : Nat)) then optK (keys_Index (getS (cellAt (nthL v9 (Int.toNat v11)) (0 : Nat))) (getI (cellAt (nthL v9 (Int.toNat v11)) (1 : Nat)))) fun b => bif Prod.snd b then bif decide (Prod.fst b ≥ v1) then bif !getB (cellAt (nthL v9 (Int.toNat v11)) (19 : Nat)) then rec_ (IntKind.wrap IntKind.i64 (Prod.fst b + (1 : Int))) (IntKind.wrap IntKind.i64 (v11 + (1 : Int))) else rec_ v1 (IntKind.wrap IntKind.i64 (v11 + (1 : Int))) else rec_ v1 (IntKind.wrap IntKind.i64 (v11 + (1 : Int))) else rec_ v1 (IntKind.wrap IntKind.i64 (v11 + (1 : Int))) else none else none else none else none else none else none else none else none else none else none else none else none else none else none else none else none else none else none else none else none else none else none else none else kx (v1, v11)
def arrays_stop.l0.k {X : Type} (n : Nat) (v4 : Int) (v9 : List (List AVal)) (v10 : Int) (kx : Int × Int → Option X) (j : Nat) : Int → Int → Option X :=
  Nat.rec (motive := fun _ => Int → Int → Option X) (fun _ _ => none) (fun _ r => fun v1 v11 => arrays_stop.l0.s n v4 v9 v10 kx r v1 v11) j
def arrays_stop.l0 (n : Nat) (v4 : Int) (v9 : List (List AVal)) (v10 : Int) (j : Nat) (v1 : Int) (v11 : Int) : Option (Int × Int) := arrays_stop.l0.k n v4 v9 v10 some j v1 v11
theorem arrays_stop.l0.s_nat {X : Type} (n : Nat) (v4 : Int) (v9 : List (List AVal)) (v10 : Int) (kx : Int × Int → Option X) (r : Int → Int → Option X) (r0 : Int → Int → Option (Int × Int)) (h : ∀ (v1 : Int) (v11 : Int), r v1 v11 = optK (r0 v1 v11) kx) (v1 : Int) (v11 : Int) : arrays_stop.l0.s n v4 v9 v10 kx r v1 v11 = optK (arrays_stop.l0.s n v4 v9 v10 some r0 v1 v11) kx := by
  simp only [arrays_stop.l0.s, optK_cond, optK_ite, optK_assoc, optK_sum, optK_some, optK_none, h]
theorem arrays_stop.l0.nat {X : Type} (n : Nat) (v4 : Int) (v9 : List (List AVal)) (v10 : Int) (kx : Int × Int → Option X) (j : Nat) : ∀ (v1 : Int) (v11 : Int), arrays_stop.l0.k n v4 v9 v10 kx j v1 v11 = optK (arrays_stop.l0 n v4 v9 v10 j v1 v11) kx := by
  induction j with
  | zero => intros; rfl
  | succ j ih => intros; exact arrays_stop.l0.s_nat n v4 v9 v10 kx _ _ ih  _ _
theorem arrays_stop.l0.succ (n : Nat) (v4 : Int) (v9 : List (List AVal)) (v10 : Int) (j : Nat) (v1 : Int) (v11 : Int) : arrays_stop.l0 n v4 v9 v10 (j + 1) v1 v11 = arrays_stop.l0.s n v4 v9 v10 some (arrays_stop.l0 n v4 v9 v10 j) v1 v11 := rfl
def arrays_stop.l0.lc (v4 : Int) (v9 : List (List AVal)) (v10 : Int) (x : Int × Int) : AExit × AFrame × Mem := (let t := x; (AExit.exit (0 : Nat), { tmps := [AVal.any, AVal.int IntKind.i64 (Prod.fst t), AVal.any, AVal.any, AVal.int IntKind.i64 v4, AVal.any, AVal.any, AVal.any, AVal.any, AVal.slice Own.no v9, AVal.int IntKind.i64 v10, AVal.int IntKind.i64 (Prod.snd t), AVal.any, AVal.any, AVal.any, AVal.any, AVal.any, AVal.any, AVal.any, AVal.any, AVal.any, AVal.any, AVal.any, AVal.any, AVal.any, AVal.any, AVal.any, AVal.any, AVal.any, AVal.any, AVal.any, AVal.any, AVal.any, AVal.any, AVal.any, AVal.any, AVal.any], locs := [], defers := [] }, []))
def arrays_stop.l0.ct (v4 : Int) (v9 : List (List AVal)) (v10 : Int) (x : Int × Int) : CT (AExit × AFrame × Mem) := (CT.done ((fun t => (AExit.exit (0 : Nat), { tmps := [AVal.any, AVal.int IntKind.i64 (Prod.fst t), AVal.any, AVal.any, AVal.int IntKind.i64 v4, AVal.any, AVal.any, AVal.any, AVal.any, AVal.slice Own.no v9, AVal.int IntKind.i64 v10, AVal.int IntKind.i64 (Prod.snd t), AVal.any, AVal.any, AVal.any, AVal.any, AVal.any, AVal.any, AVal.any, AVal.any, AVal.any, AVal.any, AVal.any, AVal.any, AVal.any, AVal.any, AVal.any, AVal.any, AVal.any, AVal.any, AVal.any, AVal.any, AVal.any, AVal.any, AVal.any, AVal.any, AVal.any], locs := [], defers := [] }, [])) x))
theorem arrays_stop.l0.hct (v4 : Int) (v9 : List (List AVal)) (v10 : Int) (x : Int × Int) : (arrays_stop.l0.ct v4 v9 v10 x).eval = some (arrays_stop.l0.lc v4 v9 v10 x) := rfl
def arrays_stop.l0.g (n : Nat) : AFrame → Mem → CT (AExit × AFrame × Mem) := fun fr m => .ite (chkF arrays_stop.l0.T fr m) (.opt (arrays_stop.l0 n (getI (tget fr.tmps 4)) (getSl (tget fr.tmps 9)) (getI (tget fr.tmps 10)) n (getI (tget fr.tmps 1)) (getI (tget fr.tmps 11))) (arrays_stop.l0.ct (getI (tget fr.tmps 4)) (getSl (tget fr.tmps 9)) (getI (tget fr.tmps 10)))) .fail
set_option maxRecDepth 100000 in
theorem arrays_stop.l0.tree (n : Nat) (j : Nat) (fr : AFrame) (m : Mem) : exec env (ora (arrays_stop.N n) noLoops) 59 (loopAt Tryd.f59 0) (bldF arrays_stop.l0.T fr) (bldOs arrays_stop.l0.T.mem 0 m) (loopK env 59 (some 2) (loopC arrays_stop.l0.T fun fr m => arrays_stop.l0.k n (getI (tget fr.tmps 4)) (getSl (tget fr.tmps 9)) (getI (tget fr.tmps 10)) (fun x => some (arrays_stop.l0.lc (getI (tget fr.tmps 4)) (getSl (tget fr.tmps 9)) (getI (tget fr.tmps 10)) x)) j (getI (tget fr.tmps 1)) (getI (tget fr.tmps 11)))) = arrays_stop.l0.k n (getI (tget fr.tmps 4)) (getSl (tget fr.tmps 9)) (getI (tget fr.tmps 10)) (fun x => some (arrays_stop.l0.lc (getI (tget fr.tmps 4)) (getSl (tget fr.tmps 9)) (getI (tget fr.tmps 10)) x)) (Nat.succ j) (getI (tget fr.tmps 1)) (getI (tget fr.tmps 11)) := by kernel_rfl
theorem arrays_stop.l0.ok (B : Nat) (n : Nat) : LoopNat env prog B (loopAt Tryd.f59 0) (arrays_stop.l0.g n) :=
  loopnat_of setting (arrays_stop.N_ok B n) noLoops_ok (inF_at (F := 59) (fn := Tryd.f59) (n := 0) (by kernel_rfl) (by kernel_rfl)) (T := arrays_stop.l0.T) (C := fun j fr m => arrays_stop.l0.k n (getI (tget fr.tmps 4)) (getSl (tget fr.tmps 9)) (getI (tget fr.tmps 10)) (fun x => some (arrays_stop.l0.lc (getI (tget fr.tmps 4)) (getSl (tget fr.tmps 9)) (getI (tget fr.tmps 10)) x)) j (getI (tget fr.tmps 1)) (getI (tget fr.tmps 11))) (fun _ _ => rfl) (fun j fr m => arrays_stop.l0.tree n j fr m) n (fun fr m r h => by
    rw [arrays_stop.l0.nat]
    exact opt_hL (arrays_stop.l0.hct (getI (tget fr.tmps 4)) (getSl (tget fr.tmps 9)) (getI (tget fr.tmps 10))) h)
def arrays_stop.k {X : Type} (n : Nat) (a0 : List (List AVal)) (a1 : Int) (ret : Int → Option X) : Option X :=
  optK (arrays_stop.l0 n (0 : Int) a0 (↑(List.length a0) : Int) n a1 (0 : Int)) fun b => ret (Prod.fst b)
def arrays_stop (n : Nat) (a0 : List (List AVal)) (a1 : Int) : Option (Int) := arrays_stop.k n a0 a1 some
noncomputable def law6_alive.g : List AVal → Mem → CT (Out × Mem) := closedG [] (.ret (.bool true))
theorem law6_alive.ok (B : Nat) : NatOk env prog B 37 law6_alive.g := nat_closed setting (dfrs B) noCalls_ok 12 rfl (fun _ => by kernel_rfl)
def ArraysLength.sa : List ASh := [.agg [.int .i64, .int .i64, .str]]
def ArraysLength.sm : List OSh := []
noncomputable def ArraysLength.N : CNats := (addN 37 (law6_alive.g) (addN 38 (arrays_Length.g) (addN 39 (ref1_Length.g) noCalls)))
theorem ArraysLength.N_ok (B : Nat) : NatsOk env prog B (ArraysLength.N) := addN_ok (law6_alive.ok B) (addN_ok (arrays_Length.ok B) (addN_ok (ref1_Length.ok B) (noCalls_ok)))
noncomputable def ArraysLength.L : LNats := noLoops
theorem ArraysLength.L_ok (B : Nat) : LoopsOk env prog B (ArraysLength.L) := noLoops_ok
def ArraysLength.k {X : Type} (a0_0 : Int) (a0_1 : Int) (a0_2 : List UInt8) (ret : Bool → Option X) : Option X :=
  optK (L0.arrays_Length a0_0 a0_1 a0_2) fun b => optK (L0.ref1_Length a0_0 a0_1 a0_2) fun b_1 => bif Prod.fst b == Prod.fst b_1 then ret (true == (Prod.snd b == Prod.snd b_1)) else ret false
def ArraysLength (a0_0 : Int) (a0_1 : Int) (a0_2 : List UInt8) : Option (Bool) := ArraysLength.k a0_0 a0_1 a0_2 some
theorem ArraysLength.nat {X : Type} (a0_0 : Int) (a0_1 : Int) (a0_2 : List UInt8) (ret : Bool → Option X) : ArraysLength.k a0_0 a0_1 a0_2 ret = optK (ArraysLength a0_0 a0_1 a0_2) ret := by
  first | rfl | simp only [ArraysLength, ArraysLength.k, optK_cond, optK_ite, optK_assoc, optK_sum, optK_some, optK_none]
def ArraysLength.om (a0_0 : Int) (a0_1 : Int) (a0_2 : List UInt8) (x : Bool) : Out × Mem := (let t := x; (Out.ret (AVal.bool t), []))
def ArraysLength.ct (a0_0 : Int) (a0_1 : Int) (a0_2 : List UInt8) (rest : Mem) (x : Bool) : CT (Out × Mem) := (CT.done ((fun t => (Out.ret (AVal.bool t), ([] : Mem) ++ rest)) x))
theorem ArraysLength.hct (a0_0 : Int) (a0_1 : Int) (a0_2 : List UInt8) (rest : Mem) (x : Bool) : (ArraysLength.ct a0_0 a0_1 a0_2 rest x).eval = some ((ArraysLength.om a0_0 a0_1 a0_2 x).1, (ArraysLength.om a0_0 a0_1 a0_2 x).2 ++ rest) := rfl
theorem ArraysLength.hlen (a0_0 : Int) (a0_1 : Int) (a0_2 : List UInt8) (x : Bool) : (ArraysLength.om a0_0 a0_1 a0_2 x).2.length = (ArraysLength.sm).length := rfl
set_option maxRecDepth 100000 in
theorem ArraysLength.tree (args : List AVal) (m : Mem) : execFunc env (ora (ArraysLength.N) (ArraysLength.L)) 10 (bldArgs ArraysLength.sa 0 args) (bldOs ArraysLength.sm 0 m) = ArraysLength.k (getI (tget (aggC (tget args 0)) 0)) (getI (tget (aggC (tget args 0)) 1)) (getS (tget (aggC (tget args 0)) 2)) (fun x => some (ArraysLength.om (getI (tget (aggC (tget args 0)) 0)) (getI (tget (aggC (tget args 0)) 1)) (getS (tget (aggC (tget args 0)) 2)) x)) := by kernel_rfl
def ArraysLength.g : List AVal → Mem → CT (Out × Mem) := shapeG ArraysLength.sa ArraysLength.sm fun args m => .opt (ArraysLength (getI (tget (aggC (tget args 0)) 0)) (getI (tget (aggC (tget args 0)) 1)) (getS (tget (aggC (tget args 0)) 2))) (ArraysLength.ct (getI (tget (aggC (tget args 0)) 0)) (getI (tget (aggC (tget args 0)) 1)) (getS (tget (aggC (tget args 0)) 2)) (m.drop ArraysLength.sm.length))
theorem ArraysLength.ok (B : Nat) : NatOk env prog B 10 (ArraysLength.g) :=
  nat_of setting (dfrs B) (ArraysLength.N_ok B) (ArraysLength.L_ok B) rfl (fun args m => ArraysLength.tree args m) (fun args m out m' h => by
    rw [ArraysLength.nat]
    exact opt_hG (oc := fun x => (ArraysLength.om (getI (tget (aggC (tget args 0)) 0)) (getI (tget (aggC (tget args 0)) 1)) (getS (tget (aggC (tget args 0)) 2)) x).1) (mt := fun x => (ArraysLength.om (getI (tget (aggC (tget args 0)) 0)) (getI (tget (aggC (tget args 0)) 1)) (getS (tget (aggC (tget args 0)) 2)) x).2) (ArraysLength.hct (getI (tget (aggC (tget args 0)) 0)) (getI (tget (aggC (tget args 0)) 1)) (getS (tget (aggC (tget args 0)) 2)) (m.drop ArraysLength.sm.length)) (ArraysLength.hlen (getI (tget (aggC (tget args 0)) 0)) (getI (tget (aggC (tget args 0)) 1)) (getS (tget (aggC (tget args 0)) 2))) h)
end Go.Proofs.YtjlhnnphfdjmdaaDoor.C
