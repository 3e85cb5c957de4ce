import Derived.Test.YtlklpdifcpjlpaaDoorEnv
namespace Go.Proofs.YtlklpdifcpjlpaaDoor
open Go.Abs
set_option maxRecDepth 100000
def safeB (n : Int) : Bool := decide (n ≥ -9007199254740991) && decide (n ≤ 9007199254740991)
def safeG : List AVal → Mem → Option (Out × Mem)
  | [.int .i64 n], m => some (.ret (.bool (safeB n)), m)
  | _, _ => none
/-- what is safe, by a summary -/
noncomputable def N1 : Nats := fun f => match Nat.beq f 27 with
  | true => some safeG
  | false => none

theorem safe_tree (D : Ora) (m : Mem) (n : Int) : execFunc env D 27 [.int .i64 n] m  =
  bif decide (n ≥ -9007199254740991) then
  some (Out.ret (AVal.bool (decide (n ≤ 9007199254740991))), List.take (List.length m) m)
else some (Out.ret (AVal.bool false), List.take (List.length m) m) := by kernel_rfl
theorem nats1 (B : Nat) : NatsOk env Tryd.prog B N1 := by
  intro f g hf args m out m' h
  unfold N1 at hf
  split at hf
  · rename_i he
    injection hf with hf; subst hf
    obtain rfl := Nat.eq_of_beq_eq_true he
    unfold safeG at h
    split at h
    · rename_i n
      refine execFunc_sound setting (D := den env (fun _ => none) 0) (fun f g h => by cases h) (den_sound setting (fun f g h => by cases h) (fun f g h => by cases h) 0) ?_
      rw [safe_tree, ← h, List.take_length]
      unfold safeB
      cases decide (n ≥ -9007199254740991) <;> rfl
    · cases h
  · cases hf

def res (m : Mem) (n : Int) (b : Bool) : Option (Out × Mem) := some (.ret (.tup [.int .i64 n, .bool b]), m)
/-- the value that is given where it is safe -/
def okN (n : Int) : Int := bif safeB n then n else 0
def doB (op : List UInt8) (a b : Int) : Bool :=
  safeB a && (safeB b && (match op with
    | [43] => safeB (IntKind.wrap .i64 (a + b))
    | [45] => safeB (IntKind.wrap .i64 (a - b))
    | [47] => b != 0 && safeB (IntKind.wrap .i64 (Int.tdiv a b))
    | [37] => b != 0 && safeB (Int.tmod a b)
    | _ => false))
def doN (op : List UInt8) (a b : Int) : Int :=
  bif doB op a b then (match op with
    | [43] => IntKind.wrap .i64 (a + b)
    | [45] => IntKind.wrap .i64 (a - b)
    | [47] => IntKind.wrap .i64 (Int.tdiv a b)
    | [37] => Int.tmod a b
    | _ => 0) else 0
def doG : List AVal → Mem → Option (Out × Mem)
  | [.str [43], .int .i64 a, .int .i64 b], m => some (.ret (.tup [.int .i64 (doN [43] a b), .bool (doB [43] a b)]), m)
  | [.str [45], .int .i64 a, .int .i64 b], m => some (.ret (.tup [.int .i64 (doN [45] a b), .bool (doB [45] a b)]), m)
  | [.str [47], .int .i64 a, .int .i64 b], m => some (.ret (.tup [.int .i64 (doN [47] a b), .bool (doB [47] a b)]), m)
  | [.str [37], .int .i64 a, .int .i64 b], m => some (.ret (.tup [.int .i64 (doN [37] a b), .bool (doB [37] a b)]), m)
  | _, _ => none
noncomputable def N2 : Nats := fun f => match Nat.beq f 25 with
  | true => some doG
  | false => N1 f

theorem do_add (k : Nat) (m : Mem) (a b : Int) : execFunc env (den env N1 (k + 1)) 25 [.str [43], .int .i64 a, .int .i64 b] m  =
  bif !safeB a then some (Out.ret (AVal.tup [AVal.int IntKind.i64 0, AVal.bool false]), List.take (List.length m) m)
else
  bif !safeB b then some (Out.ret (AVal.tup [AVal.int IntKind.i64 0, AVal.bool false]), List.take (List.length m) m)
  else
    bif !safeB (IntKind.wrap IntKind.i64 (a + b)) then
      some (Out.ret (AVal.tup [AVal.int IntKind.i64 0, AVal.bool false]), List.take (List.length m) m)
    else
      some
        (Out.ret (AVal.tup [AVal.int IntKind.i64 (IntKind.wrap IntKind.i64 (a + b)), AVal.bool true]),
          List.take (List.length m) m) := by kernel_rfl
theorem do_sub (k : Nat) (m : Mem) (a b : Int) : execFunc env (den env N1 (k + 1)) 25 [.str [45], .int .i64 a, .int .i64 b] m  =
  bif !safeB a then some (Out.ret (AVal.tup [AVal.int IntKind.i64 0, AVal.bool false]), List.take (List.length m) m)
else
  bif !safeB b then some (Out.ret (AVal.tup [AVal.int IntKind.i64 0, AVal.bool false]), List.take (List.length m) m)
  else
    bif !safeB (IntKind.wrap IntKind.i64 (a - b)) then
      some (Out.ret (AVal.tup [AVal.int IntKind.i64 0, AVal.bool false]), List.take (List.length m) m)
    else
      some
        (Out.ret (AVal.tup [AVal.int IntKind.i64 (IntKind.wrap IntKind.i64 (a - b)), AVal.bool true]),
          List.take (List.length m) m) := by kernel_rfl
theorem do_div (k : Nat) (m : Mem) (a b : Int) : execFunc env (den env N1 (k + 1)) 25 [.str [47], .int .i64 a, .int .i64 b] m  =
  bif !safeB a then some (Out.ret (AVal.tup [AVal.int IntKind.i64 0, AVal.bool false]), List.take (List.length m) m)
else
  bif !safeB b then some (Out.ret (AVal.tup [AVal.int IntKind.i64 0, AVal.bool false]), List.take (List.length m) m)
  else
    bif b != 0 then
      if b = 0 then none
      else
        bif !safeB (IntKind.wrap IntKind.i64 (Int.tdiv a b)) then
          some (Out.ret (AVal.tup [AVal.int IntKind.i64 0, AVal.bool false]), List.take (List.length m) m)
        else
          some
            (Out.ret (AVal.tup [AVal.int IntKind.i64 (IntKind.wrap IntKind.i64 (Int.tdiv a b)), AVal.bool true]),
              List.take (List.length m) m)
    else
      some (Out.ret (AVal.tup [AVal.int IntKind.i64 0, AVal.bool false]), List.take (List.length m) m) := by kernel_rfl
theorem do_mod (k : Nat) (m : Mem) (a b : Int) : execFunc env (den env N1 (k + 1)) 25 [.str [37], .int .i64 a, .int .i64 b] m  =
  bif !safeB a then some (Out.ret (AVal.tup [AVal.int IntKind.i64 0, AVal.bool false]), List.take (List.length m) m)
else
  bif !safeB b then some (Out.ret (AVal.tup [AVal.int IntKind.i64 0, AVal.bool false]), List.take (List.length m) m)
  else
    bif b != 0 then
      if b = 0 then none
      else
        bif !safeB (Int.tmod a b) then
          some (Out.ret (AVal.tup [AVal.int IntKind.i64 0, AVal.bool false]), List.take (List.length m) m)
        else
          some (Out.ret (AVal.tup [AVal.int IntKind.i64 (Int.tmod a b), AVal.bool true]), List.take (List.length m) m)
    else
      some (Out.ret (AVal.tup [AVal.int IntKind.i64 0, AVal.bool false]), List.take (List.length m) m) := by kernel_rfl

theorem nodfr (B : Nat) : DfrsOk env Tryd.prog B := fun f g h => by cases h
theorem by_tree {B : Nat} {N : Nats} (hN : NatsOk env Tryd.prog B N) (k : Nat) {f : FuncId} {args : List AVal} {m m' : Mem} {out : Out} (h : execFunc env (den env N k) f args m = some (out, m')) :
    CallOk env Tryd.prog B f args m out m' := execFunc_sound setting (nodfr B) (den_sound setting (nodfr B) hN k) h

theorem nats2 (B : Nat) : NatsOk env Tryd.prog B N2 := by
  intro f g hf args m out m' h
  unfold N2 at hf
  split at hf
  · rename_i he
    injection hf with hf; subst hf
    obtain rfl := Nat.eq_of_beq_eq_true he
    unfold doG at h
    split at h
    · rename_i a b
      refine by_tree (nats1 B) (0 + 1) ?_
      rw [do_add, ← h, List.take_length]
      simp only [doN, doB]
      cases safeB a <;> cases safeB b <;> cases safeB (IntKind.wrap .i64 (a + b)) <;> rfl
    · rename_i a b
      refine by_tree (nats1 B) (0 + 1) ?_
      rw [do_sub, ← h, List.take_length]
      simp only [doN, doB]
      cases safeB a <;> cases safeB b <;> cases safeB (IntKind.wrap .i64 (a - b)) <;> rfl
    · rename_i a b
      refine by_tree (nats1 B) (0 + 1) ?_
      rw [do_div, ← h, List.take_length]
      simp only [doN, doB]
      by_cases h0 : b = 0
      · subst h0
        cases safeB a <;> cases safeB 0 <;> rfl
      · have h1 : (b != 0) = true := by simpa using h0
        rw [h1, if_neg h0]
        cases safeB a <;> cases safeB b <;> cases safeB (IntKind.wrap .i64 (Int.tdiv a b)) <;> rfl
    · rename_i a b
      refine by_tree (nats1 B) (0 + 1) ?_
      rw [do_mod, ← h, List.take_length]
      simp only [doN, doB]
      by_cases h0 : b = 0
      · subst h0
        cases safeB a <;> cases safeB 0 <;> rfl
      · have h1 : (b != 0) = true := by simpa using h0
        rw [h1, if_neg h0]
        cases safeB a <;> cases safeB b <;> cases safeB (Int.tmod a b) <;> rfl
    · cases h
  · exact nats1 B f g hf args m out m' h

def trueG : List AVal → Mem → Option (Out × Mem)
  | [], [] => some (.ret (.bool true), [])
  | _, _ => none
noncomputable def N3 : Nats := fun f => match Nat.beq f 24 with
  | true => some trueG
  | false => N2 f
theorem alive_tree : execFunc env (den env N1 12) 24 [] [] = some (.ret (.bool true), []) := by kernel_rfl
theorem nats3 (B : Nat) : NatsOk env Tryd.prog B N3 := by
  intro f g hf args m out m' h
  unfold N3 at hf
  split at hf
  · rename_i he
    injection hf with hf; subst hf
    obtain rfl := Nat.eq_of_beq_eq_true he
    unfold trueG at h
    split at h
    · refine by_tree (nats1 B) 12 ?_
      rw [alive_tree, ← h]
    · cases h
  · exact nats2 B f g hf args m out m' h

end Go.Proofs.YtlklpdifcpjlpaaDoor
