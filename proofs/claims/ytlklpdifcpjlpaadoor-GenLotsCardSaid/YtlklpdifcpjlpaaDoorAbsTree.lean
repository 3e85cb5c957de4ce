/- Tables asked by number. -/
import Derived.Test.YtlklpdifcpjlpaaDoorAbsDen
namespace Go.Abs

inductive Tree (α : Type) where
  | leaf
  | node (k : Nat) (v : α) (l r : Tree α)

def Tree.get {α : Type} : Tree α → Nat → Option α
  | .leaf, _ => none
  | .node k v l r, t => match Nat.beq t k with
    | true => some v
    | false => match Nat.ble t k with
      | true => l.get t
      | false => r.get t
def Tree.All {α : Type} (p : Nat → α → Prop) : Tree α → Prop
  | .leaf => True
  | .node k v l r => p k v ∧ l.All p ∧ r.All p
def Tree.allB {α : Type} (p : Nat → α → Bool) : Tree α → Bool
  | .leaf => true
  | .node k v l r => p k v && l.allB p && r.allB p
theorem Tree.All.get {α : Type} {p : Nat → α → Prop} : ∀ {t : Tree α} {k : Nat} {v : α}, t.All p → t.get k = some v → p k v
  | .leaf, _, _, _, h => by cases h
  | .node k0 v0 l r, k, v, ha, h => by
    obtain ⟨h1, h2, h3⟩ := ha
    simp only [Tree.get] at h
    split at h
    · rename_i he
      injection h with h; subst h
      rw [Nat.eq_of_beq_eq_true he]; exact h1
    · split at h
      · exact Tree.All.get h2 h
      · exact Tree.All.get h3 h
theorem Tree.all_of_allB {α : Type} {p : Nat → α → Prop} {q : Nat → α → Bool} (hq : ∀ k v, q k v = true → p k v) : ∀ {t : Tree α}, t.allB q = true → t.All p
  | .leaf, _ => trivial
  | .node k v l r, h => by
    simp only [Tree.allB, Bool.and_eq_true] at h
    exact ⟨hq _ _ h.1.1, Tree.all_of_allB hq h.1.2, Tree.all_of_allB hq h.2⟩

def inL (l : List Nat) (n : Nat) : Bool :=
  match l with
  | [] => false
  | x :: r => match Nat.beq n x with
    | true => true
    | false => inL r n
def Tree.has (t : Tree (List Nat)) (f n : Nat) : Bool :=
  match t.get f with
  | some l => inL l n
  | none => false
def Tree.list (t : Tree (List Nat)) (f : Nat) : List Nat :=
  match t.get f with
  | some l => l
  | none => []

def lookN : List (Nat × Nat) → Nat → Option Nat
  | [], _ => none
  | (k, v) :: r, n => match Nat.beq n k with
    | true => some v
    | false => lookN r n
def nthW : List WK → Nat → WK
  | [], _ => .keep
  | x :: _, 0 => x
  | _ :: r, n + 1 => nthW r n
def Tree.row (t : Tree (List (Nat × Nat))) (f n : Nat) : Option Nat :=
  match t.get f with
  | some l => lookN l n
  | none => none
def Tree.rowT (t : Tree (List (Option Nat))) (k : Nat) : List (Option Nat) :=
  match t.get k with
  | some l => l
  | none => []
def Tree.res (t : Tree (List WK)) (f n : Nat) : WK :=
  match t.get f with
  | some l => nthW l n
  | none => .keep

theorem fits_of {E : Env} {P : Program} {t : Tree TI} (he : E.T = t.get) (h : t.allB (fitsB P) = true) : Fits E P := by
  intro k ti hk
  rw [he] at hk
  exact (Tree.all_of_allB (p := fun k ti => FitsT P k ti) (fun _ _ h => fitsB_ok h) h).get hk

/-- a function as the tables have it -/
structure FnRow (P : Program) (f : FuncId) (fn : Func) : Prop where
  at' : P.funcs[f]? = some fn
  ok : (match fn.body with | some c => drawsOk c | none => false) && (!(fn.name == "runtime.NumGoroutine")) = true
theorem fn_of {E : Env} {P : Program} {t : Tree Func} (he : E.fn = t.get) (h : t.All (FnRow P)) : FnOk E P ∧ ∀ f fn c, E.fn f = some fn → fn.body = some c → drawsOk c = true := by
  rw [FnOk, he]
  refine ⟨fun f fn hf => ?_, fun f fn c hf hc => ?_⟩
  · obtain ⟨h1, h2⟩ := h.get hf
    refine ⟨h1, ?_, ?_⟩
    · cases hb : fn.body with
      | none => rw [hb] at h2; cases h2
      | some c => rfl
    · rw [Bool.and_eq_true] at h2
      cases hn : (fn.name == "runtime.NumGoroutine") with
      | false => rfl
      | true => rw [hn] at h2; exact absurd h2.2 (by decide)
  · obtain ⟨h1, h2⟩ := h.get hf
    rw [hc] at h2
    simp only [Bool.and_eq_true] at h2
    exact h2.1

end Go.Abs
