/- Summaries of the functions of units. -/
import Derived.Test.YtlklpdifcpjlpaaDoorUEach
namespace Go.Proofs.YtlklpdifcpjlpaaDoor.U
open Go.Abs Go.Uni
set_option maxRecDepth 100000

def nOf : List AVal → Nat
  | [.int _ n] => n.toNat
  | _ => 0
def isU : List AVal → Bool
  | [.int k n] => decide (k = .u16) && (decide (0 ≤ n) && decide (n < 65536))
  | _ => false
def nsOf (es : List (List AVal)) : List Nat := es.map nOf
def isUs (es : List (List AVal)) : Bool := es.all isU && decide (es.length ≤ 100000)
theorem ns_units (u : List Nat) : nsOf (u.map unit) = u := by
  simp only [nsOf, List.map_map]
  conv => rhs; rw [← List.map_id u]
  apply List.map_congr_left
  intro x _; simp [nOf, unit]
theorem isUs_units {u : List Nat} (h : ∀ x ∈ u, x < 65536) (hl : u.length ≤ 100000) : isUs (u.map unit) = true := by
  simp only [isUs, List.length_map, hl, decide_true, Bool.and_true, List.all_map, List.all_eq_true]
  intro x hx; have := h x hx; simp [isU, unit]; omega
theorem units_of {es : List (List AVal)} (h : isUs es = true) : es = (nsOf es).map unit ∧ (∀ x ∈ nsOf es, x < 65536) ∧ (nsOf es).length ≤ 100000 := by
  simp only [isUs, Bool.and_eq_true, List.all_eq_true, decide_eq_true_eq] at h
  have key : ∀ e ∈ es, e = unit (nOf e) ∧ nOf e < 65536 := by
    intro e he
    have := h.1 e he
    unfold isU at this
    split at this
    · simp only [Bool.and_eq_true, decide_eq_true_eq] at this
      obtain ⟨rfl, h0, h1⟩ := this
      simp only [nOf, unit]
      constructor
      · rw [Int.toNat_of_nonneg h0]
      · omega
    · cases this
  refine ⟨?_, ?_, by simpa [nsOf] using h.2⟩
  · simp only [nsOf, List.map_map]
    conv => lhs; rw [← List.map_id es]
    apply List.map_congr_left
    intro e he; exact (key e he).1
  · intro x hx
    obtain ⟨e, he, rfl⟩ := List.mem_map.1 hx
    exact (key e he).2

def short (s : List UInt8) : Bool := decide (s.length ≤ 100000)
/-- what is told of a text's code points, right or not -/
def told (s : List UInt8) : List Nat := (pts s).1.flatMap u16
/-- Each, with both closures; the second: e: where there is none told, or where there is one -/
def eachG (e : Bool) : Nat1
  | [.str s, .fn f caps], m => (match Nat.beq f 39 with
    | true => (match caps with
      | [] => some (short s, .ret (.bool (right s)), m)
      | _ => none)
    | false => (match Nat.beq f 40 with
      | true => (match caps with
        | [.ptr o off] => (match m with
          | [.cells [.slice own es]] => (match own with
            | .full => (match es with
              | [] => (match e with
                | true => some (short s && (told s).isEmpty && (Nat.beq o 0 && Nat.beq off 0), .ret (.bool (right s)), [.cells [.slice .full []]])
                | false => some (short s && !(told s).isEmpty && (Nat.beq o 0 && Nat.beq off 0), .ret (.bool (right s)), [.cells [.slice (.row 23) ((told s).map unit)]]))
              | _ => none)
            | _ => none)
          | _ => none)
        | _ => none)
      | false => none))
  | _, _ => none
def rightG : Nat1
  | [.str s], m => some (short s, .ret (.bool (right s)), m)
  | _, _ => none
def of17G : Nat1
  | [.str s], m => some (short s, .ret (.slice .no ((unitsOf s).map unit)), m)
  | _, _ => none
def lenG : Nat1
  | [.str s], m => some (short s, .ret (.int .i64 (unitsOf s).length), m)
  | _, _ => none
def textG : Nat1
  | [.slice own es], m => (match own with
    | .no => some (isUs es, .ret (.str (textOf (nsOf es))), m)
    | _ => none)
  | _, _ => none
def sameG : Nat1
  | [.slice o1 a, .slice o2 b], m => (match o1 with
    | .no => (match o2 with
      | .no => some (isUs a && isUs b, .ret (.bool (decide (nsOf a = nsOf b))), m)
      | _ => none)
    | _ => none)
  | _, _ => none
/-- the example of the document -/
def aliveG : Nat1
  | [], m => some (true, .ret (.bool true), m)
  | _, _ => none
noncomputable def N3 (e : Bool) : Nats := addN 38 (eachG e) noNats
noncomputable def N4 : Nats := addN 17 of17G noNats
noncomputable def N5 : Nats := addN 13 aliveG (addN 14 textG (addN 21 textG (addN 15 rightG (addN 16 sameG (addN 20 lenG N4)))))
end Go.Proofs.YtlklpdifcpjlpaaDoor.U
