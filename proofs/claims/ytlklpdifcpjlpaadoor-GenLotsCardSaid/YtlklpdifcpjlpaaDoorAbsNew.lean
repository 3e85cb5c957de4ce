/- A call that is handed no pointer and makes an object that stays: it makes it behind whatever objects there are. -/
import Derived.Test.YtlklpdifcpjlpaaDoorAbsAt
namespace Go.Abs
open Go.RowKit
set_option linter.unusedSectionVars false
set_option linter.unusedVariables false
section
variable {P : Program} {E : Env} {B : Nat} {w w' : World} {fx fx' : Nat → Nat} {rho rho' lam : List Nat} {m m' : Mem}
theorem RepT.noP {v : AVal} {V : Value} {r r' : List Nat} (hf : noPtr v = true) (h : RepT w fx r [] v V) : RepT w fx r' [] v V := by
  cases v with
  | any => trivial
  | loc _ _ => cases hf
  | tup vs => cases hf
  | ptr o off => cases hf
  | mapp o => cases hf
  | fn f caps => exact RepO.noP (w := w) (fx := fx) (v := .fn f caps) hf h
  | slice own es => exact RepO.noP (w := w) (fx := fx) (v := .slice own es) rfl h
  | _ => exact h
theorem call_new {f : FuncId} {args : List AVal} {out : Out} {o : AObj} {m : Mem} (ha : ∀ v ∈ args, noPtr v = true) (ho : oneO o = true) (hout : outOne out = true)
    (h : CallOk E P B f args [] out [o]) : CallOk E P B f args m (upOut m.length out) (m ++ [upO m.length o]) := by
  intro w fx rho vals hpre
  have hlen : rho.length = m.length := hpre.mem.1
  let R : Nat → Nat := fun b => rho.count b + ownObjs w m rho b
  have hR : ∀ b, R b = rho.count b + ownObjs w m rho b := fun _ => rfl
  have hle : ∀ b, preTot w [] [] args vals b + R b = preTot w rho m args vals b := fun b => by
    unfold preTot
    rw [hR]
    simp only [ownObjs, List.count_nil]; omega
  have hpre' : CallPre E B w fx [] args vals [] := {
    len := hpre.len
    rep := fun i v V hi hV => by
      have h1 := hpre.rep i v V hi hV
      exact ⟨h1.1.noP (ha v (List.mem_of_getElem? hi)), h1.2⟩
    mem := ⟨rfl, fun i x y hi hy => by simp at hi⟩
    fx0 := fun b hb => by cases hb
    fxb := hpre.fxb
    tot := fun b => by have := hpre.tot b; have := hle b; omega
    low := fun b hb => hpre.low b (by have := hle b; omega)
    glob := hpre.glob
    base := hpre.base }
  refine (h w fx [] vals hpre').mono fun e w' ⟨V, fx', rho', he, hp⟩ => ?_
  obtain ⟨g, hr0⟩ : ∃ g, rho' = [g] := by
    have h1 : rho'.length = 1 := hp.mem.1
    match rho', h1 with
    | [g], _ => exact ⟨g, rfl⟩
  subst hr0
  refine ⟨V, fx', rho ++ [g], by cases out <;> exact he, ?_⟩
  have hg : (rho ++ [g])[m.length]? = some g := by rw [← hlen]; simp
  have hsame : ∀ b, 0 < R b → w'.heap[b]? = w.heap[b]? ∧ fx' b = fx b := fun b hb => by
    have h1 := hle b
    have h2 := hpre.tot b
    exact hp.keep.block b (hpre.low b (by omega)).2 (by show ¬ (0 < preTot w [] [] args vals b); omega)
  have hs1 : ∀ x ∈ rho, w'.heap[x]? = w.heap[x]? := fun x hx => (hsame x (by have := List.count_pos_iff.2 hx; rw [hR]; omega)).1
  have hcut' : ∀ b, (rho ++ [g]).count b + outOwn (upOut m.length out) V b + ownObjs w' (m ++ [upO m.length o]) (rho ++ [g]) b = ([g].count b + outOwn out V b + ownObjs w' [o] [g] b) + R b := fun b => by
    rw [List.count_append, outOwn_up, ownObjs_append w' m _ rho _ b hlen.symm, ownObjs_world _ _ _ hs1, hR]
    simp only [ownObjs, ownObj_up]; omega
  have hsep : ∀ b, 0 < R b → [g].count b + outOwn out V b + ownObjs w' [o] [g] b = 0 := fun b hb => by
    rcases Nat.eq_zero_or_pos ([g].count b + outOwn out V b + ownObjs w' [o] [g] b) with h0 | h0
    · exact h0
    · have h1 := hle b
      have h2 := hpre.tot b
      have h3 := (hpre.low b (by omega)).2
      have h4 : 0 < preTot w [] [] args vals b := (hp.low b h0).2.2 h3
      omega
  exact {
    rep := by
      have := hp.rep
      cases out with
      | ret v => exact ⟨this.1.up hg hout, (upT_ownOk _).2 this.2⟩
      | pan v => exact this
    mem := by
      refine ⟨by simp [hlen], fun i x y hi hy => ?_⟩
      rcases Nat.lt_or_ge i m.length with hlt | hge
      · rw [List.getElem?_append_left hlt] at hi
        have hy1 : rho[i]? = some y := by rw [List.getElem?_append_left (by omega)] at hy; exact hy
        refine (hpre.mem.2 i x y hi hy1).ext hp.keep.ext (List.prefix_append ..) (hs1 y (List.mem_of_getElem? hy1)) fun b hb => hsame b ?_
        have := ownObj_le w m rho i x y b hi hy1
        rw [hR]; omega
      · rw [List.getElem?_append_right hge] at hi
        have hi0 : i = m.length := by
          rcases Nat.eq_or_lt_of_le hge with h | h
          · exact h.symm
          · rw [List.getElem?_eq_none (by simp; omega)] at hi; cases hi
        subst hi0
        rw [Nat.sub_self] at hi
        have hi : upO m.length o = x := by simpa using hi
        subst hi
        obtain rfl := Option.some.inj (hg.symm.trans hy)
        exact (hp.mem.2 0 o g rfl rfl).up hg ho
    fx0 := fun b hb => by
      rcases List.mem_append.1 hb with h | h
      · rw [(hsame b (by have := List.count_pos_iff.2 h; rw [hR]; omega)).2]
        exact hpre.fx0 b h
      · exact hp.fx0 b h
    fxb := hp.fxb
    tot := fun b => by
      have h1 := hcut' b
      rcases Nat.eq_zero_or_pos (R b) with h0 | h0
      · have := hp.tot b; omega
      · have := hsep b h0
        have := hle b
        have := hpre.tot b
        omega
    low := fun b hb => by
      have h1 := hcut' b
      rcases Nat.eq_zero_or_pos (R b) with h0 | h0
      · obtain ⟨x, y, z⟩ := hp.low b (by omega)
        refine ⟨x, y, fun hlt => ?_⟩
        have z' : 0 < preTot w [] [] args vals b := z hlt
        show 0 < preTot w rho m args vals b
        have := hle b
        omega
      · have h1 : 0 < preTot w rho m args vals b := by have := hle b; omega
        obtain ⟨x, y⟩ := hpre.low b h1
        exact ⟨x, Nat.lt_of_lt_of_le y hp.keep.size, fun _ => h1⟩
    keep := {
      size := hp.keep.size
      os := hp.keep.os
      tape := hp.keep.tape
      output := hp.keep.output
      ext := hp.keep.ext
      block := fun b hb hS => hp.keep.block b hb (fun h => hS (by
        have h : 0 < preTot w [] [] args vals b := h
        show 0 < preTot w rho m args vals b
        have := hle b
        omega)) }
    pre := List.prefix_append .. }
def newEnd (m : Mem) (x : Out × Mem) : CT (Out × Mem) :=
  match x.2 with
  | [o'] => .ite (outOne x.1 && oneO o') (.done (upOut m.length x.1, m ++ [upO m.length o'])) .fail
  | _ => .fail
/-- a summary of a function that makes one object out of no memory, at any memory -/
def newG (g : List AVal → Mem → CT (Out × Mem)) : List AVal → Mem → CT (Out × Mem) := fun args m =>
  .ite (args.all noPtr) ((g args []).bind (newEnd m)) .fail
theorem nat_new {f : FuncId} {g : List AVal → Mem → CT (Out × Mem)} (h : NatOk E P B f g) : NatOk E P B f (newG g) := by
  intro args m out m' hh
  simp only [newG, CT.eval] at hh
  cases hc : args.all noPtr with
  | false => rw [hc] at hh; cases hh
  | true =>
    rw [hc, cond_true, CT.eval_bind] at hh
    cases hg : (g args []).eval with
    | none => rw [hg] at hh; cases hh
    | some x =>
      rw [hg] at hh
      obtain ⟨out1, m1⟩ := x
      simp only [optK, newEnd] at hh
      match m1, hh, hg with
      | [o'], hh, hg =>
        simp only [CT.eval] at hh
        cases hx : (outOne out1 && oneO o') with
        | false => rw [hx] at hh; cases hh
        | true =>
          rw [hx, cond_true] at hh
          injection hh with hh
          injection hh with h1 h2
          subst h1; subst h2
          simp only [Bool.and_eq_true] at hx
          exact call_new (List.all_eq_true.1 hc) hx.2 hx.1 (h _ _ _ _ hg)
      | [], hh, hg => cases hh
      | _ :: _ :: _, hh, hg => cases hh
/-- two summaries of one function: the first where a test says so -/
def orG (t : List AVal → Mem → Bool) (g h : List AVal → Mem → CT (Out × Mem)) : List AVal → Mem → CT (Out × Mem) := fun args m => .ite (t args m) (g args m) (h args m)
theorem nat_or {f : FuncId} {t : List AVal → Mem → Bool} {g h : List AVal → Mem → CT (Out × Mem)} (hg : NatOk E P B f g) (hh : NatOk E P B f h) : NatOk E P B f (orG t g h) := by
  intro args m out m' he
  simp only [orG, CT.eval] at he
  cases hc : t args m with
  | true => rw [hc] at he; exact hg args m out m' he
  | false => rw [hc] at he; exact hh args m out m' he
/-- a function that is not followed -/
def failG : List AVal → Mem → CT (Out × Mem) := fun _ _ => .fail
theorem nat_fail {f : FuncId} : NatOk E P B f failG := fun args m out m' h => by cases h
end
end Go.Abs
