/- A call that is handed pointers to the first objects alone does not see the others. -/
import Derived.Test.YtlklpdifcpjlpaaDoorAbsNat
namespace Go.Abs
open Go.RowKit
set_option linter.unusedSectionVars false
set_option linter.unusedVariables false
def lowO (k : Nat) : AVal → Bool
  | .ptr o _ => Nat.ble (o + 1) k
  | .mapp o => Nat.ble (o + 1) k
  | .fn _ cs => cs.all fun | .ptr o _ => Nat.ble (o + 1) k | _ => true
  | _ => true
def low (k : Nat) : AVal → Bool
  | .loc .. => false
  | .tup vs => vs.all (lowO k)
  | v => lowO k v
section
variable {P : Program} {E : Env} {B : Nat} {c : Ctx} {w w' : World} {fx fx' : Nat → Nat} {rho rho' lam : List Nat} {fr : AFrame} {m m' : Mem} {a : Act} {D : Ora}
theorem RepC.low {k : Nat} {v : AVal} {V : Value} (hf : (match v with | .ptr o _ => Nat.ble (o + 1) k | _ => true) = true) (h : RepC w fx rho v V) : RepC w fx (rho.take k) v V := by
  cases v with
  | ptr o off => obtain ⟨b, h1, h2⟩ := h; exact ⟨b, take_get h1 (Nat.le_of_ble_eq_true hf), h2⟩
  | _ => exact h
theorem RepCL.low {k : Nat} : ∀ {l : List AVal} {Vs : List Value}, (∀ v ∈ l, (match v with | .ptr o _ => Nat.ble (o + 1) k | _ => true) = true) → RepCL w fx rho l Vs → RepCL w fx (rho.take k) l Vs
  | [], _, _, h => h
  | v :: r, _, hf, h => by
    obtain ⟨V, Vr, rfl, h1, h2⟩ := h
    exact ⟨V, Vr, rfl, h1.low (hf v (List.mem_cons_self ..)), RepCL.low (l := r) (fun v hv => hf v (List.mem_cons_of_mem _ hv)) h2⟩
theorem RepO.low {k : Nat} {v : AVal} {V : Value} (hf : lowO k v = true) (h : RepO w fx rho v V) : RepO w fx (rho.take k) v V := by
  cases v with
  | ptr o off => obtain ⟨b, h1, h2⟩ := h; exact ⟨b, take_get h1 (Nat.le_of_ble_eq_true hf), h2⟩
  | mapp o => obtain ⟨b, h1, h2⟩ := h; exact ⟨b, take_get h1 (Nat.le_of_ble_eq_true hf), h2⟩
  | fn f caps =>
    obtain ⟨Vs, h1, h2⟩ := h
    exact ⟨Vs, h1, h2.low (List.all_eq_true.1 hf)⟩
  | slice own es => cases own <;> exact h
  | _ => exact h
theorem RepOL.low {k : Nat} : ∀ {l : List AVal} {Vs : List Value}, (∀ v ∈ l, lowO k v = true) → RepOL w fx rho l Vs → RepOL w fx (rho.take k) l Vs
  | [], _, _, h => h
  | v :: r, _, hf, h => by
    obtain ⟨V, Vr, rfl, h1, h2⟩ := h
    exact ⟨V, Vr, rfl, h1.low (hf v (List.mem_cons_self ..)), RepOL.low (l := r) (fun v hv => hf v (List.mem_cons_of_mem _ hv)) h2⟩
theorem lowO_disown (k : Nat) (v : AVal) : lowO k (disown v) = lowO k v := by
  cases v <;> try rfl
  rename_i own es; cases own <;> rfl
theorem RepT.low {k : Nat} {v : AVal} {V : Value} (hf : Abs.low k v = true) (h : RepT w fx rho lam v V) : RepT w fx (rho.take k) lam v V := by
  cases v with
  | any => trivial
  | loc _ _ => cases hf
  | tup vs =>
    obtain ⟨Vs, h1, h2⟩ := h
    refine ⟨Vs, h1, RepOL.low (fun v hv => ?_) h2⟩
    obtain ⟨u, hu, rfl⟩ := List.mem_map.1 hv
    rw [lowO_disown]
    exact List.all_eq_true.1 hf u hu
  | ptr o off => exact RepO.low (w := w) (fx := fx) (v := .ptr o off) hf h
  | mapp o => exact RepO.low (w := w) (fx := fx) (v := .mapp o) hf h
  | fn f caps => exact RepO.low (w := w) (fx := fx) (v := .fn f caps) hf h
  | slice own es => exact RepO.low (w := w) (fx := fx) (v := .slice own es) rfl h
  | _ => exact h
theorem call_frameN {f : FuncId} {args : List AVal} {out : Out} {m1 m1' : Mem} (m2 : Mem) (ha : ∀ v ∈ args, Abs.low m1.length v = true) (hl : m1'.length = m1.length)
    (h : CallOk E P B f args m1 out m1') : CallOk E P B f args (m1 ++ m2) out (m1' ++ m2) := by
  intro w fx rho vals hpre
  have hrl : rho.length = m1.length + m2.length := by rw [hpre.mem.1]; simp
  have hl1 : (rho.take m1.length).length = m1.length := by simp; omega
  have hcut : ∀ b, rho.count b + ownObjs w (m1 ++ m2) rho b = ((rho.take m1.length).count b + ownObjs w m1 (rho.take m1.length) b) + ((rho.drop m1.length).count b + ownObjs w m2 (rho.drop m1.length) b) := fun b => by
    have h1 : rho.count b = (rho.take m1.length).count b + (rho.drop m1.length).count b := by rw [← List.count_append, List.take_append_drop]
    have h2 := ownObjs_append w m1 m2 (rho.take m1.length) (rho.drop m1.length) b hl1.symm
    rw [List.take_append_drop] at h2
    omega
  have hle : ∀ b, preTot w (rho.take m1.length) m1 args vals b + ((rho.drop m1.length).count b + ownObjs w m2 (rho.drop m1.length) b) = preTot w rho (m1 ++ m2) args vals b := fun b => by
    have := hcut b
    unfold preTot; omega
  have hmem1 : ObjsRep E B w fx (rho.take m1.length) mayHold m1 (rho.take m1.length) := by
    have := hpre.mem.cut (base := m1.length)
    rwa [List.take_left' rfl] at this
  have hpre' : CallPre E B w fx (rho.take m1.length) args vals m1 := {
    len := hpre.len
    rep := fun i v V hi hV => ⟨(hpre.rep i v V hi hV).1.low (ha v (List.mem_of_getElem? hi)), (hpre.rep i v V hi hV).2⟩
    mem := hmem1
    fx0 := fun b hb => hpre.fx0 b (List.mem_of_mem_take hb)
    fxb := hpre.fxb
    tot := fun b => by have := hpre.tot b; have := hle b; omega
    low := fun b hb => hpre.low b (by have := hle b; omega)
    glob := hpre.glob
    base := hpre.base }
  refine (h w fx (rho.take m1.length) vals hpre').mono fun e w' ⟨V, fx', rho', he, hp⟩ => ⟨V, fx', rho, he, ?_⟩
  have hr0 : rho' = rho.take m1.length := by
    obtain ⟨t, ht⟩ := hp.pre
    have h1 : rho'.length = m1.length := by rw [hp.mem.1, hl]
    have h2 : (ctxOf w fx (rho.take m1.length) args vals m1).rho0 = rho.take m1.length := rfl
    rw [h2] at ht
    have : t.length = 0 := by
      have := congrArg List.length ht
      rw [List.length_append, hl1, h1] at this
      omega
    have : t = [] := List.length_eq_zero_iff.1 this
    subst this
    simpa using ht.symm
  subst hr0
  have hpx : rho.take m1.length <+: rho := List.take_prefix _ _
  have hsame : ∀ b, 0 < (rho.drop m1.length).count b + ownObjs w m2 (rho.drop m1.length) b → w'.heap[b]? = w.heap[b]? ∧ fx' b = fx b := fun b hb => by
    have h1 := hle b
    have h2 := hpre.tot b
    exact hp.keep.block b (hpre.low b (by omega)).2 (by show ¬ (0 < preTot w (rho.take m1.length) m1 args vals b); omega)
  have hdrop : ∀ g ∈ rho.drop m1.length, w'.heap[g]? = w.heap[g]? := fun g hg => (hsame g (by have := List.count_pos_iff.2 hg; omega)).1
  have hob : ∀ b, ownObjs w' m2 (rho.drop m1.length) b = ownObjs w m2 (rho.drop m1.length) b := fun b => ownObjs_world _ _ _ hdrop
  have hcut' : ∀ b, rho.count b + ownObjs w' (m1' ++ m2) rho b = ((rho.take m1.length).count b + ownObjs w' m1' (rho.take m1.length) b) + ((rho.drop m1.length).count b + ownObjs w m2 (rho.drop m1.length) b) := fun b => by
    have h1 : rho.count b = (rho.take m1.length).count b + (rho.drop m1.length).count b := by rw [← List.count_append, List.take_append_drop]
    have h2 := ownObjs_append w' m1' m2 (rho.take m1.length) (rho.drop m1.length) b (by rw [hl1, hl])
    rw [List.take_append_drop] at h2
    rw [hob] at h2
    omega
  have hsep : ∀ b, 0 < (rho.drop m1.length).count b + ownObjs w m2 (rho.drop m1.length) b → (rho.take m1.length).count b + outOwn out V b + ownObjs w' m1' (rho.take m1.length) b = 0 := fun b hb => by
    rcases Nat.eq_zero_or_pos ((rho.take m1.length).count b + outOwn out V b + ownObjs w' m1' (rho.take m1.length) b) with h0 | h0
    · exact h0
    · have h1 := hle b
      have h2 := hpre.tot b
      have h3 := (hpre.low b (by omega)).2
      have h4 := (hp.low b h0).2.2 h3
      have h4 : 0 < preTot w (rho.take m1.length) m1 args vals b := h4
      omega
  exact {
    rep := by
      have := hp.rep
      cases out with
      | ret v => exact ⟨RepT.ext (Ext.refl _ _) hpx (List.prefix_refl _) this.1, this.2⟩
      | pan v => exact this
    mem := by
      refine ⟨by simp [hl, hrl], fun i o g hi hgi => ?_⟩
      rcases Nat.lt_or_ge i m1.length with hlt | hge
      · rw [List.getElem?_append_left (by omega)] at hi
        have hgi' : (rho.take m1.length)[i]? = some g := by rw [List.getElem?_take, if_pos hlt]; exact hgi
        exact (hp.mem.2 i o g hi hgi').ext (Ext.refl _ _) hpx rfl fun b hb => ⟨rfl, rfl⟩
      · rw [List.getElem?_append_right (by omega), hl] at hi
        have hold : (m1 ++ m2)[i]? = some o := by rw [List.getElem?_append_right hge]; exact hi
        have hgd : (rho.drop m1.length)[i - m1.length]? = some g := by rw [List.getElem?_drop, Nat.add_sub_cancel' hge]; exact hgi
        refine (hpre.mem.2 i o g hold hgi).ext hp.keep.ext (List.prefix_refl _) (hdrop g (List.mem_of_getElem? hgd)) fun b hb => hsame b ?_
        have := ownObj_le w m2 (rho.drop m1.length) (i - m1.length) o g b hi hgd
        omega
    fx0 := fun b hb => by
      rcases Nat.eq_zero_or_pos ((rho.drop m1.length).count b + ownObjs w m2 (rho.drop m1.length) b) with h0 | h0
      · have : b ∈ rho.take m1.length := by
          rw [← List.take_append_drop m1.length rho] at hb
          rcases List.mem_append.1 hb with h | h
          · exact h
          · have := List.count_pos_iff.2 h; omega
        exact hp.fx0 b this
      · rw [(hsame b h0).2]
        exact hpre.fx0 b hb
    fxb := hp.fxb
    tot := fun b => by
      have h1 := hcut' b
      rcases Nat.eq_zero_or_pos ((rho.drop m1.length).count b + ownObjs w m2 (rho.drop m1.length) b) with h0 | h0
      · have := hp.tot b; omega
      · have := hsep b h0
        have := hle b
        have := hpre.tot b
        omega
    low := fun b hb => by
      have h1 := hcut' b
      rcases Nat.eq_zero_or_pos ((rho.drop m1.length).count b + ownObjs w m2 (rho.drop m1.length) b) with h0 | h0
      · obtain ⟨x, y, z⟩ := hp.low b (by omega)
        refine ⟨x, y, fun hlt => ?_⟩
        have z' : 0 < preTot w (rho.take m1.length) m1 args vals b := z hlt
        show 0 < preTot w rho (m1 ++ m2) args vals b
        have := hle b
        omega
      · have h1 : 0 < preTot w rho (m1 ++ m2) args vals b := by have := hle b; omega
        obtain ⟨x, y⟩ := hpre.low b h1
        exact ⟨x, Nat.lt_of_lt_of_le y hp.keep.size, fun _ => h1⟩
    keep := {
      size := hp.keep.size
      os := hp.keep.os
      tape := hp.keep.tape
      output := hp.keep.output
      ext := hp.keep.ext
      block := fun b hb hS => hp.keep.block b hb (fun h => hS (by
        have h : 0 < preTot w (rho.take m1.length) m1 args vals b := h
        show 0 < preTot w rho (m1 ++ m2) args vals b
        have := hle b
        omega)) }
    pre := List.prefix_refl _ }
end
end Go.Abs
