/- Each operation does to memory what the interpreter says: the rest of those that turn nothing. -/
import Derived.Test.YtlklpdifcpjlpaaDoorAbsOps
import Derived.Laws.BytesString
namespace Go.Abs
set_option linter.unusedSectionVars false

theorem takeN_eq {α : Type} : ∀ {l : List α} {n : Nat} {x : List α}, takeN l n = some x → ∃ r, l = x ++ r ∧ x.length = n
  | l, 0, x, h => by
    have : x = [] := by cases l <;> (injection h with h; exact h.symm)
    subst this; exact ⟨l, rfl, rfl⟩
  | [], _ + 1, _, h => by cases h
  | y :: r, n + 1, x, h => by
    simp only [takeN] at h
    cases ht : takeN r n with
    | none => rw [ht] at h; cases h
    | some z =>
      rw [ht] at h; injection h with h; subst h
      obtain ⟨q, h1, h2⟩ := takeN_eq ht
      exact ⟨q, by rw [h1]; rfl, by simp [h2]⟩
theorem sub_eq {α : Type} : ∀ {l : List α} {off n : Nat} {x : List α}, sub l off n = some x → ∃ p r, l = p ++ x ++ r ∧ p.length = off ∧ x.length = n
  | l, 0, n, x, h => by
    have h' : takeN l n = some x := by cases l <;> exact h
    obtain ⟨r, h1, h2⟩ := takeN_eq h'
    exact ⟨[], r, by simp [h1], rfl, h2⟩
  | [], _ + 1, _, _, h => by cases h
  | y :: l, off + 1, n, x, h => by
    obtain ⟨p, r, h1, h2, h3⟩ := sub_eq (l := l) (show sub l off n = some x from h)
    exact ⟨y :: p, r, by simp [h1], by simp [h2], h3⟩


theorem RepL.sub {w : World} {fx : Nat → Nat} {l x : List AVal} {off n : Nat} {Vs : List Value} (h : RepL w fx l Vs) (hs : Abs.sub l off n = some x) :
    ∃ V0 V1 V2, Vs = V0 ++ V1 ++ V2 ∧ V0.length = off ∧ V1.length = n ∧ RepL w fx x V1 := by
  obtain ⟨p, r, rfl, h2, h3⟩ := sub_eq hs
  obtain ⟨V01, V2, rfl, ha, hb⟩ := h.split
  obtain ⟨V0, V1, rfl, hc, hd⟩ := ha.split
  exact ⟨V0, V1, V2, rfl, by rw [hc.length, h2], by rw [hd.length, h3], hd⟩
theorem RepL.takeN {w : World} {fx : Nat → Nat} {l x : List AVal} {n : Nat} {Vs : List Value} (h : RepL w fx l Vs) (hs : Abs.takeN l n = some x) :
    ∃ V1 V2, Vs = V1 ++ V2 ∧ V1.length = n ∧ RepL w fx x V1 := by
  obtain ⟨r, rfl, h3⟩ := takeN_eq hs
  obtain ⟨V1, V2, rfl, ha, hb⟩ := h.split
  exact ⟨V1, V2, rfl, by rw [ha.length, h3], ha⟩
theorem CellsAt.part {w : World} {fx : Nat → Nat} {b off : Nat} {V0 V1 V2 : List Value} (h : CellsAt w fx b off (V0 ++ V1 ++ V2)) : CellsAt w fx b (off + V0.length) V1 := fun j V hj => by
  have hlt : j < V1.length := by
    rcases Nat.lt_or_ge j V1.length with h | h
    · exact h
    · simp [List.getElem?_eq_none h] at hj
  have := h (V0.length + j) V (by
    rw [List.append_assoc, List.getElem?_append_right (by omega), Nat.add_sub_cancel_left, List.getElem?_append_left hlt, hj])
  rw [Nat.add_assoc]
  exact this
theorem CellsAt.head {w : World} {fx : Nat → Nat} {b off : Nat} {V1 V2 : List Value} (h : CellsAt w fx b off (V1 ++ V2)) : CellsAt w fx b off V1 := by
  have := CellsAt.part (V0 := []) (V1 := V1) (V2 := V2) (by simpa using h)
  simpa using this
theorem RepOL.split {w : World} {fx : Nat → Nat} {rho : List Nat} : ∀ {l l' : List AVal} {Vs : List Value}, RepOL w fx rho (l ++ l') Vs → ∃ V1 V2, Vs = V1 ++ V2 ∧ RepOL w fx rho l V1 ∧ RepOL w fx rho l' V2
  | [], _, Vs, h => ⟨[], Vs, rfl, rfl, h⟩
  | _ :: r, _, Vs, h => by
    obtain ⟨V, Vr, rfl, h1, h3⟩ := h
    obtain ⟨V1, V2, rfl, ha, hb⟩ := RepOL.split (l := r) h3
    exact ⟨V :: V1, V2, rfl, ⟨V, V1, rfl, h1, ha⟩, hb⟩
theorem RepOL.append {w : World} {fx : Nat → Nat} {rho : List Nat} : ∀ {l l' : List AVal} {Vs Vs' : List Value}, RepOL w fx rho l Vs → RepOL w fx rho l' Vs' → RepOL w fx rho (l ++ l') (Vs ++ Vs')
  | [], _, _, _, h, h' => by rw [show _ = [] from h]; exact h'
  | _ :: r, _, _, _, h, h' => by
    obtain ⟨V, Vr, rfl, h1, h3⟩ := h
    exact ⟨V, _, rfl, h1, RepOL.append (l := r) h3 h'⟩

section
variable {P : Program} {E : Env} {B : Nat} {c : Ctx} {w w' : World} {fx fx' : Nat → Nat} {rho lam : List Nat} {fr : AFrame} {m : Mem} {a : Act}
variable {R : Type} {r : R} {o : Oper} {next : Act → World → Prop} {Q : Exit → Act → World → Prop} {K : AFrame → Mem → Option R}

/-- the cells that a place names: they lie there in order -/
theorem getCells_sound (hg : Good E B c w fx rho lam fr m a) {p : AVal} {V : Value} (hp : RepT w fx rho lam p V) {n : Nat} {cs : List AVal} (h : getCells fr m p n = some cs) :
    ∃ b off Vs, V = .pointer (some ⟨b, off, none⟩) ∧ Vs.length = n ∧ RepOL w fx rho cs Vs ∧ w.rangeAt b off Vs ∧ (∀ u ∈ Vs, u.oneCell' = true) ∧ cs.length = n := by
  unfold getCells at h
  split at h
  · rename_i o' off
    obtain ⟨b, hb, rfl⟩ := hp
    rw [oget_eq] at h
    split at h
    · rename_i l hl
      obtain ⟨arr, et, h1, h2, h3⟩ := hg.mem.2 _ _ _ hl hb
      obtain ⟨p, r, rfl, h4, h5⟩ := sub_eq h
      obtain ⟨V01, V2, e, ha, hb'⟩ := h2.split
      obtain ⟨V0, V1, rfl, hc, hd⟩ := ha.split
      have hl0 : V0.length = off := by rw [hc.length, h4]
      refine ⟨b, off, V1, rfl, by rw [hd.length, h5], hd, fun j u hj => ?_, fun u hu => ?_, h5⟩
      · have hlt : j < V1.length := by
          rcases Nat.lt_or_ge j V1.length with h | h
          · exact h
          · simp [List.getElem?_eq_none h] at hj
        have : arr.toList[off + j]? = some u := by
          rw [e, List.append_assoc, List.getElem?_append_right (by omega), hl0, Nat.add_sub_cancel_left, List.getElem?_append_left hlt, hj]
        simp only [World.cell?, h1]
        simpa using this
      · obtain ⟨j, hj⟩ := List.getElem?_of_mem hu
        have hlt : j < V1.length := by
          rcases Nat.lt_or_ge j V1.length with h | h
          · exact h
          · simp [List.getElem?_eq_none h] at hj
        have hx : arr.toList[off + j]? = some u := by
          rw [e, List.append_assoc, List.getElem?_append_right (by omega), hl0, Nat.add_sub_cancel_left, List.getElem?_append_left hlt, hj]
        have hlen := h2.length
        have hy : off + j < (p ++ cs ++ r).length := by
          rcases Nat.lt_or_ge (off + j) arr.toList.length with h | h
          · rw [← hlen]; exact h
          · simp [List.getElem?_eq_none h] at hx
        exact (h3.1 _ _ u (List.getElem?_eq_getElem hy) hx).2.1
    · cases h
  · rename_i o' off
    obtain ⟨b, hb, rfl⟩ := hp
    rw [oget_eq] at h
    split at h
    · rename_i l hl
      obtain ⟨arr, et, h1, h2, h3⟩ := hg.locs.2 _ _ _ hl hb
      obtain ⟨p, r, rfl, h4, h5⟩ := sub_eq h
      obtain ⟨V01, V2, e, ha, hb'⟩ := h2.split
      obtain ⟨V0, V1, rfl, hc, hd⟩ := ha.split
      have hl0 : V0.length = off := by rw [hc.length, h4]
      refine ⟨b, off, V1, rfl, by rw [hd.length, h5], hd, fun j u hj => ?_, fun u hu => ?_, h5⟩
      · have hlt : j < V1.length := by
          rcases Nat.lt_or_ge j V1.length with h | h
          · exact h
          · simp [List.getElem?_eq_none h] at hj
        have : arr.toList[off + j]? = some u := by
          rw [e, List.append_assoc, List.getElem?_append_right (by omega), hl0, Nat.add_sub_cancel_left, List.getElem?_append_left hlt, hj]
        simp only [World.cell?, h1]
        simpa using this
      · obtain ⟨j, hj⟩ := List.getElem?_of_mem hu
        have hlt : j < V1.length := by
          rcases Nat.lt_or_ge j V1.length with h | h
          · exact h
          · simp [List.getElem?_eq_none h] at hj
        have hx : arr.toList[off + j]? = some u := by
          rw [e, List.append_assoc, List.getElem?_append_right (by omega), hl0, Nat.add_sub_cancel_left, List.getElem?_append_left hlt, hj]
        have hlen := h2.length
        have hy : off + j < (p ++ cs ++ r).length := by
          rcases Nat.lt_or_ge (off + j) arr.toList.length with h | h
          · rw [← hlen]; exact h
          · simp [List.getElem?_eq_none h] at hx
        exact (h3.1 _ _ u (List.getElem?_eq_getElem hy) hx).2.1
    · cases h
  · rename_i cells
    obtain ⟨b, off, Vs, rfl, h1, h2⟩ := hp
    obtain ⟨V1, V2, rfl, h3, h4⟩ := h1.takeN h
    have hO : ∀ {l : List AVal} {Vs : List Value}, RepL w fx l Vs → RepOL w fx rho l Vs := by
      intro l
      induction l with
      | nil => intro Vs h; exact h
      | cons v r ih => intro Vs h; obtain ⟨V, Vr, e, ha, _, hb⟩ := h; exact ⟨V, Vr, e, ha.toO, ih hb⟩
    exact ⟨b, off, V1, rfl, h3, hO h4, fun j u hj => (h2.head j u hj).1, h4.cells, by rw [← h4.length, h3]⟩
  · cases h

/-- cells that hold no pointer of an object -/
theorem RepOL.toL : ∀ {l : List AVal} {Vs : List Value}, RepOL w fx rho l Vs → (∀ v ∈ l, isData v = true) → (∀ u ∈ Vs, u.oneCell' = true) → RepL w fx (l.map disown) Vs
  | [], _, h, _, _ => h
  | v :: r, _, h, hd, h1 => by
    obtain ⟨V, Vr, rfl, ha, hb⟩ := h
    exact ⟨V, Vr, rfl, RepT.data (lam := []) ha.toT (hd v (List.mem_cons_self ..)), h1 V (List.mem_cons_self ..), RepOL.toL hb (fun v hv => hd v (List.mem_cons_of_mem _ hv)) fun u hu => h1 u (List.mem_cons_of_mem _ hu)⟩

end
end Go.Abs
