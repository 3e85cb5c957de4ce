/- The operations that store. -/
import Derived.Test.YtlklpdifcpjlpaaDoorAbsStore
namespace Go.Abs
set_option linter.unusedSectionVars false
set_option linter.unusedSimpArgs false
set_option linter.unusedVariables false

section
variable {P : Program} {E : Env} {B : Nat} {c : Ctx} {w w' : World} {fx fx' : Nat → Nat} {rho lam : List Nat} {fr : AFrame} {m : Mem} {a : Act}
variable {R : Type} {r : R} {o : Oper} {next : Act → World → Prop} {Q : Exit → Act → World → Prop} {K : AFrame → Mem → Option R}

theorem toArray_of {arr : Array Value} {l : List Value} (h : arr.toList = l) : arr = l.toArray := by rw [← h]

/-- cells go into an object: the run and what holds behind it -/
theorem setCells_sound (hg : Good E B c w fx rho lam fr m a) {p : AVal} {V : Value} (hp : RepT w fx rho lam p V) {vs : List AVal} {fr' : AFrame} {m' : Mem} (h : setCells fr m p vs = some (fr', m'))
    {Vs : List Value} (hr : RepOL w fx rho vs Vs) (hok : ∀ (i : Nat) (x : AVal) (X : Value), vs[i]? = some x → Vs[i]? = some X → OwnOk E B w fx x X ∧ X.oneCell' = true)
    (hown : MayOwn B c w (total w rho lam fr m a.tmps.toList) (ownSum vs Vs)) :
    ∃ g off, V = .pointer (some ⟨g, off, none⟩) ∧ (storeCells ⟨g, off, none⟩ Vs 0).run P w = .ok () (w.setCells g off Vs) ∧ Good E B c (w.setCells g off Vs) fx rho lam fr' m' a ∧ Ext w fx (w.setCells g off Vs) fx := by
  have hvl : Vs.length = vs.length := hr.length
  have hone : ∀ u ∈ Vs, u.oneCell' = true := fun u hu => by
    obtain ⟨j, hj⟩ := List.getElem?_of_mem hu
    have hlt : j < vs.length := by
      rw [← hvl]
      rcases Nat.lt_or_ge j Vs.length with h | h
      · exact h
      · simp [List.getElem?_eq_none h] at hj
    exact (hok j _ u (List.getElem?_eq_getElem hlt) hj).2
  have core : ∀ (l l' : List AVal) (off g : Nat) (arr : Array Value) (et : TypeId), w.heap[g]? = some (.cells arr et (0, 0)) → RepOL w fx rho l arr.toList → lput l off vs = some l' →
      (storeCells ⟨g, off, none⟩ Vs 0).run P w = .ok () (w.setCells g off Vs) ∧ ∃ p q r P0 Q0 R0, l = p ++ q ++ r ∧ l' = p ++ vs ++ r ∧ arr.toList = P0 ++ Q0 ++ R0 ∧ P0.length = p.length ∧ Q0.length = q.length ∧ q.length = vs.length ∧
        RepOL w fx rho p P0 ∧ RepOL w fx rho r R0 ∧ p.length = off ∧ (w.setCells g off Vs).heap[g]? = some (.cells (P0 ++ Vs ++ R0).toArray et (0, 0)) := by
    intro l l' off g arr et hh hrl hl
    obtain ⟨p, q, r, rfl, hpl, hql, rfl⟩ := lput_eq hl
    obtain ⟨V01, R0, e1, h01, hrR⟩ := hrl.split
    obtain ⟨P0, Q0, rfl, hrP, hrQ⟩ := h01.split
    have hP := hrP.length
    have hQ := hrQ.length
    have harr := toArray_of e1
    have hheap : w.heap[g]? = some (.cells (P0 ++ Q0 ++ R0).toArray et (0, 0)) := by rw [hh, harr]
    refine ⟨?_, p, q, r, P0, Q0, R0, rfl, rfl, e1, hP, hQ, hql, hrP, hrR, hpl, ?_⟩
    · have := run_storeCells_cells (P := P) g off Vs 0 w (fun j hj => by
          simp only [World.cell?, hheap, Nat.add_zero]
          simp; omega) (fun j hj => by simp [World.frozen?, hheap]) (fun u hu => hone u hu)
      simpa using this
    · have := setCells_heap Vs hheap (by omega)
      rwa [hP, hpl] at this
  unfold setCells at h
  split at h
  · rename_i i off
    obtain ⟨g, hgi, rfl⟩ := hp
    rw [oget_eq] at h
    split at h
    · rename_i l hl
      split at h
      · rename_i hall
        cases hlpB : lputB l off vs with
        | none => rw [hlpB] at h; cases h
        | some l' =>
          rw [hlpB] at h
          obtain ⟨hlp, hbld⟩ := lputB_of hlpB
          injection h with h
          injection h with h h'
          subst h; subst h'
          rw [oset_eq]
          obtain ⟨arr, et, hh, hrl, hoks, het⟩ := hg.mem.2 i _ g hl hgi
          obtain ⟨hrun, p, q, r, P0, Q0, R0, rfl, rfl, e1, hP, hQ, hql, hrP, hrR, hpl, hheap⟩ := core l l' off g arr et hh hrl hlp
          obtain ⟨hsz, hos, htp, hou⟩ := setCells_rest Vs (w := w) (g := g) (off := off)
          have hmem : g ∈ rho := List.mem_of_getElem? hgi
          have hg1 : 1 ≤ rho.count g := List.count_pos_iff.2 hmem
          have htg := hg.tot g
          have hnog : ∀ x X, OwnOk E B w fx x X → (∀ b, ownB x X b ≤ ownObjs w m rho b ∨ ownB x X b ≤ ownSum vs Vs b) → Ext w fx (w.setCells g off Vs) fx → OwnOk E B (w.setCells g off Vs) fx x X := fun x X hox hle hx =>
            hox.ext hx fun b hb => ⟨setCells_other Vs (by
              rintro rfl
              rcases hle b with h | h
              · unfold total at htg; omega
              · have := (hown b (by omega)).1
                unfold total at this; omega), rfl⟩
          obtain ⟨hgood, hxx, _⟩ := hg.setMem (w' := w.setCells g off Vs) (ao' := .cells (p ++ vs ++ r)) hl hgi hsz (fun b hb => setCells_other Vs hb) hos htp hou (fun hx => by
              refine ⟨_, et, hheap, RepOL.append (RepOL.append (RepOL.ext hx (List.prefix_refl _) hrP) (RepOL.ext hx (List.prefix_refl _) hr)) (RepOL.ext hx (List.prefix_refl _) hrR), fun j x X hj hX => ?_, fun T hT hb => het T hT (hbld hb)⟩
              have hX' : (P0 ++ Vs ++ R0)[j]? = some X := hX
              rcases Nat.lt_or_ge j p.length with hj1 | hj1
              · rw [List.append_assoc, List.getElem?_append_left hj1] at hj
                rw [List.append_assoc, List.getElem?_append_left (by omega)] at hX'
                have hA : (p ++ q ++ r)[j]? = some x := by rw [List.append_assoc, List.getElem?_append_left hj1]; exact hj
                have hB : arr.toList[j]? = some X := by rw [e1, List.append_assoc, List.getElem?_append_left (by omega)]; exact hX'
                obtain ⟨z1, z2, z3⟩ := hoks j x X hA hB
                refine ⟨hnog x X z1 (fun b => .inl ?_) hx, z2, z3⟩
                have h1 := ownSum_le_of_get _ _ j x X b hA hB
                have h2 := ownObj_le w m rho i _ g b hl hgi
                simp only [ownObj, blockVals, hh] at h2
                omega
              · rcases Nat.lt_or_ge j (p.length + vs.length) with hj2 | hj2
                · rw [List.append_assoc, List.getElem?_append_right hj1, List.getElem?_append_left (by omega)] at hj
                  rw [List.append_assoc, List.getElem?_append_right (by omega), List.getElem?_append_left (by omega), hP] at hX'
                  obtain ⟨z1, z2⟩ := hok _ x X hj hX'
                  refine ⟨hnog x X z1 (fun b => .inr (ownSum_le_of_get _ _ _ x X b hj hX')) hx, z2, ?_⟩
                  exact List.all_eq_true.1 hall x (List.mem_of_getElem? hj)
                · rw [List.getElem?_append_right (by simp; omega)] at hj
                  rw [List.getElem?_append_right (by simp; omega)] at hX'
                  have hl1 : (p ++ vs).length = (p ++ q).length := by simp [hql]
                  have hl2 : (P0 ++ Vs).length = (P0 ++ Q0).length := by simp; omega
                  rw [hl1] at hj
                  rw [hl2] at hX'
                  have hA : (p ++ q ++ r)[j]? = some x := by rw [List.getElem?_append_right (by simp; omega)]; exact hj
                  have hB : arr.toList[j]? = some X := by rw [e1, List.getElem?_append_right (by simp; omega)]; exact hX'
                  obtain ⟨z1, z2, z3⟩ := hoks j x X hA hB
                  refine ⟨hnog x X z1 (fun b => .inl ?_) hx, z2, z3⟩
                  have h1 := ownSum_le_of_get _ _ j x X b hA hB
                  have h2 := ownObj_le w m rho i _ g b hl hgi
                  simp only [ownObj, blockVals, hh] at h2
                  omega) (ownSum vs Vs) (fun b => by
              simp only [ownObj, blockVals, hheap, hh, e1]
              exact ownSum_mid (w := w) (fx := fx) (rho := rho) hP hQ hvl b) hown
          exact ⟨g, off, rfl, hrun, hgood, hxx⟩
      · cases h
    · cases h
  · rename_i i off
    obtain ⟨g, hgi, rfl⟩ := hp
    rw [oget_eq] at h
    split at h
    · rename_i l hl
      split at h
      · rename_i hall
        cases hlpB : lputB l off vs with
        | none => rw [hlpB] at h; cases h
        | some l' =>
          rw [hlpB] at h
          obtain ⟨hlp, hbld⟩ := lputB_of hlpB
          injection h with h
          injection h with h h'
          subst h; subst h'
          rw [oset_eq]
          obtain ⟨arr, et, hh, hrl, hoks, het⟩ := hg.locs.2 i _ g hl hgi
          obtain ⟨hrun, p, q, r, P0, Q0, R0, rfl, rfl, e1, hP, hQ, hql, hrP, hrR, hpl, hheap⟩ := core l l' off g arr et hh hrl hlp
          obtain ⟨hsz, hos, htp, hou⟩ := setCells_rest Vs (w := w) (g := g) (off := off)
          have hmem : g ∈ lam := List.mem_of_getElem? hgi
          have hg1 : 1 ≤ lam.count g := List.count_pos_iff.2 hmem
          have htg := hg.tot g
          have hnog : ∀ x X, OwnOk E B w fx x X → (∀ b, ownB x X b ≤ ownObjs w fr.locs lam b ∨ ownB x X b ≤ ownSum vs Vs b) → Ext w fx (w.setCells g off Vs) fx → OwnOk E B (w.setCells g off Vs) fx x X := fun x X hox hle hx =>
            hox.ext hx fun b hb => ⟨setCells_other Vs (by
              rintro rfl
              rcases hle b with h | h
              · unfold total at htg; omega
              · have := (hown b (by omega)).1
                unfold total at this; omega), rfl⟩
          obtain ⟨hgood, hxx, _⟩ := hg.setLoc (w' := w.setCells g off Vs) (ao' := .cells (p ++ vs ++ r)) hl hgi hsz (fun b hb => setCells_other Vs hb) hos htp hou (fun hx => by
              refine ⟨_, et, hheap, RepOL.append (RepOL.append (RepOL.ext hx (List.prefix_refl _) hrP) (RepOL.ext hx (List.prefix_refl _) hr)) (RepOL.ext hx (List.prefix_refl _) hrR), fun j x X hj hX => ?_, fun T hT hb => het T hT (hbld hb)⟩
              have hX' : (P0 ++ Vs ++ R0)[j]? = some X := hX
              rcases Nat.lt_or_ge j p.length with hj1 | hj1
              · rw [List.append_assoc, List.getElem?_append_left hj1] at hj
                rw [List.append_assoc, List.getElem?_append_left (by omega)] at hX'
                have hA : (p ++ q ++ r)[j]? = some x := by rw [List.append_assoc, List.getElem?_append_left hj1]; exact hj
                have hB : arr.toList[j]? = some X := by rw [e1, List.append_assoc, List.getElem?_append_left (by omega)]; exact hX'
                obtain ⟨z1, z2, z3⟩ := hoks j x X hA hB
                refine ⟨hnog x X z1 (fun b => .inl ?_) hx, z2, z3⟩
                have h1 := ownSum_le_of_get _ _ j x X b hA hB
                have h2 := ownObj_le w fr.locs lam i _ g b hl hgi
                simp only [ownObj, blockVals, hh] at h2
                omega
              · rcases Nat.lt_or_ge j (p.length + vs.length) with hj2 | hj2
                · rw [List.append_assoc, List.getElem?_append_right hj1, List.getElem?_append_left (by omega)] at hj
                  rw [List.append_assoc, List.getElem?_append_right (by omega), List.getElem?_append_left (by omega), hP] at hX'
                  obtain ⟨z1, z2⟩ := hok _ x X hj hX'
                  refine ⟨hnog x X z1 (fun b => .inr (ownSum_le_of_get _ _ _ x X b hj hX')) hx, z2, ?_⟩
                  exact List.all_eq_true.1 hall x (List.mem_of_getElem? hj)
                · rw [List.getElem?_append_right (by simp; omega)] at hj
                  rw [List.getElem?_append_right (by simp; omega)] at hX'
                  have hl1 : (p ++ vs).length = (p ++ q).length := by simp [hql]
                  have hl2 : (P0 ++ Vs).length = (P0 ++ Q0).length := by simp; omega
                  rw [hl1] at hj
                  rw [hl2] at hX'
                  have hA : (p ++ q ++ r)[j]? = some x := by rw [List.getElem?_append_right (by simp; omega)]; exact hj
                  have hB : arr.toList[j]? = some X := by rw [e1, List.getElem?_append_right (by simp; omega)]; exact hX'
                  obtain ⟨z1, z2, z3⟩ := hoks j x X hA hB
                  refine ⟨hnog x X z1 (fun b => .inl ?_) hx, z2, z3⟩
                  have h1 := ownSum_le_of_get _ _ j x X b hA hB
                  have h2 := ownObj_le w fr.locs lam i _ g b hl hgi
                  simp only [ownObj, blockVals, hh] at h2
                  omega) (ownSum vs Vs) (fun b => by
              simp only [ownObj, blockVals, hheap, hh, e1]
              exact ownSum_mid (w := w) (fx := fx) (rho := rho) hP hQ hvl b) hown
          exact ⟨g, off, rfl, hrun, hgood, hxx⟩
      · cases h
    · cases h
  · cases h

theorem sound_store (hF : Fits E P) (hg : Good E B c w fx rho lam fr m a) (hG : GlobOk E w fx) (hn : NextOk E B c r K next) {t : TypeId} {x y : Operand} (ho : o.op = .store t x y)
    {p v : AVal} (hx : ev E fr x = some p) (hy : ev E fr y = some v) {ti : TI} (hti : E.T t = some ti) (hsz : (cellsOf v).length = ti.size) {fr' : AFrame} {m' : Mem}
    (ts : List (Option TypeId)) (h : setCells (leave1 fr y) m p (promoL E ts (cellsOf v)) = some (fr', m')) (hK : K (Abs.put fr' o.dst (.tup [])) m' = some r) : o.wp P a w next Q := by
  have hpx := ev_sound hg hG hx
  have hvy := ev_sound hg hG hy
  obtain ⟨h1, h2⟩ := leave_sound hg hy
  -- what the cells may be
  have hback : ∀ hold, Holds hold → (promoL E ts (cellsOf v)).all hold = true → (∀ es, hold (.slice .nil es) = true) → (cellsOf v).all hold = true := by
    intro hold hh
    clear hsz h hvy hy
    generalize cellsOf v = l
    induction l generalizing ts with
    | nil => intro _ _; rfl
    | cons x l ih =>
      intro h hnil
      cases ts with
      | nil => exact h
      | cons t ts =>
        simp only [promoL, List.all_cons, Bool.and_eq_true] at h ⊢
        refine ⟨?_, ih ts h.2 hnil⟩
        rcases promo_cases E t x with e | ⟨e, ei, rfl, rfl, hei, hp, e1⟩
        · rw [e] at h; exact h.1
        · exact hnil []
  have hall : ∃ hold, Holds hold ∧ (cellsOf v).all hold = true := by
    unfold setCells at h
    split at h
    · rename_i i off
      split at h
      · split at h
        · exact ⟨mayHold i, holds i, hback _ (holds i) ‹_› fun _ => rfl⟩
        · cases h
      · cases h
    · split at h
      · split at h
        · exact ⟨mayHoldL, holdsL, hback _ holdsL ‹_› fun _ => rfl⟩
        · cases h
      · cases h
    · cases h
  obtain ⟨hold, hh, hall⟩ := hall
  obtain ⟨q1, q2, q3⟩ := cellsOf_obj hh hvy.rep hvy.own hall
  obtain ⟨p1, p2, p3⟩ := promoL_ok (E := E) (B := B) (ts := ts) q1 fun i y Y hi hY => (q2 i y Y hi hY).1
  obtain ⟨g, off, hV, hrun, hgood, hxx⟩ := setCells_sound (P := P) h1 hpx.rep h p1 (fun i z Z hi hZ => by
      obtain ⟨y0, e1, e2, e3, e4⟩ := p2 i z Z hi hZ
      exact ⟨e2, (q2 i y0 Z e1 hZ).2.1⟩) (fun b hb => by
    rw [p3, q3] at hb ⊢
    have h3 := h2 b
    have h4 := hg.tot b
    have h5 := hg.low b (by have := hvy.le b; omega)
    exact ⟨by omega, h5⟩)
  refine wp_skip (V := undef) rfl (w' := w.setCells g off (a.eval y).cells.toList) ?_ (hn _ _ _ _ _ _ _ hK (hgood.put o.dst (v := .tup []) ⟨[], rfl, rfl⟩ rfl) (hG.ext hxx))
  have hs1 : ¬ (a.eval y).cells.size ≠ ti.size := by
    have := q1.length
    rw [Array.length_toList, hsz] at this
    exact fun h => h this
  have hst : (storeVar t ⟨g, off, none⟩ (a.eval y)).run P w = .ok () (w.setCells g off (a.eval y).cells.toList) := by
    unfold storeVar
    simp only [Sem.run_bind, (hF t _ hti).sizeOf, Result.andThen_ok]
    rw [if_neg hs1]
    simpa using hrun
  simp only [execOp, ho, hV, Instr.storeAt, Instr.sureAddr, Sem.run_bind, Sem.run_pure, Result.andThen_ok, hst]

theorem disown_hold {i : Nat} {v : AVal} (h : mayHold i v = true) : mayHold i (disown v) = true := by
  cases v <;> try exact h
  rename_i own es; cases own <;> rfl

theorem ownSum_disown (p r : List AVal) (v : AVal) (P0 R0 : List Value) (V : Value) (hp : P0.length = p.length) (b : Nat) :
    ownSum (p ++ [disown v] ++ r) (P0 ++ [V] ++ R0) b + ownB v V b = ownSum (p ++ [v] ++ r) (P0 ++ [V] ++ R0) b := by
  rw [ownSum_append _ _ _ _ _ (by simp [hp]), ownSum_append _ _ _ _ _ hp.symm, ownSum_append _ _ _ _ _ (by simp [hp]), ownSum_append _ _ _ _ _ hp.symm]
  simp only [ownSum, ownB_disown]
  omega

theorem sub_lput {l l' : List AVal} {off : Nat} {v x : AVal} (h1 : sub l off 1 = some [v]) (h2 : lput l off [x] = some l') : ∃ p r, l = p ++ [v] ++ r ∧ l' = p ++ [x] ++ r ∧ p.length = off := by
  obtain ⟨p, r, e1, h3, _⟩ := sub_eq h1
  obtain ⟨p', q', r', e2, h4, h5, rfl⟩ := lput_eq h2
  rw [e1] at e2
  have ha : p = p' ∧ [v] ++ r = q' ++ r' := by
    have := List.append_inj (by simpa using e2) (by omega : p.length = p'.length)
    exact this
  obtain ⟨rfl, hb⟩ := ha
  have hc : [v] = q' ∧ r = r' := List.append_inj hb (by simp [h5])
  obtain ⟨_, rfl⟩ := hc
  exact ⟨p, r, e1, rfl, h3⟩

theorem load_one (hF : Fits E P) {t : TypeId} {ti : TI} (hti : E.T t = some ti) (hagg : ti.isAgg = false) {g off : Nat} {U : Value} (hc : w.cell? ⟨g, off, none⟩ = some U) :
    (Instr.loadAt t (.pointer (some ⟨g, off, none⟩))).run P w = .ok U w := by
  have ht := hF t _ hti
  have hl : (loadVar t ⟨g, off, none⟩).run P w = .ok U w := by
    unfold loadVar
    rw [Sem.run_bind, isAgg_run ht.under w, ht.agg, hagg]
    simp [hc]
  simp only [Instr.loadAt, Instr.sureAddr, Sem.run_bind, Sem.run_pure, Result.andThen_ok, hl]

/-- a load that takes the row along -/
theorem sound_loadMove (hF : Fits E P) (hg : Good E B c w fx rho lam fr m a) (hG : GlobOk E w fx) {t : TypeId} {x : Operand} (ho : o.op = .load t x)
    {p v : AVal} (hx : ev E fr x = some p) (hv : loadV E fr m t p = some v) (hnr : noRow v = false) {fr' : AFrame} {m' : Mem} (hs : setCells fr m p [disown v] = some (fr', m')) (hK : K (Abs.put fr' o.dst v) m' = some r) : CalmStep E B c P w fx rho lam a o r K := by
  have hp := (ev_sound hg hG hx).rep
  have hrow : ∃ e es, v = .slice (.row e) es := by
    cases v with
    | slice own es => cases own <;> first | (cases hnr; done) | exact ⟨_, _, rfl⟩
    | _ => cases hnr
  obtain ⟨e, es, rfl⟩ := hrow
  have hget : ∃ ti, E.T t = some ti ∧ ti.isAgg = false ∧ getCells fr m p ti.size = some [.slice (.row e) es] := by
    unfold loadV at hv
    split at hv
    · rename_i ti hti
      split at hv
      · rename_i cs hcs
        refine ⟨ti, hti, ?_⟩
        split at hv
        · split at hv
          · injection hv with hv; cases hv
          · cases hv
        · rename_i hagg
          simp only [ofCells, Bool.false_eq_true, if_false] at hv
          split at hv
          · injection hv with hv; subst hv; exact ⟨by simpa using hagg, hcs⟩
          · cases hv
      · cases hv
    · cases hv
  obtain ⟨ti, hti, hagg, hgc⟩ := hget
  unfold setCells at hs
  split at hs
  · rename_i i off
    obtain ⟨g, hgi, hVp⟩ := hp
    rw [oget_eq] at hs
    split at hs
    · rename_i l hl
      split at hs
      · rename_i hall
        cases hlpB : lputB l off [disown (.slice (.row e) es)] with
        | none => rw [hlpB] at hs; cases hs
        | some l' =>
          rw [hlpB] at hs
          obtain ⟨hlp, hbld⟩ := lputB_of hlpB
          injection hs with hs
          injection hs with h h'
          subst h; subst h'
          rw [oset_eq] at hK
          simp only [getCells, oget_eq, hl] at hgc
          have hsz1 : ti.size = 1 := by obtain ⟨_, _, _, _, h⟩ := sub_eq hgc; simpa using h.symm
          rw [hsz1] at hgc
          obtain ⟨pl, rl, rfl, rfl, hoff⟩ := sub_lput hgc hlp
          obtain ⟨arr, et, hh, hrl, hoks, het⟩ := hg.mem.2 i _ g hl hgi
          obtain ⟨V01, R0, e1, h01, hrR⟩ := hrl.split
          obtain ⟨P0, Q0, rfl, hrP, hrQ⟩ := h01.split
          obtain ⟨U, Ur, rfl, hU, hUr⟩ := hrQ
          obtain rfl : Ur = [] := hUr
          have hP := hrP.length
          have hA : (pl ++ [AVal.slice (.row e) es] ++ rl)[pl.length]? = some (.slice (.row e) es) := by simp
          have hB : arr.toList[pl.length]? = some U := by rw [e1, ← hP]; simp
          obtain ⟨z1, z2, z3⟩ := hoks _ _ U hA hB
          have hcell : w.cell? ⟨g, off, none⟩ = some U := by
            simp only [World.cell?, hh]
            have := hB
            rw [Array.getElem?_toList] at this
            simpa [hoff] using this
          obtain ⟨hgood, hxx, hte⟩ := hg.setMem (w' := w) (ao' := .cells (pl ++ [disown (.slice (.row e) es)] ++ rl)) hl hgi rfl (fun _ _ => rfl) rfl rfl rfl (fun hx => by
              refine ⟨arr, et, hh, ?_, fun j y Y hj hY => ?_, fun T hT hb => het T hT (hbld hb)⟩
              · rw [e1]
                exact RepOL.append (RepOL.append hrP ⟨U, [], rfl, hU, rfl⟩) hrR
              · by_cases hjj : j = pl.length
                · subst hjj
                  simp at hj; subst hj
                  rw [hB] at hY; injection hY with hY; subst hY
                  exact ⟨OwnOk.of_disown (.slice (.row e) es) _, z2, rfl⟩
                · have hj' : (pl ++ [AVal.slice (.row e) es] ++ rl)[j]? = some y := by
                    rw [← hj]
                    simp only [List.append_assoc]
                    rcases Nat.lt_or_ge j pl.length with hlt | hge
                    · rw [List.getElem?_append_left hlt, List.getElem?_append_left hlt]
                    · rw [List.getElem?_append_right hge, List.getElem?_append_right hge]
                      cases hk : j - pl.length with
                      | zero => omega
                      | succ k => rfl
                  exact hoks j y Y hj' hY) (fun _ => 0) (fun b => by
              simp only [ownObj, blockVals, hh, e1]
              have := ownSum_disown pl rl (.slice (.row e) es) P0 R0 U hP b
              omega) (fun b hb => absurd hb (by simp))
          have hte' : ∀ b, total w rho lam fr (m.set i (.cells (pl ++ [disown (.slice (.row e) es)] ++ rl))) a.tmps.toList b + ownB (.slice (.row e) es) U b = total w rho lam fr m a.tmps.toList b := fun b => by
            have h1 := hte b
            have h2 := ownSum_disown pl rl (.slice (.row e) es) P0 R0 U hP b
            simp only [ownObj, blockVals, hh, e1] at h1
            omega
          refine ⟨U, _, _, fun w' hw' => ?_, hgood.putOwn o.dst (v := .slice (.row e) es) hU z1 fun b hb => ?_, hK⟩
          · have hcell' : w'.cell? ⟨g, off, none⟩ = some U := (cell_heap hw' _).trans hcell
            simp [execOp, ho, hVp, load_one hF hti hagg hcell']
          · have h1 := hte' b
            have h2 := hg.tot b
            have h3 := hg.low b (by omega)
            exact ⟨by omega, h3⟩
      · cases hs
    · cases hs
  · rename_i i off
    obtain ⟨g, hgi, hVp⟩ := hp
    rw [oget_eq] at hs
    split at hs
    · rename_i l hl
      split at hs
      · rename_i hall
        cases hlpB : lputB l off [disown (.slice (.row e) es)] with
        | none => rw [hlpB] at hs; cases hs
        | some l' =>
          rw [hlpB] at hs
          obtain ⟨hlp, hbld⟩ := lputB_of hlpB
          injection hs with hs
          injection hs with h h'
          subst h; subst h'
          rw [oset_eq] at hK
          simp only [getCells, oget_eq, hl] at hgc
          have hsz1 : ti.size = 1 := by obtain ⟨_, _, _, _, h⟩ := sub_eq hgc; simpa using h.symm
          rw [hsz1] at hgc
          obtain ⟨pl, rl, rfl, rfl, hoff⟩ := sub_lput hgc hlp
          obtain ⟨arr, et, hh, hrl, hoks, het⟩ := hg.locs.2 i _ g hl hgi
          obtain ⟨V01, R0, e1, h01, hrR⟩ := hrl.split
          obtain ⟨P0, Q0, rfl, hrP, hrQ⟩ := h01.split
          obtain ⟨U, Ur, rfl, hU, hUr⟩ := hrQ
          obtain rfl : Ur = [] := hUr
          have hP := hrP.length
          have hA : (pl ++ [AVal.slice (.row e) es] ++ rl)[pl.length]? = some (.slice (.row e) es) := by simp
          have hB : arr.toList[pl.length]? = some U := by rw [e1, ← hP]; simp
          obtain ⟨z1, z2, z3⟩ := hoks _ _ U hA hB
          have hcell : w.cell? ⟨g, off, none⟩ = some U := by
            simp only [World.cell?, hh]
            have := hB
            rw [Array.getElem?_toList] at this
            simpa [hoff] using this
          obtain ⟨hgood, hxx, hte⟩ := hg.setLoc (w' := w) (ao' := .cells (pl ++ [disown (.slice (.row e) es)] ++ rl)) hl hgi rfl (fun _ _ => rfl) rfl rfl rfl (fun hx => by
              refine ⟨arr, et, hh, ?_, fun j y Y hj hY => ?_, fun T hT hb => het T hT (hbld hb)⟩
              · rw [e1]
                exact RepOL.append (RepOL.append hrP ⟨U, [], rfl, hU, rfl⟩) hrR
              · by_cases hjj : j = pl.length
                · subst hjj
                  simp at hj; subst hj
                  rw [hB] at hY; injection hY with hY; subst hY
                  exact ⟨OwnOk.of_disown (.slice (.row e) es) _, z2, rfl⟩
                · have hj' : (pl ++ [AVal.slice (.row e) es] ++ rl)[j]? = some y := by
                    rw [← hj]
                    simp only [List.append_assoc]
                    rcases Nat.lt_or_ge j pl.length with hlt | hge
                    · rw [List.getElem?_append_left hlt, List.getElem?_append_left hlt]
                    · rw [List.getElem?_append_right hge, List.getElem?_append_right hge]
                      cases hk : j - pl.length with
                      | zero => omega
                      | succ k => rfl
                  exact hoks j y Y hj' hY) (fun _ => 0) (fun b => by
              simp only [ownObj, blockVals, hh, e1]
              have := ownSum_disown pl rl (.slice (.row e) es) P0 R0 U hP b
              omega) (fun b hb => absurd hb (by simp))
          have hte' : ∀ b, total w rho lam { fr with locs := fr.locs.set i (.cells (pl ++ [disown (.slice (.row e) es)] ++ rl)) } m a.tmps.toList b + ownB (.slice (.row e) es) U b = total w rho lam fr m a.tmps.toList b := fun b => by
            have h1 := hte b
            have h2 := ownSum_disown pl rl (.slice (.row e) es) P0 R0 U hP b
            simp only [ownObj, blockVals, hh, e1] at h1
            omega
          refine ⟨U, _, _, fun w' hw' => ?_, hgood.putOwn o.dst (v := .slice (.row e) es) hU z1 fun b hb => ?_, hK⟩
          · have hcell' : w'.cell? ⟨g, off, none⟩ = some U := (cell_heap hw' _).trans hcell
            simp [execOp, ho, hVp, load_one hF hti hagg hcell']
          · have h1 := hte' b
            have h2 := hg.tot b
            have h3 := hg.low b (by omega)
            exact ⟨by omega, h3⟩
      · cases hs
    · cases hs
  · cases hs

theorem sound_next (hg : Good E B c w fx rho lam fr m a) (hG : GlobOk E w fx) (hn : NextOk E B c r K next) {x : Operand} (ho : o.op = .next x true) {j : Nat} (hx : ev E fr x = some (.loc j 0))
    {s : List UInt8} {pos : Nat} (hj : oget fr.locs j = some (.iter s pos))
    (hK : (pos < s.length ∧ K (Abs.put { fr with locs := oset fr.locs j (.iter s (pos + (Utf8.decode ⟨s.toArray⟩ pos).2)) } o.dst (.tup [.bool true, .int .i64 pos, .int .i32 (Utf8.decode ⟨s.toArray⟩ pos).1])) m = some r) ∨
      (¬ pos < s.length ∧ K (Abs.put fr o.dst (.tup [.bool false])) m = some r)) : o.wp P a w next Q := by
  obtain ⟨g, hgi, hV⟩ := (ev_sound hg hG hx).rep
  rw [oget_eq] at hj
  have hh := hg.locs.2 j _ g hj hgi
  have hh' : w.heap[g]? = some (.stringIter ⟨s.toArray⟩ pos) := hh
  have hss : (⟨s.toArray⟩ : ByteArray).size = s.length := by simp [ByteArray.size]
  rcases hK with ⟨hlt, hK⟩ | ⟨hlt, hK⟩
  · rw [oset_eq] at hK
    let w1 : World := { w with heap := w.heap.setIfInBounds g (.stringIter ⟨s.toArray⟩ (pos + (Utf8.decode ⟨s.toArray⟩ pos).2)) }
    have hglt : g < w.heap.size := by
      rcases Nat.lt_or_ge g w.heap.size with h | h
      · exact h
      · rw [Array.getElem?_eq_none h] at hh'; cases hh'
    obtain ⟨hgood, hxx, _⟩ := hg.setLoc (w' := w1) (ao' := .iter s (pos + (Utf8.decode ⟨s.toArray⟩ pos).2)) hj hgi (by simp [w1]) (fun b hb => by simp [w1, Array.getElem?_setIfInBounds, Ne.symm hb]) rfl rfl rfl (fun _ => by
        show w1.heap[g]? = _
        simp [w1, hglt]) (fun _ => 0) (fun b => by simp [ownObj]) (fun b hb => absurd hb (by simp))
    refine wp_value (w' := w1) (V := .tuple #[.bool true, .int .i64 pos, .int .i32 (Utf8.decode ⟨s.toArray⟩ pos).1]) ?_ (hn _ _ _ _ _ _ _ hK (hgood.put o.dst (v := .tup [.bool true, .int .i64 pos, .int .i32 (Utf8.decode ⟨s.toArray⟩ pos).1]) ?_ rfl) (hG.ext hxx))
    · have hlt' : pos < (⟨s.toArray⟩ : ByteArray).size := by rw [hss]; exact hlt
      simp only [execOp, ho, hV, Instr.next, Sem.run_bind]
      rw [show (getObj g).run P w = .ok (.stringIter ⟨s.toArray⟩ pos) w by simp [getObj, Sem.run, hh']]
      simp only [Result.andThen_ok, hlt', if_true, Sem.run_bind]
      rw [show (setObj g (.stringIter ⟨s.toArray⟩ (pos + (Utf8.decode ⟨s.toArray⟩ pos).2))).run P w = .ok () w1 by simp [setObj, Sem.run, hh', w1]]
      rfl
    · exact ⟨[.bool true, .int .i64 pos, .int .i32 (Utf8.decode ⟨s.toArray⟩ pos).1], rfl, ⟨_, _, rfl, rfl, ⟨_, _, rfl, rfl, ⟨_, _, rfl, rfl, rfl⟩⟩⟩⟩
  · refine wp_value (V := .tuple #[.bool false]) ?_ (hn _ _ _ _ _ _ _ hK (hg.put o.dst (v := .tup [.bool false]) ⟨[.bool false], rfl, ⟨_, _, rfl, rfl, rfl⟩⟩ rfl) hG)
    have hlt' : ¬ pos < (⟨s.toArray⟩ : ByteArray).size := by rw [hss]; exact hlt
    simp only [execOp, ho, hV, Instr.next, Sem.run_bind]
    rw [show (getObj g).run P w = .ok (.stringIter ⟨s.toArray⟩ pos) w by simp [getObj, Sem.run, hh']]
    simp only [Result.andThen_ok, hlt', if_false, Sem.run_pure]

end
end Go.Abs
