/- Functions: from the code to the call. -/
import Derived.Test.YtlklpdifcpjlpaaDoorAbsRun
namespace Go.Abs
set_option linter.unusedSectionVars false
set_option linter.unusedVariables false

section
variable {P : Program} {E : Env} {B : Nat} {c : Ctx} {w w' : World} {fx fx' : Nat → Nat} {rho rho' lam : List Nat} {fr : AFrame} {m m' : Mem} {a : Act} {D : Ora}

/-! ### The memory that a call leaves behind -/
def valOf : Out → AVal
  | .ret v => v
  | .pan v => v
def withinO (base : Nat) : AVal → Bool
  | .ptr o _ => o < base
  | .mapp o => o < base
  | .fn _ cs => cs.all fun | .ptr o _ => o < base | _ => true
  | _ => true

theorem take_get {l : List Nat} {base o b : Nat} (h : l[o]? = some b) (ho : o < base) : (l.take base)[o]? = some b := by
  rw [List.getElem?_take, if_pos ho]; exact h
theorem RepC.cut {base : Nat} {v : AVal} {V : Value} (h : RepC w fx rho v V) (hv : ∀ o off, v = .ptr o off → o < base) : RepC w fx (rho.take base) v V := by
  cases v with
  | ptr o off => obtain ⟨b, h1, h2⟩ := h; exact ⟨b, take_get h1 (hv o off rfl), h2⟩
  | _ => exact h
theorem RepCL.cut {base : Nat} : ∀ {l : List AVal} {Vs : List Value}, RepCL w fx rho l Vs → (∀ v ∈ l, ∀ o off, v = .ptr o off → o < base) → RepCL w fx (rho.take base) l Vs
  | [], _, h, _ => h
  | v :: r, _, h, hv => by
    obtain ⟨V, Vr, rfl, h1, h2⟩ := h
    exact ⟨V, Vr, rfl, h1.cut (hv v (List.mem_cons_self ..)), RepCL.cut (l := r) h2 fun v' h' => hv v' (List.mem_cons_of_mem _ h')⟩
theorem RepO.cut {base : Nat} {v : AVal} {V : Value} (h : RepO w fx rho v V) (hv : withinO base v = true) : RepO w fx (rho.take base) v V := by
  cases v with
  | ptr o off => obtain ⟨b, h1, h2⟩ := h; exact ⟨b, take_get h1 (by simpa [withinO] using hv), h2⟩
  | mapp o => obtain ⟨b, h1, h2⟩ := h; exact ⟨b, take_get h1 (by simpa [withinO] using hv), h2⟩
  | fn f caps =>
    obtain ⟨Vs, h1, h2⟩ := h
    refine ⟨Vs, h1, h2.cut fun v hm o off e => ?_⟩
    subst e
    have := List.all_eq_true.1 hv _ hm
    simpa using this
  | slice own es => cases own <;> exact h
  | _ => exact h
theorem RepOL.cut {base : Nat} : ∀ {l : List AVal} {Vs : List Value}, RepOL w fx rho l Vs → (∀ v ∈ l, withinO base v = true) → RepOL w fx (rho.take base) l Vs
  | [], _, h, _ => h
  | v :: r, _, h, hv => by
    obtain ⟨V, Vr, rfl, h1, h2⟩ := h
    exact ⟨V, Vr, rfl, h1.cut (hv v (List.mem_cons_self ..)), RepOL.cut (l := r) h2 fun v' h' => hv v' (List.mem_cons_of_mem _ h')⟩
theorem RepT.cut {base : Nat} {v : AVal} {V : Value} (h : RepT w fx rho lam v V) (hv : within base v = true) : RepT w fx (rho.take base) lam v V := by
  cases v with
  | any => trivial
  | loc o off => exact h
  | tup vs =>
    obtain ⟨Vs, h1, h2⟩ := h
    refine ⟨Vs, h1, h2.cut fun v hm => ?_⟩
    obtain ⟨u, hu, rfl⟩ := List.mem_map.1 hm
    have := List.all_eq_true.1 hv _ hu
    cases u with
    | ptr o off => exact this
    | mapp o => simp at this
    | fn f cs => cases cs <;> first | rfl | simp at this
    | slice own es => cases own <;> rfl
    | _ => rfl
  | ptr o off => exact RepO.cut (w := w) (fx := fx) (v := .ptr o off) h (by simpa [within, withinO] using hv)
  | mapp o => cases hv
  | fn f cs =>
    refine RepO.cut (w := w) (fx := fx) (v := .fn f cs) h (List.all_eq_true.2 fun x hx => ?_)
    have := List.all_eq_true.1 hv x hx
    cases x <;> first | rfl | simpa using this
  | slice own es => exact RepO.cut (w := w) (fx := fx) (v := .slice own es) h rfl
  | _ => exact h
theorem hold_within {o base : Nat} {v : AVal} (h : mayHold o v = true) (hb : o < base) : withinO base v = true := by
  cases v with
  | ptr o' off => simp [mayHold] at h; simp [withinO]; omega
  | mapp _ => cases h
  | fn f cs =>
    refine List.all_eq_true.2 fun x hx => ?_
    have := List.all_eq_true.1 h x hx
    cases x with
    | ptr o' off => simp at this; simp; omega
    | _ => rfl
  | _ => rfl
theorem ObjRep.cut {base o : Nat} {ob : AObj} {g : Nat} (h : ObjRep E B w fx rho (mayHold o) ob g) (hb : o < base) : ObjRep E B w fx (rho.take base) (mayHold o) ob g := by
  cases ob with
  | iter s pos => exact h
  | map kk es => exact h
  | cells l =>
    obtain ⟨arr, et, h1, h2, h3⟩ := h
    refine ⟨arr, et, h1, h2.cut fun v hv => ?_, h3⟩
    obtain ⟨i, hi⟩ := List.getElem?_of_mem hv
    have hlt : i < arr.toList.length := by
      rw [h2.length]
      rcases Nat.lt_or_ge i l.length with h | h
      · exact h
      · simp [List.getElem?_eq_none h] at hi
    exact hold_within (h3.1 i v _ hi (List.getElem?_eq_getElem hlt)).2.2 hb
theorem ObjsRep.cut {base : Nat} (h : ObjsRep E B w fx rho mayHold m rho) : ObjsRep E B w fx (rho.take base) mayHold (m.take base) (rho.take base) := by
  refine ⟨by simp [h.1], fun i o g ho hg => ?_⟩
  rw [List.getElem?_take] at ho hg
  split at ho
  · rename_i hlt
    rw [if_pos hlt] at hg
    exact (h.2 i o g ho hg).cut hlt
  · cases ho

theorem CallPost.cut {out : Out} {V : Value} {base : Nat} (h : CallPost E B c out m V w fx rho) (hb : c.rho0.length = base) (hw : within base (valOf out) = true) :
    CallPost E B c out (m.take base) V w fx (rho.take base) := by
  have hm : ∀ b, (rho.take base).count b ≤ rho.count b := fun b => (List.take_sublist _ _).count_le _
  have ho : ∀ b, ownObjs w (m.take base) (rho.take base) b ≤ ownObjs w m rho b := fun b => by
    have := ownObjs_append w (m.take base) (m.drop base) (rho.take base) (rho.drop base) b (by simp [h.mem.1])
    rw [List.take_append_drop, List.take_append_drop] at this
    omega
  exact {
    rep := by
      have := h.rep
      cases out with
      | ret v => exact ⟨this.1.cut hw, this.2⟩
      | pan v => exact this
    mem := h.mem.cut
    fx0 := fun b hb => h.fx0 b (List.mem_of_mem_take hb)
    fxb := h.fxb
    tot := fun b => by have := h.tot b; have := hm b; have := ho b; omega
    low := fun b hb => h.low b (by have := hm b; have := ho b; omega)
    keep := h.keep
    pre := by
      obtain ⟨t, ht⟩ := h.pre
      rw [← ht, ← hb, List.take_left]
      exact List.prefix_refl _ }

theorem CallPost.cutMem {out : Out} {V : Value} {base : Nat} (h : CallPost E B c out m V w fx rho) (hb : c.rho0.length = base) :
    ∃ rho', CallPost E B c out (Abs.cutMem base (valOf out) m) V w fx rho' := by
  unfold Abs.cutMem
  split
  · exact ⟨_, h.cut hb ‹_›⟩
  · exact ⟨_, h⟩

theorem Good.post (hg : Good E B c w fx rho lam fr m a) {out : Out} {V : Value} (hr : match out with | .ret v => RepT w fx rho [] v V ∧ OwnOk E B w fx v V | .pan v => Rep w fx v V)
    (ho : ∀ b, outOwn out V b ≤ ownSum fr.tmps a.tmps.toList b) : CallPost E B c out m V w fx rho := {
  rep := hr
  mem := hg.mem
  fx0 := fun b hb => hg.fx0 b (.inl hb)
  fxb := hg.fxb
  tot := fun b => by have h1 := hg.tot b; have h2 := ho b; unfold total at h1; omega
  low := fun b hb => hg.low b (by have h2 := ho b; unfold total; omega)
  keep := hg.keep
  pre := hg.pre }

/-! ### Results -/
def resM (tmps : Array Value) : ResultVar → Sem Value
  | .tmp t => pure (tmps.getD t undef)
  | .cell a t => do loadVar t (← asAddr (tmps.getD a undef))
theorem resultOf_sound (hF : Fits E P) (hg : Good E B c w fx rho lam fr m a) {x : ResultVar} {v : AVal} (h : resultOf E fr m x = some v) :
    ∃ V, (resM a.tmps x).run P w = .ok V w ∧
      RepT w fx rho [] v V ∧ OwnOk E B w fx v V ∧ (∀ b, ownB v V b ≤ ownSum fr.tmps a.tmps.toList b) ∧ RepO w fx rho (disown v) V := by
  cases x with
  | tmp t =>
    simp only [resultOf] at h
    split at h
    · cases h
    · cases h
    · cases h
    · rename_i v' h1 h2 h3
      injection h with h; subst h
      obtain ⟨e1, e2⟩ := tmp_get hg rfl h1
      obtain ⟨hr, ho⟩ := hg.tmp t _ _ e1 e2
      refine ⟨_, rfl, ?_, ho, fun b => ownSum_le_of_get _ _ _ _ _ b e1 e2, ?_⟩
      · generalize tget fr.tmps t = v at *
        cases v with
        | loc p q => exact absurd rfl (h2 p q)
        | _ => exact hr
      · have hr' := hr.disown
        generalize tget fr.tmps t = v at *
        cases v with
        | loc p q => exact absurd rfl (h2 p q)
        | any => exact absurd rfl h1
        | tup vs => exact absurd rfl (h3 vs)
        | slice own es => cases own <;> exact hr'
        | _ => exact hr'
  | cell p t =>
    simp only [resultOf] at h
    split at h
    · cases h
    · rename_i h1
      cases hl : loadV E fr m t (tget fr.tmps p) with
      | none => rw [hl] at h; cases h
      | some u =>
        rw [hl] at h; injection h with h; subst h
        obtain ⟨e1, e2⟩ := tmp_get hg rfl h1
        obtain ⟨hr, _⟩ := hg.tmp p _ _ e1 e2
        obtain ⟨U, b, off, hV, hrun, hU, _⟩ := loadV_run hF hg hr hl
        have hrun' := hrun w rfl
        rw [hV] at hrun'
        refine ⟨U, ?_, hU.toT, noRow_ok (noRow_disown u) _, fun b => by rw [noRow_own (noRow_disown u)]; omega, ?_⟩
        · simp only [resM, hV]
          simpa [Instr.loadAt, Instr.sureAddr, asAddr] using hrun'
        · rw [disown_noRow (noRow_disown u)]; exact hU

theorem weakV_O (k : WK) {v : AVal} {V : Value} (h : RepO w fx rho (disown v) V) : RepO w fx rho (disown (weakV k v)) V := by
  cases k with
  | keep => exact h
  | no =>
    cases v with
    | slice own es =>
      cases own with
      | no => exact h
      | full => exact Rep.plainCell (v := .slice .full es) h
      | nil => exact Rep.plainCell (v := .slice .nil es) h
      | row e => exact h
    | _ => exact h
  | err =>
    cases v with
    | nilIface => exact (.inl ⟨rfl, h⟩ : Rep w fx (.err true) V)
    | iface t u =>
      have h' := h
      obtain ⟨V', rfl, _⟩ := h'
      exact (.inr ⟨rfl, _, _, rfl⟩ : Rep w fx (.err false) _)
    | _ => exact h
theorem results_sound (hF : Fits E P) (hg : Good E B c w fx rho lam fr m a) (wk : Nat → WK) : ∀ {n : Nat} {xs : List ResultVar} {vs : List AVal}, resultsOf E wk fr m n xs = some vs →
    ∃ Vs, (xs.mapM (resM a.tmps)).run P w = .ok Vs w ∧ Vs.length = vs.length ∧
      ∀ (i : Nat) (v : AVal) (V : Value), vs[i]? = some v → Vs[i]? = some V → RepT w fx rho [] v V ∧ OwnOk E B w fx v V ∧ (∀ b, ownB v V b ≤ ownSum fr.tmps a.tmps.toList b) ∧ RepO w fx rho (disown v) V
  | _, [], vs, h => by
    injection h with h; subst h
    exact ⟨[], rfl, rfl, fun i v V hi => by simp at hi⟩
  | n, x :: xs, vs, h => by
    simp only [resultsOf] at h
    split at h
    · rename_i v l hv hl
      injection h with h; subst h
      obtain ⟨V, h1, h2⟩ := resultOf_sound hF hg hv
      obtain ⟨Vs, h3, h4, h5⟩ := results_sound hF hg wk hl
      refine ⟨V :: Vs, ?_, by simp [h4], fun i u U hi hU => ?_⟩
      · rw [List.mapM_cons, Sem.run_bind]
        rw [h1]
        simp only [Result.andThen_ok, Sem.run_bind, h3, Sem.run_pure]
      · cases i with
        | zero =>
          simp at hi hU; subst hi; subst hU
          obtain ⟨b1, b2, b3⟩ := weakV_rep (wk n) h2.1 h2.2.1
          exact ⟨b1, b2, fun b => Nat.le_trans (b3 b) (h2.2.2.1 b), weakV_O _ h2.2.2.2⟩
        | succ i => exact h5 i u U (by simpa using hi) (by simpa using hU)
    · cases h

theorem RepO.plainAgg {v : AVal} {V : Value} (h : RepO w fx rho v V) : RepO w fx rho (plainAgg v) V := by
  cases v with
  | agg cs => exact Rep.plainAgg (v := .agg cs) h
  | _ => exact h
theorem plainAgg_noRow (v : AVal) : noRow v = true → noRow (plainAgg v) = true := by
  intro h; cases v <;> first | exact h | rfl
theorem disown_plainAgg_disown (v : AVal) : disown (plainAgg (disown v)) = plainAgg (disown v) :=
  disown_noRow (plainAgg_noRow _ (noRow_disown v))

theorem pack_sound (hF : Fits E P) (hg : Good E B c w fx rho lam fr m a) (wk : Nat → WK) {fn : Func} {vs : List AVal} (h : resultsOf E wk fr m 0 fn.results.toList = some vs) :
    ∃ V, (results fn a.tmps).run P w = .ok V w ∧ CallPost E B c (.ret (packResults vs)) m V w fx rho := by
  obtain ⟨Vs, h1, h2, h3⟩ := results_sound hF hg wk h
  have hres : (results fn a.tmps).run P w = .ok (if h : Vs.toArray.size = 1 then Vs.toArray[0] else .tuple Vs.toArray) w := by
    have e : results fn a.tmps = (do
        let vs ← fn.results.mapM (resM a.tmps)
        pure (if h : vs.size = 1 then vs[0] else .tuple vs)) := rfl
    rw [e, Array.mapM_eq_mapM_toList]
    simp only [Sem.run_bind, map_eq_pure_bind, h1, Result.andThen_ok, Sem.run_pure]
  refine ⟨_, hres, ?_⟩
  match vs, Vs, h2, h3 with
  | [v], [V], _, h3 =>
    obtain ⟨ha, hb, hc, hd⟩ := h3 0 v V rfl rfl
    refine hg.post (out := .ret (plainAgg v)) ⟨?_, ?_⟩ fun b => ?_
    · cases v with
      | agg cs => exact Rep.plainAgg (v := .agg cs) ha
      | _ => exact ha
    · cases v <;> exact hb
    · refine Nat.le_trans (Nat.le_of_eq ?_) (hc b)
      cases v <;> rfl
  | [], [], _, _ => exact hg.post (out := .ret (.tup [])) ⟨⟨[], rfl, rfl⟩, trivial⟩ fun b => Nat.zero_le _
  | v :: u :: r, V :: U :: R, h2, h3 =>
    refine hg.post (out := .ret (.tup ((v :: u :: r).map fun v => plainAgg (disown v)))) ⟨⟨V :: U :: R, ?_, ?_⟩, trivial⟩ fun b => Nat.zero_le _
    · simp
    · rw [List.map_map]
      refine RepOL.of_get (by simpa using h2) fun i x X hi hX => ?_
      rw [List.getElem?_map] at hi
      cases hj : (v :: u :: r)[i]? with
      | none => rw [hj] at hi; cases hi
      | some y =>
        rw [hj] at hi
        injection hi with hi; subst hi
        simp only [Function.comp, disown_plainAgg_disown]
        exact (h3 i y X hj hX).2.2.2.plainAgg

end
end Go.Abs
