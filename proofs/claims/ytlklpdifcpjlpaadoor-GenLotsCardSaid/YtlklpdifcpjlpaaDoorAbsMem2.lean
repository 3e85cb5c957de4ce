/- alloc, box, range, literals, bytes out of strings: what they do to memory. -/
import Derived.Test.YtlklpdifcpjlpaaDoorAbsMem
namespace Go.Abs
set_option linter.unusedSectionVars false

section
variable {P : Program} {E : Env} {B : Nat} {c : Ctx} {w w' : World} {fx fx' : Nat → Nat} {rho lam : List Nat} {fr : AFrame} {m : Mem} {a : Act}
variable {R : Type} {r : R} {o : Oper} {next : Act → World → Prop} {Q : Exit → Act → World → Prop} {K : AFrame → Mem → Option R}

theorem RepL.toOL : ∀ {l : List AVal} {Vs : List Value}, RepL w fx l Vs → RepOL w fx rho l Vs
  | [], _, h => h
  | v :: r, _, h => by
    obtain ⟨V, Vr, e, h1, _, h3⟩ := h
    exact ⟨V, Vr, e, h1.toO, RepL.toOL h3⟩

/-- what may be kept in an object, whichever -/
def Holds (hold : AVal → Bool) : Prop := ∀ v, hold v = true → (∀ cs, v ≠ .agg cs) ∧ (∀ i j, v ≠ .loc i j) ∧ (∀ vs, v ≠ .tup vs) ∧ v ≠ .any ∧ (∀ o, v ≠ .mapp o)
theorem holdsL : Holds mayHoldL := fun v h => by
  cases v <;> first | (cases h; done) | (refine ⟨?_, ?_, ?_, ?_, ?_⟩ <;> (intros; intro e; cases e))
theorem holds (n : Nat) : Holds (mayHold n) := fun v h => by
  cases v <;> first | (cases h; done) | (refine ⟨?_, ?_, ?_, ?_, ?_⟩ <;> (intros; intro e; cases e))

theorem RepT.one {hold : AVal → Bool} (hh : Holds hold) {v : AVal} {V : Value} (h : RepT w fx rho lam v V) (hv : hold v = true) : RepO w fx rho v V ∧ V.oneCell' = true := by
  obtain ⟨h1, h2, h3, h4, h5⟩ := hh v hv
  cases v with
  | agg cs => exact absurd rfl (h1 cs)
  | loc i j => exact absurd rfl (h2 i j)
  | tup vs => exact absurd rfl (h3 vs)
  | any => exact absurd rfl h4
  | bool _ => obtain rfl := h; exact ⟨rfl, rfl⟩
  | int _ _ => obtain rfl := h; exact ⟨rfl, rfl⟩
  | str _ => obtain rfl := h; exact ⟨rfl, rfl⟩
  | nilptr => obtain rfl := h; exact ⟨rfl, rfl⟩
  | nilfunc => obtain rfl := h; exact ⟨rfl, rfl⟩
  | nilIface => obtain rfl := h; exact ⟨rfl, rfl⟩
  | nilmap => obtain rfl := h; exact ⟨rfl, rfl⟩
  | mapp o => exact absurd rfl (h5 o)
  | err b =>
    have h' := h
    rcases h' with ⟨_, rfl⟩ | ⟨_, _, _, rfl⟩
    · exact ⟨h, rfl⟩
    · exact ⟨h, rfl⟩
  | ptr i j => have h' := h; obtain ⟨b, hb, rfl⟩ := h'; exact ⟨h, rfl⟩
  | imm cs => have h' := h; obtain ⟨b, off, Vs, rfl, _⟩ := h'; exact ⟨h, rfl⟩
  | fn f cs => have h' := h; obtain ⟨Vs, rfl, _⟩ := h'; exact ⟨h, rfl⟩
  | iface t v => have h' := h; obtain ⟨V', rfl, _⟩ := h'; exact ⟨h, rfl⟩
  | slice own es =>
    obtain ⟨A, n, cp, Vs, hV, _⟩ := RepT.slice h
    refine ⟨?_, by rw [hV]; rfl⟩
    cases own <;> exact h

theorem cellsOf_obj {hold : AVal → Bool} (hh : Holds hold) {v : AVal} {V : Value} (h : RepT w fx rho lam v V) (ho : OwnOk E B w fx v V) (hv : (cellsOf v).all hold = true) :
    RepOL w fx rho (cellsOf v) V.cells.toList ∧ (∀ (i : Nat) (x : AVal) (X : Value), (cellsOf v)[i]? = some x → V.cells.toList[i]? = some X → OwnOk E B w fx x X ∧ X.oneCell' = true ∧ hold x = true ∧ ∀ b, ownB x X b ≤ ownB v V b) ∧
      ∀ b, ownSum (cellsOf v) V.cells.toList b = ownB v V b := by
  have hone : (∀ cs, v ≠ .agg cs) → V.oneCell' = true → RepO w fx rho v V → cellsOf v = [v] → V.cells.toList = [V] →
      RepOL w fx rho (cellsOf v) V.cells.toList ∧ (∀ (i : Nat) (x : AVal) (X : Value), (cellsOf v)[i]? = some x → V.cells.toList[i]? = some X → OwnOk E B w fx x X ∧ X.oneCell' = true ∧ hold x = true ∧ ∀ b, ownB x X b ≤ ownB v V b) ∧
      ∀ b, ownSum (cellsOf v) V.cells.toList b = ownB v V b := by
    intro _ h1 h2 h3 h4
    rw [h3] at hv
    rw [h3, h4]
    refine ⟨⟨V, [], rfl, h2, rfl⟩, fun i x X hi hX => ?_, fun b => by simp [ownSum]⟩
    cases i with
    | zero => simp at hi hX; subst hi; subst hX; exact ⟨ho, h1, by simpa using hv, fun b => Nat.le_refl _⟩
    | succ i => simp at hi
  have hcell : ∀ V : Value, V.oneCell' = true → V.cells.toList = [V] := fun V h => by cases V <;> first | rfl | cases h
  cases v with
  | agg cs =>
    obtain ⟨Vs, rfl, hr⟩ := h
    have hnr : ∀ x ∈ cs, ∀ X, Rep w fx x X → noRow x = true := fun x _ X hX => hX.noRow
    refine ⟨hr.toOL, fun i x X hi hX => ?_, fun b => ?_⟩
    · obtain ⟨X', hX', hrep, hone'⟩ := hr.get hi
      have : X' = X := by
        have hX2 : Vs[i]? = some X := hX
        rw [hX'] at hX2; injection hX2
      subst this
      exact ⟨noRow_ok hrep.noRow _, hone', List.all_eq_true.1 hv x (List.mem_of_getElem? hi), fun b => by rw [noRow_own hrep.noRow]; omega⟩
    · show ownSum cs Vs b = 0
      clear hone hcell hv ho hnr
      induction cs generalizing Vs with
      | nil => rfl
      | cons x r ih =>
        obtain ⟨X, Xr, rfl, h1, _, h3⟩ := hr
        simp only [ownSum]
        rw [noRow_own h1.noRow, ih Xr h3]
  | _ =>
    obtain ⟨h1, h2⟩ := RepT.one hh h (by simpa [cellsOf] using hv)
    exact hone (fun cs e => by cases e) h2 h1 rfl (hcell _ h2)

theorem promoO {t : Option TypeId} {v : AVal} {V : Value} (h : RepO w fx rho v V) : RepO w fx rho (promo E t v) V := by
  rcases promo_cases E t v with e | ⟨e, ei, rfl, rfl, hei, hp, e1⟩
  · rw [e]; exact h
  · rw [e1]; exact Rep.plainCell (v := .slice .nil []) h
theorem promoL_ok : ∀ {ts : List (Option TypeId)} {l : List AVal} {Vs : List Value}, RepOL w fx rho l Vs → (∀ (i : Nat) (v : AVal) (V : Value), l[i]? = some v → Vs[i]? = some V → OwnOk E B w fx v V) →
    RepOL w fx rho (promoL E ts l) Vs ∧ (∀ (i : Nat) (x : AVal) (X : Value), (promoL E ts l)[i]? = some x → Vs[i]? = some X → ∃ v, l[i]? = some v ∧ OwnOk E B w fx x X ∧ (x = v ∨ ∃ e, x = .slice (.row e) []) ∧ ∀ b, ownB x X b = ownB v X b) ∧
      ∀ b, ownSum (promoL E ts l) Vs b = ownSum l Vs b
  | [], l, Vs, h, ho => ⟨h, fun i x X hi hX => ⟨x, hi, ho i x X hi hX, .inl rfl, fun _ => rfl⟩, fun _ => rfl⟩
  | _ :: _, [], Vs, h, ho => ⟨h, fun i x X hi hX => ⟨x, hi, ho i x X hi hX, .inl rfl, fun _ => rfl⟩, fun _ => rfl⟩
  | t :: ts, v :: l, Vs, h, ho => by
    obtain ⟨V, Vr, rfl, h1, h3⟩ := h
    obtain ⟨a1, a2, a3⟩ := promoL_ok (ts := ts) h3 fun i v V hi hV => ho (i + 1) v V (by simpa using hi) (by simpa using hV)
    have hov := ho 0 v V rfl rfl
    obtain ⟨b1, b2, b3⟩ := promo_rep (E := E) (lam := []) t h1.toT hov
    refine ⟨⟨V, Vr, rfl, promoO h1, a1⟩, fun i x X hi hX => ?_, fun b => ?_⟩
    · cases i with
      | zero =>
        simp [promoL] at hi hX; subst hi; subst hX
        refine ⟨v, rfl, b2, ?_, b3⟩
        rcases promo_cases E t v with e | ⟨e, ei, rfl, rfl, hei, hp, e1⟩
        · exact .inl e
        · exact .inr ⟨e, e1⟩
      | succ i =>
        simp [promoL] at hi hX
        exact a2 i x X hi hX
    · simp only [promoL, ownSum, a3 b, b3 b]

theorem sound_box (hB : B ≤ c.w0.heap.size) (hg : Good E B c w fx rho lam fr m a) (hG : GlobOk E w fx) (hn : NextOk E B c r K next) {t : TypeId} {x : Operand} (ho : o.op = .box t x)
    {v : AVal} (hx : ev E fr x = some v)
    (ts : List (Option TypeId)) (hbld : okBld E t (promoL E ts (cellsOf v)) = true) (hK : ((cellsOf v).all mayHoldL = true ∧ K (Abs.put { (leave1 fr x) with locs := fr.locs ++ [.cells (promoL E ts (cellsOf v))] } o.dst (.loc fr.locs.length 0)) m = some r) ∨
      ((cellsOf v).all (mayHold m.length) = true ∧ K (Abs.put (leave1 fr x) o.dst (.ptr m.length 0)) (m ++ [.cells (promoL E ts (cellsOf v))]) = some r)) : o.wp P a w next Q := by
  have hlow : B ≤ w.heap.size := Nat.le_trans hB hg.keep.size
  obtain ⟨h1, h2⟩ := leave_sound hg hx
  have he := ev_sound hg hG hx
  have hloc : (leave1 fr x).locs = fr.locs := by cases x <;> rfl
  have hrun : (execOp a.eval o).run P w = .ok (.value (.pointer (some ⟨w.heap.size, 0, none⟩))) (w.alloc (.cells (a.eval x).cells t)) := by
    simp [execOp, ho, Instr.box, newVar, newRow]
  have hxx : Ext w fx (w.alloc (.cells (a.eval x).cells t)) fx := by
    have := (hg.alloc (.cells (a.eval x).cells t) 0).2
    have hfx : fxSet fx w.heap.size 0 = fx := by
      funext b; unfold fxSet; split
      · rename_i e; rw [e, hg.fxb _ (Nat.le_refl _)]
      · rfl
    rwa [hfx] at this
  have hbv : blockVals (w.alloc (.cells (a.eval x).cells t)) w.heap.size = (a.eval x).cells.toList := by
    simp only [blockVals, heap_alloc_at]
  rcases hK with ⟨hall, hK⟩ | ⟨hall, hK⟩
  · obtain ⟨q1, q2, q3⟩ := cellsOf_obj holdsL he.rep he.own hall
    obtain ⟨p1, p2, p3⟩ := promoL_ok (E := E) (B := B) (ts := ts) q1 fun i y Y hi hY => (q2 i y Y hi hY).1
    have hgd := h1.newLoc (.cells (a.eval x).cells t) (.cells (promoL E ts (cellsOf v))) (fun w' fx' hx' hh hsame => by
        refine ⟨_, _, hh, RepOL.ext hx' (List.prefix_refl _) p1, fun i y Y hi hY => ?_, okBld_of hbld⟩
        obtain ⟨y0, e1, e2, e3, e4⟩ := p2 i y Y hi hY
        obtain ⟨z1, z2, z3, z4⟩ := q2 i y0 Y e1 hY
        refine ⟨e2.ext hx' fun g hg' => hsame g ?_, z2, ?_⟩
        · have := he.le g
          have := z4 g
          have := e4 g
          exact (hg.low g (by omega)).2.1
        · rcases e3 with rfl | ⟨e, rfl⟩
          · exact z3
          · rfl)
      (fun b hb => by
        simp only [ownObj, hbv, p3, q3] at hb ⊢
        have h3 := h2 b
        have h4 := hg.tot b
        have h5 := hg.low b (by have := he.le b; omega)
        exact ⟨by omega, h5⟩) hlow
    rw [hloc] at hgd
    refine wp_value hrun (hn _ _ _ _ _ _ _ hK (hgd.put o.dst (v := .loc fr.locs.length 0) (V := .pointer (some ⟨w.heap.size, 0, none⟩)) ?_ rfl) (hG.ext hxx))
    exact ⟨w.heap.size, by rw [← hg.locs.1]; simp, rfl⟩
  · obtain ⟨q1, q2, q3⟩ := cellsOf_obj (holds m.length) he.rep he.own hall
    obtain ⟨p1, p2, p3⟩ := promoL_ok (E := E) (B := B) (ts := ts) q1 fun i y Y hi hY => (q2 i y Y hi hY).1
    have hgd := h1.newPtr (.cells (a.eval x).cells t) (.cells (promoL E ts (cellsOf v))) (fun w' fx' rho' hx' hp hh hsame => by
        refine ⟨_, _, hh, RepOL.ext hx' hp p1, fun i y Y hi hY => ?_, okBld_of hbld⟩
        obtain ⟨y0, e1, e2, e3, e4⟩ := p2 i y Y hi hY
        obtain ⟨z1, z2, z3, z4⟩ := q2 i y0 Y e1 hY
        refine ⟨e2.ext hx' fun g hg' => hsame g ?_, z2, ?_⟩
        · have := he.le g
          have := z4 g
          have := e4 g
          exact (hg.low g (by omega)).2.1
        · rcases e3 with rfl | ⟨e, rfl⟩
          · exact z3
          · rfl)
      (fun b hb => by
        simp only [ownObj, hbv, p3, q3] at hb ⊢
        have h3 := h2 b
        have h4 := hg.tot b
        have h5 := hg.low b (by have := he.le b; omega)
        exact ⟨by omega, h5⟩) hlow
    refine wp_value hrun (hn _ _ _ _ _ _ _ hK (hgd.put o.dst (v := .ptr m.length 0) (V := .pointer (some ⟨w.heap.size, 0, none⟩)) ?_ rfl) (hG.ext hxx))
    exact ⟨w.heap.size, by rw [← hg.mem.1]; simp, rfl⟩

theorem ofConst1_hold {V : Value} {v : AVal} (h : ofConst1 V = some v) : mayHoldL v = true ∧ ∀ n, mayHold n v = true := by
  unfold ofConst1 at h
  split at h <;> cases h <;> exact ⟨rfl, fun _ => rfl⟩
theorem ofConsts_hold : ∀ {Vs : List Value} {l : List AVal}, ofConsts Vs = some l → l.all mayHoldL = true ∧ ∀ n, l.all (mayHold n) = true
  | [], l, h => by injection h with h; subst h; exact ⟨rfl, fun _ => rfl⟩
  | V :: Vr, l, h => by
    simp only [ofConsts] at h
    split at h
    · rename_i x y ha hb
      injection h with h; subst h
      obtain ⟨h1, h2⟩ := ofConst1_hold ha
      obtain ⟨h3, h4⟩ := ofConsts_hold hb
      exact ⟨by simp [h1]; simpa using h3, fun n => by simp [h2 n]; simpa using h4 n⟩
    · cases h

theorem sound_alloc (hB : B ≤ c.w0.heap.size) (hF : Fits E P) (hg : Good E B c w fx rho lam fr m a) (hG : GlobOk E w fx) (hn : NextOk E B c r K next) {t : TypeId} (ho : o.op = .alloc t)
    {ti : TI} (hti : E.T t = some ti)
    (ts : List (Option TypeId)) (hbld : okBld E t (promoL E ts ti.zero) = true) (hK : K (Abs.put { fr with locs := fr.locs ++ [.cells (promoL E ts ti.zero)] } o.dst (.loc fr.locs.length 0)) m = some r ∨
      K (Abs.put fr o.dst (.ptr m.length 0)) (m ++ [.cells (promoL E ts ti.zero)]) = some r) : o.wp P a w next Q := by
  have hlow : B ≤ w.heap.size := Nat.le_trans hB hg.keep.size
  obtain ⟨i, z, hi, hs, hb, hz0, hzs, hzc, hza, hzo⟩ := (hF t _ hti).info
  have hrun : (execOp a.eval o).run P w = .ok (.value (.pointer (some ⟨w.heap.size, 0, none⟩))) (w.alloc (.cells z.cells t)) := by
    simp [execOp, ho, Instr.alloc, newVar, newRow, zeroValue, typeInfo, hi, hz0]
  have hxx : Ext w fx (w.alloc (.cells z.cells t)) fx := by
    have := (hg.alloc (.cells z.cells t) 0).2
    have hfx : fxSet fx w.heap.size 0 = fx := by
      funext b; unfold fxSet; split
      · rename_i e; rw [e, hg.fxb _ (Nat.le_refl _)]
      · rfl
    rwa [hfx] at this
  have hbv : blockVals (w.alloc (.cells z.cells t)) w.heap.size = z.cells.toList := by
    simp only [blockVals, heap_alloc_at]
  obtain ⟨k1, k2⟩ := ofConsts_hold hzc
  have hprom : ∀ (w' : World) (fx' : Nat → Nat) (rho' : List Nat), _ := fun w' fx' rho' => promoL_ok (E := E) (B := B) (ts := ts) (w := w') (fx := fx') (rho := rho') (ofConsts_rep hzc).toOL fun i y Y hi' hY => by
    obtain ⟨Y', e1, e2, e3⟩ := (ofConsts_rep (w := w') (fx := fx') hzc).get hi'
    rw [hY] at e1; injection e1 with e1; subst e1
    exact noRow_ok e2.noRow _
  have hown : ∀ b, ownSum (promoL E ts ti.zero) z.cells.toList b = 0 := fun b => by
    rw [(hprom w fx rho).2.2 b]
    clear hprom
    have hr := ofConsts_rep (w := w) (fx := fx) hzc
    clear hzc k1 k2
    generalize ti.zero = l at hr
    generalize z.cells.toList = Vs at hr
    induction l generalizing Vs with
    | nil => rfl
    | cons x r ih =>
      obtain ⟨X, Xr, rfl, h1, _, h3⟩ := hr
      simp only [ownSum]
      rw [noRow_own h1.noRow, ih Xr h3]
  rcases hK with hK | hK
  · have hgd := hg.newLoc (.cells z.cells t) (.cells (promoL E ts ti.zero)) (fun w' fx' hx' hh hsame => by
        refine ⟨_, _, hh, (hprom w' fx' rho).1, fun i y Y hi' hY => ?_, okBld_of hbld⟩
        obtain ⟨y0, q1, q2, q3, _⟩ := (hprom w' fx' rho).2.1 i y Y hi' hY
        obtain ⟨Y', e1, e2, e3⟩ := (ofConsts_rep (w := w') (fx := fx') hzc).get q1
        rw [hY] at e1; injection e1 with e1; subst e1
        refine ⟨q2, e3, ?_⟩
        rcases q3 with rfl | ⟨e, rfl⟩
        · exact List.all_eq_true.1 k1 y (List.mem_of_getElem? q1)
        · rfl)
      (fun b hb => by simp only [ownObj, hbv, hown] at hb; omega) hlow
    refine wp_value hrun (hn _ _ _ _ _ _ _ hK (hgd.put o.dst (v := .loc fr.locs.length 0) (V := .pointer (some ⟨w.heap.size, 0, none⟩)) ?_ rfl) (hG.ext hxx))
    exact ⟨w.heap.size, by rw [← hg.locs.1]; simp, rfl⟩
  · have hgd := hg.newPtr (.cells z.cells t) (.cells (promoL E ts ti.zero)) (fun w' fx' rho' hx' hp hh hsame => by
        refine ⟨_, _, hh, (hprom w' fx' rho').1, fun i y Y hi' hY => ?_, okBld_of hbld⟩
        obtain ⟨y0, q1, q2, q3, _⟩ := (hprom w' fx' rho').2.1 i y Y hi' hY
        obtain ⟨Y', e1, e2, e3⟩ := (ofConsts_rep (w := w') (fx := fx') hzc).get q1
        rw [hY] at e1; injection e1 with e1; subst e1
        refine ⟨q2, e3, ?_⟩
        rcases q3 with rfl | ⟨e, rfl⟩
        · exact List.all_eq_true.1 (k2 _) y (List.mem_of_getElem? q1)
        · rfl)
      (fun b hb => by simp only [ownObj, hbv, hown] at hb; omega) hlow
    refine wp_value hrun (hn _ _ _ _ _ _ _ hK (hgd.put o.dst (v := .ptr m.length 0) (V := .pointer (some ⟨w.heap.size, 0, none⟩)) ?_ rfl) (hG.ext hxx))
    exact ⟨w.heap.size, by rw [← hg.mem.1]; simp, rfl⟩

theorem sound_range (hB : B ≤ c.w0.heap.size) (hF : Fits E P) (hg : Good E B c w fx rho lam fr m a) (hG : GlobOk E w fx) (hn : NextOk E B c r K next) {t : TypeId} {x : Operand} (ho : o.op = .range t x)
    {s : List UInt8} (hx : ev E fr x = some (.str s)) {ti : TI} (hti : E.T t = some ti) (hk : ti.kind = .str)
    (hK : K (Abs.put { fr with locs := fr.locs ++ [.iter s 0] } o.dst (.loc fr.locs.length 0)) m = some r) : o.wp P a w next Q := by
  have hlow : B ≤ w.heap.size := Nat.le_trans hB hg.keep.size
  have ht := (hF t _ hti).kind
  rw [hk] at ht
  have ht' : P.underlying t = some .string := ht
  have hX := (ev_sound hg hG hx).rep.str
  have hrun : (execOp a.eval o).run P w = .ok (.value (.pointer (some ⟨w.heap.size, 0, none⟩))) (w.alloc (.stringIter ⟨s.toArray⟩ 0)) := by
    simp [execOp, ho, Instr.range, run_underlying ht', hX]
  have hxx : Ext w fx (w.alloc (.stringIter ⟨s.toArray⟩ 0)) fx := by
    have := (hg.alloc (.stringIter ⟨s.toArray⟩ 0) 0).2
    have hfx : fxSet fx w.heap.size 0 = fx := by
      funext b; unfold fxSet; split
      · rename_i e; rw [e, hg.fxb _ (Nat.le_refl _)]
      · rfl
    rwa [hfx] at this
  have hgd := hg.newLoc (.stringIter ⟨s.toArray⟩ 0) (.iter s 0) (fun w' fx' hx' hh hsame => hh) (fun b hb => by simp [ownObj] at hb) hlow
  refine wp_value hrun (hn _ _ _ _ _ _ _ hK (hgd.put o.dst (v := .loc fr.locs.length 0) (V := .pointer (some ⟨w.heap.size, 0, none⟩)) ?_ rfl) (hG.ext hxx))
  exact ⟨w.heap.size, by rw [← hg.locs.1]; simp, rfl⟩

theorem evParts_ok (hg : Good E B c w fx rho lam fr m a) (hG : GlobOk E w fx) : ∀ {xs : List (Nat × Operand)} {ps : List (Nat × AVal)}, evParts E fr xs = some ps →
    (xs.map fun (i, x) => (i, a.eval x)).length = ps.length ∧ ∀ (i : Nat) (p : Nat × AVal) (q : Nat × Value), ps[i]? = some p → (xs.map fun (i, x) => (i, a.eval x))[i]? = some q → p.1 = q.1 ∧ Rep w fx p.2 q.2
  | [], ps, h => by injection h with h; subst h; exact ⟨rfl, fun i p q hi => by simp at hi⟩
  | (j, x) :: xr, ps, h => by
    simp only [evParts] at h
    split at h
    · rename_i v l hv hl
      split at h
      · rename_i hd
        injection h with h; subst h
        obtain ⟨h1, h2⟩ := evParts_ok hg hG hl
        refine ⟨by simpa using h1, fun i p q hi hq => ?_⟩
        cases i with
        | zero =>
          simp at hi hq; subst hi; subst hq
          exact ⟨rfl, (ev_sound hg hG hv).rep.data hd⟩
        | succ i => exact h2 i p q (by simpa using hi) (by simpa using hq)
      · cases h
    · cases h

end
end Go.Abs
