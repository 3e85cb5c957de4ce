/- Stores into objects. -/
import Derived.Test.YtlklpdifcpjlpaaDoorAbsMem3
namespace Go.Abs
set_option linter.unusedSectionVars false
set_option linter.unusedSimpArgs false
set_option linter.unusedVariables false

theorem setCell_heap {w : World} {g : Nat} {p r : List Value} {u v : Value} {et : TypeId} {fz : Nat × Nat} (h : w.heap[g]? = some (.cells (p ++ u :: r).toArray et fz)) :
    (w.setCell ⟨g, p.length, none⟩ v).heap[g]? = some (.cells (p ++ v :: r).toArray et fz) := by
  simp only [World.setCell, Array.getElem?_modify, h]
  simp
theorem setCell_other {w : World} {g off b : Nat} {v : Value} (hb : b ≠ g) : (w.setCell ⟨g, off, none⟩ v).heap[b]? = w.heap[b]? := by
  simp only [World.setCell, Array.getElem?_modify]
  rw [if_neg (Ne.symm hb)]
theorem setCells_heap : ∀ (Vs : List Value) {w : World} {g : Nat} {p q r : List Value} {et : TypeId} {fz : Nat × Nat}, w.heap[g]? = some (.cells (p ++ q ++ r).toArray et fz) → q.length = Vs.length →
    (w.setCells g p.length Vs).heap[g]? = some (.cells (p ++ Vs ++ r).toArray et fz)
  | [], w, g, p, q, r, et, fz, h, hq => by
    have : q = [] := List.length_eq_zero_iff.1 (by simpa using hq)
    subst this; exact h
  | v :: Vs, w, g, p, [], r, et, fz, h, hq => by simp at hq
  | v :: Vs, w, g, p, u :: q, r, et, fz, h, hq => by
    rw [World.setCells]
    have h1 := setCell_heap (v := v) (p := p) (u := u) (r := q ++ r) (w := w) (g := g) (et := et) (fz := fz) (by simpa using h)
    have h2 := setCells_heap Vs (p := p ++ [v]) (q := q) (r := r) (w := w.setCell ⟨g, p.length, none⟩ v) (g := g) (et := et) (fz := fz) (by simpa using h1) (by simpa using hq)
    simpa using h2
theorem setCells_other : ∀ (Vs : List Value) {w : World} {g off b : Nat}, b ≠ g → (w.setCells g off Vs).heap[b]? = w.heap[b]?
  | [], _, _, _, _, _ => rfl
  | v :: Vs, w, g, off, b, hb => by rw [World.setCells, setCells_other Vs hb, setCell_other hb]
theorem setCell_none {w : World} {g off b i : Nat} {v : Value} (h : w.cell? ⟨b, i, none⟩ = none) : (w.setCell ⟨g, off, none⟩ v).cell? ⟨b, i, none⟩ = none := by
  simp only [World.cell?, World.setCell, Array.getElem?_modify] at h ⊢
  cases hb : w.heap[b]? with
  | none => simp
  | some o =>
    rw [hb] at h
    by_cases hgb : g = b
    · simp only [hgb, if_true, Option.map_some]
      cases o <;> simp_all
    · simp only [hgb, if_false]
      exact h
theorem setCells_none : ∀ (Vs : List Value) {w : World} {g off b i : Nat}, w.cell? ⟨b, i, none⟩ = none → (w.setCells g off Vs).cell? ⟨b, i, none⟩ = none
  | [], _, _, _, _, _, h => h
  | v :: Vs, w, g, off, b, i, h => by rw [World.setCells]; exact setCells_none Vs (setCell_none h)
theorem setCells_rest : ∀ (Vs : List Value) {w : World} {g off : Nat}, (w.setCells g off Vs).heap.size = w.heap.size ∧ (w.setCells g off Vs).os = w.os ∧ (w.setCells g off Vs).tape = w.tape ∧ (w.setCells g off Vs).output = w.output
  | [], _, _, _ => ⟨rfl, rfl, rfl, rfl⟩
  | v :: Vs, w, g, off => by
    obtain ⟨h1, h2, h3, h4⟩ := setCells_rest Vs (w := w.setCell ⟨g, off, none⟩ v) (g := g) (off := off + 1)
    rw [World.setCells]
    exact ⟨h1.trans (by simp [World.setCell]), h2, h3, h4⟩

theorem two_count {l : List Nat} {i j g : Nat} (hi : l[i]? = some g) (hj : l[j]? = some g) (hne : i ≠ j) : 2 ≤ l.count g := by
  induction l generalizing i j with
  | nil => simp at hi
  | cons x r ih =>
    cases i with
    | zero =>
      cases j with
      | zero => exact absurd rfl hne
      | succ j =>
        simp at hi hj; subst hi
        have := List.count_pos_iff.2 (List.mem_of_getElem? hj)
        rw [List.count_cons_self]; omega
    | succ i =>
      cases j with
      | zero =>
        simp at hi hj; subst hj
        have := List.count_pos_iff.2 (List.mem_of_getElem? hi)
        rw [List.count_cons_self]; omega
      | succ j =>
        simp at hi hj
        have := ih hi hj (by omega)
        rw [List.count_cons]; omega

theorem ownSum_mid {w : World} {fx : Nat → Nat} {rho : List Nat} {p q r vs : List AVal} {P0 Q0 R0 Vs : List Value} (hp : P0.length = p.length) (hq : Q0.length = q.length) (hv : Vs.length = vs.length) (b : Nat) :
    ownSum (p ++ vs ++ r) (P0 ++ Vs ++ R0) b ≤ ownSum (p ++ q ++ r) (P0 ++ Q0 ++ R0) b + ownSum vs Vs b := by
  rw [ownSum_append _ _ _ _ _ (by simp [hp, hv]), ownSum_append _ _ _ _ _ hp.symm, ownSum_append _ _ _ _ _ (by simp [hp, hq]), ownSum_append _ _ _ _ _ hp.symm]
  omega

section
variable {P : Program} {E : Env} {B : Nat} {c : Ctx} {w w' : World} {fx fx' : Nat → Nat} {rho lam : List Nat} {fr : AFrame} {m : Mem} {a : Act}

theorem ext_one {g : Nat} (h0 : fx g = 0) (hsame : ∀ b, b ≠ g → w'.heap[b]? = w.heap[b]?) : Ext w fx w' fx :=
  ⟨fun _ => Nat.le_refl _, fun b off ho => cell_same (hsame b (by rintro rfl; omega)), fun b off ho hn => by rw [cell_same (hsame b (by rintro rfl; omega))]; exact hn⟩

theorem Good.setMem (h : Good E B c w fx rho lam fr m a) {i g : Nat} {ao ao' : AObj} (hi : m[i]? = some ao) (hgi : rho[i]? = some g)
    (hsz : w'.heap.size = w.heap.size) (hsame : ∀ b, b ≠ g → w'.heap[b]? = w.heap[b]?) (h1 : w'.os = w.os) (h2 : w'.tape = w.tape) (h3 : w'.output = w.output)
    (hnew : Ext w fx w' fx → ObjRep E B w' fx rho (mayHold i) ao' g) (own : Nat → Nat) (hle : ∀ b, ownObj w' ao' g b ≤ ownObj w ao g b + own b)
    (hown : MayOwn B c w (total w rho lam fr m a.tmps.toList) own) :
    Good E B c w' fx rho lam fr (m.set i ao') a ∧ Ext w fx w' fx ∧ ∀ b, total w' rho lam fr (m.set i ao') a.tmps.toList b + ownObj w ao g b = total w rho lam fr m a.tmps.toList b + ownObj w' ao' g b := by
  have hmem : g ∈ rho := List.mem_of_getElem? hgi
  have hg1 : 1 ≤ rho.count g := List.count_pos_iff.2 hmem
  have htg := h.tot g
  have hx : Ext w fx w' fx := ext_one (h.fx0 g (.inl hmem)) hsame
  have hne : ∀ b, (0 < lam.count b ∨ 0 < ownSum fr.tmps a.tmps.toList b ∨ 0 < ownObjs w fr.locs lam b ∨ 0 < ownObjs w m rho b) → b ≠ g := by
    rintro b hb rfl
    unfold total at htg
    omega
  have hlam : ∀ g' ∈ lam, w'.heap[g']? = w.heap[g']? := fun g' hg' => hsame g' (hne g' (.inl (List.count_pos_iff.2 hg')))
  have hloc : ∀ b, ownObjs w' fr.locs lam b = ownObjs w fr.locs lam b := fun b => ownObjs_world _ _ _ hlam
  have hrho1 : ∀ j g', j ≠ i → rho[j]? = some g' → g' ≠ g := by
    rintro j g' hj hjg rfl
    have := two_count hjg hgi hj
    unfold total at htg
    omega
  have hobj : ∀ (b : Nat), ownObjs w' (m.set i ao') rho b + ownObj w ao g b = ownObjs w m rho b + ownObj w' ao' g b := by
    intro b
    have key : ∀ (l : List AObj) (gs : List Nat) (i : Nat), l[i]? = some ao → gs[i]? = some g → (∀ j g', j ≠ i → gs[j]? = some g' → g' ≠ g) →
        ownObjs w' (l.set i ao') gs b + ownObj w ao g b = ownObjs w l gs b + ownObj w' ao' g b := by
      intro l
      induction l with
      | nil => intro gs i h; simp at h
      | cons x r ih =>
        intro gs i hl hgs hd
        cases gs with
        | nil => simp at hgs
        | cons y ys =>
          cases i with
          | zero =>
            simp at hl hgs; subst hl; subst hgs
            have : ownObjs w' r ys b = ownObjs w r ys b := ownObjs_world _ _ _ fun g' hg' => by
              obtain ⟨j, hj⟩ := List.getElem?_of_mem hg'
              exact hsame g' (hd (j + 1) g' (by omega) (by simpa using hj))
            simp [ownObjs, this]; omega
          | succ i =>
            simp at hl hgs
            have hy : y ≠ g := hd 0 y (by omega) rfl
            have hxo : ownObj w' x y b = ownObj w x y b := by
              cases x with
              | cells l => simp only [ownObj, blockVals, hsame y hy]
              | iter _ _ => rfl
              | map _ _ => rfl
            have := ih ys i hl hgs fun j g' hj hjg => hd (j + 1) g' (by omega) (by simpa using hjg)
            simp [ownObjs, hxo]; omega
    exact key m rho i hi hgi hrho1
  have hte : ∀ b, total w' rho lam fr (m.set i ao') a.tmps.toList b + ownObj w ao g b = total w rho lam fr m a.tmps.toList b + ownObj w' ao' g b := fun b => by
    have := hobj b
    unfold total
    rw [hloc]
    omega
  have ht : ∀ b, total w' rho lam fr (m.set i ao') a.tmps.toList b ≤ total w rho lam fr m a.tmps.toList b + own b := fun b => by
    have := hobj b
    have := hle b
    have := ownObj_le w m rho i ao g b hi hgi
    unfold total
    rw [hloc]
    omega
  refine ⟨{
    size := h.size
    tmp := fun j v V hj hV => by
      obtain ⟨x, y⟩ := h.tmp j v V hj hV
      refine ⟨RepT.ext hx (List.prefix_refl _) (List.prefix_refl _) x, y.ext hx fun b hb => ⟨hsame b (hne b (.inr (.inl ?_))), rfl⟩⟩
      have := ownSum_le_of_get fr.tmps a.tmps.toList j v V b hj hV
      omega
    defs := h.defs.ext hx (List.prefix_refl _)
    locs := h.locs.ext hx (List.prefix_refl _) hlam fun b hb => ⟨hsame b (hne b (.inr (.inr (.inl hb)))), rfl⟩
    mem := by
      refine ⟨by simp [h.mem.1], fun j o g' hj hjg => ?_⟩
      by_cases e : j = i
      · subst e
        have hlt : j < m.length := by
          rcases Nat.lt_or_ge j m.length with h | h
          · exact h
          · simp [List.getElem?_eq_none h] at hi
        rw [List.getElem?_set_self hlt] at hj
        injection hj with hj; subst hj
        rw [hgi] at hjg; injection hjg with hjg; subst hjg
        exact hnew hx
      · rw [List.getElem?_set_ne (Ne.symm e)] at hj
        have hng := hrho1 j g' e hjg
        refine (h.mem.2 j o g' hj hjg).ext hx (List.prefix_refl _) (hsame g' hng) fun b hb => ⟨hsame b (hne b (.inr (.inr (.inr ?_)))), rfl⟩
        exact Nat.lt_of_lt_of_le hb (ownObj_le w m rho j o g' b hj hjg)
    fx0 := h.fx0
    fxb := fun b hb => h.fxb b (by omega)
    tot := fun b => by
      have h4 := ht b
      have h5 := h.tot b
      rcases Nat.eq_zero_or_pos (own b) with h0 | h0
      · omega
      · have := (hown b h0).1; omega
    low := fun b hb => by
      have h4 := ht b
      rcases Nat.eq_zero_or_pos (own b) with h0 | h0
      · obtain ⟨x, y, z⟩ := h.low b (by omega)
        exact ⟨x, by omega, z⟩
      · obtain ⟨_, x, y, z⟩ := hown b h0
        exact ⟨x, by omega, z⟩
    keep := {
      size := by rw [hsz]; exact h.keep.size
      os := h1.trans h.keep.os
      tape := h2.trans h.keep.tape
      output := h3.trans h.keep.output
      ext := h.keep.ext.trans hx
      block := fun b hb hS => by
        obtain ⟨x, y⟩ := h.keep.block b hb hS
        have hbg : b ≠ g := by
          rintro rfl
          exact hS ((h.low b (total_pos_rho hmem)).2.2 hb)
        exact ⟨(hsame b hbg).trans x, y⟩ }
    pre := h.pre }, hx, hte⟩

theorem Good.setLoc (h : Good E B c w fx rho lam fr m a) {i g : Nat} {ao ao' : AObj} (hi : fr.locs[i]? = some ao) (hgi : lam[i]? = some g)
    (hsz : w'.heap.size = w.heap.size) (hsame : ∀ b, b ≠ g → w'.heap[b]? = w.heap[b]?) (h1 : w'.os = w.os) (h2 : w'.tape = w.tape) (h3 : w'.output = w.output)
    (hnew : Ext w fx w' fx → ObjRep E B w' fx rho mayHoldL ao' g) (own : Nat → Nat) (hle : ∀ b, ownObj w' ao' g b ≤ ownObj w ao g b + own b)
    (hown : MayOwn B c w (total w rho lam fr m a.tmps.toList) own) :
    Good E B c w' fx rho lam { fr with locs := fr.locs.set i ao' } m a ∧ Ext w fx w' fx ∧ ∀ b, total w' rho lam { fr with locs := fr.locs.set i ao' } m a.tmps.toList b + ownObj w ao g b = total w rho lam fr m a.tmps.toList b + ownObj w' ao' g b := by
  have hmem : g ∈ lam := List.mem_of_getElem? hgi
  have hg1 : 1 ≤ lam.count g := List.count_pos_iff.2 hmem
  have htg := h.tot g
  have hx : Ext w fx w' fx := ext_one (h.fx0 g (.inr hmem)) hsame
  have hne : ∀ b, (0 < rho.count b ∨ 0 < ownSum fr.tmps a.tmps.toList b ∨ 0 < ownObjs w fr.locs lam b ∨ 0 < ownObjs w m rho b) → b ≠ g := by
    rintro b hb rfl
    unfold total at htg
    omega
  have hrho : ∀ g' ∈ rho, w'.heap[g']? = w.heap[g']? := fun g' hg' => hsame g' (hne g' (.inl (List.count_pos_iff.2 hg')))
  have hloc : ∀ b, ownObjs w' m rho b = ownObjs w m rho b := fun b => ownObjs_world _ _ _ hrho
  have hrho1 : ∀ j g', j ≠ i → lam[j]? = some g' → g' ≠ g := by
    rintro j g' hj hjg rfl
    have := two_count hjg hgi hj
    unfold total at htg
    omega
  have hobj : ∀ (b : Nat), ownObjs w' (fr.locs.set i ao') lam b + ownObj w ao g b = ownObjs w fr.locs lam b + ownObj w' ao' g b := by
    intro b
    have key : ∀ (l : List AObj) (gs : List Nat) (i : Nat), l[i]? = some ao → gs[i]? = some g → (∀ j g', j ≠ i → gs[j]? = some g' → g' ≠ g) →
        ownObjs w' (l.set i ao') gs b + ownObj w ao g b = ownObjs w l gs b + ownObj w' ao' g b := by
      intro l
      induction l with
      | nil => intro gs i h; simp at h
      | cons x r ih =>
        intro gs i hl hgs hd
        cases gs with
        | nil => simp at hgs
        | cons y ys =>
          cases i with
          | zero =>
            simp at hl hgs; subst hl; subst hgs
            have : ownObjs w' r ys b = ownObjs w r ys b := ownObjs_world _ _ _ fun g' hg' => by
              obtain ⟨j, hj⟩ := List.getElem?_of_mem hg'
              exact hsame g' (hd (j + 1) g' (by omega) (by simpa using hj))
            simp [ownObjs, this]; omega
          | succ i =>
            simp at hl hgs
            have hy : y ≠ g := hd 0 y (by omega) rfl
            have hxo : ownObj w' x y b = ownObj w x y b := by
              cases x with
              | cells l => simp only [ownObj, blockVals, hsame y hy]
              | iter _ _ => rfl
              | map _ _ => rfl
            have := ih ys i hl hgs fun j g' hj hjg => hd (j + 1) g' (by omega) (by simpa using hjg)
            simp [ownObjs, hxo]; omega
    exact key fr.locs lam i hi hgi hrho1
  have hte : ∀ b, total w' rho lam { fr with locs := fr.locs.set i ao' } m a.tmps.toList b + ownObj w ao g b = total w rho lam fr m a.tmps.toList b + ownObj w' ao' g b := fun b => by
    have := hobj b
    unfold total
    rw [hloc]
    simp only
    omega
  have ht : ∀ b, total w' rho lam { fr with locs := fr.locs.set i ao' } m a.tmps.toList b ≤ total w rho lam fr m a.tmps.toList b + own b := fun b => by
    have := hobj b
    have := hle b
    have := ownObj_le w fr.locs lam i ao g b hi hgi
    unfold total
    rw [hloc]
    simp only
    omega
  refine ⟨{
    size := h.size
    tmp := fun j v V hj hV => by
      obtain ⟨x, y⟩ := h.tmp j v V hj hV
      refine ⟨RepT.ext hx (List.prefix_refl _) (List.prefix_refl _) x, y.ext hx fun b hb => ⟨hsame b (hne b (.inr (.inl ?_))), rfl⟩⟩
      have := ownSum_le_of_get fr.tmps a.tmps.toList j v V b hj hV
      omega
    defs := h.defs.ext hx (List.prefix_refl _)
    mem := h.mem.ext hx (List.prefix_refl _) hrho fun b hb => ⟨hsame b (hne b (.inr (.inr (.inr hb)))), rfl⟩
    locs := by
      refine ⟨by simp [h.locs.1], fun j o g' hj hjg => ?_⟩
      by_cases e : j = i
      · subst e
        have hlt : j < fr.locs.length := by
          rcases Nat.lt_or_ge j fr.locs.length with h | h
          · exact h
          · simp [List.getElem?_eq_none h] at hi
        replace hj : (fr.locs.set j ao')[j]? = some o := hj
        rw [List.getElem?_set_self hlt] at hj
        injection hj with hj; subst hj
        rw [hgi] at hjg; injection hjg with hjg; subst hjg
        exact hnew hx
      · replace hj : (fr.locs.set i ao')[j]? = some o := hj
        rw [List.getElem?_set_ne (Ne.symm e)] at hj
        have hng := hrho1 j g' e hjg
        refine (h.locs.2 j o g' hj hjg).ext hx (List.prefix_refl _) (hsame g' hng) fun b hb => ⟨hsame b (hne b (.inr (.inr (.inl ?_)))), rfl⟩
        exact Nat.lt_of_lt_of_le hb (ownObj_le w fr.locs lam j o g' b hj hjg)
    fx0 := h.fx0
    fxb := fun b hb => h.fxb b (by omega)
    tot := fun b => by
      have h4 := ht b
      have h5 := h.tot b
      rcases Nat.eq_zero_or_pos (own b) with h0 | h0
      · omega
      · have := (hown b h0).1; omega
    low := fun b hb => by
      have h4 := ht b
      rcases Nat.eq_zero_or_pos (own b) with h0 | h0
      · obtain ⟨x, y, z⟩ := h.low b (by omega)
        exact ⟨x, by omega, z⟩
      · obtain ⟨_, x, y, z⟩ := hown b h0
        exact ⟨x, by omega, z⟩
    keep := {
      size := by rw [hsz]; exact h.keep.size
      os := h1.trans h.keep.os
      tape := h2.trans h.keep.tape
      output := h3.trans h.keep.output
      ext := h.keep.ext.trans hx
      block := fun b hb hS => by
        obtain ⟨x, y⟩ := h.keep.block b hb hS
        have hbg : b ≠ g := by
          rintro rfl
          exact hS ((h.low b (total_pos_lam hmem)).2.2 hb)
        exact ⟨(hsame b hbg).trans x, y⟩ }
    pre := h.pre }, hx, hte⟩

end
end Go.Abs
