/- New blocks: boxes, literals of slices, iterators, bytes out of strings. -/
import Derived.Test.YtlklpdifcpjlpaaDoorAbsOps5
import Derived.Lib.ConvBytes
namespace Go.Abs
set_option linter.unusedSectionVars false

theorem overlay_eq {α : Type} : ∀ {l vs l' : List α}, overlay l vs = some l' → ∃ q r, l = q ++ r ∧ q.length = vs.length ∧ l' = vs ++ r
  | l, [], l', h => by
    have : l' = l := by cases l <;> (injection h with h; exact h.symm)
    subst this; exact ⟨[], _, rfl, rfl, rfl⟩
  | [], _ :: _, _, h => by cases h
  | x :: r, v :: vs, l', h => by
    simp only [overlay] at h
    cases ho : overlay r vs with
    | none => rw [ho] at h; cases h
    | some z =>
      rw [ho] at h; injection h with h; subst h
      obtain ⟨q, r', rfl, h2, rfl⟩ := overlay_eq ho
      exact ⟨x :: q, r', rfl, by simp [h2], rfl⟩
theorem lput_eq {α : Type} : ∀ {l : List α} {off : Nat} {vs l' : List α}, lput l off vs = some l' → ∃ p q r, l = p ++ q ++ r ∧ p.length = off ∧ q.length = vs.length ∧ l' = p ++ vs ++ r
  | l, 0, vs, l', h => by
    have h' : overlay l vs = some l' := by cases l <;> exact h
    obtain ⟨q, r, h1, h2, h3⟩ := overlay_eq h'
    exact ⟨[], q, r, by simp [h1], rfl, h2, by simp [h3]⟩
  | [], _ + 1, _, _, h => by cases h
  | x :: r, off + 1, vs, l', h => by
    simp only [lput] at h
    cases ho : lput r off vs with
    | none => rw [ho] at h; cases h
    | some z =>
      rw [ho] at h; injection h with h; subst h
      obtain ⟨p, q, r', rfl, h2, h3, rfl⟩ := lput_eq ho
      exact ⟨x :: p, q, r', rfl, by simp [h2], h3, rfl⟩

theorem foldl_sets (off : Nat) : ∀ (V : List Value) (k : Nat) (p q r : List Value) , p.length = off + k → q.length = V.length →
    (V.zipIdx k).foldl (fun (cs : Array Value) (x : Value × Nat) => cs.setIfInBounds (off + x.2) x.1) (p ++ q ++ r).toArray = (p ++ V ++ r).toArray
  | [], k, p, q, r, _, hq => by
    have : q = [] := List.length_eq_zero_iff.1 (by simpa using hq)
    subst this; simp
  | v :: V, k, p, [], r, _, hq => by simp at hq
  | v :: V, k, p, u :: q, r, hp, hq => by
    rw [List.zipIdx_cons, List.foldl_cons]
    have e : (p ++ u :: q ++ r).toArray.setIfInBounds (off + k) v = ((p ++ [v]) ++ q ++ r).toArray := by
      apply Array.ext'
      rw [Array.toList_setIfInBounds]
      simp only [List.append_assoc, List.cons_append]
      rw [← hp]
      rw [List.set_append_right _ _ (Nat.le_refl _)]
      simp
    rw [e, foldl_sets off V (k + 1) (p ++ [v]) q r (by simp [hp]; omega) (by simpa using hq)]
    simp

/-- the parts' cells, as the model lays them -/
theorem fill_ok {w : World} {fx : Nat → Nat} {place : Nat → Option (Nat × Nat)} : ∀ {ps : List (Nat × AVal)} {Ps : List (Nat × Value)} {cells cells' : List AVal} {Cs : List Value}, fill place cells ps = some cells' →
    RepL w fx cells Cs → Ps.length = ps.length → (∀ (i : Nat) (p : Nat × AVal) (q : Nat × Value), ps[i]? = some p → Ps[i]? = some q → p.1 = q.1 ∧ RepL w fx (cellsOf p.2) q.2.cells.toList) →
    ∃ Cs', Instr.fill place Cs.toArray Ps = some Cs'.toArray ∧ RepL w fx cells' Cs'
  | [], Ps, cells, cells', Cs, h, hr, hl, _ => by
    have : Ps = [] := List.length_eq_zero_iff.1 hl
    subst this
    have : cells' = cells := by unfold fill at h; injection h with h; exact h.symm
    subst this
    exact ⟨Cs, rfl, hr⟩
  | (i, v) :: ps, [], _, _, _, _, _, hl, _ => by simp at hl
  | (i, v) :: ps, (j, V) :: Ps, cells, cells', Cs, h, hr, hl, hp => by
    obtain ⟨e, hv⟩ := hp 0 _ _ rfl rfl
    simp only at e hv
    subst e
    unfold fill at h
    split at h
    · cases h
    · rename_i off size hpl
      split at h
      · rename_i hsz
        split at h
        · rename_i c1 hc1
          obtain ⟨p, q, r, rfl, h1, h2, rfl⟩ := lput_eq hc1
          obtain ⟨V01, V2, rfl, ha, hb⟩ := hr.split
          obtain ⟨V0, V1, rfl, hc, hd⟩ := ha.split
          have hVl : V.cells.size = size := by
            have := hv.length
            rw [Array.length_toList, hsz] at this
            exact this
          have hr1 : RepL w fx (p ++ cellsOf v ++ r) (V0 ++ V.cells.toList ++ V2) := (hc.append hv).append hb
          obtain ⟨Cs', hf, hr'⟩ := fill_ok (Ps := Ps) h hr1 (by simpa using hl) fun i x y hx hy => hp (i + 1) x y (by simpa using hx) (by simpa using hy)
          refine ⟨Cs', ?_, hr'⟩
          rw [← hf]
          conv => lhs; unfold Instr.fill
          simp only [hpl]
          have hb1 : ¬ ((decide (V.cells.size ≠ size) || decide (off + V.cells.size > (V0 ++ V1 ++ V2).toArray.size)) = true) := by
            rw [Bool.or_eq_true, decide_eq_true_eq, decide_eq_true_eq]
            rintro (h | h)
            · exact h hVl
            · simp only [List.size_toArray, List.length_append, hc.length, hd.length, h1, h2, hsz, hVl] at h
              omega
          rw [if_neg hb1]
          congr 1
          have := foldl_sets off V.cells.toList 0 V0 V1 V2 (by rw [hc.length, h1]; rfl) (by rw [hd.length, h2, hsz, Array.length_toList, hVl])
          rw [← this, ← Array.foldl_toList, Array.toList_zipIdx]
        · cases h
      · cases h

theorem plainCell_cellsOf_rep {w : World} {fx : Nat → Nat} {v : AVal} {V : Value} (h : Rep w fx v V) : RepL w fx (cellsOf v) V.cells.toList := by
  cases v with
  | agg cs => obtain ⟨Vs, rfl, hr⟩ := h; exact hr
  | bool _ => obtain rfl := h; exact ⟨_, _, rfl, rfl, rfl, rfl⟩
  | int _ _ => obtain rfl := h; exact ⟨_, _, rfl, rfl, rfl, rfl⟩
  | str _ => obtain rfl := h; exact ⟨_, _, rfl, rfl, rfl, rfl⟩
  | nilptr => obtain rfl := h; exact ⟨_, _, rfl, rfl, rfl, rfl⟩
  | imm _ => have h' := h; obtain ⟨b, off, Vs, rfl, _⟩ := h'; exact ⟨_, _, rfl, h, rfl, rfl⟩
  | slice _ _ => have h' := h; obtain ⟨A, n, cp, Vs, rfl, _⟩ := h'; exact ⟨_, _, rfl, h, rfl, rfl⟩
  | fn _ _ => have h' := h; obtain ⟨_, rfl⟩ := h'; exact ⟨_, _, rfl, h, rfl, rfl⟩
  | nilfunc => obtain rfl := h; exact ⟨_, _, rfl, rfl, rfl, rfl⟩
  | iface _ _ => have h' := h; obtain ⟨_, rfl, _⟩ := h'; exact ⟨_, _, rfl, h, rfl, rfl⟩
  | nilIface => obtain rfl := h; exact ⟨_, _, rfl, rfl, rfl, rfl⟩
  | nilmap => obtain rfl := h; exact ⟨_, _, rfl, rfl, rfl, rfl⟩
  | ptr _ _ => exact h.elim
  | loc _ _ => exact h.elim
  | tup _ => exact h.elim
  | err _ =>
    have h' := h
    rcases h' with ⟨_, rfl⟩ | ⟨_, _, _, rfl⟩
    · exact ⟨_, _, rfl, h, rfl, rfl⟩
    · exact ⟨_, _, rfl, h, rfl, rfl⟩
  | mapp _ => exact h.elim
  | any => exact h.elim

section
variable {P : Program} {E : Env} {B : Nat} {c : Ctx} {w w' : World} {fx fx' : Nat → Nat} {rho lam : List Nat} {fr : AFrame} {m : Mem} {a : Act}
variable {R : Type} {r : R} {o : Oper} {next : Act → World → Prop} {Q : Exit → Act → World → Prop} {K : AFrame → Mem → Option R}

/-- fx, but for one block -/
def fxSet (fx : Nat → Nat) (g n : Nat) : Nat → Nat := fun b => if b = g then n else fx b

theorem heap_alloc_get (w : World) (ob : Obj) (b : Nat) (hb : b < w.heap.size) : (w.alloc ob).heap[b]? = w.heap[b]? := by
  simp only [World.alloc]
  rw [Array.getElem?_push, if_neg (by omega)]
theorem heap_alloc_at (w : World) (ob : Obj) : (w.alloc ob).heap[w.heap.size]? = some ob := by
  simp only [World.alloc]
  rw [Array.getElem?_push, if_pos rfl]
theorem heap_alloc_size (w : World) (ob : Obj) : (w.alloc ob).heap.size = w.heap.size + 1 := by simp [World.alloc, -World.alloc_eq]

theorem cell_same {w w' : World} {b off : Nat} (h : w'.heap[b]? = w.heap[b]?) : w'.cell? ⟨b, off, none⟩ = w.cell? ⟨b, off, none⟩ := by
  simp only [World.cell?, h]

/-- A world that bears one block more. -/
theorem Good.grow (h : Good E B c w fx rho lam fr m a) (n : Nat) (hsz : w'.heap.size = w.heap.size + 1) (hold : ∀ b, b < w.heap.size → w'.heap[b]? = w.heap[b]?)
    (h1 : w'.os = w.os) (h2 : w'.tape = w.tape) (h3 : w'.output = w.output) :
    Good E B c w' (fxSet fx w.heap.size n) rho lam fr m a ∧ Ext w fx w' (fxSet fx w.heap.size n) := by
  have hx : Ext w fx w' (fxSet fx w.heap.size n) := {
    le := fun b => by
      unfold fxSet
      split
      · rename_i e; rw [e, h.fxb _ (Nat.le_refl _)]; omega
      · exact Nat.le_refl _
    cell := fun b off ho => by
      have hb : b < w.heap.size := by
        rcases Nat.lt_or_ge b w.heap.size with h' | h'
        · exact h'
        · rw [h.fxb b h'] at ho; omega
      exact cell_same (hold b hb)
    none := fun b off h0 hn => by
      have hb : b < w.heap.size := by
        rcases Nat.lt_or_ge b w.heap.size with h' | h'
        · exact h'
        · rw [h.fxb b h'] at h0; omega
      rw [cell_same (hold b hb)]; exact hn }
  refine ⟨h.world hx (by omega) w.heap.size ?_ ?_ ?_ ?_ h1 h2 h3, hx⟩
  · rcases Nat.eq_zero_or_pos (total w rho lam fr m a.tmps.toList w.heap.size) with h0 | h0
    · exact h0
    · have := (h.low _ h0).2.1; omega
  · intro hlt; have := h.keep.size; omega
  · intro b hb hne
    exact ⟨hold b hb, by unfold fxSet; rw [if_neg hne]⟩
  · intro b hb
    unfold fxSet
    rw [if_neg (by omega)]
    exact h.fxb b (by omega)

theorem Good.alloc (h : Good E B c w fx rho lam fr m a) (ob : Obj) (n : Nat) :
    Good E B c (w.alloc ob) (fxSet fx w.heap.size n) rho lam fr m a ∧ Ext w fx (w.alloc ob) (fxSet fx w.heap.size n) :=
  h.grow n (heap_alloc_size w ob) (fun b hb => heap_alloc_get w ob b hb) rfl rfl rfl

/-- cells of a new block that nothing will write -/
theorem cellsAt_new (Vs : List Value) (e : TypeId) : CellsAt (w.alloc (.cells Vs.toArray e)) (fxSet fx w.heap.size Vs.length) w.heap.size 0 Vs := fun j V hj => by
  have hlt : j < Vs.length := by
    rcases Nat.lt_or_ge j Vs.length with h | h
    · exact h
    · simp [List.getElem?_eq_none h] at hj
  refine ⟨?_, by unfold fxSet; rw [if_pos rfl]; omega⟩
  simp only [World.cell?, heap_alloc_at, Nat.zero_add]
  simpa using hj

/-- what a new object may own -/
def MayOwn (B : Nat) (c : Ctx) (w : World) (tot : Nat → Nat) (own : Nat → Nat) : Prop :=
  ∀ b, 0 < own b → tot b + own b ≤ 1 ∧ B ≤ b ∧ b < w.heap.size ∧ (b < c.w0.heap.size → c.S0 b)

theorem total_alloc (h : Good E B c w fx rho lam fr m a) (ob : Obj) (b : Nat) : total (w.alloc ob) rho lam fr m a.tmps.toList b = total w rho lam fr m a.tmps.toList b := by
  have hrho : ∀ g ∈ rho, (w.alloc ob).heap[g]? = w.heap[g]? := fun g hg' => heap_alloc_get w ob g (h.low g (total_pos_rho hg')).2.1
  have hlam : ∀ g ∈ lam, (w.alloc ob).heap[g]? = w.heap[g]? := fun g hg' => heap_alloc_get w ob g (h.low g (total_pos_lam hg')).2.1
  unfold total
  rw [ownObjs_world fr.locs lam _ hlam, ownObjs_world m rho _ hrho]
theorem total_new (h : Good E B c w fx rho lam fr m a) : total w rho lam fr m a.tmps.toList w.heap.size = 0 := by
  rcases Nat.eq_zero_or_pos (total w rho lam fr m a.tmps.toList w.heap.size) with h0 | h0
  · exact h0
  · have := (h.low _ h0).2.1; omega
theorem count_snoc (l : List Nat) (g b : Nat) : (l ++ [g]).count b = l.count b + (if b = g then 1 else 0) := by
  rw [List.count_append, List.count_singleton]
  congr 1
  by_cases e : g = b
  · simp [e]
  · simp [e, Ne.symm e]

/-- a new object of the frame's own -/
theorem Good.newLoc (h : Good E B c w fx rho lam fr m a) (ob : Obj) (ao : AObj) (hob : ∀ w' fx', Ext w fx w' fx' → w'.heap[w.heap.size]? = some ob → (∀ b, b < w.heap.size → w'.heap[b]? = w.heap[b]? ∧ fx' b = fx b) → ObjRep E B w' fx' rho mayHoldL ao w.heap.size)
    (hown : MayOwn B c w (total w rho lam fr m a.tmps.toList) (ownObj (w.alloc ob) ao w.heap.size)) (hlow : B ≤ w.heap.size) :
    Good E B c (w.alloc ob) fx rho (lam ++ [w.heap.size]) { fr with locs := fr.locs ++ [ao] } m a := by
  obtain ⟨hg, hx⟩ := h.alloc ob 0
  have hfx : fxSet fx w.heap.size 0 = fx := by
    funext b; unfold fxSet; split
    · rename_i e; rw [e, h.fxb _ (Nat.le_refl _)]
    · rfl
  rw [hfx] at hg hx
  have ht : ∀ b, total (w.alloc ob) rho (lam ++ [w.heap.size]) { fr with locs := fr.locs ++ [ao] } m a.tmps.toList b = total w rho lam fr m a.tmps.toList b + (if b = w.heap.size then 1 else 0) + ownObj (w.alloc ob) ao w.heap.size b := fun b => by
    have ho : ownObjs (w.alloc ob) (fr.locs ++ [ao]) (lam ++ [w.heap.size]) b = ownObjs (w.alloc ob) fr.locs lam b + ownObj (w.alloc ob) ao w.heap.size b := by
      rw [ownObjs_append _ _ _ _ _ _ h.locs.1.symm]
      simp [ownObjs]
    have := total_alloc h ob b
    simp only [total, count_snoc, ho] at this ⊢
    omega
  have hz := total_new h
  exact {
    size := hg.size
    tmp := fun i v V hi hV => by
      obtain ⟨h1, h2⟩ := hg.tmp i v V hi hV
      exact ⟨RepT.ext (Ext.refl _ _) (List.prefix_refl _) (List.prefix_append _ _) h1, h2⟩
    defs := hg.defs
    locs := by
      refine ⟨by simp [h.locs.1], fun i ob' g hi hgi => ?_⟩
      rcases Nat.lt_or_ge i fr.locs.length with hlt | hge
      · rw [List.getElem?_append_left hlt] at hi
        rw [List.getElem?_append_left (by rw [h.locs.1]; exact hlt)] at hgi
        exact hg.locs.2 i ob' g hi hgi
      · rw [List.getElem?_append_right hge] at hi
        rw [List.getElem?_append_right (by rw [h.locs.1]; exact hge), h.locs.1] at hgi
        cases hk : i - fr.locs.length with
        | zero =>
          rw [hk] at hi hgi
          simp at hi hgi; subst hi; subst hgi
          exact hob _ _ hx (heap_alloc_at w ob) fun b hb => ⟨heap_alloc_get w ob b hb, rfl⟩
        | succ k => rw [hk] at hi; simp at hi
    mem := hg.mem
    fx0 := fun b hb => by
      rcases hb with hb | hb
      · exact hg.fx0 b (.inl hb)
      · rcases List.mem_append.1 hb with hb | hb
        · exact hg.fx0 b (.inr hb)
        · simp at hb; subst hb; exact h.fxb _ (Nat.le_refl _)
    fxb := hg.fxb
    tot := fun b => by
      show total (w.alloc ob) rho (lam ++ [w.heap.size]) { fr with locs := fr.locs ++ [ao] } m a.tmps.toList b ≤ 1
      rw [ht]
      have := h.tot b
      rcases Nat.eq_zero_or_pos (ownObj (w.alloc ob) ao w.heap.size b) with h0 | h0
      · split
        · rename_i e; subst e; omega
        · omega
      · obtain ⟨h1, _, h2, _⟩ := hown b h0
        rw [if_neg (by omega)]
        omega
    low := fun b hb => by
      replace hb : 0 < total (w.alloc ob) rho (lam ++ [w.heap.size]) { fr with locs := fr.locs ++ [ao] } m a.tmps.toList b := hb
      rw [ht] at hb
      by_cases e : b = w.heap.size
      · subst e
        refine ⟨hlow, by rw [heap_alloc_size]; omega, fun hlt => ?_⟩
        have := h.keep.size; omega
      · rw [if_neg e] at hb
        rcases Nat.eq_zero_or_pos (ownObj (w.alloc ob) ao w.heap.size b) with h0 | h0
        · obtain ⟨x, y, z⟩ := h.low b (by omega)
          exact ⟨x, by rw [heap_alloc_size]; omega, z⟩
        · obtain ⟨_, x, y, z⟩ := hown b h0
          exact ⟨x, by rw [heap_alloc_size]; omega, z⟩
    keep := hg.keep
    pre := hg.pre }

/-- a new object that may be handed on -/
theorem Good.newPtr (h : Good E B c w fx rho lam fr m a) (ob : Obj) (ao : AObj) (hob : ∀ w' fx' rho', Ext w fx w' fx' → rho <+: rho' → w'.heap[w.heap.size]? = some ob → (∀ b, b < w.heap.size → w'.heap[b]? = w.heap[b]? ∧ fx' b = fx b) → ObjRep E B w' fx' rho' (mayHold m.length) ao w.heap.size)
    (hown : MayOwn B c w (total w rho lam fr m a.tmps.toList) (ownObj (w.alloc ob) ao w.heap.size)) (hlow : B ≤ w.heap.size) :
    Good E B c (w.alloc ob) fx (rho ++ [w.heap.size]) lam fr (m ++ [ao]) a := by
  obtain ⟨hg, hx⟩ := h.alloc ob 0
  have hfx : fxSet fx w.heap.size 0 = fx := by
    funext b; unfold fxSet; split
    · rename_i e; rw [e, h.fxb _ (Nat.le_refl _)]
    · rfl
  rw [hfx] at hg hx
  have ht : ∀ b, total (w.alloc ob) (rho ++ [w.heap.size]) lam fr (m ++ [ao]) a.tmps.toList b = total w rho lam fr m a.tmps.toList b + (if b = w.heap.size then 1 else 0) + ownObj (w.alloc ob) ao w.heap.size b := fun b => by
    have ho : ownObjs (w.alloc ob) (m ++ [ao]) (rho ++ [w.heap.size]) b = ownObjs (w.alloc ob) m rho b + ownObj (w.alloc ob) ao w.heap.size b := by
      rw [ownObjs_append _ _ _ _ _ _ h.mem.1.symm]
      simp [ownObjs]
    have := total_alloc h ob b
    simp only [total, count_snoc, ho] at this ⊢
    omega
  have hz := total_new h
  have hp : rho <+: rho ++ [w.heap.size] := List.prefix_append _ _
  have hgrow : ∀ g ∈ rho, (w.alloc ob).heap[g]? = w.heap[g]? := fun g hg' => heap_alloc_get w ob g (h.low g (total_pos_rho hg')).2.1
  exact {
    size := hg.size
    tmp := fun i v V hi hV => by
      obtain ⟨h1, h2⟩ := hg.tmp i v V hi hV
      exact ⟨RepT.ext (Ext.refl _ _) hp (List.prefix_refl _) h1, h2⟩
    defs := hg.defs.ext (Ext.refl _ _) hp
    locs := hg.locs.ext (Ext.refl _ _) hp (fun _ _ => rfl) fun _ _ => ⟨rfl, rfl⟩
    mem := by
      refine ⟨by simp [h.mem.1], fun i ob' g hi hgi => ?_⟩
      rcases Nat.lt_or_ge i m.length with hlt | hge
      · rw [List.getElem?_append_left hlt] at hi
        rw [List.getElem?_append_left (by rw [h.mem.1]; exact hlt)] at hgi
        exact (hg.mem.2 i ob' g hi hgi).ext (Ext.refl _ _) hp rfl fun _ _ => ⟨rfl, rfl⟩
      · rw [List.getElem?_append_right hge] at hi
        rw [List.getElem?_append_right (by rw [h.mem.1]; exact hge), h.mem.1] at hgi
        cases hk : i - m.length with
        | zero =>
          rw [hk] at hi hgi
          simp at hi hgi; subst hi; subst hgi
          have : i = m.length := by omega
          subst this
          exact hob _ _ _ hx hp (heap_alloc_at w ob) fun b hb => ⟨heap_alloc_get w ob b hb, rfl⟩
        | succ k => rw [hk] at hi; simp at hi
    fx0 := fun b hb => by
      rcases hb with hb | hb
      · rcases List.mem_append.1 hb with hb | hb
        · exact hg.fx0 b (.inl hb)
        · simp at hb; subst hb; exact h.fxb _ (Nat.le_refl _)
      · exact hg.fx0 b (.inr hb)
    fxb := hg.fxb
    tot := fun b => by
      show total (w.alloc ob) (rho ++ [w.heap.size]) lam fr (m ++ [ao]) a.tmps.toList b ≤ 1
      rw [ht]
      have := h.tot b
      rcases Nat.eq_zero_or_pos (ownObj (w.alloc ob) ao w.heap.size b) with h0 | h0
      · split
        · rename_i e; subst e; omega
        · omega
      · obtain ⟨h1, _, h2, _⟩ := hown b h0
        rw [if_neg (by omega)]
        omega
    low := fun b hb => by
      replace hb : 0 < total (w.alloc ob) (rho ++ [w.heap.size]) lam fr (m ++ [ao]) a.tmps.toList b := hb
      rw [ht] at hb
      by_cases e : b = w.heap.size
      · subst e
        refine ⟨hlow, by rw [heap_alloc_size]; omega, fun hlt => ?_⟩
        have := h.keep.size; omega
      · rw [if_neg e] at hb
        rcases Nat.eq_zero_or_pos (ownObj (w.alloc ob) ao w.heap.size b) with h0 | h0
        · obtain ⟨x, y, z⟩ := h.low b (by omega)
          exact ⟨x, by rw [heap_alloc_size]; omega, z⟩
        · obtain ⟨_, x, y, z⟩ := hown b h0
          exact ⟨x, by rw [heap_alloc_size]; omega, z⟩
    keep := hg.keep
    pre := h.pre.trans hp }

end
end Go.Abs
