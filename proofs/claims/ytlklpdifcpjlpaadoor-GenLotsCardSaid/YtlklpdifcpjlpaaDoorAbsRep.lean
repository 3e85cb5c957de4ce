/- What the abstract values stand for in memory, and that it lasts. -/
import Derived.Test.YtlklpdifcpjlpaaDoorAbsExec
import Derived.Laws.AppendOwn
import Derived.ArgAppend
import Derived.Below
namespace Go.Abs

/-- Cells that are there, and that nothing will write. -/
def CellsAt (w : World) (fx : Nat → Nat) (b off : Nat) (Vs : List Value) : Prop :=
  ∀ j V, Vs[j]? = some V → w.cell? ⟨b, off + j, none⟩ = some V ∧ off + j < fx b

mutual
def Rep (w : World) (fx : Nat → Nat) : AVal → Value → Prop
  | .bool b, V => V = .bool b
  | .int k n, V => V = .int k n
  | .str s, V => V = .string ⟨s.toArray⟩
  | .nilptr, V => V = .pointer none
  | .imm cells, V => ∃ b off Vs, V = .pointer (some ⟨b, off, none⟩) ∧ RepL w fx cells Vs ∧ CellsAt w fx b off Vs
  | .slice own elems, V => ∃ A n c Vs, V = .slice A n c ∧ n = elems.length ∧ n ≤ c ∧ RepLL w fx elems Vs ∧ (∃ sz, ∀ e ∈ elems, e.length = sz) ∧
      (match own with | .no => True | .full => c = n ∧ (A = none → c = 0) | .nil => A = none ∧ c = 0 | .row _ => False) ∧
      (Vs ≠ [] → ∃ b off, A = some ⟨b, off, none⟩ ∧ CellsAt w fx b off Vs)
  | .fn f caps, V => caps = [] ∧ V = .func (.func f) #[] #[]
  | .nilfunc, V => V = .nilFunc
  | .iface t v, V => ∃ V', V = .iface t V' ∧ Rep w fx v V'
  | .nilIface, V => V = .nilIface
  | .nilmap, V => V = .map none
  | .agg cells, V => ∃ Vs, V = .agg Vs.toArray ∧ RepL w fx cells Vs
  | .ptr _ _, _ => False
  | .loc _ _, _ => False
  | .tup _, _ => False
  | .err b, V => (b = true ∧ V = .nilIface) ∨ (b = false ∧ ∃ t v, V = .iface t v)
  | .mapp _, _ => False
  | .any, _ => False
def RepL (w : World) (fx : Nat → Nat) : List AVal → List Value → Prop
  | [], Vs => Vs = []
  | v :: r, Vs => ∃ V Vr, Vs = V :: Vr ∧ Rep w fx v V ∧ V.oneCell' = true ∧ RepL w fx r Vr
def RepLL (w : World) (fx : Nat → Nat) : List (List AVal) → List Value → Prop
  | [], Vs => Vs = []
  | e :: r, Vs => ∃ V1 V2, Vs = V1 ++ V2 ∧ RepL w fx e V1 ∧ RepLL w fx r V2
end

/-- later, nothing that is kept has turned -/
structure Ext (w : World) (fx : Nat → Nat) (w' : World) (fx' : Nat → Nat) : Prop where
  le : ∀ b, fx b ≤ fx' b
  cell : ∀ b off, off < fx b → w'.cell? ⟨b, off, none⟩ = w.cell? ⟨b, off, none⟩
  none : ∀ b off, 0 < fx b → w.cell? ⟨b, off, Option.none⟩ = Option.none → w'.cell? ⟨b, off, Option.none⟩ = Option.none

theorem Ext.refl (w : World) (fx : Nat → Nat) : Ext w fx w fx := ⟨fun _ => Nat.le_refl _, fun _ _ _ => rfl, fun _ _ _ h => h⟩
theorem Ext.trans {w w' w'' : World} {fx fx' fx'' : Nat → Nat} (h : Ext w fx w' fx') (h' : Ext w' fx' w'' fx'') : Ext w fx w'' fx'' :=
  ⟨fun b => Nat.le_trans (h.le b) (h'.le b), fun b off ho => (h'.cell b off (Nat.lt_of_lt_of_le ho (h.le b))).trans (h.cell b off ho), fun b off h0 hn => h'.none b off (Nat.lt_of_lt_of_le h0 (h.le b)) (h.none b off h0 hn)⟩

theorem CellsAt.ext {w w' : World} {fx fx' : Nat → Nat} (h : Ext w fx w' fx') {b off : Nat} {Vs : List Value} (hc : CellsAt w fx b off Vs) : CellsAt w' fx' b off Vs :=
  fun j V hj => by
    obtain ⟨h1, h2⟩ := hc j V hj
    exact ⟨(h.cell b _ h2).trans h1, Nat.lt_of_lt_of_le h2 (h.le b)⟩

set_option linter.unusedSectionVars false
section
variable {w w' : World} {fx fx' : Nat → Nat} (hx : Ext w fx w' fx')
include hx
mutual
theorem Rep.ext : ∀ (v : AVal) (V : Value), Rep w fx v V → Rep w' fx' v V
  | .bool _, _, h => h
  | .int _ _, _, h => h
  | .str _, _, h => h
  | .nilptr, _, h => h
  | .imm cells, V, h => by
    obtain ⟨b, off, Vs, e, hr, hc⟩ := h
    exact ⟨b, off, Vs, e, RepL.ext cells Vs hr, hc.ext hx⟩
  | .slice own elems, V, h => by
    obtain ⟨A, n, c, Vs, e, hn, hnc, hr, hs, ho, hc⟩ := h
    refine ⟨A, n, c, Vs, e, hn, hnc, RepLL.ext elems Vs hr, hs, ho, fun hne => ?_⟩
    obtain ⟨b, off, ha, hat⟩ := hc hne
    exact ⟨b, off, ha, hat.ext hx⟩
  | .fn _ _, _, h => h
  | .nilfunc, _, h => h
  | .iface t v, V, h => by
    obtain ⟨V', e, hr⟩ := h
    exact ⟨V', e, Rep.ext v V' hr⟩
  | .nilIface, _, h => h
  | .nilmap, _, h => h
  | .agg cells, V, h => by
    obtain ⟨Vs, e, hr⟩ := h
    exact ⟨Vs, e, RepL.ext cells Vs hr⟩
  | .ptr _ _, _, h => h
  | .loc _ _, _, h => h
  | .tup _, _, h => h
  | .err _, _, h => h
  | .mapp _, _, h => h
  | .any, _, h => h
theorem RepL.ext : ∀ (l : List AVal) (Vs : List Value), RepL w fx l Vs → RepL w' fx' l Vs
  | [], _, h => h
  | v :: r, Vs, h => by
    obtain ⟨V, Vr, e, h1, h2, h3⟩ := h
    exact ⟨V, Vr, e, Rep.ext v V h1, h2, RepL.ext r Vr h3⟩
theorem RepLL.ext : ∀ (l : List (List AVal)) (Vs : List Value), RepLL w fx l Vs → RepLL w' fx' l Vs
  | [], _, h => h
  | e :: r, Vs, h => by
    obtain ⟨V1, V2, e', h1, h2⟩ := h
    exact ⟨V1, V2, e', RepL.ext e V1 h1, RepLL.ext r V2 h2⟩
end
end

theorem RepL.length {w : World} {fx : Nat → Nat} : ∀ {l : List AVal} {Vs : List Value}, RepL w fx l Vs → Vs.length = l.length
  | [], _, h => by rw [show _ = [] from h]; rfl
  | _ :: r, Vs, h => by
    obtain ⟨V, Vr, rfl, _, _, h3⟩ := h
    simp [RepL.length (l := r) h3]
theorem RepL.get {w : World} {fx : Nat → Nat} : ∀ {l : List AVal} {Vs : List Value} {i : Nat} {v : AVal}, RepL w fx l Vs → l[i]? = some v →
    ∃ V, Vs[i]? = some V ∧ Rep w fx v V ∧ V.oneCell' = true
  | [], _, _, _, _, hi => by simp at hi
  | x :: r, Vs, i, v, h, hi => by
    obtain ⟨V, Vr, rfl, h1, h2, h3⟩ := h
    cases i with
    | zero => simp at hi; subst hi; exact ⟨V, rfl, h1, h2⟩
    | succ i => simp at hi ⊢; exact RepL.get (l := r) h3 hi
theorem RepL.append {w : World} {fx : Nat → Nat} : ∀ {l l' : List AVal} {Vs Vs' : List Value}, RepL w fx l Vs → RepL w fx l' Vs' → RepL w fx (l ++ l') (Vs ++ Vs')
  | [], _, _, _, h, h' => by rw [show _ = [] from h]; exact h'
  | _ :: r, _, _, _, h, h' => by
    obtain ⟨V, Vr, rfl, h1, h2, h3⟩ := h
    exact ⟨V, _, rfl, h1, h2, RepL.append (l := r) h3 h'⟩
theorem RepL.split {w : World} {fx : Nat → Nat} : ∀ {l l' : List AVal} {Vs : List Value}, RepL w fx (l ++ l') Vs → ∃ V1 V2, Vs = V1 ++ V2 ∧ RepL w fx l V1 ∧ RepL w fx l' V2
  | [], _, Vs, h => ⟨[], Vs, rfl, rfl, h⟩
  | _ :: r, _, Vs, h => by
    obtain ⟨V, Vr, rfl, h1, h2, h3⟩ := h
    obtain ⟨V1, V2, rfl, ha, hb⟩ := RepL.split (l := r) h3
    exact ⟨V :: V1, V2, rfl, ⟨V, V1, rfl, h1, h2, ha⟩, hb⟩
theorem RepL.cells {w : World} {fx : Nat → Nat} : ∀ {l : List AVal} {Vs : List Value}, RepL w fx l Vs → ∀ u ∈ Vs, u.oneCell' = true
  | [], _, h, u, hu => by rw [show _ = [] from h] at hu; cases hu
  | _ :: r, Vs, h, u, hu => by
    obtain ⟨V, Vr, rfl, h1, h2, h3⟩ := h
    cases hu with
    | head => exact h2
    | tail _ hm => exact RepL.cells (l := r) h3 u hm
theorem RepLL.append {w : World} {fx : Nat → Nat} : ∀ {l l' : List (List AVal)} {Vs Vs' : List Value}, RepLL w fx l Vs → RepLL w fx l' Vs' → RepLL w fx (l ++ l') (Vs ++ Vs')
  | [], _, _, _, h, h' => by rw [show _ = [] from h]; exact h'
  | _ :: r, _, _, _, h, h' => by
    obtain ⟨V1, V2, rfl, h1, h2⟩ := h
    exact ⟨V1, _, by simp, h1, RepLL.append (l := r) h2 h'⟩
theorem RepLL.split {w : World} {fx : Nat → Nat} : ∀ {l l' : List (List AVal)} {Vs : List Value}, RepLL w fx (l ++ l') Vs → ∃ V1 V2, Vs = V1 ++ V2 ∧ RepLL w fx l V1 ∧ RepLL w fx l' V2
  | [], _, Vs, h => ⟨[], Vs, rfl, rfl, h⟩
  | e :: r, _, Vs, h => by
    obtain ⟨V1, V2, rfl, h1, h2⟩ := h
    obtain ⟨V3, V4, rfl, ha, hb⟩ := RepLL.split (l := r) h2
    exact ⟨V1 ++ V3, V4, by simp, ⟨V1, V3, rfl, h1, ha⟩, hb⟩
theorem RepLL.cells {w : World} {fx : Nat → Nat} : ∀ {l : List (List AVal)} {Vs : List Value}, RepLL w fx l Vs → ∀ u ∈ Vs, u.oneCell' = true
  | [], _, h, u, hu => by rw [show _ = [] from h] at hu; cases hu
  | _ :: r, Vs, h, u, hu => by
    obtain ⟨V1, V2, rfl, h1, h2⟩ := h
    rcases List.mem_append.1 hu with hu | hu
    · exact RepL.cells h1 u hu
    · exact RepLL.cells (l := r) h2 u hu
theorem RepLL.length {w : World} {fx : Nat → Nat} {sz : Nat} : ∀ {l : List (List AVal)} {Vs : List Value}, RepLL w fx l Vs → (∀ e ∈ l, e.length = sz) → Vs.length = l.length * sz
  | [], _, h, _ => by rw [show _ = [] from h]; simp
  | e :: r, Vs, h, hs => by
    obtain ⟨V1, V2, rfl, h1, h2⟩ := h
    rw [List.length_append, RepL.length h1, RepLL.length (l := r) h2 fun e he => hs e (List.mem_cons_of_mem _ he), hs e (List.mem_cons_self ..), List.length_cons, Nat.add_mul]
    omega
/-- one element's cells among all -/
theorem RepLL.get {w : World} {fx : Nat → Nat} {sz : Nat} : ∀ {l : List (List AVal)} {Vs : List Value} {i : Nat} {e : List AVal}, RepLL w fx l Vs → (∀ e ∈ l, e.length = sz) → l[i]? = some e →
    ∃ V0 V1 V2, Vs = V0 ++ V1 ++ V2 ∧ V0.length = i * sz ∧ RepL w fx e V1
  | [], _, _, _, _, _, hi => by simp at hi
  | x :: r, Vs, i, e, h, hs, hi => by
    obtain ⟨V1, V2, rfl, h1, h2⟩ := h
    cases i with
    | zero => simp at hi; subst hi; exact ⟨[], V1, V2, by simp, by simp, h1⟩
    | succ i =>
      simp at hi
      obtain ⟨U0, U1, U2, rfl, hl, hr⟩ := RepLL.get (l := r) h2 (fun e he => hs e (List.mem_cons_of_mem _ he)) hi
      refine ⟨V1 ++ U0, U1, U2, by simp, ?_, hr⟩
      rw [List.length_append, RepL.length h1, hl, hs x (List.mem_cons_self ..), Nat.add_mul]
      omega

/-- without the row, without what is known of the room -/
theorem Rep.plainCell {w : World} {fx : Nat → Nat} : ∀ {v : AVal} {V : Value}, Rep w fx v V → Rep w fx (plainCell v) V
  | .slice own elems, V, h => by
    obtain ⟨A, n, c, Vs, e, hn, hnc, hr, hs, ho, hc⟩ := h
    exact ⟨A, n, c, Vs, e, hn, hnc, hr, hs, trivial, hc⟩
  | .bool _, _, h | .int _ _, _, h | .str _, _, h | .nilptr, _, h | .imm _, _, h | .fn _ _, _, h | .nilfunc, _, h | .iface _ _, _, h | .nilIface, _, h | .nilmap, _, h | .agg _, _, h | .ptr _ _, _, h | .loc _ _, _, h | .tup _, _, h | .err _, _, h | .mapp _, _, h | .any, _, h => h
theorem RepL.plainCells {w : World} {fx : Nat → Nat} : ∀ {l : List AVal} {Vs : List Value}, RepL w fx l Vs → RepL w fx (l.map Abs.plainCell) Vs
  | [], _, h => h
  | _ :: r, _, h => by
    obtain ⟨V, Vr, rfl, h1, h2, h3⟩ := h
    exact ⟨V, Vr, rfl, h1.plainCell, h2, RepL.plainCells (l := r) h3⟩
theorem Rep.plainAgg {w : World} {fx : Nat → Nat} : ∀ {v : AVal} {V : Value}, Rep w fx v V → Rep w fx (plainAgg v) V
  | .agg cs, V, h => by
    obtain ⟨Vs, e, hr⟩ := h
    exact ⟨Vs, e, hr.plainCells⟩
  | .bool _, _, h | .int _ _, _, h | .str _, _, h | .nilptr, _, h | .imm _, _, h | .fn _ _, _, h | .nilfunc, _, h | .iface _ _, _, h | .nilIface, _, h | .nilmap, _, h | .slice _ _, _, h | .ptr _ _, _, h | .loc _ _, _, h | .tup _, _, h | .err _, _, h | .mapp _, _, h | .any, _, h => h
theorem Rep.disown {w : World} {fx : Nat → Nat} : ∀ {v : AVal} {V : Value}, Rep w fx v V → Rep w fx (disown v) V
  | .slice (.row _) elems, V, h => by
    obtain ⟨A, n, c, Vs, e, hn, hnc, hr, hs, ho, hc⟩ := h
    exact ho.elim
  | .slice .no _, _, h | .slice .full _, _, h | .slice .nil _, _, h => h
  | .bool _, _, h | .int _ _, _, h | .str _, _, h | .nilptr, _, h | .imm _, _, h | .fn _ _, _, h | .nilfunc, _, h | .iface _ _, _, h | .nilIface, _, h | .nilmap, _, h | .agg _, _, h | .ptr _ _, _, h | .loc _ _, _, h | .tup _, _, h | .err _, _, h | .mapp _, _, h | .any, _, h => h
theorem RepL.disowns {w : World} {fx : Nat → Nat} : ∀ {l : List AVal} {Vs : List Value}, RepL w fx l Vs → RepL w fx (l.map Abs.disown) Vs
  | [], _, h => h
  | _ :: r, _, h => by
    obtain ⟨V, Vr, rfl, h1, h2, h3⟩ := h
    exact ⟨V, Vr, rfl, h1.disown, h2, RepL.disowns (l := r) h3⟩

/-! ### Values of a frame and of objects -/
/-- what a closure has captured -/
def RepC (w : World) (fx : Nat → Nat) (rho : List Nat) : AVal → Value → Prop
  | .ptr o off, V => ∃ b, rho[o]? = some b ∧ V = .pointer (some ⟨b, off, none⟩)
  | v, V => Rep w fx v V
def RepCL (w : World) (fx : Nat → Nat) (rho : List Nat) : List AVal → List Value → Prop
  | [], Vs => Vs = []
  | v :: r, Vs => ∃ V Vr, Vs = V :: Vr ∧ RepC w fx rho v V ∧ RepCL w fx rho r Vr
/-- an object's cell -/
def RepO (w : World) (fx : Nat → Nat) (rho : List Nat) : AVal → Value → Prop
  | .ptr o off, V => ∃ b, rho[o]? = some b ∧ V = .pointer (some ⟨b, off, none⟩)
  | .mapp o, V => ∃ b, rho[o]? = some b ∧ V = .map (some b)
  | .fn f caps, V => ∃ Vs, V = .func (.func f) #[] Vs.toArray ∧ RepCL w fx rho caps Vs
  | .slice (.row _) es, V => Rep w fx (.slice .no es) V
  | v, V => Rep w fx v V
def RepOL (w : World) (fx : Nat → Nat) (rho : List Nat) : List AVal → List Value → Prop
  | [], Vs => Vs = []
  | v :: r, Vs => ∃ V Vr, Vs = V :: Vr ∧ RepO w fx rho v V ∧ RepOL w fx rho r Vr
/-- a frame's slot -/
def RepT (w : World) (fx : Nat → Nat) (rho lam : List Nat) : AVal → Value → Prop
  | .any, _ => True
  | .loc o off, V => ∃ b, lam[o]? = some b ∧ V = .pointer (some ⟨b, off, none⟩)
  | .tup vs, V => ∃ Vs, V = .tuple Vs.toArray ∧ RepOL w fx rho (vs.map disown) Vs
  | v, V => RepO w fx rho v V

theorem prefix_get {l l' : List Nat} (h : l <+: l') {i b : Nat} (hi : l[i]? = some b) : l'[i]? = some b := by
  obtain ⟨t, rfl⟩ := h
  have : i < l.length := by
    rcases Nat.lt_or_ge i l.length with h | h
    · exact h
    · simp [List.getElem?_eq_none h] at hi
  rw [List.getElem?_append_left this]; exact hi

section
variable {w w' : World} {fx fx' : Nat → Nat} (hx : Ext w fx w' fx') {rho rho' : List Nat} (hp : rho <+: rho')
include hx hp
theorem RepC.ext {v : AVal} {V : Value} (h : RepC w fx rho v V) : RepC w' fx' rho' v V := by
  cases v with
  | ptr o off => obtain ⟨b, h1, h2⟩ := h; exact ⟨b, prefix_get hp h1, h2⟩
  | _ => exact Rep.ext hx _ _ h
theorem RepCL.ext : ∀ {l : List AVal} {Vs : List Value}, RepCL w fx rho l Vs → RepCL w' fx' rho' l Vs
  | [], _, h => h
  | _ :: r, _, h => by
    obtain ⟨V, Vr, e, h1, h2⟩ := h
    exact ⟨V, Vr, e, RepC.ext hx hp h1, RepCL.ext (l := r) h2⟩
theorem RepO.ext {v : AVal} {V : Value} (h : RepO w fx rho v V) : RepO w' fx' rho' v V := by
  cases v with
  | ptr o off => obtain ⟨b, h1, h2⟩ := h; exact ⟨b, prefix_get hp h1, h2⟩
  | mapp o => obtain ⟨b, h1, h2⟩ := h; exact ⟨b, prefix_get hp h1, h2⟩
  | fn f caps => obtain ⟨Vs, h1, h2⟩ := h; exact ⟨Vs, h1, RepCL.ext hx hp h2⟩
  | slice own es => cases own <;> exact Rep.ext hx _ _ h
  | _ => exact Rep.ext hx _ _ h
theorem RepOL.ext : ∀ {l : List AVal} {Vs : List Value}, RepOL w fx rho l Vs → RepOL w' fx' rho' l Vs
  | [], _, h => h
  | _ :: r, _, h => by
    obtain ⟨V, Vr, e, h1, h2⟩ := h
    exact ⟨V, Vr, e, RepO.ext hx hp h1, RepOL.ext (l := r) h2⟩
theorem RepT.ext {lam lam' : List Nat} (hl : lam <+: lam') {v : AVal} {V : Value} (h : RepT w fx rho lam v V) : RepT w' fx' rho' lam' v V := by
  cases v with
  | any => trivial
  | loc o off => obtain ⟨b, h1, h2⟩ := h; exact ⟨b, prefix_get hl h1, h2⟩
  | tup vs => obtain ⟨Vs, h1, h2⟩ := h; exact ⟨Vs, h1, RepOL.ext hx hp h2⟩
  | ptr o off => exact RepO.ext (v := .ptr o off) hx hp h
  | mapp o => exact RepO.ext (v := .mapp o) hx hp h
  | fn f caps => exact RepO.ext (v := .fn f caps) hx hp h
  | slice own es => exact RepO.ext (v := .slice own es) hx hp h
  | _ => exact Rep.ext hx _ _ h
end

end Go.Abs
