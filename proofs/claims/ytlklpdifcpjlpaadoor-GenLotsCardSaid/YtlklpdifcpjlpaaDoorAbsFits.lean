/- What the interpreter's table of types says of the program's own. -/
import Derived.Test.YtlklpdifcpjlpaaDoorAbsGood
import Derived.Deep.MidRow
import Derived.Lib.AppendStr
import Derived.Laws.Append
import Derived.Laws.OwnMore
import Derived.WalkKit
namespace Go.Abs
set_option linter.unusedSectionVars false

def aggB (P : Program) (t : TypeId) : Bool :=
  match P.underlying t with
  | some (.struct _) | some (.array _ _) => true
  | _ => false

def kindOk (P : Program) (t : TypeId) : TK → Prop
  | .bool => P.underlying t = some .bool
  | .int k => P.underlying t = some (.int k)
  | .str => P.underlying t = some .string
  | .struct fs => ∃ fields, P.underlying t = some (.struct fields) ∧ fields.toList.map (fun f => (f.offset, P.cellsOf f.type, aggB P f.type)) = fs ∧
      ∀ f ∈ fields.toList, (P.info? f.type).isSome = true ∧ (P.underlying f.type).isSome = true
  | .array n sz agg => ∃ e, P.underlying t = some (.array n e) ∧ P.cellsOf e = sz ∧ aggB P e = agg ∧ (P.info? e).isSome = true ∧ (P.underlying e).isSome = true
  | .slice e => P.underlying t = some (.slice e)
  | .ptr => ∃ e, P.underlying t = some (.pointer e)
  | .iface => ∃ ms, P.underlying t = some (.interface ms)
  | .func => ∃ ps rs v, P.underlying t = some (.func ps rs v)
  | .map k e => P.underlying t = some (.map k e)

structure FitsT (P : Program) (t : TypeId) (ti : TI) : Prop where
  kind : kindOk P t ti.kind
  info : ∃ i z, P.info? t = some i ∧ i.size = ti.size ∧ i.bytes = ti.bytes ∧ i.zero = some z ∧ z.cells.size = ti.size ∧ ofConsts z.cells.toList = some ti.zero ∧
    (ti.isAgg = true → ∃ cs, z = .agg cs) ∧ (ti.isAgg = false → z.oneCell' = true)

/-! ### Asked by the kernel -/
def beqC : AVal → AVal → Bool
  | .bool a, .bool b => a == b
  | .int k a, .int j b => k == j && a == b
  | .str a, .str b => a == b
  | .nilptr, .nilptr => true
  | .slice .full [], .slice .full [] => true
  | .slice .nil [], .slice .nil [] => true
  | .nilfunc, .nilfunc => true
  | .nilIface, .nilIface => true
  | .nilmap, .nilmap => true
  | _, _ => false
theorem beqC_eq : ∀ {a b : AVal}, beqC a b = true → a = b := by
  intro a b h
  unfold beqC at h
  split at h <;> simp_all
def beqCs : List AVal → List AVal → Bool
  | [], [] => true
  | a :: r, b :: s => beqC a b && beqCs r s
  | _, _ => false
theorem beqCs_eq : ∀ {a b : List AVal}, beqCs a b = true → a = b
  | [], [], _ => rfl
  | [], _ :: _, h => by simp [beqCs] at h
  | _ :: _, [], h => by simp [beqCs] at h
  | a :: r, b :: s, h => by
    simp [beqCs] at h
    rw [beqC_eq h.1, beqCs_eq h.2]
def beqF : List (Nat × Nat × Bool) → List (Nat × Nat × Bool) → Bool
  | [], [] => true
  | (a, b, c) :: r, (a', b', c') :: s => a == a' && b == b' && c == c' && beqF r s
  | _, _ => false
theorem beqF_eq : ∀ {a b : List (Nat × Nat × Bool)}, beqF a b = true → a = b
  | [], [], _ => rfl
  | [], _ :: _, h => by simp [beqF] at h
  | _ :: _, [], h => by simp [beqF] at h
  | (a, b, c) :: r, (a', b', c') :: s, h => by
    simp [beqF] at h
    obtain ⟨⟨⟨rfl, rfl⟩, rfl⟩, h⟩ := h
    rw [beqF_eq h]
def kindB (P : Program) (t : TypeId) (k : TK) : Bool :=
  match P.underlying t, k with
  | some .bool, .bool => true
  | some (.int j), .int k => j == k
  | some .string, .str => true
  | some (.struct fields), .struct fs => beqF (fields.toList.map (fun f => (f.offset, P.cellsOf f.type, aggB P f.type))) fs && fields.toList.all (fun f => (P.info? f.type).isSome && (P.underlying f.type).isSome)
  | some (.array n e), .array n' sz agg => n == n' && P.cellsOf e == sz && aggB P e == agg && (P.info? e).isSome && (P.underlying e).isSome
  | some (.slice e), .slice e' => e == e'
  | some (.pointer _), .ptr => true
  | some (.interface _), .iface => true
  | some (.func _ _ _), .func => true
  | some (.map k e), .map k' e' => k == k' && e == e'
  | _, _ => false
theorem kindB_ok {P : Program} {t : TypeId} {k : TK} (h : kindB P t k = true) : kindOk P t k := by
  unfold kindB at h
  split at h <;> rename_i hu <;> simp only [kindOk] <;> try exact hu
  · simp at h; subst h; exact hu
  · rw [Bool.and_eq_true] at h
    refine ⟨_, hu, beqF_eq h.1, fun f hf => ?_⟩
    have := List.all_eq_true.1 h.2 f hf
    simpa using this
  · simp at h
    obtain ⟨⟨⟨⟨rfl, h2⟩, h3⟩, h4⟩, h5⟩ := h
    exact ⟨_, hu, h2, h3, h4, h5⟩
  · simp at h; subst h; exact hu
  · exact ⟨_, hu⟩
  · exact ⟨_, hu⟩
  · exact ⟨_, _, _, hu⟩
  · simp at h; obtain ⟨rfl, rfl⟩ := h; exact hu
  · cases h
def oneB (z : Value) : Bool := z.oneCell'
def fitsB (P : Program) (t : TypeId) (ti : TI) : Bool :=
  kindB P t ti.kind &&
  match P.info? t with
  | some i => i.size == ti.size && i.bytes == ti.bytes && (match i.zero with
    | some z => z.cells.size == ti.size && (match ofConsts z.cells.toList with | some l => beqCs l ti.zero | none => false) &&
        (match z with | .agg _ => ti.isAgg | _ => !ti.isAgg && oneB z)
    | none => false)
  | none => false
theorem fitsB_ok {P : Program} {t : TypeId} {ti : TI} (h : fitsB P t ti = true) : FitsT P t ti := by
  unfold fitsB at h
  rw [Bool.and_eq_true] at h
  refine ⟨kindB_ok h.1, ?_⟩
  have h := h.2
  split at h
  · rename_i i hi
    rw [Bool.and_eq_true, Bool.and_eq_true] at h
    obtain ⟨⟨h1, h2⟩, h⟩ := h
    split at h
    · rename_i z hz
      rw [Bool.and_eq_true, Bool.and_eq_true] at h
      obtain ⟨⟨h3, h4⟩, h5⟩ := h
      refine ⟨i, z, hi, by simpa using h1, by simpa using h2, hz, by simpa using h3, ?_, ?_, ?_⟩
      · split at h4
        · rename_i l hl; rw [hl, beqCs_eq h4]
        · cases h4
      · intro ha
        split at h5
        · exact ⟨_, rfl⟩
        · simp [ha] at h5
      · intro ha
        split at h5
        · rw [ha] at h5; cases h5
        · simp at h5; exact h5.2
    · cases h
  · cases h

/-- The whole table fits. -/
def Fits (E : Env) (P : Program) : Prop := ∀ t ti, E.T t = some ti → FitsT P t ti

theorem isAgg_run {P : Program} {t : TypeId} (h : (P.underlying t).isSome = true) (w : World) : (isAgg t).run P w = .ok (aggB P t) w := by
  obtain ⟨d, hd⟩ := Option.isSome_iff_exists.1 h
  unfold isAgg
  rw [Sem.run_bind, run_underlying hd w]
  simp only [Result.andThen_ok]
  unfold aggB
  rw [hd]
  cases d <;> rfl

theorem FitsT.under {P : Program} {t : TypeId} {ti : TI} (h : FitsT P t ti) : (P.underlying t).isSome = true := by
  have := h.kind
  cases hk : ti.kind <;> rw [hk] at this <;> simp only [kindOk] at this
  all_goals first
    | (rw [this]; rfl)
    | (obtain ⟨_, h, _⟩ := this; rw [h]; rfl)
    | (obtain ⟨_, h⟩ := this; rw [h]; rfl)
    | (obtain ⟨_, _, h⟩ := this; rw [h]; rfl)
    | (obtain ⟨_, _, _, h⟩ := this; rw [h]; rfl)
theorem FitsT.agg {P : Program} {t : TypeId} {ti : TI} (h : FitsT P t ti) : aggB P t = ti.isAgg := by
  have := h.kind
  cases hk : ti.kind <;> rw [hk] at this <;> simp only [kindOk] at this
  all_goals unfold aggB TI.isAgg; rw [hk]
  all_goals first
    | (rw [this])
    | (obtain ⟨_, h, _⟩ := this; rw [h])
    | (obtain ⟨_, h⟩ := this; rw [h])
    | (obtain ⟨_, _, h⟩ := this; rw [h])
    | (obtain ⟨_, _, _, h⟩ := this; rw [h])
theorem FitsT.sizeOf {P : Program} {t : TypeId} {ti : TI} (h : FitsT P t ti) (w : World) : (sizeOf t).run P w = .ok ti.size w := by
  obtain ⟨i, z, hi, hs, _⟩ := h.info
  simp [Go.sizeOf, typeInfo, hi, hs]
theorem sizeOf_run {P : Program} {t : TypeId} (h : (P.info? t).isSome = true) (w : World) : (sizeOf t).run P w = .ok (P.cellsOf t) w := by
  obtain ⟨i, hi⟩ := Option.isSome_iff_exists.1 h
  simp [Go.sizeOf, typeInfo, hi, Program.cellsOf]

/-! ### Constants -/
theorem ofConst1_rep {w : World} {fx : Nat → Nat} : ∀ {V : Value} {v : AVal}, ofConst1 V = some v → Rep w fx v V ∧ V.oneCell' = true := by
  intro V v h
  unfold ofConst1 at h
  split at h <;> cases h
  · exact ⟨rfl, rfl⟩
  · exact ⟨rfl, rfl⟩
  · exact ⟨rfl, rfl⟩
  · exact ⟨rfl, rfl⟩
  · exact ⟨⟨none, 0, 0, [], rfl, rfl, Nat.le_refl _, rfl, ⟨0, fun _ h => by cases h⟩, ⟨rfl, rfl⟩, fun h => absurd rfl h⟩, rfl⟩
  · exact ⟨rfl, rfl⟩
  · exact ⟨rfl, rfl⟩
  · exact ⟨rfl, rfl⟩
theorem ofConsts_rep {w : World} {fx : Nat → Nat} : ∀ {Vs : List Value} {l : List AVal}, ofConsts Vs = some l → RepL w fx l Vs
  | [], l, h => by injection h with h; subst h; rfl
  | V :: Vr, l, h => by
    simp only [ofConsts] at h
    split at h
    · rename_i a b ha hb
      injection h with h; subst h
      obtain ⟨h1, h2⟩ := ofConst1_rep (w := w) (fx := fx) ha
      exact ⟨V, Vr, rfl, h1, h2, ofConsts_rep hb⟩
    · cases h
theorem ofConst_rep {w : World} {fx : Nat → Nat} {V : Value} {v : AVal} (h : ofConst V = some v) : Rep w fx v V := by
  unfold ofConst at h
  split at h
  · rename_i cs
    cases hc : ofConsts cs.toList with
    | none => rw [hc] at h; cases h
    | some l =>
      rw [hc] at h
      injection h with h; subst h
      exact ⟨cs.toList, by simp, ofConsts_rep hc⟩
  · exact (ofConst1_rep h).1

end Go.Abs
