/- Arguments of plain types: whatever data they read as, an abstract value stands for them, and its shape is the type's. -/
import Derived.Test.YtlklpdifcpjlpaaDoorAbsLaw
import Derived.ChangeArms
import Derived.WideShapes
namespace Go.Abs
open Go.RowKit Go.WideShapes
set_option linter.unusedSectionVars false
/-- one part behind the other, a field each -/
def cat {α β : Type} (p : α → List β → Prop) : List α → List β → Prop
  | [], cs => cs = []
  | f :: r, cs => ∃ a b, cs = a ++ b ∧ p f a ∧ cat p r b
/-- the cells of a type -/
def TyL (P : Program) : Nat → TypeId → List AVal → Prop
  | 0, _, _ => False
  | n + 1, t, cs => match P.underlying t with
    | some .bool => ∃ b, cs = [.bool b]
    | some (.int k) => ∃ x, cs = [.int k x] ∧ (Lit.int k x).wf = true
    | some .string => ∃ s, cs = [.str s] ∧ s.length ≤ maxLen
    | some (.slice e) => ∃ es, cs = [.slice .no es] ∧ es.length ≤ maxLen ∧ ∀ x ∈ es, TyL P n e x
    | some (.struct fs) => cat (fun f a => TyL P n f.type a) fs.toList cs
    | _ => False
def contig (P : Program) : List Field → Nat → Nat → Bool
  | [], off, n => off == n
  | f :: r, off, n => f.offset == off && contig P r (off + P.cellsOf f.type) n
/-- plain types, closed under their parts -/
def okTy (P : Program) (K : List TypeId) : Bool := K.all fun t =>
  match P.underlying t with
  | some .bool | some (.int _) | some .string => true
  | some (.slice e) => K.contains e
  | some (.struct fs) => (fs.toList.all fun f => K.contains f.type) && contig P fs.toList 0 (P.cellsOf t)
  | _ => false
section
variable {H : Type} {enc : TypeId × Value → H} {P : Program} {w : World} {base : Nat} {spare : Nat → Bool} {held : Bool}
theorem cells_get {a : Addr} {n : Nat} {cs : List Value} (h : w.cells? base a n = some cs) : cs.length = n ∧ ∀ i, i < n → w.cell? (a.add i) = cs[i]? := by
  unfold World.cells? at h
  split at h
  · have h1 := mapM_some_length h
    refine ⟨by simpa using h1, fun i hi => ?_⟩
    exact mapM_some_get h i i (by simp [hi])
  · cases h
theorem fields_open {Q : TypeId → List AVal → Prop} {fx : Nat → Nat} : ∀ {r : List Field} {off n : Nat} {cs : List Value}, contig P r off n = true → cs.length = n →
    (∀ f ∈ r, ∃ as, RepL w fx as ((cs.drop f.offset).take (P.cellsOf f.type)) ∧ Q f.type as) → ∃ as, RepL w fx as (cs.drop off) ∧ cat (fun f a => Q f.type a) r as
  | [], off, n, cs, hc, hl, _ => by
    simp only [contig, beq_iff_eq] at hc
    refine ⟨[], ?_, rfl⟩
    rw [List.drop_eq_nil_of_le (by omega)]; rfl
  | f :: r, off, n, cs, hc, hl, h => by
    simp only [contig, Bool.and_eq_true, beq_iff_eq] at hc
    obtain ⟨ho, hc⟩ := hc
    obtain ⟨as, h1, h2⟩ := h f (List.mem_cons_self ..)
    obtain ⟨bs, h3, h4⟩ := fields_open (r := r) hc hl fun g hg => h g (List.mem_cons_of_mem _ hg)
    refine ⟨as ++ bs, ?_, as, bs, rfl, h2, h4⟩
    rw [ho] at h1
    have := h1.append h3
    rw [← List.drop_drop, List.take_append_drop] at this
    exact this
theorem rows_open {Q : List AVal → Prop} {fx : Nat → Nat} {a : Addr} {c : Nat} : ∀ {k : Nat}, (∀ i, i < k → ∃ cs as, w.cells? base (a.add (i * c)) c = some cs ∧ RepL w fx as cs ∧ Q as) →
    ∃ es Vs, es.length = k ∧ Vs.length = k * c ∧ RepLL w fx es Vs ∧ (∀ x ∈ es, Q x ∧ x.length = c) ∧ ∀ j V, Vs[j]? = some V → ∃ i j', j = i * c + j' ∧ w.cell? ((a.add (i * c)).add j') = some V
  | 0, _ => ⟨[], [], rfl, by simp, rfl, (fun x hx => by cases hx), fun j V hj => by simp at hj⟩
  | k + 1, h => by
    obtain ⟨es, Vs, h1, h2, h3, h4, h5⟩ := rows_open (k := k) fun i hi => h i (Nat.lt_succ_of_lt hi)
    obtain ⟨cs, as, h6, h7, h8⟩ := h k (Nat.lt_succ_self k)
    obtain ⟨h9, h10⟩ := cells_get h6
    refine ⟨es ++ [as], Vs ++ cs, by simp [h1], by rw [List.length_append, h2, h9, Nat.succ_mul], h3.append ⟨cs, [], by simp, h7, rfl⟩, fun x hx => ?_, fun j V hj => ?_⟩
    · rcases List.mem_append.1 hx with hx | hx
      · exact h4 x hx
      · obtain rfl := List.mem_singleton.1 hx
        exact ⟨h8, by rw [← h7.length, h9]⟩
    · rcases Nat.lt_or_ge j Vs.length with hlt | hge
      · rw [List.getElem?_append_left hlt] at hj
        exact h5 j V hj
      · rw [List.getElem?_append_right hge] at hj
        have hjc : j - Vs.length < c := by
          rcases Nat.lt_or_ge (j - Vs.length) cs.length with h | h
          · omega
          · rw [List.getElem?_eq_none h] at hj; cases hj
        exact ⟨k, j - Vs.length, by omega, by rw [h10 _ hjc]; exact hj⟩
theorem opened {K : List TypeId} (hK : okTy P K = true) : ∀ (fuel : Nat) (t : TypeId) (cs : List Value) (x : DataW H × List MemPlace), t ∈ K → DataW.trod enc P w base spare held fuel t cs = some x →
    ∃ as, RepL w (fxAll w) as cs ∧ TyL P fuel t as
  | 0, t, cs, x, _, h => by simp [DataW.trod] at h
  | n + 1, t, cs, x, ht, h => by
    have hk := List.all_eq_true.1 hK t ht
    unfold TyL
    split at hk
    · rename_i hu
      obtain ⟨b, rfl, _⟩ := DataW.trod_bool hu h
      try simp only [hu]
      exact ⟨[.bool b], ⟨_, _, rfl, rfl, rfl, rfl⟩, b, rfl⟩
    · rename_i k hu
      obtain ⟨b, rfl, _, hw⟩ := DataW.trod_int hu h
      try simp only [hu]
      exact ⟨[.int k b], ⟨_, _, rfl, rfl, rfl, rfl⟩, b, rfl, hw⟩
    · rename_i hu
      obtain ⟨b, rfl, _, hw⟩ := DataW.trod_string hu h
      try simp only [hu]
      exact ⟨[.str b.data.toList], ⟨_, _, rfl, rfl, rfl, rfl⟩, _, rfl, hw⟩
    · rename_i e hu
      try simp only [hu]
      have he : e ∈ K := by simpa using hk
      rcases DataW.trod_slice hu h with ⟨rfl, _⟩ | ⟨a, len, cap, elems, rest, m, hm, rfl, _, hb, hlc, hcm, hel, helem, _, _⟩
      · exact ⟨[.slice .no []], ⟨_, _, rfl, ⟨none, 0, 0, [], rfl, rfl, Nat.le_refl _, rfl, ⟨0, fun e he => by cases he⟩, trivial, fun h => absurd rfl h⟩, rfl, rfl⟩, [], rfl, Nat.zero_le _, fun x hx => by cases hx⟩
      · obtain rfl : n = m := Nat.succ.inj hm
        obtain ⟨es, Vs, h1, h2, h3, h4, h5⟩ := rows_open (w := w) (base := base) (fx := fxAll w) (a := a) (c := P.cellsOf e) (k := len) (Q := TyL P n e) fun i hi => by
          have hi' := helem i hi
          rw [List.getElem?_eq_getElem (by omega), Option.bind_eq_some_iff] at hi'
          obtain ⟨cs, hc, hd⟩ := hi'
          obtain ⟨as, r1, r2⟩ := opened hK n e cs _ he hd
          exact ⟨cs, as, hc, r1, r2⟩
        refine ⟨[.slice .no es], ⟨_, _, rfl, ⟨some a, len, cap, Vs, rfl, h1.symm, hlc, h3, ⟨P.cellsOf e, fun x hx => (h4 x hx).2⟩, trivial, fun hne => ?_⟩, rfl, rfl⟩, es, rfl, by omega, fun x hx => (h4 x hx).1⟩
        obtain ⟨ab, ao, spot⟩ := a
        obtain ⟨V0, hV0⟩ : ∃ V0, Vs[0]? = some V0 := by
          cases Vs with
          | nil => exact absurd rfl hne
          | cons V0 _ => exact ⟨V0, rfl⟩
        have hsp : spot = none := by
          obtain ⟨i, j', hj, hc⟩ := h5 0 V0 hV0
          have h6 : i * P.cellsOf e = 0 := by omega
          have h7 : j' = 0 := by omega
          rw [h6, h7] at hc
          exact World.cell?_spot (a := ⟨ab, ao, spot⟩) hc
        subst hsp
        have hcell : ∀ j V, Vs[j]? = some V → w.cell? ⟨ab, ao + j, none⟩ = some V := fun j V hj => by
          obtain ⟨i, j', rfl, hc⟩ := h5 j V hj
          rw [Addr.add_lit, Addr.add_lit] at hc
          rw [← Nat.add_assoc]; exact hc
        exact ⟨ab, ao, rfl, cellsAt_all fun j V hj => hcell j V hj⟩
    · rename_i fs hu
      try simp only [hu]
      rw [Bool.and_eq_true] at hk
      obtain ⟨xs, m, hm, _, hl, hxl, hf⟩ := DataW.trod_struct hu h
      obtain rfl : n = m := Nat.succ.inj hm
      have := fields_open (w := w) (fx := fxAll w) (Q := TyL P n) (off := 0) hk.2 hl fun f hf' => by
        obtain ⟨i, hi, hfi⟩ := List.getElem_of_mem hf'
        have h1 := hf i f (by rw [← hfi]; simp [Array.getElem?_eq_getElem (show i < fs.size by simpa using hi)])
        rw [List.getElem?_eq_getElem (by rw [hxl]; simpa using hi)] at h1
        exact opened hK n f.type _ _ (by simpa using List.all_eq_true.1 hk.1 f hf') h1
      simpa using this
    · cases hk
theorem rep_T {fx : Nat → Nat} {v : AVal} {V : Value} (h : Rep w fx v V) : RepT w fx [] [] v V := by
  cases v with
  | any => trivial
  | loc _ _ => exact h.elim
  | tup _ => exact h.elim
  | ptr _ _ => exact h.elim
  | mapp _ => exact h.elim
  | fn f caps => obtain ⟨rfl, rfl⟩ := h; exact ⟨[], rfl, rfl⟩
  | slice own es => cases own <;> first | exact h | exact (show False from by obtain ⟨_, _, _, _, _, _, _, _, _, ho, _⟩ := h; exact ho).elim
  | _ => exact h
/-- one part of plain type, of one cell -/
theorem open_cell {K : List TypeId} (hK : okTy P K = true) {t : TypeId} (ht : t ∈ K) {v : Value} {d : DataW H} {p : List MemPlace} (hv : v.cells = #[v]) (h : DataW.Trod enc P w base spare held t v d p) :
    ∃ n a, TyL P n t [a] ∧ RepT w (fxAll w) [] [] a v := by
  obtain ⟨n, hn⟩ := h
  rw [hv] at hn
  obtain ⟨as, h1, h2⟩ := opened hK n t _ _ ht hn
  match as, h1 with
  | [a], ⟨V, Vr, he, hr, _, hrest⟩ =>
    injection he with he _
    subst he
    exact ⟨n, a, h2, rep_T hr⟩
  | [], h1 => cases h1
  | _ :: _ :: _, ⟨V, Vr, he, hr, _, V2, Vr2, he2, _⟩ => injection he with _ he; rw [he2] at he; cases he
/-- a struct of plain type -/
theorem open_agg {K : List TypeId} (hK : okTy P K = true) {t : TypeId} (ht : t ∈ K) {cs : Array Value} {d : DataW H} {p : List MemPlace} (h : DataW.Trod enc P w base spare held t (.agg cs) d p) :
    ∃ n as, TyL P n t as ∧ RepT w (fxAll w) [] [] (.agg as) (.agg cs) := by
  obtain ⟨n, hn⟩ := h
  obtain ⟨as, h1, h2⟩ := opened hK n t _ _ ht hn
  exact ⟨n, as, h2, cs.toList, by simp, h1⟩
/-- a row of whole numbers -/
def ints (l : List Int) : List (List AVal) := l.map fun x => [.int .i64 x]
theorem ty_int {k : IntKind} {n : Nat} {t : TypeId} {cs : List AVal} (hu : P.underlying t = some (.int k)) (h : TyL P n t cs) : ∃ x, cs = [.int k x] ∧ (Lit.int k x).wf = true := by
  cases n with
  | zero => exact h.elim
  | succ n => simpa only [TyL, hu] using h
theorem ty_bool {n : Nat} {t : TypeId} {cs : List AVal} (hu : P.underlying t = some .bool) (h : TyL P n t cs) : ∃ x, cs = [.bool x] := by
  cases n with
  | zero => exact h.elim
  | succ n => simpa only [TyL, hu] using h
theorem ty_string {n : Nat} {t : TypeId} {cs : List AVal} (hu : P.underlying t = some .string) (h : TyL P n t cs) : ∃ s, cs = [.str s] ∧ s.length ≤ maxLen := by
  cases n with
  | zero => exact h.elim
  | succ n => simpa only [TyL, hu] using h
theorem ty_slice {n : Nat} {t e : TypeId} {cs : List AVal} (hu : P.underlying t = some (.slice e)) (h : TyL P n t cs) : ∃ m es, cs = [.slice .no es] ∧ es.length ≤ maxLen ∧ ∀ x ∈ es, TyL P m e x := by
  cases n with
  | zero => exact h.elim
  | succ n =>
    simp only [TyL, hu] at h
    exact ⟨n, h⟩
theorem ty_struct {n : Nat} {t : TypeId} {fs : Array Field} {cs : List AVal} (hu : P.underlying t = some (.struct fs)) (h : TyL P n t cs) : ∃ m, cat (fun f a => TyL P m f.type a) fs.toList cs := by
  cases n with
  | zero => exact h.elim
  | succ n =>
    simp only [TyL, hu] at h
    exact ⟨n, h⟩
/-- elements of a known form -/
theorem rows_of {α : Type} {Q : List AVal → Prop} {f : α → List AVal} {R : α → Prop} (hq : ∀ x, Q x → ∃ a, x = f a ∧ R a) : ∀ {es : List (List AVal)}, (∀ x ∈ es, Q x) → ∃ l : List α, es = l.map f ∧ ∀ a ∈ l, R a
  | [], _ => ⟨[], rfl, fun a ha => by cases ha⟩
  | x :: es, h => by
    obtain ⟨a, rfl, hr⟩ := hq x (h x (List.mem_cons_self ..))
    obtain ⟨l, rfl, hl⟩ := rows_of hq (es := es) fun y hy => h y (List.mem_cons_of_mem _ hy)
    exact ⟨a :: l, rfl, fun b hb => by
      rcases List.mem_cons.1 hb with rfl | hb
      · exact hr
      · exact hl b hb⟩
theorem ty_ints {n : Nat} {t e : TypeId} {cs : List AVal} (hu : P.underlying t = some (.slice e)) (he : P.underlying e = some (.int .i64)) (h : TyL P n t cs) : ∃ l : List Int, cs = [.slice .no (ints l)] ∧ ∀ x ∈ l, (Lit.int .i64 x).wf = true := by
  obtain ⟨m, es, rfl, _, h⟩ := ty_slice hu h
  obtain ⟨l, rfl, hl⟩ := rows_of (f := fun x : Int => [AVal.int .i64 x]) (fun x hx => ty_int he hx) h
  exact ⟨l, rfl, hl⟩
end
end Go.Abs
