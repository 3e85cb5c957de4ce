/- Each operation does to memory what the interpreter says: parts, indexes, slices, conversions. -/
import Derived.Test.YtlklpdifcpjlpaaDoorAbsOps3
namespace Go.Abs
set_option linter.unusedSectionVars false
set_option linter.unusedSimpArgs false
set_option linter.unusedVariables false

section
variable {P : Program} {E : Env} {B : Nat} {c : Ctx} {w w' : World} {fx fx' : Nat → Nat} {rho lam : List Nat} {fr : AFrame} {m : Mem} {a : Act}
variable {R : Type} {r : R} {o : Oper} {next : Act → World → Prop} {Q : Exit → Act → World → Prop} {K : AFrame → Mem → Option R}

theorem structFields_ok (hF : Fits E P) {t : TypeId} {fs : List (Nat × Nat × Bool)} (h : structFields E t = some fs) {i off size : Nat} {agg : Bool} (hi : fs[i]? = some (off, size, agg)) :
    ∃ fields f, P.underlying t = some (.struct fields) ∧ fields[i]? = some f ∧ f.offset = off ∧ P.cellsOf f.type = size ∧ aggB P f.type = agg ∧ (P.info? f.type).isSome = true ∧ (P.underlying f.type).isSome = true := by
  unfold structFields at h
  split at h
  · rename_i fs' _ _ _ hti
    injection h with h; subst h
    obtain ⟨fields, h1, h2, h3⟩ := (hF t _ hti).kind
    rw [← h2] at hi
    simp only [List.getElem?_map, Option.map_eq_some_iff] at hi
    obtain ⟨f, hf, he⟩ := hi
    injection he with e1 e2
    injection e2 with e2 e3
    have hf' : fields[i]? = some f := by rw [← hf]; simp
    obtain ⟨h4, h5⟩ := h3 f (List.mem_of_getElem? hf)
    exact ⟨fields, f, h1, hf', e1, e2, e3, h4, h5⟩
  · cases h

theorem addrOff_rep {p q : AVal} {n : Nat} {V : Value} (h : addrOff p n = some q) (hp : RepT w fx rho lam p V) :
    ∃ b off, V = .pointer (some ⟨b, off, none⟩) ∧ RepT w fx rho lam q (.pointer (some ⟨b, off + n, none⟩)) ∧ noRow q = true := by
  unfold addrOff at h
  split at h
  · injection h with h; subst h
    obtain ⟨b, h1, rfl⟩ := hp
    exact ⟨b, _, rfl, ⟨b, h1, rfl⟩, rfl⟩
  · injection h with h; subst h
    obtain ⟨b, h1, rfl⟩ := hp
    exact ⟨b, _, rfl, ⟨b, h1, rfl⟩, rfl⟩
  · rename_i cs
    injection h with h; subst h
    obtain ⟨b, off, Vs, rfl, h1, h2⟩ := hp
    refine ⟨b, off, rfl, ?_, rfl⟩
    have h3 : RepL w fx (cs.take n ++ cs.drop n) Vs := by rw [List.take_append_drop]; exact h1
    obtain ⟨V1, V2, rfl, h4, h5⟩ := h3.split
    rcases Nat.lt_or_ge cs.length n with hlt | hge
    · have : cs.drop n = [] := List.drop_eq_nil_of_le (by omega)
      rw [this] at h5 ⊢
      exact Rep.toT (v := .imm []) ⟨b, off + n, [], rfl, rfl, fun j V hj => by simp at hj⟩
    · have hl : V1.length = n := by rw [h4.length, List.length_take]; omega
      refine Rep.toT (v := .imm _) ⟨b, off + n, V2, rfl, h5, ?_⟩
      have := CellsAt.part (V0 := V1) (V1 := V2) (V2 := []) (by simpa using h2)
      rwa [hl] at this
  · cases h

theorem addr_add (b off n : Nat) : (⟨b, off, none⟩ : Addr).add n = ⟨b, off + n, none⟩ := Addr.add_mid b off n

theorem sound_fieldAddr (hF : Fits E P) (hg : Good E B c w fx rho lam fr m a) (hG : GlobOk E w fx) {t : TypeId} {x : Operand} {i : Nat} (ho : o.op = .fieldAddr t x i)
    {fs : List (Nat × Nat × Bool)} (hs : structFields E t = some fs) {p : AVal} (hx : ev E fr x = some p) {off size : Nat} {agg : Bool} (hi : fs[i]? = some (off, size, agg)) (hsz : size ≠ 0) {q : AVal}
    (hq : addrOff p off = some q) (hK : K (Abs.put fr o.dst q) m = some r) : CalmStep E B c P w fx rho lam a o r K := by
  obtain ⟨fields, f, h1, h2, h3, h4, h5, h6, h7⟩ := structFields_ok hF hs hi
  obtain ⟨b, off0, hV, hr, hnr⟩ := addrOff_rep hq (ev_sound hg hG hx).rep
  refine fin hg hr hnr (fun w' hw' => ?_) hK
  simp only [execOp, ho, Instr.fieldAt, Sem.run_bind, run_underlying h1, Result.andThen_ok, h2, hV, Instr.sureAddr, Sem.run_pure, fieldPlace, sizeOf_run h6, h4]
  rw [if_neg hsz]
  simp only [Sem.run_pure, Result.andThen_ok, h3, addr_add]

theorem part_run {t : TypeId} (h1 : (P.info? t).isSome = true) (h2 : (P.underlying t).isSome = true) {V0 V1 V2 : List Value} (hl : V1.length = P.cellsOf t) {l : List AVal} (hr : RepL w fx l V1) {v : AVal}
    (hv : ofCells (aggB P t) l = some v) : ∃ U, (∀ w' : World, (part t (V0 ++ V1 ++ V2).toArray V0.length).run P w' = .ok U w') ∧ Rep w fx v U := by
  unfold ofCells at hv
  split at hv
  · rename_i hagg
    injection hv with hv; subst hv
    refine ⟨.agg V1.toArray, fun w' => ?_, ⟨V1, rfl, hr⟩⟩
    unfold part
    rw [Sem.run_bind, isAgg_run h2]
    simp only [Result.andThen_ok]
    rw [if_pos hagg]
    simp only [Sem.run_bind, sizeOf_run h1, Result.andThen_ok, Sem.run_pure]
    congr 2
    rw [← hl]
    apply Array.ext'
    simp [Array.toList_extract]
  · rename_i hagg
    split at hv
    · injection hv with hv; subst hv
      obtain ⟨U, Ur, rfl, hU, _, hnil⟩ := hr
      rw [show Ur = [] from hnil]
      refine ⟨U, fun w' => ?_, hU⟩
      unfold part
      rw [Sem.run_bind, isAgg_run h2]
      simp only [Result.andThen_ok]
      rw [if_neg hagg]
      simp
    · cases hv

theorem sound_field (hF : Fits E P) (hg : Good E B c w fx rho lam fr m a) (hG : GlobOk E w fx) {t : TypeId} {x : Operand} {i : Nat} (ho : o.op = .field t x i)
    {fs : List (Nat × Nat × Bool)} (hs : structFields E t = some fs) {cs : List AVal} (hx : ev E fr x = some (.agg cs)) {off size : Nat} {agg : Bool} (hi : fs[i]? = some (off, size, agg)) {l : List AVal}
    (hl : sub cs off size = some l) {v : AVal} (hv : ofCells agg l = some v) (hK : K (Abs.put fr o.dst v) m = some r) : CalmStep E B c P w fx rho lam a o r K := by
  obtain ⟨fields, f, h1, h2, h3, h4, h5, h6, h7⟩ := structFields_ok hF hs hi
  obtain ⟨Vs, hV, hVr⟩ := (ev_sound hg hG hx).rep
  obtain ⟨V0, V1, V2, rfl, hl0, hl1, hr1⟩ := RepL.sub hVr hl
  obtain ⟨U, hU, hUr⟩ := part_run (w := w) (V0 := V0) (V2 := V2) h6 h7 (by rw [hl1, h4]) hr1 (by rw [h5]; exact hv)
  refine fin hg hUr.toT hUr.noRow (fun w' hw' => ?_) hK
  simp only [execOp, ho, Instr.field, Sem.run_bind, run_underlying h1, Result.andThen_ok, h2, hV, asAgg, Sem.run_pure]
  rw [h3, ← hl0, hU]
  rfl

theorem sound_index (hF : Fits E P) (hg : Good E B c w fx rho lam fr m a) (hG : GlobOk E w fx) {t : TypeId} {x y : Operand} (ho : o.op = .index t x y)
    {k : IntKind} {i : Int} (hy : ev E fr y = some (.int k i)) {u : AVal} (hx : ev E fr x = some u) {v : AVal} (hv : indexV E t u i = some v) (hK : K (Abs.put fr o.dst v) m = some r) : CalmStep E B c P w fx rho lam a o r K := by
  have hI := (ev_sound hg hG hy).rep.int
  have hU := (ev_sound hg hG hx).rep
  unfold indexV at hv
  split at hv
  · rename_i s
    split at hv
    · rename_i hti
      obtain hk := (hF t _ hti).kind
      split at hv
      · rename_i h0
        split at hv
        · rename_i b hb
          injection hv with hv; subst hv
          refine fin hg (v := .int .u8 b.toNat) rfl rfl (fun w' hw' => ?_) hK
          have hk' : P.underlying t = some .string := hk
          simp only [execOp, ho, Instr.index, hI, asIntOf, Sem.run_bind, Sem.run_pure, Result.andThen_ok, run_underlying hk', hU.str]
          rw [if_pos h0]
          have : (⟨s.toArray⟩ : ByteArray)[i.toNat]? = some b := by
            have hlt : i.toNat < s.length := by
              rcases Nat.lt_or_ge i.toNat s.length with h | h
              · exact h
              · simp [List.getElem?_eq_none h] at hb
            rw [List.getElem?_eq_getElem hlt] at hb
            injection hb with hb
            rw [getElem?_pos _ _ (by simpa [ByteArray.size] using hlt)]
            rw [← hb]
            rfl
          rw [this]
          rfl
        · cases hv
      · cases hv
    · cases hv
  · rename_i cs
    split at hv
    · rename_i n sz agg _ _ _ hti
      obtain ⟨e, h1, h2, h3, h4, h7⟩ := (hF t _ hti).kind
      split at hv
      · rename_i hin
        split at hv
        · rename_i l hl
          obtain ⟨Vs, hV, hVr⟩ := hU
          obtain ⟨V0, V1, V2, rfl, hl0, hl1, hr1⟩ := RepL.sub hVr hl
          obtain ⟨U, hUU, hUr⟩ := part_run (w := w) (V0 := V0) (V2 := V2) h4 h7 (by rw [hl1, h2]) hr1 (by rw [h3]; exact hv)
          refine fin hg hUr.toT hUr.noRow (fun w' hw' => ?_) hK
          simp only [execOp, ho, Instr.index, hI, asIntOf, Sem.run_bind, Sem.run_pure, Result.andThen_ok, run_underlying h1, hV]
          rw [if_pos hin]
          simp only [Sem.run_bind, sizeOf_run h4, Result.andThen_ok, h2]
          rw [← hl0, hUU]
          rfl
        · cases hv
      · cases hv
    · cases hv
  · cases hv

end
end Go.Abs
