/- Each operation does to memory what the interpreter says: loads, parts, indexes, slices, conversions. -/
import Derived.Test.YtlklpdifcpjlpaaDoorAbsOps2
import Derived.Laws.BytesArg
namespace Go.Abs
set_option linter.unusedSectionVars false

section
variable {P : Program} {E : Env} {B : Nat} {c : Ctx} {w w' : World} {fx fx' : Nat → Nat} {rho lam : List Nat} {fr : AFrame} {m : Mem} {a : Act}
variable {R : Type} {r : R} {o : Oper} {next : Act → World → Prop} {Q : Exit → Act → World → Prop} {K : AFrame → Mem → Option R}

theorem FitsT.infoSize {t : TypeId} {ti : TI} (h : FitsT P t ti) : (P.info? t).map (·.size) = some ti.size := by
  obtain ⟨i, z, hi, hs, _⟩ := h.info
  simp [hi, hs]

/-- what a load comes to -/
theorem loadV_run (hF : Fits E P) (hg : Good E B c w fx rho lam fr m a) {t : TypeId} {p v : AVal} {V : Value} (hp : RepT w fx rho lam p V) (h : loadV E fr m t p = some v) :
    ∃ U b off, V = .pointer (some ⟨b, off, none⟩) ∧ (∀ w' : World, w'.heap = w.heap → (Instr.loadAt t V).run P w' = .ok U w') ∧ RepO w fx rho (disown v) U ∧ (RepO w fx rho v U ∨ noRow v = false) ∧ U.oneCell' = oneC v := by
  unfold loadV at h
  split at h
  · rename_i ti hti
    have ht := hF t ti hti
    split at h
    · rename_i cs hcs
      obtain ⟨b, off, Vs, rfl, hl, hr, hat, h1, hcl⟩ := getCells_sound hg hp hcs
      split at h
      · rename_i hagg
        split at h
        · rename_i hd
          injection h with h; subst h
          have hrl := RepOL.toL hr (by simpa using hd) h1
          have hu := ht.under
          obtain ⟨d, hd'⟩ := Option.isSome_iff_exists.1 hu
          have hrow : d.isRow = true := by
            have := ht.agg
            unfold aggB at this
            rw [hd', hagg] at this
            cases d <;> first | rfl | cases this
          have hrep : Rep w fx (.agg (cs.map disown)) (.agg Vs.toArray) := ⟨Vs, rfl, hrl⟩
          exact ⟨.agg Vs.toArray, b, off, rfl, fun w' hw' =>
            run_loadAt_mid w' b off t Vs d (fun j v hj => (cell_heap hw' _).trans (hat j v hj)) hd' hrow (by rw [ht.infoSize, hl]), hrep.toO, .inl hrep.toO, rfl⟩
        · cases h
      · rename_i hagg
        simp only [ofCells, Bool.false_eq_true, if_false] at h
        · split at h
          · rename_i v0
            injection h with h; subst h
            obtain ⟨U, Ur, rfl, hU, hn⟩ := hr
            have hone : U.oneCell' = true := h1 U (List.mem_cons_self ..)
            have hload : ∀ w' : World, w'.heap = w.heap → (loadVar t ⟨b, off, none⟩).run P w' = .ok U w' := fun w' hw' => by
              have hc : w'.cell? ⟨b, off, none⟩ = some U := by rw [cell_heap hw']; simpa using hat 0 U rfl
              unfold loadVar
              rw [Sem.run_bind, isAgg_run ht.under w', ht.agg]
              simp only [Result.andThen_ok]
              rw [if_neg hagg]
              simp [hc]
            refine ⟨U, b, off, rfl, fun w' hw' => ?_, hU.disown, .inl hU, ?_⟩
            · simp only [Instr.loadAt, Instr.sureAddr, Sem.run_bind, Sem.run_pure, Result.andThen_ok, hload w' hw']
            · cases v0 <;> first | exact hone | skip
              obtain ⟨Ws, rfl, _⟩ := hU
              cases hone
          · cases h
    · cases h
  · cases h

theorem sound_load (hF : Fits E P) (hg : Good E B c w fx rho lam fr m a) (hG : GlobOk E w fx) {t : TypeId} {x : Operand} (ho : o.op = .load t x)
    {p v : AVal} (hx : ev E fr x = some p) (hv : loadV E fr m t p = some v) (hK : K (Abs.put fr o.dst (disown v)) m = some r) : CalmStep E B c P w fx rho lam a o r K := by
  obtain ⟨U, b, off, h1, h2, h3, _⟩ := loadV_run hF hg (ev_sound hg hG hx).rep hv
  exact fin hg h3.toT (noRow_disown v) (fun w' hw' => by simp [execOp, ho, h2 w' hw']) hK

theorem sound_nilCheck (hg : Good E B c w fx rho lam fr m a) (hG : GlobOk E w fx) {x : Operand} (ho : o.op = .nilCheck x)
    {v : AVal} (hx : ev E fr x = some v) (hs : hasTarget v = true) (hK : K (Abs.put fr o.dst v) m = some r) : CalmStep E B c P w fx rho lam a o r K := by
  have hr := (ev_sound hg hG hx).rep
  cases v <;> first | (cases hs; done) | skip
  · have hr' := hr
    obtain ⟨b, _, hV⟩ := hr'
    exact fin hg hr rfl (fun w' hw' => by simp [execOp, ho, hV]) hK
  · have hr' := hr
    obtain ⟨b, _, hV⟩ := hr'
    exact fin hg hr rfl (fun w' hw' => by simp [execOp, ho, hV]) hK
  · have hr' := hr
    obtain ⟨b, _, _, hV, _⟩ := hr'
    exact fin hg hr rfl (fun w' hw' => by simp [execOp, ho, hV]) hK
  · have hr' := hr
    obtain ⟨_, hV, _⟩ := hr'
    exact fin hg hr rfl (fun w' hw' => by simp [execOp, ho, hV]) hK
  · have hr' := hr
    obtain ⟨_, hV, _⟩ := hr'
    exact fin hg hr rfl (fun w' hw' => by simp [execOp, ho, hV]) hK

theorem bool_eq_run {t : TypeId} (hk : P.underlying t = some .bool) (x y : Bool) : (Op.equal t (.bool x) (.bool y)).run P w = .ok (x == y) w := by
  have key : ∀ d, (Op.equalIn (d + 1) t (.bool x) (.bool y)).run P w = .ok (x == y) w := fun d => by
    simp only [Op.equalIn, Sem.run_bind, run_underlying hk, Result.andThen_ok, Sem.run_pure]
  exact key 9999

theorem sound_bin (hF : Fits E P) (hEq : EqFits E P) (hg : Good E B c w fx rho lam fr m a) (hG : GlobOk E w fx) {op : BinOp} {t t' : TypeId} {x y : Operand} (ho : o.op = .binOp op t x y t')
    {u v : AVal} (hx : ev E fr x = some u) (hy : ev E fr y = some v) {z : AVal} (hz : binV E op t (isConst x) (isConst y) u v = some z) (hK : K (Abs.put fr o.dst z) m = some r) : CalmStep E B c P w fx rho lam a o r K := by
  have hU := (ev_sound hg hG hx).rep
  have hV := (ev_sound hg hG hy).rep
  unfold binV at hz
  split at hz
  · exact sound_int hg hG ho hx hy hz hK
  · exact sound_str hg hG ho hx hy hz hK
  · split at hz
    · rename_i hti
      have ht := (hF t _ hti).kind
      cases he : isEq op with
      | none => rw [he] at hz; cases hz
      | some e =>
        rw [he] at hz; injection hz with hz; subst hz
        refine fin hg (v := .bool _) rfl rfl (fun w' hw' => ?_) hK
        have h1 := bool_eq_run (w := w') ht
        have := fun p q => eq_shape he (h1 p q) (.inl ⟨_, rfl⟩)
        simp [execOp, ho, hU.bool, hV.bool, eqGuard_bool, this]
    · cases hz
  · rename_i xs ys
    split at hz
    · rename_i hti
      split at hz
      · rename_i e q he hq
        injection hz with hz; subst hz
        obtain ⟨Xs, hX, hXr⟩ := hU
        obtain ⟨Ys, hY, hYr⟩ := hV
        refine fin hg (v := .bool _) rfl rfl (fun w' hw' => ?_) hK
        have hx' : Ext w fx w' fx := ⟨fun _ => Nat.le_refl _, fun b off _ => cell_heap hw' _, fun b off _ hn => by rw [cell_heap hw']; exact hn⟩
        obtain ⟨h1, h2, h3⟩ := hEq t _ hti w' fx xs ys Xs Ys q rfl hq (RepL.ext hx' _ _ hXr) (RepL.ext hx' _ _ hYr) x y
        have h4 := eq_shape he h3 (.inr (.inl ⟨_, rfl⟩))
        have h5 : (eqGuard op t x y (.agg Xs.toArray) (.agg Ys.toArray)).run P w' = .ok () w' := by
          cases op <;> simp [isEq] at he <;> assumption
        simp [execOp, ho, hX, hY, h5, h4]
      · cases hz
    · cases hz
  · split at hz
    · rename_i hc
      split at hz
      · rename_i ti hti
        have ht := (hF t _ hti).kind
        split at hz
        · rename_i e q he hq
          injection hz with hz; subst hz
          refine fin hg (v := .bool _) rfl rfl (fun w' hw' => ?_) hK
          have hx' : Ext w fx w' fx := ⟨fun _ => Nat.le_refl _, fun b off _ => cell_heap hw' _, fun b off _ hn => by rw [cell_heap hw']; exact hn⟩
          obtain ⟨h1, h2, h3⟩ := nilness_run (P := P) (w := w') ht hq (RepT.ext hx' (List.prefix_refl _) (List.prefix_refl _) hU) (RepT.ext hx' (List.prefix_refl _) (List.prefix_refl _) hV)
          have h4 := eq_shape he h1 h3
          have h5 := h2 op x y hc
          simp [execOp, ho, h5, h4]
        · cases hz
      · cases hz
    · cases hz

theorem sound_un (hg : Good E B c w fx rho lam fr m a) (hG : GlobOk E w fx) {op : UnOp} {t : TypeId} {x : Operand} (ho : o.op = .unOp op t x)
    {u : AVal} (hx : ev E fr x = some u) {z : AVal} (hz : unV op u = some z) (hK : K (Abs.put fr o.dst z) m = some r) : CalmStep E B c P w fx rho lam a o r K := by
  have hU := (ev_sound hg hG hx).rep
  unfold unV at hz
  split at hz
  · injection hz with hz; subst hz
    refine fin hg (v := .int _ _) rfl rfl (fun w' hw' => ?_) hK
    simp [execOp, ho, hU.int, Op.unary, Op.intArith]
  · injection hz with hz; subst hz
    refine fin hg (v := .bool _) rfl rfl (fun w' hw' => ?_) hK
    simp [execOp, ho, hU.bool, Op.unary]
  · cases hz

theorem sound_makeInterface (hF : Fits E P) (hg : Good E B c w fx rho lam fr m a) (hG : GlobOk E w fx) {t : TypeId} {x : Operand} (ho : o.op = .makeInterface t x)
    {u : AVal} (hx : ev E fr x = some u) {ti : TI} (hti : E.T t = some ti) (hk : ti.kind ≠ .iface) (hd : isData u = true) (hK : K (Abs.put fr o.dst (.iface t (plainAgg (plainCell u)))) m = some r) : CalmStep E B c P w fx rho lam a o r K := by
  have hU := (ev_sound hg hG hx).rep
  have hr : Rep w fx (.iface t (plainAgg (plainCell u))) (.iface t (a.eval x)) := ⟨_, rfl, hU.plain hd⟩
  refine fin hg hr.toT rfl (fun w' hw' => ?_) hK
  have ht := hF t _ hti
  obtain ⟨d, hdd⟩ := Option.isSome_iff_exists.1 ht.under
  have hni : ∀ ms, d ≠ .interface ms := fun ms e => by
    have := ht.kind
    subst e
    cases hkk : ti.kind <;> rw [hkk] at this <;> simp only [kindOk] at this
    all_goals first
      | (exact hk hkk; done)
      | (rw [hdd] at this; cases this; done)
      | (obtain ⟨_, h, _⟩ := this; rw [hdd] at h; cases h; done)
      | (obtain ⟨_, h⟩ := this; rw [hdd] at h; cases h; done)
      | (obtain ⟨_, _, h⟩ := this; rw [hdd] at h; cases h; done)
      | (obtain ⟨_, _, _, h⟩ := this; rw [hdd] at h; cases h; done)
  simp only [execOp, ho, Instr.makeInterface, Sem.run_bind, run_underlying hdd, Result.andThen_ok]
  cases d <;> first | rfl | (exact absurd rfl (hni _))

theorem RepT.slice {own : Own} {es : List (List AVal)} {V : Value} (h : RepT w fx rho lam (.slice own es) V) : Rep w fx (.slice .no es) V := by
  cases own with
  | no => exact h
  | full => exact Rep.plainCell (v := .slice .full es) h
  | nil => exact Rep.plainCell (v := .slice .nil es) h
  | row e => exact h

theorem sound_len (hF : Fits E P) (hg : Good E B c w fx rho lam fr m a) (hG : GlobOk E w fx) {cl : Call} (ho : o.op = .call cl) (hc : cl.callee = .builtin .len)
    {x : Operand} {t : TypeId} (ha : cl.args[0]? = some x) (hat : cl.argTypes[0]? = some t) {u : AVal} (hx : ev E fr x = some u) {ti : TI} (hti : E.T t = some ti)
    {n : Nat} (hl : lenV ti.kind u = some n)
    (hK : K (Abs.put fr o.dst (.int .i64 n)) m = some r) : CalmStep E B c P w fx rho lam a o r K := by
  have hU := (ev_sound hg hG hx).rep
  have ht := (hF t _ hti).kind
  have hargs : (cl.args.map a.eval)[0]? = some (a.eval x) := by simp [ha]
  refine fin hg (v := .int .i64 n) rfl rfl (fun w' hw' => ?_) hK
  unfold lenV at hl
  split at hl
  · rename_i hk'
    rw [hk'] at ht
    injection hl with hl; subst hl
    have ht' : P.underlying t = some .string := ht
    have hV := hU.str
    simp only [execOp, ho, hc, resolve, invoke, builtin, Builtin.len_, Sem.run_bind, Sem.run_pure, Result.andThen_ok, hargs, hat, hV, run_underlying ht', goInt]
    rfl
  · rename_i e _ _ hk'
    rw [hk'] at ht
    injection hl with hl; subst hl
    obtain ⟨A, k, cp, Vs, hV, hk2, _⟩ := hU.slice
    have ht' : P.underlying t = some (.slice e) := ht
    subst hk2
    simp only [execOp, ho, hc, resolve, invoke, builtin, Builtin.len_, Sem.run_bind, Sem.run_pure, Result.andThen_ok, hargs, hat, hV, run_underlying ht', goInt]
  · cases hl

end
end Go.Abs
