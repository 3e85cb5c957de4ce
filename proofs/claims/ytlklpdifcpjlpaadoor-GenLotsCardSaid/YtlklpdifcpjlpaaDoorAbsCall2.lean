/- The operation of a call; a panic; a deferred call is noted. -/
import Derived.Test.YtlklpdifcpjlpaaDoorAbsCall
namespace Go.Abs
set_option linter.unusedSectionVars false

def FnOk (E : Env) (P : Program) : Prop := ∀ f fn, E.fn f = some fn → P.funcs[f]? = some fn ∧ fn.body.isSome = true ∧ (fn.name == "runtime.NumGoroutine") = false

section
variable {P : Program} {E : Env} {B : Nat} {c : Ctx} {w w' : World} {fx fx' : Nat → Nat} {rho rho' lam : List Nat} {fr : AFrame} {m m' : Mem} {a : Act}
variable {R : Type} {r : R} {o : Oper} {next : Act → World → Prop} {Q : Exit → Act → World → Prop} {K : AFrame → Mem → Option R} {Kp : AVal → AFrame → Mem → Option R}

theorem RepCL.length : ∀ {l : List AVal} {Vs : List Value}, RepCL w fx rho l Vs → Vs.length = l.length
  | [], _, h => by rw [show _ = [] from h]; rfl
  | _ :: r, _, h => by
    obtain ⟨V, Vr, rfl, _, h3⟩ := h
    simp [RepCL.length (l := r) h3]
theorem RepC.noRow {v : AVal} {V : Value} (h : RepC w fx rho v V) : noRow v = true := by
  cases v with
  | slice own es =>
    cases own with
    | row e => have : Rep w fx (.slice (.row e) es) V := h; exact this.noRow
    | _ => rfl
  | _ => rfl
theorem RepC.toT {v : AVal} {V : Value} (h : RepC w fx rho v V) : RepT w fx rho lam v V := by
  cases v with
  | ptr o off => exact h
  | _ => exact Rep.toT h
theorem RepCL.get : ∀ {l : List AVal} {Vs : List Value} {i : Nat} {v : AVal} {V : Value}, RepCL w fx rho l Vs → l[i]? = some v → Vs[i]? = some V → RepC w fx rho v V
  | [], _, _, _, _, _, hi, _ => by simp at hi
  | x :: r, Vs, i, v, V, h, hi, hV => by
    obtain ⟨X, Xr, rfl, h1, h3⟩ := h
    cases i with
    | zero => simp at hi hV; subst hi; subst hV; exact h1
    | succ i => exact RepCL.get (l := r) h3 (by simpa using hi) (by simpa using hV)
theorem RepCL.own : ∀ {l : List AVal} {Vs : List Value}, RepCL w fx rho l Vs → ∀ b, ownSum l Vs b = 0
  | [], _, h, b => by rw [show _ = [] from h]; rfl
  | _ :: r, _, h, b => by
    obtain ⟨V, Vr, rfl, h1, h3⟩ := h
    simp only [ownSum, noRow_own (RepC.noRow h1), RepCL.own (l := r) h3 b]

/-- behind the arguments a callee may be entered -/
theorem callPre_of (hB : B ≤ c.w0.heap.size) (hg : Good E B c w fx rho lam fr m a) (hG : GlobOk E w fx) {vs caps : List AVal} {Vs Cs : List Value} (hl : Vs.length = vs.length)
    (hr : ∀ (i : Nat) (v : AVal) (V : Value), vs[i]? = some v → Vs[i]? = some V → RepT w fx rho [] v V ∧ OwnOk E B w fx v V) (hc : RepCL w fx rho caps Cs)
    (hsep : ∀ b, total w rho lam fr m a.tmps.toList b + ownSum vs Vs b ≤ 1) (hlow : ∀ b, 0 < ownSum vs Vs b → B ≤ b ∧ b < w.heap.size) :
    CallPre E B w fx rho (vs ++ caps) (Vs ++ Cs) m := by
  have hos : ∀ b, ownSum (vs ++ caps) (Vs ++ Cs) b = ownSum vs Vs b := fun b => by
    rw [ownSum_append _ _ _ _ _ hl.symm, RepCL.own hc b]; omega
  exact {
    len := by simp [hl, RepCL.length hc]
    rep := fun i v V hi hV => by
      rcases Nat.lt_or_ge i vs.length with hlt | hge
      · rw [List.getElem?_append_left hlt] at hi
        rw [List.getElem?_append_left (by omega)] at hV
        exact hr i v V hi hV
      · rw [List.getElem?_append_right hge] at hi
        rw [List.getElem?_append_right (by omega), hl] at hV
        have := RepCL.get hc hi hV
        exact ⟨RepC.toT this, noRow_ok (RepC.noRow this) _⟩
    mem := hg.mem
    fx0 := fun b hb => hg.fx0 b (.inl hb)
    fxb := hg.fxb
    tot := fun b => by
      have := hsep b
      unfold total at this
      unfold preTot
      rw [hos]; omega
    low := fun b hb => by
      unfold preTot at hb
      rw [hos] at hb
      rcases Nat.eq_zero_or_pos (ownSum vs Vs b) with h0 | h0
      · have := hg.low b (by unfold total; omega)
        exact ⟨this.1, this.2.1⟩
      · exact hlow b h0
    glob := hG
    base := Nat.le_trans hB hg.keep.size }

theorem sound_call (hB : B ≤ c.w0.heap.size) (hfn : FnOk E P) (hg : Good E B c w fx rho lam fr m a) (hG : GlobOk E w fx) (hn : NextOk E B c r K next) (hp : PanOk E B c r Kp Q) {cl : Call} (ho : o.op = .call cl) {x : Operand} (hc : cl.callee = .value x)
    {f : FuncId} {caps : List AVal} (hx : ev E fr x = some (.fn f caps)) {vs : List AVal} {fr' : AFrame} (hargs : argsOf E f 0 cl.args.toList fr = some (vs, fr')) {fn : Func} (hf : E.fn f = some fn) {out : Out} {m' : Mem}
    (hD : CallOk E P B f (vs ++ caps) m out m')
    (hK : match out with | .ret v => K (Abs.put fr' o.dst v) m' = some r | .pan v => Kp v fr' m' = some r) : o.wp P a w next Q := by
  obtain ⟨hpf, hbody, hname⟩ := hfn f fn hf
  obtain ⟨Cs, hV, hcr⟩ := (ev_sound hg hG hx).rep
  obtain ⟨hg1, hl1, hr1, ht1⟩ := argsOf_sound hG hargs hg
  have hsep : ∀ b, total w rho lam fr' m a.tmps.toList b + ownSum vs (cl.args.toList.map a.eval) b ≤ 1 := fun b => by
    have := ht1 b; have := hg.tot b; omega
  have hlow : ∀ b, 0 < ownSum vs (cl.args.toList.map a.eval) b → B ≤ b ∧ b < w.heap.size ∧ (b < c.w0.heap.size → c.S0 b) := fun b hb =>
    hg.low b (by have := ht1 b; omega)
  have hpre := callPre_of hB hg1 hG hl1 hr1 hcr hsep fun b hb => ⟨(hlow b hb).1, (hlow b hb).2.1⟩
  have hcall := hD w fx rho _ hpre
  have hrun : (execOp a.eval o).run P w = .ok (.enter f ((cl.args.toList.map a.eval) ++ Cs).toArray) w := by
    have e1 : cl.args.map a.eval ++ Cs.toArray = ((cl.args.toList.map a.eval) ++ Cs).toArray := by
      apply Array.ext'
      simp
    have hb2 : fn.body.isNone = false := by
      cases hb : fn.body with
      | none => rw [hb] at hbody; cases hbody
      | some _ => rfl
    simp only [execOp, ho, resolve, hc, hV, Deferred.ofValue, Sem.run_bind, Sem.run_pure, Result.andThen_ok, invoke, callFunc, run_program, hpf, hname, hb2]
    simp only [Bool.false_eq_true, if_false, Sem.run_pure]
    rw [← e1]
    simp
  unfold Oper.wp
  rw [hrun]
  rw [Oper.upon_enter]
  refine hcall.mono fun e w1 ⟨V, fx1, rho1, he, hpost⟩ => ?_
  have hos : ∀ b, ownSum (vs ++ caps) (cl.args.toList.map a.eval ++ Cs) b = ownSum vs (cl.args.toList.map a.eval) b := fun b => by
    rw [ownSum_append _ _ _ _ _ hl1.symm, RepCL.own hcr b]; omega
  obtain ⟨hg2, hout⟩ := hg1.afterCall (args := vs ++ caps) (vals := cl.args.toList.map a.eval ++ Cs) (fun b => by rw [hos]; exact hsep b) (fun b hb hlt => by rw [hos] at hb; exact (hlow b hb).2.2 hlt) hpost
  have hG1 := hG.ext hpost.keep.ext
  cases out with
  | ret v =>
    subst he
    obtain ⟨hv, hown⟩ := hpost.rep
    have hvt : RepT w1 fx1 rho1 lam v V := by
      cases v with
      | loc p q => obtain ⟨b, hb, _⟩ := hv; simp at hb
      | _ => exact hv
    exact hn _ _ _ _ _ _ _ hK (hg2.putOwn o.dst hvt hown fun b hb => hout b hb) hG1
  | pan v =>
    subst he
    exact hp _ _ _ _ _ _ _ v V hK hg2 hG1 hpost.rep

theorem sound_panic (hg : Good E B c w fx rho lam fr m a) (hG : GlobOk E w fx) (hp : PanOk E B c r Kp Q) {x : Operand} (ho : o.op = .panic x) {t : TypeId} {v : AVal} (hx : ev E fr x = some (.iface t v))
    (hK : Kp (.iface t v) fr m = some r) : o.wp P a w next Q := by
  have hr := (ev_sound hg hG hx).rep
  have hr' : Rep w fx (.iface t v) (a.eval x) := hr
  obtain ⟨V', hV, hrep⟩ := hr
  unfold Oper.wp
  have hrun : (execOp a.eval o).run P w = .halt (.panic (a.eval x)) w := by
    simp [execOp, ho, hV, Instr.panic]
  rw [hrun]
  exact hp _ _ _ _ _ _ _ _ _ hK hg hG hr'

theorem sound_defer (hg : Good E B c w fx rho lam fr m a) (hG : GlobOk E w fx) (hn : NextOk E B c r K next) {cl : Call} (ho : o.op = .defer cl) {x : Operand} (hc : cl.callee = .value x)
    {f : FuncId} {caps : List AVal} (hx : ev E fr x = some (.fn f caps)) {vs l : List AVal} {fr' : AFrame} (hargs : argsOf E f 0 cl.args.toList fr = some (vs, fr')) (hl : capOk (vs ++ caps) = some l)
    (hK : K (Abs.put { fr' with defers := (f, l) :: fr'.defers } o.dst (.tup [])) m = some r) : o.wp P a w next Q := by
  obtain ⟨Cs, hV, hcr⟩ := (ev_sound hg hG hx).rep
  obtain ⟨hg1, hl1, hr1, ht1⟩ := argsOf_sound hG hargs hg
  have hcl : RepCL w fx rho l (cl.args.toList.map a.eval ++ Cs) := capOk_ok (lam := []) hl (by simp [hl1, RepCL.length hcr]) fun i v V hi hV => by
    rcases Nat.lt_or_ge i vs.length with hlt | hge
    · rw [List.getElem?_append_left hlt] at hi
      rw [List.getElem?_append_left (by omega)] at hV
      exact (hr1 i v V hi hV).1
    · rw [List.getElem?_append_right hge] at hi
      rw [List.getElem?_append_right (by omega), hl1] at hV
      exact RepC.toT (RepCL.get hcr hi hV)
  let d : Deferred := { target := .fn (.func f) Cs.toArray, args := cl.args.map a.eval }
  have hrun : (execOp a.eval o).run P w = .ok (.defer d) w := by
    simp [execOp, ho, resolve, hc, hV, Deferred.ofValue, d]
  have hg2 : Good E B c w fx rho lam { fr' with defers := (f, l) :: fr'.defers } m { a with defers := d :: a.defers } := {
    size := hg1.size
    tmp := hg1.tmp
    defs := ⟨d, a.defers, _, rfl, hcl, ⟨Cs.toArray, rfl, by apply Array.ext'; simp [d]⟩, hg1.defs⟩
    locs := hg1.locs
    mem := hg1.mem
    fx0 := hg1.fx0
    fxb := hg1.fxb
    tot := hg1.tot
    low := hg1.low
    keep := hg1.keep
    pre := hg1.pre }
  unfold Oper.wp
  rw [hrun, Oper.upon_defer]
  exact hn _ _ _ _ _ _ _ hK (hg2.put o.dst (v := .tup []) (V := undef) ⟨[], rfl, rfl⟩ rfl) hG

end
end Go.Abs
