/- Calls: what a call promises, and the caller behind it. -/
import Derived.Test.YtlklpdifcpjlpaaDoorAbsAppend
namespace Go.Abs
set_option linter.unusedSectionVars false

def preTot (w : World) (rho : List Nat) (m : Mem) (args : List AVal) (vals : List Value) (b : Nat) : Nat :=
  rho.count b + ownSum args vals b + ownObjs w m rho b

structure CallPre (E : Env) (B : Nat) (w : World) (fx : Nat → Nat) (rho : List Nat) (args : List AVal) (vals : List Value) (m : Mem) : Prop where
  len : vals.length = args.length
  rep : ∀ (i : Nat) (v : AVal) (V : Value), args[i]? = some v → vals[i]? = some V → RepT w fx rho [] v V ∧ OwnOk E B w fx v V
  mem : ObjsRep E B w fx rho mayHold m rho
  fx0 : ∀ b, b ∈ rho → fx b = 0
  fxb : ∀ b, w.heap.size ≤ b → fx b = 0
  tot : ∀ b, preTot w rho m args vals b ≤ 1
  low : ∀ b, 0 < preTot w rho m args vals b → B ≤ b ∧ b < w.heap.size
  glob : GlobOk E w fx
  base : B ≤ w.heap.size

/-- the context that a call lays for its body -/
def ctxOf (w : World) (fx : Nat → Nat) (rho : List Nat) (args : List AVal) (vals : List Value) (m : Mem) : Ctx :=
  { w0 := w, fx0 := fx, S0 := fun b => 0 < preTot w rho m args vals b, rho0 := rho }

def outOwn : Out → Value → Nat → Nat
  | .ret v, V, b => ownB v V b
  | .pan _, _, _ => 0

structure CallPost (E : Env) (B : Nat) (c : Ctx) (out : Out) (m' : Mem) (V : Value) (w' : World) (fx' : Nat → Nat) (rho' : List Nat) : Prop where
  rep : match out with
    | .ret v => RepT w' fx' rho' [] v V ∧ OwnOk E B w' fx' v V
    | .pan v => Rep w' fx' v V
  mem : ObjsRep E B w' fx' rho' mayHold m' rho'
  fx0 : ∀ b, b ∈ rho' → fx' b = 0
  fxb : ∀ b, w'.heap.size ≤ b → fx' b = 0
  tot : ∀ b, rho'.count b + outOwn out V b + ownObjs w' m' rho' b ≤ 1
  low : ∀ b, 0 < rho'.count b + outOwn out V b + ownObjs w' m' rho' b → B ≤ b ∧ b < w'.heap.size ∧ (b < c.w0.heap.size → c.S0 b)
  keep : Keep c w' fx'
  pre : c.rho0 <+: rho'

def endOf : Out → Value → Ending
  | .ret _, V => .returned V
  | .pan _, V => .panicked [{ v := V, recovered := false }]

def CallEnd (E : Env) (B : Nat) (c : Ctx) (out : Out) (m' : Mem) (e : Ending) (w' : World) : Prop :=
  ∃ V fx' rho', e = endOf out V ∧ CallPost E B c out m' V w' fx' rho'

def CallOk (E : Env) (P : Program) (B : Nat) (f : FuncId) (args : List AVal) (m : Mem) (out : Out) (m' : Mem) : Prop :=
  ∀ w fx rho vals, CallPre E B w fx rho args vals m → Calls P f vals.toArray w (CallEnd E B (ctxOf w fx rho args vals m) out m')

section
variable {P : Program} {E : Env} {B : Nat} {c : Ctx} {w w' : World} {fx fx' : Nat → Nat} {rho rho' lam : List Nat} {fr : AFrame} {m m' : Mem} {a : Act}
variable {R : Type} {r : R} {o : Oper} {next : Act → World → Prop} {Q : Exit → Act → World → Prop} {K : AFrame → Mem → Option R}

/-- the frame's own part -/
def framePart (w : World) (lam : List Nat) (fr : AFrame) (Vs : List Value) (b : Nat) : Nat :=
  lam.count b + ownSum fr.tmps Vs b + ownObjs w fr.locs lam b

theorem Good.afterCall (h : Good E B c w fx rho lam fr m a) {args : List AVal} {vals : List Value} (hsep : ∀ b, total w rho lam fr m a.tmps.toList b + ownSum args vals b ≤ 1)
    (hS : ∀ b, 0 < ownSum args vals b → b < c.w0.heap.size → c.S0 b) {out : Out} {V : Value} (hp : CallPost E B (ctxOf w fx rho args vals m) out m' V w' fx' rho') :
    Good E B c w' fx' rho' lam fr m' a ∧ ∀ b, 0 < outOwn out V b → total w' rho' lam fr m' a.tmps.toList b + outOwn out V b ≤ 1 ∧ B ≤ b ∧ b < w'.heap.size ∧ (b < c.w0.heap.size → c.S0 b) := by
  have hx : Ext w fx w' fx' := hp.keep.ext
  have hsz : w.heap.size ≤ w'.heap.size := hp.keep.size
  have hpt : ∀ b, 0 < framePart w lam fr a.tmps.toList b → preTot w rho m args vals b = 0 ∧ b < w.heap.size := fun b hb => by
    have h1 := hsep b
    have h2 := (h.low b (by unfold framePart at hb; unfold total; omega)).2.1
    refine ⟨?_, h2⟩
    unfold framePart at hb
    unfold total at h1
    unfold preTot
    omega
  have hsame : ∀ b, 0 < framePart w lam fr a.tmps.toList b → w'.heap[b]? = w.heap[b]? ∧ fx' b = fx b := fun b hb => by
    obtain ⟨h1, h2⟩ := hpt b hb
    exact hp.keep.block b h2 (by show ¬ (0 < preTot w rho m args vals b); omega)
  have hlam : ∀ g ∈ lam, w'.heap[g]? = w.heap[g]? := fun g hg => (hsame g (by have := List.count_pos_iff.2 hg; unfold framePart; omega)).1
  have hlocs : ∀ b, ownObjs w' fr.locs lam b = ownObjs w fr.locs lam b := fun b => ownObjs_world _ _ _ hlam
  have hfp : ∀ b, framePart w' lam fr a.tmps.toList b = framePart w lam fr a.tmps.toList b := fun b => by unfold framePart; rw [hlocs]
  have hex : ∀ b, 0 < framePart w lam fr a.tmps.toList b → rho'.count b + outOwn out V b + ownObjs w' m' rho' b = 0 := fun b hb => by
    obtain ⟨h1, h2⟩ := hpt b hb
    rcases Nat.eq_zero_or_pos (rho'.count b + outOwn out V b + ownObjs w' m' rho' b) with h0 | h0
    · exact h0
    · have := (hp.low b h0).2.2 h2
      have this : 0 < preTot w rho m args vals b := this
      omega
  have htot : ∀ b, total w' rho' lam fr m' a.tmps.toList b = framePart w lam fr a.tmps.toList b + (rho'.count b + ownObjs w' m' rho' b) := fun b => by
    rw [← hfp]; unfold total framePart; omega
  have hlowP : ∀ b, 0 < preTot w rho m args vals b → b < c.w0.heap.size → c.S0 b := fun b hb hlt => by
    rcases Nat.eq_zero_or_pos (ownSum args vals b) with h0 | h0
    · exact (h.low b (by unfold preTot at hb; unfold total; omega)).2.2 hlt
    · exact hS b h0 hlt
  refine ⟨{
    size := h.size
    tmp := fun i v V hi hV => by
      obtain ⟨h1, h2⟩ := h.tmp i v V hi hV
      refine ⟨RepT.ext hx hp.pre (List.prefix_refl _) h1, h2.ext hx fun b hb => hsame b ?_⟩
      have := ownSum_le_of_get fr.tmps a.tmps.toList i v V b hi hV
      unfold framePart; omega
    defs := h.defs.ext hx hp.pre
    locs := h.locs.ext hx hp.pre hlam fun b hb => hsame b (by unfold framePart; omega)
    mem := hp.mem
    fx0 := fun b hb => by
      rcases hb with hb | hb
      · exact hp.fx0 b hb
      · rw [(hsame b (by have := List.count_pos_iff.2 hb; unfold framePart; omega)).2]
        exact h.fx0 b (.inr hb)
    fxb := hp.fxb
    tot := fun b => by
      rw [htot]
      rcases Nat.eq_zero_or_pos (framePart w lam fr a.tmps.toList b) with h0 | h0
      · have := hp.tot b; omega
      · have h1 := hex b h0
        have h2 := h.tot b
        have : framePart w lam fr a.tmps.toList b ≤ total w rho lam fr m a.tmps.toList b := by unfold framePart total; omega
        omega
    low := fun b hb => by
      rw [htot] at hb
      rcases Nat.eq_zero_or_pos (framePart w lam fr a.tmps.toList b) with h0 | h0
      · obtain ⟨x, y, z⟩ := hp.low b (by omega)
        refine ⟨x, y, fun hlt => hlowP b (z ?_) hlt⟩
        exact Nat.lt_of_lt_of_le hlt h.keep.size
      · obtain ⟨x, y, z⟩ := h.low b (by unfold framePart at h0; unfold total; omega)
        exact ⟨x, Nat.lt_of_lt_of_le y hsz, z⟩
    keep := {
      size := Nat.le_trans h.keep.size hsz
      os := hp.keep.os.trans h.keep.os
      tape := hp.keep.tape.trans h.keep.tape
      output := hp.keep.output.trans h.keep.output
      ext := h.keep.ext.trans hx
      block := fun b hb hS' => by
        obtain ⟨x, y⟩ := h.keep.block b hb hS'
        have hbw : b < w.heap.size := Nat.lt_of_lt_of_le hb h.keep.size
        obtain ⟨x', y'⟩ := hp.keep.block b hbw (by
          show ¬ (0 < preTot w rho m args vals b)
          intro hpos
          exact hS' (hlowP b hpos hb))
        exact ⟨x'.trans x, y'.trans y⟩ }
    pre := h.pre.trans hp.pre }, fun b hb => ?_⟩
  rcases Nat.eq_zero_or_pos (framePart w lam fr a.tmps.toList b) with h0 | h0
  · obtain ⟨x, y, z⟩ := hp.low b (by omega)
    refine ⟨?_, x, y, fun hlt => hlowP b (z (Nat.lt_of_lt_of_le hlt h.keep.size)) hlt⟩
    rw [htot]
    have := hp.tot b
    omega
  · have := hex b h0
    omega

/-- the arguments: what they are, and the frame that has handed them on -/
theorem argsOf_sound (hG : GlobOk E w fx) {f : FuncId} : ∀ {xs : List Operand} {i : Nat} {fr : AFrame} {vs : List AVal} {fr' : AFrame}, argsOf E f i xs fr = some (vs, fr') → Good E B c w fx rho lam fr m a →
    Good E B c w fx rho lam fr' m a ∧ (xs.map a.eval).length = vs.length ∧ (∀ (i : Nat) (v : AVal) (V : Value), vs[i]? = some v → (xs.map a.eval)[i]? = some V → RepT w fx rho [] v V ∧ OwnOk E B w fx v V) ∧
      (∀ b, total w rho lam fr' m a.tmps.toList b + ownSum vs (xs.map a.eval) b ≤ total w rho lam fr m a.tmps.toList b)
  | [], i, fr, vs, fr', h, hg => by
    injection h with h
    injection h with h h'
    subst h; subst h'
    exact ⟨hg, rfl, fun i v V hi => by simp at hi, fun b => by simp [ownSum]⟩
  | x :: xs, i, fr, vs, fr', h, hg => by
    simp only [argsOf] at h
    split at h
    · rename_i vs1 fr1 h1
      obtain ⟨hg1, hl1, hr1, ht1⟩ := argsOf_sound hG h1 hg
      split at h
      · rename_i v hv
        have hev := ev_sound hg1 hG hv
        have hnl : ∀ {v : AVal}, (∀ p q, v ≠ .loc p q) → ∀ {V : Value}, RepT w fx rho lam v V → RepT w fx rho [] v V := by
          intro v hne V hV
          cases v with
          | loc p q => exact absurd rfl (hne p q)
          | _ => exact hV
        split at h
        · cases h
        · rename_i hne
          have hne' : ∀ p q, v ≠ .loc p q := fun p q e => hne p q e
          split at h
          · injection h with h
            injection h with h h'
            subst h; subst h'
            obtain ⟨hg2, ht2⟩ := leave_sound hg1 hv
            refine ⟨hg2, by simpa using hl1, fun j u U hj hU => ?_, fun b => ?_⟩
            · cases j with
              | zero => simp at hj hU; subst hj; subst hU; exact ⟨hnl hne' hev.rep, hev.own⟩
              | succ j => exact hr1 j u U (by simpa using hj) (by simpa using hU)
            · have h3 := ht1 b
              have h4 := ht2 b
              simp only [List.map_cons, ownSum]
              omega
          · injection h with h
            injection h with h h'
            subst h; subst h'
            have hpl : RepT w fx rho [] (plainAgg (plainCell v)) (a.eval x) ∧ noRow (plainAgg (plainCell v)) = true := by
              refine ⟨?_, noRow_plain v⟩
              have hrep := hnl hne' hev.rep
              cases v with
              | slice own es => exact RepT.slice hrep
              | agg cs => exact Rep.plainAgg (v := .agg cs) hrep
              | _ => exact hrep
            refine ⟨hg1, by simpa using hl1, fun j u U hj hU => ?_, fun b => ?_⟩
            · cases j with
              | zero => simp at hj hU; subst hj; subst hU; exact ⟨hpl.1, noRow_ok hpl.2 _⟩
              | succ j => exact hr1 j u U (by simpa using hj) (by simpa using hU)
            · have h3 := ht1 b
              simp only [List.map_cons, ownSum]
              rw [noRow_own hpl.2]
              omega
      · cases h
    · cases h

end
end Go.Abs
