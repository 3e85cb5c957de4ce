/- Functions with deferred calls, natives, fuel: what the interpreter says is so. -/
import Derived.Test.YtlklpdifcpjlpaaDoorAbsFunc
namespace Go.Abs
set_option linter.unusedSectionVars false
set_option linter.unusedVariables false

/-! ### Deferred calls -/
def modeOf : Option Value → FrameMode
  | none => .returning
  | some V => .panicking [{ v := V, recovered := false }]
def RepU (w : World) (fx : Nat → Nat) : Option AVal → Option Value → Prop
  | none, none => True
  | some v, some V => Rep w fx v V
  | _, _ => False
def nextMode : Ending → FrameMode → FrameMode
  | .returned _, u => settle u
  | .panicked chain, u => raised u chain
  | .outgrown, u => u

def DfrOk (E : Env) (P : Program) (B : Nat) (f : FuncId) (g : List AVal → Option AVal → Mem → Option (Option AVal × Mem)) : Prop :=
  ∀ args u m u' m', g args u m = some (u', m') → ∀ w fx rho vals U, CallPre E B w fx rho args vals m → RepU w fx u U →
    CallsD P f vals.toArray (modeOf U) w fun e q w' => e ≠ .outgrown ∧ ∃ U' fx' rho', nextMode e q = modeOf U' ∧ RepU w' fx' u' U' ∧
      CallPost E B (ctxOf w fx rho args vals m) (.ret (.tup [])) m' undef w' fx' rho'
def NatOk (E : Env) (P : Program) (B : Nat) (f : FuncId) (g : List AVal → Mem → CT (Out × Mem)) : Prop :=
  ∀ args m out m', (g args m).eval = some (out, m') → CallOk E P B f args m out m'

def DfrsOk (E : Env) (P : Program) (B : Nat) : Prop := ∀ f g, E.dfr f = some g → DfrOk E P B f g
def NatsOk (E : Env) (P : Program) (B : Nat) (N : CNats) : Prop := ∀ f g, N f = some g → NatOk E P B f g

section
variable {P : Program} {E : Env} {B : Nat} {c : Ctx} {w w' : World} {fx fx' : Nat → Nat} {rho rho' lam : List Nat} {fr : AFrame} {m m' : Mem} {a : Act} {D : Ora}

theorem Good.setDefs (hg : Good E B c w fx rho lam fr m a) {ds : List (FuncId × List AVal)} {dl : List Deferred} (h : DefRep w fx rho ds dl) :
    Good E B c w fx rho lam { fr with defers := ds } m { a with defers := dl } := {
  size := hg.size
  tmp := hg.tmp
  defs := h
  locs := hg.locs
  mem := hg.mem
  fx0 := hg.fx0
  fxb := hg.fxb
  tot := hg.tot
  low := hg.low
  keep := hg.keep
  pre := hg.pre }

theorem leaving_sound (wk : Nat → WK) (S : Setting E P) (X : DfrsOk E P B) (hB : B ≤ c.w0.heap.size) {fn : Func} {base : Nat} (hbase : c.rho0.length = base) {out : Out} : ∀ (ds : List (FuncId × List AVal)) {u : Option AVal} {U : Option Value} {m : Mem} {w : World} {fx : Nat → Nat} {rho : List Nat} {dl : List Deferred},
    leaving E wk fn base fr ds u m = some (out, m') → Good E B c w fx rho lam fr m a → DefRep w fx rho ds dl → GlobOk E w fx → RepU w fx u U → Leaves P fn a.tmps (CallEnd E B c out m') dl (modeOf U) w
  | [], none, none, m, w, fx, rho, dl, h, hg, hd, hG, hu => by
    have hd' : dl = [] := hd
    subst hd'
    simp only [leaving] at h
    split at h
    · rename_i vs hvs
      injection h with h
      injection h with h h'
      subst h; subst h'
      obtain ⟨V, h1, h2⟩ := pack_sound S.fits hg wk hvs
      obtain ⟨rho', h3⟩ := h2.cutMem hbase
      exact ⟨V, h1, V, fx, rho', rfl, h3⟩
    · cases h
  | [], some v, some V, m, w, fx, rho, dl, h, hg, hd, hG, hu => by
    have hd' : dl = [] := hd
    subst hd'
    simp only [leaving] at h
    injection h with h
    injection h with h h'
    subst h; subst h'
    obtain ⟨rho', h3⟩ := (hg.post (out := .pan v) (V := V) hu fun b => Nat.zero_le _).cutMem hbase
    exact ⟨V, fx, rho', rfl, h3⟩
  | (f, args) :: ds, u, U, m, w, fx, rho, dl, h, hg, hd, hG, hu => by
    obtain ⟨d, dr, Vs, rfl, h1, ⟨cap, ht, hv⟩, h3⟩ := hd
    simp only [leaving] at h
    split at h
    · rename_i fnd g hf hgd
      split at h
      · rename_i u' m1 hgm
        obtain ⟨hpf, hbody, hname⟩ := S.fn f fnd hf
        have hos : ∀ b, ownSum args Vs b = 0 := fun b => RepCL.own h1 b
        have hpre := callPre_of (vs := []) (Vs := []) hB hg hG rfl (fun i v V hi => by simp at hi) h1 (fun b => by have := hg.tot b; simp only [ownSum]; omega) (fun b hb => by simp [ownSum] at hb)
        simp only [List.nil_append] at hpre
        have hc := (X f g hgd) args u m u' m1 hgm w fx rho Vs U hpre hu
        have hb2 : fnd.body.isNone = false := by
          cases hb : fnd.body with
          | none => rw [hb] at hbody; cases hbody
          | some _ => rfl
        refine ⟨by cases U <;> simp [modeOf], .func f, cap, f, Vs.toArray, ht, ?_, hc.mono fun e q w1 ⟨hne, U', fx1, rho1, hq, hu1, hpost⟩ => ?_⟩
        · rw [ht]
          simp only [invoke, callFunc, Sem.run_bind, run_program, Result.andThen_ok, hpf, hname, hb2]
          simp only [Bool.false_eq_true, if_false, Sem.run_pure]
          rw [hv]
        · obtain ⟨hg2, _⟩ := hg.afterCall (args := args) (vals := Vs) (fun b => by rw [hos]; exact hg.tot b) (fun b hb => by rw [hos] at hb; omega) hpost
          have hG2 := hG.ext hpost.keep.ext
          have := leaving_sound wk S X hB hbase ds h hg2 (h3.ext hpost.keep.ext hpost.pre) hG2 hu1
          cases e with
          | returned V => simp only; rw [show settle q = modeOf U' from hq]; exact this
          | panicked chain => simp only; rw [show raised q chain = modeOf U' from hq]; exact this
          | outgrown => exact absurd rfl hne
      · cases h
    · cases h

theorem undefs_eq : ∀ n, undefs n = List.replicate n (.tup [])
  | 0 => rfl
  | n + 1 => by rw [undefs, undefs_eq n]; rfl

theorem undefs_rep {n i : Nat} {v : AVal} {V : Value} (hi : (undefs n)[i]? = some v) (hV : (List.replicate n undef)[i]? = some V) : v = .tup [] ∧ V = undef := by
  rw [undefs_eq] at hi
  rw [List.getElem?_replicate] at hi hV
  split at hi
  · rename_i hlt
    rw [if_pos hlt] at hV
    injection hi with hi; injection hV with hV
    exact ⟨hi.symm, hV.symm⟩
  · cases hi
theorem undefs_own (n : Nat) (b : Nat) : ownSum (undefs n) (List.replicate n undef) b = 0 := by
  induction n with
  | zero => rfl
  | succ n ih =>
    rw [undefs, List.replicate_succ]
    simp only [ownSum, ih]
    rfl

theorem entry_good {args : List AVal} {vals : List Value} (hpre : CallPre E B w fx rho args vals m) (n : Nat) :
    Good E B (ctxOf w fx rho args vals m) w fx rho [] { tmps := args ++ undefs n, locs := [], defers := [] } m { tmps := vals.toArray ++ Array.replicate n undef, defers := [] } := by
  have hl : (vals.toArray ++ Array.replicate n undef).toList = vals ++ List.replicate n undef := by simp
  have ht : ∀ b, total w rho [] { tmps := args ++ undefs n, locs := [], defers := [] } m (vals.toArray ++ Array.replicate n undef).toList b = preTot w rho m args vals b := fun b => by
    unfold total preTot
    rw [hl, ownSum_append _ _ _ _ _ hpre.len.symm, undefs_own]
    simp [ownObjs]
  exact {
    size := by simp [hpre.len, undefs_eq]
    tmp := fun i v V hi hV => by
      simp only at hi
      rw [hl] at hV
      rcases Nat.lt_or_ge i args.length with hlt | hge
      · rw [List.getElem?_append_left hlt] at hi
        rw [List.getElem?_append_left (by rw [hpre.len]; exact hlt)] at hV
        exact hpre.rep i v V hi hV
      · rw [List.getElem?_append_right hge] at hi
        rw [List.getElem?_append_right (by rw [hpre.len]; exact hge), hpre.len] at hV
        obtain ⟨rfl, rfl⟩ := undefs_rep hi hV
        exact ⟨⟨[], rfl, rfl⟩, trivial⟩
    defs := rfl
    locs := ⟨rfl, fun i o g ho => by simp at ho⟩
    mem := hpre.mem
    fx0 := fun b hb => hb.elim (hpre.fx0 b) fun h => by simp at h
    fxb := hpre.fxb
    tot := fun b => by rw [ht]; exact hpre.tot b
    low := fun b hb => by
      rw [ht] at hb
      obtain ⟨x, y⟩ := hpre.low b hb
      exact ⟨x, y, fun _ => hb⟩
    keep := { size := Nat.le_refl _, os := rfl, tape := rfl, output := rfl, ext := Ext.refl _ _, block := fun b _ _ => ⟨rfl, rfl⟩ }
    pre := List.prefix_refl _ }

theorem execFunc_sound (S : Setting E P) (X : DfrsOk E P B) (hD : OraOk E P B D) {F : FuncId} {args : List AVal} {out : Out} (h : execFunc E D F args m = some (out, m')) : CallOk E P B F args m out m' := by
  intro w fx rho vals hpre
  unfold execFunc at h
  split at h
  · cases h
  · rename_i fn hfn
    split at h
    · cases h
    · rename_i code hcode
      obtain ⟨hpf, _, _⟩ := S.fn F fn hfn
      have hB : B ≤ (ctxOf w fx rho args vals m).w0.heap.size := hpre.base
      have hbase : (ctxOf w fx rho args vals m).rho0.length = m.length := hpre.mem.1
      refine calls_of_wp_defers hpf hcode ?_
      have hg := entry_good hpre (fn.ntmps - args.length)
      rw [show vals.toArray.size = args.length from hpre.len]
      refine exec_sound S S.mixed hB hD code (S.draws F fn code hfn hcode) (fun b hb => ⟨fn, code, hfn, hcode, hb⟩) h hg hpre.glob fun ex w1 fx1 rho1 lam1 fr1 m1 a1 hk hg1 hG1 => ?_
      cases ex with
      | normal => exact leaving_sound _ S X hB hbase fr1.defers (u := none) (U := none) hk hg1 hg1.defs hG1 trivial
      | ret => exact leaving_sound _ S X hB hbase fr1.defers (u := none) (U := none) hk hg1 hg1.defs hG1 trivial
      | exit id => cases hk
      | pan v => exact fun V hV => leaving_sound _ S X hB hbase fr1.defers (u := some v) (U := some V) hk hg1 hg1.defs hG1 hV

theorem subLoops_trans : ∀ (c : Code) {b b' : Code}, b ∈ subLoops c → b' ∈ subLoops b → b' ∈ subLoops c
  | .seq x y, b, b', h, h' => by
    simp only [subLoops, List.mem_append] at h ⊢
    exact h.imp (fun h => subLoops_trans x h h') fun h => subLoops_trans y h h'
  | .cond _ x y, b, b', h, h' => by
    simp only [subLoops, List.mem_append] at h ⊢
    exact h.imp (fun h => subLoops_trans x h h') fun h => subLoops_trans y h h'
  | .block _ x, b, b', h, h' => by
    simp only [subLoops] at h ⊢
    exact subLoops_trans x h h'
  | .loop x, b, b', h, h' => by
    simp only [subLoops, List.mem_cons] at h ⊢
    rcases h with rfl | h
    · exact .inr h'
    · exact .inr (subLoops_trans x h h')
  | .skip, _, _, h, _ => by simp [subLoops] at h
  | .region _ _ _, _, _, h, _ => by simp [subLoops] at h
  | .exit _, _, _, h, _ => by simp [subLoops] at h
  | .ret, _, _, h, _ => by simp [subLoops] at h
  | .rangeFunc _ _ _ _, _, _, h, _ => by simp [subLoops] at h
  | .scope _, _, _, h, _ => by simp [subLoops] at h
  | .label _, _, _, h, _ => by simp [subLoops] at h
  | .goto _, _, _, h, _ => by simp [subLoops] at h
  | .refuse _, _, _, h, _ => by simp [subLoops] at h

theorem loop_sound (S : Setting E P) (hD : OraOk E P B D) {F : FuncId} {body : Code} (hin : InF E F body) {C : AFrame → Mem → Option (AExit × AFrame × Mem)}
    (hC : ∀ fr m ex fr' m', C fr m = some (ex, fr', m') → LoopOk E P B body fr m ex fr' m') {ex : AExit} {fr' : AFrame}
    (h : exec E D F body fr m (loopK E F C) = some (ex, fr', m')) : LoopOk E P B body fr m ex fr' m' := by
  intro hdr c w fx rho lam a Q hB hg hG hQ b k cs
  have hwp : body.wp P (Exit.then (LoopIn P body Q) Q) a w := by
    refine exec_sound S S.mixed hB hD body hdr (fun b hb => by obtain ⟨fn, c, h1, h2, h3⟩ := hin; exact ⟨fn, c, h1, h2, subLoops_trans c h3 hb⟩) h hg hG fun ex1 w1 fx1 rho1 lam1 fr1 m1 a1 hk hg1 hG1 => ?_
    obtain ⟨lam2, hgn⟩ := hg1.norm F
    cases ex1 with
    | normal => exact hC _ _ _ _ _ hk hdr c w1 fx1 rho1 lam2 a1 Q hB hgn hG1 hQ
    | ret =>
      injection hk with hk; injection hk with h1 hk; injection hk with h2 h3
      subst h1; subst h2; subst h3
      exact hQ _ _ _ _ _ hgn hG1
    | exit id =>
      injection hk with hk; injection hk with h1 hk; injection hk with h2 h3
      subst h1; subst h2; subst h3
      exact hQ _ _ _ _ _ hgn hG1
    | pan v =>
      injection hk with hk; injection hk with h1 hk; injection hk with h2 h3
      subst h1; subst h2; subst h3
      exact hQ _ _ _ _ _ hgn hG1
  obtain ⟨e, a₁, w₁, hq, harr⟩ := hwp b (.inLoop body :: k) cs
  cases e with
  | normal =>
    obtain ⟨e₂, a₂, w₂, hq₂, harr₂⟩ := hq b k cs
    exact ⟨e₂, a₂, w₂, hq₂, .of_steps (Steps.trans harr (.one step_inLoop)) harr₂⟩
  | exit id => exact ⟨_, a₁, w₁, hq, .pass (x := .inLoop body) rfl (fun _ _ => .inl (by simp)) harr⟩
  | goto l => exact ⟨_, a₁, w₁, hq, .pass (x := .inLoop body) rfl (fun _ _ => .inl (by simp)) harr⟩
  | ret => exact ⟨_, a₁, w₁, hq, .pass (x := .inLoop body) rfl (fun _ _ => .inl (by simp)) harr⟩
  | panic ch => exact ⟨_, a₁, w₁, hq, .pass (x := .inLoop body) rfl (fun _ _ => .inl (by simp)) harr⟩
  | outgrown => exact ⟨_, a₁, w₁, hq, .pass (x := .inLoop body) rfl (fun _ _ => .inl (by simp)) harr⟩

/-- a loop by fuel -/
theorem loop_fuel (S : Setting E P) (hD : OraOk E P B D) {F : FuncId} {body : Code} (hin : InF E F body) {C : Nat → AFrame → Mem → Option (AExit × AFrame × Mem)} (h0 : ∀ fr m, C 0 fr m = none)
    (hs : ∀ j fr m r, C (j + 1) fr m = some r → exec E D F body fr m (loopK E F (C j)) = some r) : ∀ j fr m ex fr' m', C j fr m = some (ex, fr', m') → LoopOk E P B body fr m ex fr' m'
  | 0, fr, m, ex, fr', m', h => by rw [h0] at h; cases h
  | j + 1, fr, m, ex, fr', m', h => loop_sound S hD hin (loop_fuel S hD hin h0 hs j) (hs j fr m _ h)

/-- a summary of loops tells what they do -/
def LoopsOk (E : Env) (P : Program) (B : Nat) (L : LNats) : Prop := ∀ F body g, InF E F body → L F (keyOf body) = some g → ∀ fr m ex fr' m', (g fr m).eval = some (ex, fr', m') → LoopOk E P B body fr m ex fr' m'
theorem noLoops_ok : LoopsOk E P B noLoops := fun F body g _ h => by cases h
theorem noCalls_ok : NatsOk E P B noCalls := fun f g h => by cases h
theorem ora_ok {N : CNats} {L : LNats} (hN : NatsOk E P B N) (hL : LoopsOk E P B L) : OraOk E P B (ora N L) := by
  refine ⟨fun f args m out m' h => ?_, fun F body fr m ex fr' m' hin h => ?_⟩
  · simp only [ora] at h
    split at h
    · rename_i g hg
      exact hN f g hg args m out m' h
    · cases h
  · simp only [ora] at h
    split at h
    · rename_i g hg
      exact hL F body g hin hg fr m ex fr' m' h
    · cases h
theorem denN_sound (S : Setting E P) (X : DfrsOk E P B) {N : CNats} (hN : NatsOk E P B N) : ∀ n, OraOk E P B (denN E N n)
  | 0 => ⟨fun f args m out m' h => (by cases h), fun F body fr m ex fr' m' _ h => (by cases h)⟩
  | n + 1 => by
    have ih := denN_sound S X hN n
    refine ⟨fun f args m out m' h => ?_, fun F body fr m ex fr' m' hin h => ?_⟩
    · simp only [denN] at h
      split at h
      · rename_i g hg
        exact hN f g hg args m out m' h
      · exact execFunc_sound S X ih h
    · exact loop_sound S ih hin (fun fr m ex fr' m' h => ih.loop _ _ _ _ _ _ _ hin h) h

end
end Go.Abs
