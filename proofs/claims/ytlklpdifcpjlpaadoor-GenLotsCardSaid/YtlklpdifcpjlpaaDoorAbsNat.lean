/- Summaries: how they are laid, and how a contract of the library becomes one. -/
import Derived.Test.YtlklpdifcpjlpaaDoorAbsTree
namespace Go.Abs
open Go.RowKit
set_option linter.unusedSectionVars false
set_option linter.unusedVariables false

theorem isI_int (k : IntKind) (n : Int) : isI k (.int k n) = true := by simp [isI]
theorem getI_int (k : IntKind) (n : Int) : getI (.int k n) = n := rfl
theorem cell_zero (v : AVal) (r : List AVal) : cellAt (v :: r) 0 = v := rfl
theorem cell_succ (v : AVal) (r : List AVal) (n : Nat) : cellAt (v :: r) (n + 1) = cellAt r n := rfl
theorem nthL_map {α : Type} (f : α → List AVal) (l : List α) (i : Nat) (h : i < l.length) : nthL (l.map f) i = f l[i] := by
  simp [nthL, List.getD_eq_getElem?_getD, h]
def addN (f : Nat) (g : List AVal → Mem → CT (Out × Mem)) (N : CNats) : CNats := fun f' => match Nat.beq f' f with
  | true => some g
  | false => N f'
/-- one loop's summary -/
def addL (F k : Nat) (g : AFrame → Mem → CT (AExit × AFrame × Mem)) (L : LNats) : LNats := fun F' key => match Nat.beq F' F with
  | true => (match key with
    | some k' => (match Nat.beq k' k with
      | true => some g
      | false => L F' key)
    | none => L F' key)
  | false => L F' key

section
variable {P : Program} {E : Env} {B : Nat} {c : Ctx} {w w' : World} {fx fx' : Nat → Nat} {rho rho' lam : List Nat} {fr : AFrame} {m m' : Mem} {a : Act} {D : Ora}

theorem addN_ok {f : Nat} {g : List AVal → Mem → CT (Out × Mem)} {N : CNats} (hg : NatOk E P B f g) (hN : NatsOk E P B N) : NatsOk E P B (addN f g N) := by
  intro f' g' h
  unfold addN at h
  split at h
  · rename_i he
    injection h with h; subst h
    obtain rfl := Nat.eq_of_beq_eq_true he
    exact hg
  · exact hN f' g' h
/-- what the summary of a loop must tell -/
def LoopNat (E : Env) (P : Program) (B : Nat) (body : Code) (g : AFrame → Mem → CT (AExit × AFrame × Mem)) : Prop :=
  ∀ fr m ex fr' m', (g fr m).eval = some (ex, fr', m') → LoopOk E P B body fr m ex fr' m'
theorem addL_ok {F k : Nat} {g : AFrame → Mem → CT (AExit × AFrame × Mem)} {L : LNats} {fn : Func} {c : Code} {body : Code} (hfn : E.fn F = some fn) (hc : fn.body = some c)
    (hb : ∀ b ∈ subLoops c, keyOf b = some k → b = body) (hg : LoopNat E P B body g) (hL : LoopsOk E P B L) : LoopsOk E P B (addL F k g L) := by
  intro F' b g' hin h fr m ex fr' m' hx
  unfold addL at h
  split at h
  · rename_i he
    obtain rfl := Nat.eq_of_beq_eq_true he
    split at h
    · rename_i k' hk
      split at h
      · rename_i hk2
        obtain rfl := Nat.eq_of_beq_eq_true hk2
        injection h with h; subst h
        obtain ⟨fn', c', h1, h2, h3⟩ := hin
        rw [hfn] at h1; injection h1 with h1; subst h1
        rw [hc] at h2; injection h2 with h2; subst h2
        obtain rfl := hb b h3 hk
        exact hg fr m ex fr' m' hx
      · exact hL F' b g' hin h fr m ex fr' m' hx
    · exact hL F' b g' hin h fr m ex fr' m' hx
  · exact hL F' b g' hin h fr m ex fr' m' hx
/-- the n-th loop alone has its key -/
def keyB (c : Code) (n k : Nat) : Bool := ((subLoops c).zipIdx.all fun p => match keyOf p.1 with
  | some k' => !Nat.beq k' k || Nat.beq p.2 n
  | none => true)
theorem keyB_ok {c : Code} {n k : Nat} {body : Code} (h : keyB c n k = true) (hb : (subLoops c)[n]? = some body) : ∀ b ∈ subLoops c, keyOf b = some k → b = body := by
  intro b hm hk
  obtain ⟨i, hi⟩ := List.getElem?_of_mem hm
  have h1 := List.all_eq_true.1 h (b, i) (List.mem_zipIdx_iff_getElem?.2 hi)
  simp only [hk] at h1
  have h2 : Nat.beq i n = true := by
    rw [Bool.or_eq_true] at h1
    rcases h1 with h1 | h1
    · rw [show Nat.beq k k = true from by simp] at h1; cases h1
    · exact h1
  have h3 := Nat.eq_of_beq_eq_true h2
  subst h3
  rw [hi] at hb; injection hb
theorem inF_of {F : Nat} {fn : Func} {c : Code} {body : Code} (hfn : E.fn F = some fn) (hc : fn.body = some c) {n : Nat} (hb : (subLoops c)[n]? = some body) : InF E F body :=
  ⟨fn, c, hfn, hc, List.mem_of_getElem? hb⟩

theorem call_of_tree (S : Setting E P) (X : DfrsOk E P B) {N : CNats} (hN : NatsOk E P B N) {L : LNats} (hL : LoopsOk E P B L) {f : FuncId} {args : List AVal} {out : Out}
    (h : execFunc E (ora N L) f args m = some (out, m')) : CallOk E P B f args m out m' := execFunc_sound S X (ora_ok hN hL) h
theorem call_of_run (S : Setting E P) (X : DfrsOk E P B) {N : CNats} (hN : NatsOk E P B N) (k : Nat) {f : FuncId} {args : List AVal} {out : Out}
    (h : execFunc E (denN E N k) f args m = some (out, m')) : CallOk E P B f args m out m' := execFunc_sound S X (denN_sound S X hN k) h

/-- behind a call that turns nothing that was there -/
theorem post_below {args : List AVal} {vals : List Value} (hpre : CallPre E B w fx rho args vals m) (hb : Below w.heap.size w w') {v : AVal} {V : Value} (hr : RepT w' fx rho [] v V) (hn : noRow v = true) :
    CallPost E B (ctxOf w fx rho args vals m) (.ret v) m V w' fx rho := by
  have hx : Ext w fx w' fx := ⟨fun _ => Nat.le_refl _, fun b off ho => by
    have hlt : b < w.heap.size := by
      rcases Nat.lt_or_ge b w.heap.size with h | h
      · exact h
      · rw [hpre.fxb b h] at ho; omega
    simp only [World.cell?, hb.block b hlt], fun b off h0 hn => by
    have hlt : b < w.heap.size := by
      rcases Nat.lt_or_ge b w.heap.size with h | h
      · exact h
      · rw [hpre.fxb b h] at h0; omega
    simpa only [World.cell?, hb.block b hlt] using hn⟩
  have hlow : ∀ b, 0 < preTot w rho m args vals b → w'.heap[b]? = w.heap[b]? := fun b h => hb.block b (hpre.low b h).2
  have hrho : ∀ g ∈ rho, w'.heap[g]? = w.heap[g]? := fun g hg => hlow g (by have := List.count_pos_iff.2 hg; unfold preTot; omega)
  have ho : ∀ b, ownObjs w' m rho b = ownObjs w m rho b := fun b => ownObjs_world _ _ _ hrho
  have hv : ∀ b, outOwn (.ret v) V b = 0 := fun b => noRow_own hn V b
  exact {
    rep := ⟨hr, noRow_ok hn V⟩
    mem := hpre.mem.ext hx (List.prefix_refl _) hrho fun b h => ⟨hlow b (by unfold preTot; omega), rfl⟩
    fx0 := hpre.fx0
    fxb := fun b h => hpre.fxb b (Nat.le_trans hb.size h)
    tot := fun b => by have := hpre.tot b; rw [hv, ho]; unfold preTot at this; omega
    low := fun b h => by
      rw [hv, ho] at h
      have h1 : 0 < preTot w rho m args vals b := by unfold preTot; omega
      obtain ⟨x, y⟩ := hpre.low b h1
      exact ⟨x, Nat.lt_of_lt_of_le y hb.size, fun _ => h1⟩
    keep := {
      size := hb.size
      os := hb.os
      tape := hb.tape
      output := hb.output
      ext := hx
      block := fun b h _ => ⟨hb.block b h, rfl⟩ }
    pre := List.prefix_refl _ }
/-- a contract of the library, where nothing that was there is turned and the result is the same in every memory -/
theorem nat_below {f : FuncId} {args : List AVal} {v : AVal} (hn : noRow v = true) (h : ∀ w fx rho vals, CallPre E B w fx rho args vals m → Calls P f vals.toArray w fun e w' => ∃ V, e = .returned V ∧ RepT w' fx rho [] v V ∧ Below w.heap.size w w') :
    CallOk E P B f args m (.ret v) m := fun w fx rho vals hpre => (h w fx rho vals hpre).mono fun e w' ⟨V, he, hr, hb⟩ => ⟨V, fx, rho, he, post_below hpre hb hr hn⟩
theorem CallPre.val {args : List AVal} {vals : List Value} (h : CallPre E B w fx rho args vals m) {i : Nat} {v : AVal} (hi : args[i]? = some v) : ∃ V, vals[i]? = some V ∧ RepT w fx rho [] v V := by
  have hlt : i < args.length := by
    rcases Nat.lt_or_ge i args.length with h | h
    · exact h
    · simp [List.getElem?_eq_none h] at hi
  have hlt' : i < vals.length := by rw [h.len]; exact hlt
  exact ⟨vals[i], List.getElem?_eq_getElem hlt', (h.rep i v _ hi (List.getElem?_eq_getElem hlt')).1⟩

/-! ### A call that is handed no pointer does not see the objects -/
def flatO : AVal → Bool
  | .ptr .. => false
  | .mapp _ => false
  | .fn _ (_ :: _) => false
  | _ => true
def flat : AVal → Bool
  | .loc .. => false
  | .tup vs => vs.all flatO
  | v => flatO v
theorem RepO.norho {v : AVal} {V : Value} (hf : flatO v = true) (h : RepO w fx rho v V) : RepO w fx rho' v V := by
  cases v with
  | ptr _ _ => cases hf
  | mapp _ => cases hf
  | fn f caps =>
    cases caps with
    | nil => exact h
    | cons _ _ => cases hf
  | slice own es => cases own <;> exact h
  | _ => exact h
theorem RepOL.norho : ∀ {l : List AVal} {Vs : List Value}, (∀ v ∈ l, flatO v = true) → RepOL w fx rho l Vs → RepOL w fx rho' l Vs
  | [], _, _, h => h
  | v :: r, _, hf, h => by
    obtain ⟨V, Vr, rfl, h1, h2⟩ := h
    exact ⟨V, Vr, rfl, h1.norho (hf v (List.mem_cons_self ..)), RepOL.norho (l := r) (fun v hv => hf v (List.mem_cons_of_mem _ hv)) h2⟩
theorem flatO_disown (v : AVal) : flatO (disown v) = flatO v := by
  cases v <;> try rfl
  rename_i own es; cases own <;> rfl
theorem RepT.norho {v : AVal} {V : Value} (hf : flat v = true) (h : RepT w fx rho lam v V) : RepT w fx rho' lam v V := by
  cases v with
  | any => trivial
  | loc _ _ => cases hf
  | tup vs =>
    obtain ⟨Vs, h1, h2⟩ := h
    refine ⟨Vs, h1, RepOL.norho (fun v hv => ?_) h2⟩
    obtain ⟨u, hu, rfl⟩ := List.mem_map.1 hv
    rw [flatO_disown]
    exact List.all_eq_true.1 hf u hu
  | ptr _ _ => cases hf
  | mapp _ => cases hf
  | fn f caps => exact RepO.norho (v := .fn f caps) hf h
  | slice own es => exact RepO.norho (v := .slice own es) hf h
  | _ => exact h
theorem call_frame {f : FuncId} {args : List AVal} {out : Out} (ha : ∀ v ∈ args, flat v = true) (ho : flat (valOf out) = true) (h : CallOk E P B f args [] out []) : CallOk E P B f args m out m := by
  intro w fx rho vals hpre
  have hle : ∀ b, preTot w [] [] args vals b + (rho.count b + ownObjs w m rho b) = preTot w rho m args vals b := fun b => by
    unfold preTot; simp [ownObjs]; omega
  have hpre' : CallPre E B w fx [] args vals [] := {
    len := hpre.len
    rep := fun i v V hi hV => ⟨(hpre.rep i v V hi hV).1.norho (ha v (List.mem_of_getElem? hi)), (hpre.rep i v V hi hV).2⟩
    mem := ⟨rfl, fun i o g hi => by simp at hi⟩
    fx0 := fun b hb => by simp at hb
    fxb := hpre.fxb
    tot := fun b => by have := hpre.tot b; have := hle b; omega
    low := fun b hb => hpre.low b (by have := hle b; omega)
    glob := hpre.glob
    base := hpre.base }
  refine (h w fx [] vals hpre').mono fun e w' ⟨V, fx', rho', he, hp⟩ => ⟨V, fx', rho, he, ?_⟩
  have hr0 : rho' = [] := by
    have := hp.mem.1
    exact List.eq_nil_of_length_eq_zero this
  subst hr0
  have hsame : ∀ b, 0 < rho.count b + ownObjs w m rho b → w'.heap[b]? = w.heap[b]? ∧ fx' b = fx b := fun b hb => by
    have h1 := hle b
    have h2 := hpre.tot b
    exact hp.keep.block b (hpre.low b (by omega)).2 (by show ¬ (0 < preTot w [] [] args vals b); omega)
  have hrho : ∀ g ∈ rho, w'.heap[g]? = w.heap[g]? := fun g hg => (hsame g (by have := List.count_pos_iff.2 hg; omega)).1
  have hob : ∀ b, ownObjs w' m rho b = ownObjs w m rho b := fun b => ownObjs_world _ _ _ hrho
  have hsep : ∀ b, 0 < rho.count b + ownObjs w m rho b → outOwn out V b = 0 := fun b hb => by
    rcases Nat.eq_zero_or_pos (outOwn out V b) with h0 | h0
    · exact h0
    · have h1 := hle b
      have h2 := hpre.tot b
      have h3 := (hpre.low b (by omega)).2
      have h4 := (hp.low b (by omega)).2.2 h3
      have h4 : 0 < preTot w [] [] args vals b := h4
      omega
  exact {
    rep := by
      have := hp.rep
      cases out with
      | ret v => exact ⟨this.1.norho ho, this.2⟩
      | pan v => exact this
    mem := hpre.mem.ext hp.keep.ext (List.prefix_refl _) hrho fun b hb => hsame b (by omega)
    fx0 := fun b hb => by
      rw [(hsame b (by have := List.count_pos_iff.2 hb; omega)).2]
      exact hpre.fx0 b hb
    fxb := hp.fxb
    tot := fun b => by
      rw [hob]
      rcases Nat.eq_zero_or_pos (rho.count b + ownObjs w m rho b) with h0 | h0
      · have := hp.tot b
        have e : ([] : List Nat).count b = 0 := rfl
        omega
      · have := hsep b h0
        have := hle b
        have := hpre.tot b
        omega
    low := fun b hb => by
      rw [hob] at hb
      rcases Nat.eq_zero_or_pos (rho.count b + ownObjs w m rho b) with h0 | h0
      · obtain ⟨x, y, z⟩ := hp.low b (by omega)
        refine ⟨x, y, fun hlt => ?_⟩
        have z' : 0 < preTot w [] [] args vals b := z hlt
        show 0 < preTot w rho m args vals b
        have := hle b
        omega
      · have h1 : 0 < preTot w rho m args vals b := by have := hle b; omega
        obtain ⟨x, y⟩ := hpre.low b h1
        exact ⟨x, Nat.lt_of_lt_of_le y hp.keep.size, fun _ => h1⟩
    keep := {
      size := hp.keep.size
      os := hp.keep.os
      tape := hp.keep.tape
      output := hp.keep.output
      ext := hp.keep.ext
      block := fun b hb hS => hp.keep.block b hb (fun h => hS (by
        have h : 0 < preTot w [] [] args vals b := h
        show 0 < preTot w rho m args vals b
        have := hle b
        omega)) }
    pre := List.prefix_refl _ }
end
end Go.Abs
