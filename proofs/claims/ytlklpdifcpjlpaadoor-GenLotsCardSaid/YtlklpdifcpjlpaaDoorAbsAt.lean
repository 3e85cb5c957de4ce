/- A call that is handed pointers to one object alone does not see the others, wherever that object stands. -/
import Derived.Test.YtlklpdifcpjlpaaDoorAbsFrame
namespace Go.Abs
open Go.RowKit
set_option linter.unusedSectionVars false
set_option linter.unusedVariables false
set_option linter.unusedSimpArgs false
def noPtr : AVal → Bool
  | .ptr .. => false
  | .mapp _ => false
  | .loc .. => false
  | .fn _ cs => cs.all fun | .ptr .. => false | _ => true
  | .tup _ => false
  | _ => true
/-- a value that may point to object 0 alone -/
def one0 : AVal → Bool
  | .ptr o _ => Nat.beq o 0
  | v => noPtr v
def oneT : AVal → Bool
  | .tup vs => vs.all one0
  | v => one0 v
def upV (j : Nat) : AVal → AVal
  | .ptr _ off => .ptr j off
  | v => v
def upT (j : Nat) : AVal → AVal
  | .tup vs => .tup (vs.map (upV j))
  | v => upV j v
def upO (j : Nat) : AObj → AObj
  | .cells l => .cells (l.map (upV j))
  | o => o
def oneO : AObj → Bool
  | .cells l => l.all one0
  | _ => true
def upOut (j : Nat) : Out → Out
  | .ret v => .ret (upT j v)
  | .pan v => .pan v
section
variable {P : Program} {E : Env} {B : Nat} {c : Ctx} {w w' : World} {fx fx' : Nat → Nat} {rho rho' lam : List Nat} {fr : AFrame} {m m' : Mem} {a : Act} {D : Ora}
theorem upV_own (j : Nat) (v : AVal) (V : Value) (b : Nat) : ownB (upV j v) V b = ownB v V b := by
  cases v <;> rfl
theorem upV_ownOk (j : Nat) {v : AVal} {V : Value} : OwnOk E B w fx (upV j v) V ↔ OwnOk E B w fx v V := by
  cases v <;> exact Iff.rfl
theorem ownSum_up (j : Nat) : ∀ (l : List AVal) (Vs : List Value) (b : Nat), ownSum (l.map (upV j)) Vs b = ownSum l Vs b
  | [], _, _ => rfl
  | _ :: _, [], _ => rfl
  | v :: r, V :: Vr, b => by simp only [List.map_cons, ownSum, upV_own, ownSum_up j r Vr b]
theorem ownObj_up (j : Nat) (o : AObj) (g b : Nat) : ownObj w (upO j o) g b = ownObj w o g b := by
  cases o with
  | cells l => simp only [upO, ownObj, ownSum_up]
  | _ => rfl
theorem RepC.noP {v : AVal} {V : Value} {r r' : List Nat} (hf : (match v with | .ptr .. => false | _ => true) = true) (h : RepC w fx r v V) : RepC w fx r' v V := by
  cases v <;> first | exact h | cases hf
theorem RepCL.noP {r r' : List Nat} : ∀ {l : List AVal} {Vs : List Value}, (∀ v ∈ l, (match v with | .ptr .. => false | _ => true) = true) → RepCL w fx r l Vs → RepCL w fx r' l Vs
  | [], _, _, h => h
  | v :: l, _, hf, h => by
    obtain ⟨V, Vr, rfl, h1, h2⟩ := h
    exact ⟨V, Vr, rfl, h1.noP (hf v (List.mem_cons_self ..)), RepCL.noP (l := l) (fun v hv => hf v (List.mem_cons_of_mem _ hv)) h2⟩
theorem RepO.noP {v : AVal} {V : Value} {r r' : List Nat} (hf : noPtr v = true) (h : RepO w fx r v V) : RepO w fx r' v V := by
  cases v with
  | ptr o off => cases hf
  | mapp o => cases hf
  | fn f caps => obtain ⟨Vs, h1, h2⟩ := h; exact ⟨Vs, h1, h2.noP (List.all_eq_true.1 hf)⟩
  | slice own es => cases own <;> exact h
  | _ => exact h
/-- down: from the caller's numbers to the one object's -/
theorem RepO.down {j g : Nat} {v : AVal} {V : Value} (hg : rho[j]? = some g) (hf : one0 v = true) (h : RepO w fx rho (upV j v) V) : RepO w fx [g] v V := by
  cases v with
  | ptr o off =>
    obtain ⟨b, h1, h2⟩ := h
    obtain rfl := Option.some.inj (hg.symm.trans h1)
    obtain rfl := Nat.eq_of_beq_eq_true hf
    exact ⟨g, rfl, h2⟩
  | fn f caps => exact RepO.noP (v := .fn f caps) hf h
  | mapp o => cases hf
  | slice own es => exact RepO.noP (v := .slice own es) rfl h
  | _ => exact h
theorem RepO.up {j g : Nat} {v : AVal} {V : Value} (hg : rho[j]? = some g) (hf : one0 v = true) (h : RepO w fx [g] v V) : RepO w fx rho (upV j v) V := by
  cases v with
  | ptr o off =>
    obtain ⟨b, h1, h2⟩ := h
    obtain rfl := Nat.eq_of_beq_eq_true hf
    obtain rfl : g = b := by simpa using h1
    exact ⟨g, hg, h2⟩
  | fn f caps => exact RepO.noP (v := .fn f caps) hf h
  | mapp o => cases hf
  | slice own es => exact RepO.noP (v := .slice own es) rfl h
  | _ => exact h
theorem RepOL.down {j g : Nat} (hg : rho[j]? = some g) : ∀ {l : List AVal} {Vs : List Value}, (∀ v ∈ l, one0 v = true) → RepOL w fx rho (l.map (upV j)) Vs → RepOL w fx [g] l Vs
  | [], _, _, h => h
  | v :: r, _, hf, h => by
    obtain ⟨V, Vr, rfl, h1, h2⟩ := h
    exact ⟨V, Vr, rfl, h1.down hg (hf v (List.mem_cons_self ..)), RepOL.down hg (l := r) (fun v hv => hf v (List.mem_cons_of_mem _ hv)) h2⟩
theorem RepOL.up {j g : Nat} (hg : rho[j]? = some g) : ∀ {l : List AVal} {Vs : List Value}, (∀ v ∈ l, one0 v = true) → RepOL w fx [g] l Vs → RepOL w fx rho (l.map (upV j)) Vs
  | [], _, _, h => h
  | v :: r, _, hf, h => by
    obtain ⟨V, Vr, rfl, h1, h2⟩ := h
    exact ⟨V, Vr, rfl, h1.up hg (hf v (List.mem_cons_self ..)), RepOL.up hg (l := r) (fun v hv => hf v (List.mem_cons_of_mem _ hv)) h2⟩
theorem one0_disown {v : AVal} (h : one0 v = true) : one0 (disown v) = true := by
  cases v <;> try exact h
  rename_i own es; cases own <;> rfl
theorem upV_disown (j : Nat) (v : AVal) : disown (upV j v) = upV j (disown v) := by
  cases v <;> try rfl
  rename_i own es; cases own <;> rfl
theorem RepT.down {j g : Nat} {v : AVal} {V : Value} (hg : rho[j]? = some g) (hf : oneT v = true) (h : RepT w fx rho [] (upT j v) V) : RepT w fx [g] [] v V := by
  cases v with
  | any => trivial
  | loc _ _ => cases hf
  | tup vs =>
    obtain ⟨Vs, h1, h2⟩ := h
    refine ⟨Vs, h1, RepOL.down hg (fun v hv => ?_) (l := vs.map Abs.disown) ?_⟩
    · obtain ⟨u, hu, rfl⟩ := List.mem_map.1 hv
      exact one0_disown (List.all_eq_true.1 hf u hu)
    · rw [List.map_map] at h2 ⊢
      have : (Abs.disown ∘ upV j) = (upV j ∘ Abs.disown) := by funext v; exact upV_disown j v
      rw [this] at h2; exact h2
  | ptr o off => exact RepO.down (w := w) (fx := fx) (v := .ptr o off) hg hf h
  | mapp o => cases hf
  | fn f caps => exact RepO.down (v := .fn f caps) hg hf h
  | slice own es => exact RepO.down (v := .slice own es) hg rfl h
  | _ => exact h
theorem RepT.up {j g : Nat} {v : AVal} {V : Value} (hg : rho[j]? = some g) (hf : oneT v = true) (h : RepT w fx [g] [] v V) : RepT w fx rho [] (upT j v) V := by
  cases v with
  | any => trivial
  | loc _ _ => cases hf
  | tup vs =>
    obtain ⟨Vs, h1, h2⟩ := h
    refine ⟨Vs, h1, ?_⟩
    have h3 := RepOL.up (j := j) (rho := rho) hg (l := vs.map Abs.disown) (fun v hv => by
      obtain ⟨u, hu, rfl⟩ := List.mem_map.1 hv
      exact one0_disown (List.all_eq_true.1 hf u hu)) h2
    rw [List.map_map] at h3 ⊢
    have : (Abs.disown ∘ upV j) = (upV j ∘ Abs.disown) := by funext v; exact upV_disown j v
    rw [this]; exact h3
  | ptr o off => exact RepO.up (w := w) (fx := fx) (v := .ptr o off) hg hf h
  | mapp o => cases hf
  | fn f caps => exact RepO.up (v := .fn f caps) hg hf h
  | slice own es => exact RepO.up (v := .slice own es) hg rfl h
  | _ => exact h
theorem hold_up {j : Nat} {v : AVal} (hf : one0 v = true) : mayHold j (upV j v) = mayHold 0 v := by
  cases v with
  | ptr o off =>
    obtain rfl := Nat.eq_of_beq_eq_true hf
    simp [upV, mayHold]
  | fn f cs =>
    simp only [upV, mayHold]
    have hf : ∀ v ∈ cs, (match v with | .ptr .. => false | _ => true) = true := List.all_eq_true.1 hf
    rw [Bool.eq_iff_iff, List.all_eq_true, List.all_eq_true]
    constructor
    · intro h v hv
      have h1 := hf v hv
      have h2 := h v hv
      cases v <;> first | exact h2 | cases h1
    · intro h v hv
      have h1 := hf v hv
      have h2 := h v hv
      cases v <;> first | exact h2 | cases h1
  | mapp o => cases hf
  | _ => rfl
theorem isBld_up (j : Nat) (l : List AVal) : isBld (l.map (upV j)) = isBld l := by
  match l with
  | [] => rfl
  | [a] => cases a <;> rfl
  | [a, b] =>
    cases a <;> cases b <;> first | rfl | (rename_i own es; cases own <;> rfl)
  | a :: b :: c :: r => cases a <;> cases b <;> first | rfl | (rename_i own es; cases own <;> rfl)
theorem ObjRep.down {j g : Nat} {o : AObj} (hg : rho[j]? = some g) (hf : oneO o = true) (h : ObjRep E B w fx rho (mayHold j) (upO j o) g) : ObjRep E B w fx [g] (mayHold 0) o g := by
  cases o with
  | cells l =>
    obtain ⟨arr, et, h1, h2, h3, h5⟩ := h
    have hl : ∀ v ∈ l, one0 v = true := List.all_eq_true.1 hf
    refine ⟨arr, et, h1, h2.down hg hl, fun i v V hi hV => ?_, fun T hT hb => h5 T hT (by rw [isBld_up]; exact hb)⟩
    obtain ⟨a1, a2, a3⟩ := h3 i (upV j v) V (by rw [List.getElem?_map, hi]; rfl) hV
    exact ⟨(upV_ownOk j).1 a1, a2, by rw [hold_up (hl v (List.mem_of_getElem? hi))] at a3; exact a3⟩
  | iter s pos => exact h
  | map kk es => exact h
theorem ObjRep.up {j g : Nat} {o : AObj} (hg : rho[j]? = some g) (hf : oneO o = true) (h : ObjRep E B w fx [g] (mayHold 0) o g) : ObjRep E B w fx rho (mayHold j) (upO j o) g := by
  cases o with
  | cells l =>
    obtain ⟨arr, et, h1, h2, h3, h5⟩ := h
    have hl : ∀ v ∈ l, one0 v = true := List.all_eq_true.1 hf
    refine ⟨arr, et, h1, h2.up hg hl, fun i v V hi hV => ?_, fun T hT hb => h5 T hT (by rw [isBld_up] at hb; exact hb)⟩
    rw [List.getElem?_map, Option.map_eq_some_iff] at hi
    obtain ⟨u, hu, rfl⟩ := hi
    obtain ⟨a1, a2, a3⟩ := h3 i u V hu hV
    exact ⟨(upV_ownOk j).2 a1, a2, by rw [hold_up (hl u (List.mem_of_getElem? hu))]; exact a3⟩
  | iter s pos => exact h
  | map kk es => exact h
theorem upT_own (j : Nat) (v : AVal) (V : Value) (b : Nat) : ownB (upT j v) V b = ownB v V b := by
  cases v <;> rfl
theorem upT_ownOk (j : Nat) {v : AVal} {V : Value} : OwnOk E B w fx (upT j v) V ↔ OwnOk E B w fx v V := by
  cases v <;> exact Iff.rfl
theorem ownSum_upT (j : Nat) : ∀ (l : List AVal) (Vs : List Value) (b : Nat), ownSum (l.map (upT j)) Vs b = ownSum l Vs b
  | [], _, _ => rfl
  | _ :: _, [], _ => rfl
  | v :: r, V :: Vr, b => by simp only [List.map_cons, ownSum, upT_own, ownSum_upT j r Vr b]
theorem outOwn_up (j : Nat) (out : Out) (V : Value) (b : Nat) : outOwn (upOut j out) V b = outOwn out V b := by
  cases out with
  | ret v => exact upT_own j v V b
  | pan v => rfl
theorem split_at {α : Type} {l : List α} {j : Nat} {x : α} (h : l[j]? = some x) : ∃ p q, l = p ++ x :: q ∧ p.length = j := by
  have hlt : j < l.length := by
    rcases Nat.lt_or_ge j l.length with h' | h'
    · exact h'
    · rw [List.getElem?_eq_none h'] at h; cases h
  refine ⟨l.take j, l.drop (j + 1), ?_, by simp; omega⟩
  rw [List.getElem?_eq_getElem hlt] at h
  injection h with h
  rw [← h, ← List.drop_eq_getElem_cons hlt, List.take_append_drop]
def outOne : Out → Bool
  | .ret v => oneT v
  | .pan _ => true
theorem call_at {f : FuncId} {args : List AVal} {out : Out} {o o' : AObj} {m : Mem} {j : Nat} (ha : ∀ v ∈ args, oneT v = true) (ho : oneO o = true) (ho' : oneO o' = true) (hout : outOne out = true)
    (hm : m[j]? = some (upO j o)) (h : CallOk E P B f args [o] out [o']) : CallOk E P B f (args.map (upT j)) m (upOut j out) (m.set j (upO j o')) := by
  intro w fx rho vals hpre
  have hlen : rho.length = m.length := hpre.mem.1
  have hjm : j < m.length := by
    rcases Nat.lt_or_ge j m.length with h' | h'
    · exact h'
    · rw [List.getElem?_eq_none h'] at hm; cases hm
  obtain ⟨g, hg⟩ : ∃ g, rho[j]? = some g := ⟨rho[j], List.getElem?_eq_getElem (by omega)⟩
  obtain ⟨m1, m2, hme, hm1⟩ := split_at hm
  obtain ⟨r1, r2, hre, hr1⟩ := split_at hg
  have hset : m.set j (upO j o') = m1 ++ upO j o' :: m2 := by
    rw [hme, List.set_append_right _ _ (by omega), hm1, Nat.sub_self]; rfl
  have hl12 : m1.length = r1.length := by omega
  let R : Nat → Nat := fun b => r1.count b + r2.count b + ownObjs w m1 r1 b + ownObjs w m2 r2 b
  have hR : ∀ b, R b = r1.count b + r2.count b + ownObjs w m1 r1 b + ownObjs w m2 r2 b := fun _ => rfl
  have hcount : ∀ b, rho.count b = [g].count b + (r1.count b + r2.count b) := fun b => by
    rw [hre, List.count_append, List.count_cons, List.count_singleton]; omega
  have hown : ∀ (W : World) (x : AObj) b, ownObjs W (m1 ++ x :: m2) rho b = ownObj W x g b + (ownObjs W m1 r1 b + ownObjs W m2 r2 b) := fun W x b => by
    rw [hre, ownObjs_append W m1 (x :: m2) r1 (g :: r2) b hl12]
    simp only [ownObjs]; omega
  have hle : ∀ b, preTot w [g] [o] args vals b + R b = preTot w rho m (args.map (upT j)) vals b := fun b => by
    unfold preTot
    rw [hcount b, ownSum_upT, hme, hown w (upO j o) b, ownObj_up, hR]
    simp only [ownObjs]; omega
  have hmemj := hpre.mem.2 j (upO j o) g hm hg
  have hpre' : CallPre E B w fx [g] args vals [o] := {
    len := by have := hpre.len; simpa using this
    rep := fun i v V hi hV => by
      have h1 := hpre.rep i (upT j v) V (by rw [List.getElem?_map, hi]; rfl) hV
      exact ⟨h1.1.down hg (ha v (List.mem_of_getElem? hi)), (upT_ownOk j).1 h1.2⟩
    mem := ⟨rfl, fun i x y hi hy => by
      cases i with
      | zero =>
        simp at hi hy; subst hi; subst hy
        exact hmemj.down hg ho
      | succ i => simp at hi⟩
    fx0 := fun b hb => by
      obtain rfl : b = g := by simpa using hb
      exact hpre.fx0 b (List.mem_of_getElem? hg)
    fxb := hpre.fxb
    tot := fun b => by have := hpre.tot b; have := hle b; omega
    low := fun b hb => hpre.low b (by have := hle b; omega)
    glob := hpre.glob
    base := hpre.base }
  refine (h w fx [g] vals hpre').mono fun e w' ⟨V, fx', rho', he, hp⟩ => ⟨V, fx', rho, by cases out <;> exact he, ?_⟩
  have hr0 : rho' = [g] := by
    obtain ⟨t, ht⟩ := hp.pre
    have h1 : rho'.length = 1 := hp.mem.1
    have h2 : (ctxOf w fx [g] args vals [o]).rho0 = [g] := rfl
    rw [h2] at ht
    have : t = [] := List.length_eq_zero_iff.1 (by
      have := congrArg List.length ht
      simp at this; omega)
    subst this
    simpa using ht.symm
  subst hr0
  have hsame : ∀ b, 0 < R b → w'.heap[b]? = w.heap[b]? ∧ fx' b = fx b := fun b hb => by
    have h1 := hle b
    have h2 := hpre.tot b
    exact hp.keep.block b (hpre.low b (by omega)).2 (by show ¬ (0 < preTot w [g] [o] args vals b); omega)
  have hs1 : ∀ x ∈ r1, w'.heap[x]? = w.heap[x]? := fun x hx => (hsame x (by have := List.count_pos_iff.2 hx; rw [hR]; omega)).1
  have hs2 : ∀ x ∈ r2, w'.heap[x]? = w.heap[x]? := fun x hx => (hsame x (by have := List.count_pos_iff.2 hx; rw [hR]; omega)).1
  have hR' : ∀ b, ownObjs w' m1 r1 b + ownObjs w' m2 r2 b = ownObjs w m1 r1 b + ownObjs w m2 r2 b := fun b => by rw [ownObjs_world _ _ _ hs1, ownObjs_world _ _ _ hs2]
  have hcut' : ∀ b, rho.count b + outOwn (upOut j out) V b + ownObjs w' (m.set j (upO j o')) rho b = ([g].count b + outOwn out V b + ownObjs w' [o'] [g] b) + R b := fun b => by
    rw [hcount b, outOwn_up, hset, hown w' (upO j o') b, ownObj_up, hR' b, hR]
    simp only [ownObjs]; omega
  have hsep : ∀ b, 0 < R b → [g].count b + outOwn out V b + ownObjs w' [o'] [g] b = 0 := fun b hb => by
    rcases Nat.eq_zero_or_pos ([g].count b + outOwn out V b + ownObjs w' [o'] [g] b) with h0 | h0
    · exact h0
    · have h1 := hle b
      have h2 := hpre.tot b
      have h3 := (hpre.low b (by omega)).2
      have h4 : 0 < preTot w [g] [o] args vals b := (hp.low b h0).2.2 h3
      omega
  exact {
    rep := by
      have := hp.rep
      cases out with
      | ret v => exact ⟨this.1.up hg hout, (upT_ownOk j).2 this.2⟩
      | pan v => exact this
    mem := by
      refine ⟨by rw [List.length_set]; exact hlen, fun i x y hi hy => ?_⟩
      rcases Nat.lt_trichotomy i j with hlt | rfl | hgt
      · rw [List.getElem?_set_ne (by omega)] at hi
        have hi1 : m1[i]? = some x := by rw [hme, List.getElem?_append_left (by omega)] at hi; exact hi
        have hy1 : r1[i]? = some y := by rw [hre, List.getElem?_append_left (by omega)] at hy; exact hy
        have hpr := hpre.mem.2 i x y (by rw [hme, List.getElem?_append_left (by omega)]; exact hi1) hy
        refine hpr.ext hp.keep.ext (List.prefix_refl _) (hs1 y (List.mem_of_getElem? hy1)) fun b hb => hsame b ?_
        have := ownObj_le w m1 r1 i x y b hi1 hy1
        rw [hR]; omega
      · rw [List.getElem?_set_self hjm] at hi
        injection hi with hi; subst hi
        obtain rfl := Option.some.inj (hg.symm.trans hy)
        exact (hp.mem.2 0 o' g rfl rfl).up hg ho'
      · rw [List.getElem?_set_ne (by omega)] at hi
        have hi1 : m2[i - j - 1]? = some x := by
          rw [hme, List.getElem?_append_right (by omega), hm1, show i - j = (i - j - 1) + 1 by omega, List.getElem?_cons_succ] at hi; exact hi
        have hy1 : r2[i - j - 1]? = some y := by
          have hy := hy
          rw [hre, List.getElem?_append_right (by omega), hr1, show i - j = (i - j - 1) + 1 by omega, List.getElem?_cons_succ] at hy; exact hy
        have hpr := hpre.mem.2 i x y hi hy
        refine hpr.ext hp.keep.ext (List.prefix_refl _) (hs2 y (List.mem_of_getElem? hy1)) fun b hb => hsame b ?_
        have := ownObj_le w m2 r2 (i - j - 1) x y b hi1 hy1
        rw [hR]; omega
    fx0 := fun b hb => by
      rcases Nat.eq_zero_or_pos (R b) with h0 | h0
      · have : b = g := by
          rw [hre] at hb
          rcases List.mem_append.1 hb with h | h
          · have := List.count_pos_iff.2 h; rw [hR] at h0; omega
          · rcases List.mem_cons.1 h with h | h
            · exact h
            · have := List.count_pos_iff.2 h; rw [hR] at h0; omega
        subst this
        exact hp.fx0 b (by simp)
      · rw [(hsame b h0).2]
        exact hpre.fx0 b hb
    fxb := hp.fxb
    tot := fun b => by
      have h1 := hcut' b
      rcases Nat.eq_zero_or_pos (R b) with h0 | h0
      · have := hp.tot b; omega
      · have := hsep b h0
        have := hle b
        have := hpre.tot b
        omega
    low := fun b hb => by
      have h1 := hcut' b
      rcases Nat.eq_zero_or_pos (R b) with h0 | h0
      · obtain ⟨x, y, z⟩ := hp.low b (by omega)
        refine ⟨x, y, fun hlt => ?_⟩
        have z' : 0 < preTot w [g] [o] args vals b := z hlt
        show 0 < preTot w rho m (args.map (upT j)) vals b
        have := hle b
        omega
      · have h1 : 0 < preTot w rho m (args.map (upT j)) vals b := by have := hle b; omega
        obtain ⟨x, y⟩ := hpre.low b h1
        exact ⟨x, Nat.lt_of_lt_of_le y hp.keep.size, fun _ => h1⟩
    keep := {
      size := hp.keep.size
      os := hp.keep.os
      tape := hp.keep.tape
      output := hp.keep.output
      ext := hp.keep.ext
      block := fun b hb hS => hp.keep.block b hb (fun h => hS (by
        have h : 0 < preTot w [g] [o] args vals b := h
        show 0 < preTot w rho m (args.map (upT j)) vals b
        have := hle b
        omega)) }
    pre := List.prefix_refl _ }
/-- a tree behind a tree -/
def CT.bind {β γ : Type} (f : β → CT γ) : CT β → CT γ
  | .done b => f b
  | .fail => .fail
  | .ite c t e => .ite c (t.bind f) (e.bind f)
  | .opt o k => .opt o fun a => (k a).bind f
  | .sum s l r => .sum s (fun a => (l a).bind f) (fun c => (r c).bind f)
  | .raw o => .opt o f
theorem CT.eval_bind {β γ : Type} (f : β → CT γ) : ∀ (c : CT β), (c.bind f).eval = optK c.eval fun b => (f b).eval
  | .done b => rfl
  | .fail => rfl
  | .ite c t e => by
    cases c
    · exact CT.eval_bind f e
    · exact CT.eval_bind f t
  | .opt o k => by
    cases o with
    | none => rfl
    | some a => exact CT.eval_bind f (k a)
  | .sum s l r => by
    cases s with
    | inl a => exact CT.eval_bind f (l a)
    | inr a => exact CT.eval_bind f (r a)
  | .raw o => rfl
/-- the first object that is pointed to -/
def ptrOf : List AVal → Nat
  | [] => 0
  | .ptr o _ :: _ => o
  | _ :: r => ptrOf r
def dnV (j : Nat) : AVal → AVal
  | .ptr o off => bif Nat.beq o j then .ptr 0 off else .ptr (o + 1) off
  | v => v
def dnO (j : Nat) : AObj → AObj
  | .cells l => .cells (l.map (dnV j))
  | o => o
theorem upV_dnV {j : Nat} {v : AVal} (h : one0 (dnV j v) = true) : upV j (dnV j v) = v := by
  cases v with
  | ptr o off =>
    simp only [dnV] at h ⊢
    cases hb : Nat.beq o j with
    | true => obtain rfl := Nat.eq_of_beq_eq_true hb; rfl
    | false => rw [hb] at h; simp [one0] at h
  | _ => rfl
theorem upV_dnL {j : Nat} : ∀ {l : List AVal}, (l.map (dnV j)).all one0 = true → (l.map (dnV j)).map (upV j) = l
  | [], _ => rfl
  | v :: r, h => by
    simp only [List.map_cons, List.all_cons, Bool.and_eq_true] at h ⊢
    rw [upV_dnV h.1, upV_dnL h.2]
theorem upO_dnO {j : Nat} {o : AObj} (h : oneO (dnO j o) = true) : upO j (dnO j o) = o := by
  cases o with
  | cells l => exact congrArg AObj.cells (upV_dnL h)
  | _ => rfl
def noTup : AVal → Bool
  | .tup _ => false
  | _ => true
theorem upT_dnL {j : Nat} : ∀ {l : List AVal}, (l.map (dnV j)).all one0 = true → l.all noTup = true → (l.map (dnV j)).map (upT j) = l
  | [], _, _ => rfl
  | v :: r, h, h' => by
    simp only [List.map_cons, List.all_cons, Bool.and_eq_true] at h h' ⊢
    rw [upT_dnL h.2 h'.2]
    congr 1
    have h1 := upV_dnV h.1
    cases v with
    | tup vs => cases h'.1
    | ptr o off =>
      simp only [dnV] at h1 ⊢
      cases hb : Nat.beq o j with
      | true => rw [hb] at h1; exact h1
      | false => rw [hb] at h1; exact h1
    | _ => exact h1
theorem one0_T {v : AVal} (h : one0 v = true) : oneT v = true := by
  cases v <;> first | exact h | cases h
def atEnd (j : Nat) (m : Mem) (x : Out × Mem) : CT (Out × Mem) :=
  match x.2 with
  | [o'] => .ite (outOne x.1 && oneO o') (.done (upOut j x.1, m.set j (upO j o'))) .fail
  | _ => .fail
/-- a summary over one object, at the object that the call points to -/
def atG (g : List AVal → Mem → CT (Out × Mem)) : List AVal → Mem → CT (Out × Mem) := fun args m =>
  .ite ((args.map (dnV (ptrOf args))).all one0 && args.all noTup)
    (match m[ptrOf args]? with
    | some o => .ite (oneO (dnO (ptrOf args) o)) ((g (args.map (dnV (ptrOf args))) [dnO (ptrOf args) o]).bind (atEnd (ptrOf args) m)) .fail
    | none => .fail) .fail
theorem nat_at {f : FuncId} {g : List AVal → Mem → CT (Out × Mem)} (h : NatOk E P B f g) : NatOk E P B f (atG g) := by
  intro args m out m' hh
  simp only [atG, CT.eval] at hh
  cases hc : ((args.map (dnV (ptrOf args))).all one0 && args.all noTup) with
  | false => rw [hc] at hh; cases hh
  | true =>
    rw [hc, cond_true] at hh
    simp only [Bool.and_eq_true] at hc
    cases hm : m[ptrOf args]? with
    | none => rw [hm] at hh; cases hh
    | some o =>
      rw [hm] at hh
      simp only [CT.eval] at hh
      cases ho : oneO (dnO (ptrOf args) o) with
      | false => rw [ho] at hh; cases hh
      | true =>
        rw [ho, cond_true, CT.eval_bind] at hh
        cases hg : (g (args.map (dnV (ptrOf args))) [dnO (ptrOf args) o]).eval with
        | none => rw [hg] at hh; cases hh
        | some x =>
          rw [hg] at hh
          obtain ⟨out1, m1⟩ := x
          simp only [optK, atEnd] at hh
          match m1, hh, hg with
          | [o'], hh, hg =>
            simp only [CT.eval] at hh
            cases hx : (outOne out1 && oneO o') with
            | false => rw [hx] at hh; cases hh
            | true =>
              rw [hx, cond_true] at hh
              injection hh with hh
              injection hh with h1 h2
              subst h1; subst h2
              simp only [Bool.and_eq_true] at hx
              have hcall := call_at (j := ptrOf args) (m := m) (fun v hv => one0_T (List.all_eq_true.1 hc.1 v hv)) ho hx.2 hx.1 (by rw [hm, upO_dnO ho]) (h _ _ _ _ hg)
              rw [upT_dnL hc.1 hc.2] at hcall
              exact hcall
          | [], hh, hg => cases hh
          | _ :: _ :: _, hh, hg => cases hh
end
end Go.Abs
