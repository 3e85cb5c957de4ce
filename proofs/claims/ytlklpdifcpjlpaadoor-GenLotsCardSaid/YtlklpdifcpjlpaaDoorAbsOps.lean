/- Each operation does to memory what the interpreter says: the ones that touch no memory. -/
import Derived.Test.YtlklpdifcpjlpaaDoorAbsFits
namespace Go.Abs
set_option linter.unusedSectionVars false

def GlobOk (E : Env) (w : World) (fx : Nat → Nat) : Prop := ∀ g cells, E.glob g = some cells → ∃ Vs, RepL w fx cells Vs ∧ CellsAt w fx g 0 Vs ∧ (E.exact g = true → Vs ≠ [] → w.cell? ⟨g, Vs.length, none⟩ = none)
theorem GlobOk.ext {E : Env} {w w' : World} {fx fx' : Nat → Nat} (h : GlobOk E w fx) (hx : Ext w fx w' fx') : GlobOk E w' fx' := fun g cells hg => by
  obtain ⟨Vs, h1, h2, h3⟩ := h g cells hg
  refine ⟨Vs, RepL.ext hx _ _ h1, h2.ext hx, fun he hne => ?_⟩
  cases Vs with
  | nil => exact absurd rfl hne
  | cons V r => exact hx.none g _ (Nat.lt_of_le_of_lt (Nat.zero_le _) (h2 0 V rfl).2) (h3 he hne)

theorem noRow_own {v : AVal} (h : noRow v = true) (V : Value) (b : Nat) : ownB v V b = 0 := by
  cases v <;> try rfl
  rename_i own es; cases own <;> first | rfl | cases h
theorem noRow_ok {E : Env} {B : Nat} {w : World} {fx : Nat → Nat} {v : AVal} (h : noRow v = true) (V : Value) : OwnOk E B w fx v V := by
  cases v <;> try trivial
  rename_i own es; cases own <;> first | trivial | cases h
theorem noRow_disown (v : AVal) : noRow (disown v) = true := by
  cases v <;> try rfl
  rename_i own es; cases own <;> rfl
theorem Rep.noRow {w : World} {fx : Nat → Nat} {v : AVal} {V : Value} (h : Rep w fx v V) : noRow v = true := by
  cases v <;> try rfl
  rename_i own es
  cases own <;> try rfl
  obtain ⟨_, _, _, _, _, _, _, _, _, h, _⟩ := h
  exact h.elim
theorem disown_noRow {v : AVal} (h : Abs.noRow v = true) : disown v = v := by
  cases v <;> try rfl
  rename_i own es; cases own <;> first | rfl | cases h
theorem Rep.toO {w : World} {fx : Nat → Nat} {rho : List Nat} {v : AVal} {V : Value} (h : Rep w fx v V) : RepO w fx rho v V := by
  cases v with
  | fn f caps => obtain ⟨rfl, rfl⟩ := h; exact ⟨[], rfl, rfl⟩
  | ptr _ _ => exact h.elim
  | mapp _ => exact h.elim
  | slice own es => cases own with
    | row e => have := h.noRow; cases this
    | _ => exact h
  | _ => exact h
theorem RepO.toT {w : World} {fx : Nat → Nat} {rho lam : List Nat} {v : AVal} {V : Value} (h : RepO w fx rho v V) : RepT w fx rho lam v V := by
  cases v with
  | loc _ _ => exact h.elim
  | tup _ => exact h.elim
  | any => trivial
  | _ => exact h
theorem Rep.toT {w : World} {fx : Nat → Nat} {rho lam : List Nat} {v : AVal} {V : Value} (h : Rep w fx v V) : RepT w fx rho lam v V := h.toO.toT
theorem RepT.disown {w : World} {fx : Nat → Nat} {rho lam : List Nat} {v : AVal} {V : Value} (h : RepT w fx rho lam v V) : RepT w fx rho lam (disown v) V := by
  cases v with
  | slice own es => cases own <;> exact h
  | _ => exact h
theorem RepO.disown {w : World} {fx : Nat → Nat} {rho : List Nat} {v : AVal} {V : Value} (h : RepO w fx rho v V) : RepO w fx rho (Abs.disown v) V := by
  cases v with
  | slice own es => cases own <;> exact h
  | _ => exact h
/-- data out of a slot -/
theorem RepT.data {w : World} {fx : Nat → Nat} {rho lam : List Nat} {v : AVal} {V : Value} (h : RepT w fx rho lam v V) (hd : isData v = true) : Rep w fx (Abs.disown v) V := by
  cases v with
  | slice own es => cases own <;> exact h
  | fn f caps =>
    cases caps with
    | cons _ _ => cases hd
    | nil => obtain ⟨Vs, h1, h2⟩ := h; rw [show Vs = [] from h2] at h1; exact ⟨rfl, h1⟩
  | ptr _ _ => cases hd
  | mapp _ => cases hd
  | loc _ _ => cases hd
  | tup _ => cases hd
  | any => cases hd
  | _ => exact h
theorem plainCell_disown (v : AVal) : plainCell (Abs.disown v) = plainCell v := by
  cases v <;> try rfl
  rename_i own es; cases own <;> rfl
theorem RepT.plain {w : World} {fx : Nat → Nat} {rho lam : List Nat} {v : AVal} {V : Value} (h : RepT w fx rho lam v V) (hd : isData v = true) : Rep w fx (plainAgg (plainCell v)) V := by
  have := (h.data hd).plainCell.plainAgg
  rwa [plainCell_disown] at this
theorem noRow_plain (v : AVal) : noRow (plainAgg (plainCell v)) = true := by
  cases v <;> rfl
theorem Rep.data {w : World} {fx : Nat → Nat} {v : AVal} {V : Value} (h : Rep w fx v V) : isData v = true := by
  cases v <;> first | rfl | exact h.elim | skip
  obtain ⟨rfl, _⟩ := h; rfl

section
variable {P : Program} {E : Env} {B : Nat} {c : Ctx} {w w' : World} {fx fx' : Nat → Nat} {rho lam : List Nat} {fr : AFrame} {m : Mem} {a : Act}

theorem Good.put (h : Good E B c w fx rho lam fr m a) (dst : Option Tmp) {v : AVal} {V : Value} (hr : RepT w fx rho lam v V) (hn : noRow v = true) :
    Good E B c w fx rho lam (put fr dst v) m (a.put dst V) := by
  cases dst with
  | none => exact h
  | some d =>
    simp only [Abs.put, Act.put, tset_eq]
    exact h.setTmp d hr (noRow_ok hn V) fun b hb => by rw [noRow_own hn] at hb; omega

theorem tmp_get (h : Good E B c w fx rho lam fr m a) {t : Nat} {v : AVal} (hv : tget fr.tmps t = v) (hne : v ≠ .any) : fr.tmps[t]? = some v ∧ a.tmps.toList[t]? = some (a.tmps.getD t undef) := by
  rw [tget_eq] at hv
  have hlt : t < fr.tmps.length := by
    rcases Nat.lt_or_ge t fr.tmps.length with h | h
    · exact h
    · rw [List.getD_eq_getElem?_getD, List.getElem?_eq_none h] at hv; exact absurd hv.symm hne
  have h2 : t < a.tmps.size := by rw [h.size]; exact hlt
  refine ⟨?_, ?_⟩
  · rw [List.getD_eq_getElem?_getD, List.getElem?_eq_getElem hlt] at hv
    rw [List.getElem?_eq_getElem hlt]; exact congrArg some hv
  · simp [h2]

theorem ev_tmp {t : Tmp} {v : AVal} (h : ev E fr (.tmp t) = some v) : tget fr.tmps t = v ∧ v ≠ .any := by
  simp only [ev] at h
  split at h
  · cases h
  · rename_i v' hne
    injection h with h
    exact ⟨h, fun e => hne (by rw [h, e])⟩

structure EvOk (E : Env) (B : Nat) (w : World) (fx : Nat → Nat) (rho lam : List Nat) (tot : Nat → Nat) (v : AVal) (V : Value) : Prop where
  rep : RepT w fx rho lam v V
  own : OwnOk E B w fx v V
  le : ∀ b, ownB v V b ≤ tot b
  ne : v ≠ .any

theorem ev_sound (hg : Good E B c w fx rho lam fr m a) (hG : GlobOk E w fx) {x : Operand} {v : AVal} (h : ev E fr x = some v) :
    EvOk E B w fx rho lam (total w rho lam fr m a.tmps.toList) v (a.eval x) := by
  cases x with
  | tmp t =>
    obtain ⟨hv, hne⟩ := ev_tmp h
    obtain ⟨h1, h2⟩ := tmp_get hg hv hne
    obtain ⟨h3, h4⟩ := hg.tmp t v _ h1 h2
    refine ⟨h3, h4, fun b => ?_, hne⟩
    have := ownSum_le_of_get fr.tmps a.tmps.toList t v _ b h1 h2
    simp only [Act.eval]
    unfold total; omega
  | const V =>
    have hr : Rep w fx v V := ofConst_rep h
    exact ⟨hr.toT, noRow_ok hr.noRow _, fun b => by rw [noRow_own hr.noRow]; omega, fun e => by subst e; exact hr.elim⟩
  | global g =>
    simp only [ev] at h
    cases hc : E.glob g with
    | none => rw [hc] at h; cases h
    | some cells =>
      rw [hc] at h; injection h with h; subst h
      obtain ⟨Vs, h1, h2, _⟩ := hG g cells hc
      have hr : Rep w fx (.imm cells) (a.eval (.global g)) := ⟨g, 0, Vs, rfl, h1, h2⟩
      exact ⟨hr.toT, noRow_ok rfl _, fun b => by rw [noRow_own rfl]; omega, fun e => by cases e⟩
  | func f =>
    injection h with h; subst h
    exact ⟨Rep.toT (v := .fn f []) ⟨rfl, rfl⟩, noRow_ok rfl _, fun b => by rw [noRow_own rfl]; omega, fun e => by cases e⟩

/-- what is read out of a slot by an operation that takes its row along -/
theorem leave_sound (hg : Good E B c w fx rho lam fr m a) {x : Operand} {v : AVal} (h : ev E fr x = some v) :
    Good E B c w fx rho lam (leave1 fr x) m a ∧ ∀ b, total w rho lam (leave1 fr x) m a.tmps.toList b + ownB v (a.eval x) b = total w rho lam fr m a.tmps.toList b := by
  cases x with
  | tmp t =>
    obtain ⟨hv, hne⟩ := ev_tmp h
    obtain ⟨h1, h2⟩ := tmp_get hg hv hne
    have := hg.drop t h1 h2
    simp only [leave1, tset_eq, hv]
    exact this
  | const V =>
    have hr : Rep w fx v V := ofConst_rep h
    exact ⟨hg, fun b => by rw [noRow_own hr.noRow]; rfl⟩
  | global g =>
    simp only [ev] at h
    cases hc : E.glob g with
    | none => rw [hc] at h; cases h
    | some cells => rw [hc] at h; injection h with h; subst h; exact ⟨hg, fun b => rfl⟩
  | func f => injection h with h; subst h; exact ⟨hg, fun b => rfl⟩

/-- A value with its row goes into a slot. -/
theorem Good.putOwn (h : Good E B c w fx rho lam fr m a) (dst : Option Tmp) {v : AVal} {V : Value} (hr : RepT w fx rho lam v V) (ho : OwnOk E B w fx v V)
    (htot : ∀ b, 0 < ownB v V b → total w rho lam fr m a.tmps.toList b + ownB v V b ≤ 1 ∧ B ≤ b ∧ b < w.heap.size ∧ (b < c.w0.heap.size → c.S0 b)) :
    Good E B c w fx rho lam (Abs.put fr dst v) m (a.put dst V) := by
  cases dst with
  | none => exact h
  | some d =>
    simp only [Abs.put, Act.put, tset_eq]
    exact h.setTmp d hr ho htot

theorem promo_cases (E : Env) (t : Option TypeId) (v : AVal) : promo E t v = v ∨ ∃ e ei, t = some e ∧ v = .slice .nil [] ∧ E.T e = some ei ∧ 0 < ei.size ∧ promo E t v = .slice (.row e) [] := by
  unfold promo
  split
  · exact .inl rfl
  · rename_i e
    split
    · rename_i es
      split
      · split
        · rename_i ei hei
          split
          · exact .inl rfl
          · rename_i k hk
            exact .inr ⟨e, ei, rfl, rfl, hei, by omega, rfl⟩
        · exact .inl rfl
      · exact .inl rfl
    · exact .inl rfl
theorem promo_own {V : Value} (h : Rep w fx (.slice .nil []) V) : V = .slice none 0 0 := by
  obtain ⟨A, n, c, Vs, rfl, hn, _, _, _, ⟨hA, hc⟩, _⟩ := h
  subst hA; subst hc
  rw [show n = 0 from hn]
theorem promo_rep (t : Option TypeId) {v : AVal} {V : Value} (h : RepT w fx rho lam v V) (ho : OwnOk E B w fx v V) :
    RepT w fx rho lam (promo E t v) V ∧ OwnOk E B w fx (promo E t v) V ∧ ∀ b, ownB (promo E t v) V b = ownB v V b := by
  rcases promo_cases E t v with e | ⟨e, ei, rfl, rfl, hei, hp, e1⟩
  · rw [e]; exact ⟨h, ho, fun _ => rfl⟩
  · have hr : Rep w fx (.slice .nil []) V := h
    have hV := promo_own hr
    rw [e1]
    subst hV
    refine ⟨?_, ⟨ei, [], hei, hp, fun c hc => (by cases hc), rfl, ⟨by simp, .inl ⟨rfl, rfl⟩⟩, fun g hg => (by cases hg)⟩, fun b => rfl⟩
    exact Rep.plainCell (v := .slice .nil []) hr
theorem promo_noRow (t : Option TypeId) {v : AVal} {V : Value} (h : RepT w fx rho lam v V) (ho : OwnOk E B w fx v V) (hn : noRow v = true) (b : Nat) : ownB (promo E t v) V b = 0 := by
  rw [(promo_rep t h ho).2.2 b, noRow_own hn]

theorem promoS_rep (F : FuncId) (dst : Option Tmp) {v : AVal} {V : Value} (h : RepT w fx rho lam v V) (ho : OwnOk E B w fx v V) :
    RepT w fx rho lam (promoS E F dst v) V ∧ OwnOk E B w fx (promoS E F dst v) V ∧ ∀ b, ownB (promoS E F dst v) V b = ownB v V b := by
  cases dst with
  | none => exact ⟨h, ho, fun _ => rfl⟩
  | some d => exact promo_rep _ h ho
theorem Good.moveOwnP (F : FuncId) (hg : Good E B c w fx rho lam fr m a) (hG : GlobOk E w fx) {x : Operand} {v : AVal} (h : ev E fr x = some v) (dst : Option Tmp) :
    Good E B c w fx rho lam (Abs.put (leave1 fr x) dst (promoS E F dst v)) m (a.put dst (a.eval x)) := by
  obtain ⟨h1, h2⟩ := leave_sound hg h
  have he := ev_sound hg hG h
  obtain ⟨p1, p2, p3⟩ := promoS_rep F dst he.rep he.own
  refine h1.putOwn dst p1 p2 fun b hb => ?_
  rw [p3] at hb ⊢
  have h3 := h2 b
  have h4 := hg.tot b
  have h5 := hg.low b (by have := he.le b; omega)
  exact ⟨by omega, h5⟩
theorem Good.moveOwn (hg : Good E B c w fx rho lam fr m a) (hG : GlobOk E w fx) {x : Operand} {v : AVal} (h : ev E fr x = some v) (dst : Option Tmp) :
    Good E B c w fx rho lam (Abs.put (leave1 fr x) dst v) m (a.put dst (a.eval x)) := by
  obtain ⟨h1, h2⟩ := leave_sound hg h
  have he := ev_sound hg hG h
  refine h1.putOwn dst he.rep he.own fun b hb => ?_
  have h3 := h2 b
  have h4 := hg.tot b
  have h5 := hg.low b (by have := he.le b; omega)
  exact ⟨by omega, h5⟩

/-! ### The shape of each step -/
variable {R : Type} {r : R} {o : Oper} {next : Act → World → Prop} {Q : Exit → Act → World → Prop}

/-- What the rest asks. -/
def NextOk (E : Env) (B : Nat) (c : Ctx) (r : R) (K : AFrame → Mem → Option R) (next : Act → World → Prop) : Prop :=
  ∀ w fx rho lam fr m a, K fr m = some r → Good E B c w fx rho lam fr m a → GlobOk E w fx → next a w
def PanOk (E : Env) (B : Nat) (c : Ctx) (r : R) (Kp : AVal → AFrame → Mem → Option R) (Q : Exit → Act → World → Prop) : Prop :=
  ∀ w fx rho lam fr m a v V, Kp v fr m = some r → Good E B c w fx rho lam fr m a → GlobOk E w fx → Rep w fx v V → Q (.panic [{ v := V, recovered := false }]) a w

variable {K : AFrame → Mem → Option R}

theorem wp_value {V : Value} (hrun : (execOp a.eval o).run P w = .ok (.value V) w') (h : next (a.put o.dst V) w') : o.wp P a w next Q := by
  unfold Oper.wp
  rw [hrun]
  exact h
theorem wp_skip {V : Value} (hV : V = undef) (hrun : (execOp a.eval o).run P w = .ok .skip w') (h : next (a.put o.dst V) w') : o.wp P a w next Q := by
  subst hV
  unfold Oper.wp
  rw [hrun]
  exact h

/-- A step that reads alone: one value, in every world with this heap. -/
def CalmStep (E : Env) (B : Nat) (c : Ctx) (P : Program) (w : World) (fx : Nat → Nat) (rho lam : List Nat) (a : Act) (o : Oper) (r : R) (K : AFrame → Mem → Option R) : Prop :=
  ∃ V fr' m', (∀ w' : World, w'.heap = w.heap → (execOp a.eval o).run P w' = .ok (.value V) w') ∧ Good E B c w fx rho lam fr' m' (a.put o.dst V) ∧ K fr' m' = some r

theorem CalmStep.wp (h : CalmStep E B c P w fx rho lam a o r K) (hG : GlobOk E w fx) (hn : NextOk E B c r K next) : o.wp P a w next Q := by
  obtain ⟨V, fr', m', h1, h2, h3⟩ := h
  exact wp_value (h1 w rfl) (hn _ _ _ _ _ _ _ h3 h2 hG)

/-- a value, the world as it was -/
theorem fin (hg : Good E B c w fx rho lam fr m a) {v : AVal} {V : Value} (hr : RepT w fx rho lam v V) (hnr : noRow v = true)
    (hrun : ∀ w' : World, w'.heap = w.heap → (execOp a.eval o).run P w' = .ok (.value V) w') (hK : K (Abs.put fr o.dst v) m = some r) : CalmStep E B c P w fx rho lam a o r K :=
  ⟨V, _, _, hrun, hg.put o.dst hr hnr, hK⟩

theorem cell_heap {w w' : World} (h : w'.heap = w.heap) (a : Addr) : w'.cell? a = w.cell? a := by simp only [World.cell?, h]

theorem sound_move (hg : Good E B c w fx rho lam fr m a) (hG : GlobOk E w fx) {x : Operand} (ho : o.op = .move x ∨ o.op = .assign x) {v : AVal} (h : ev E fr x = some v)
    (F : FuncId) (hK : K (Abs.put (leave1 fr x) o.dst (promoS E F o.dst v)) m = some r ∨ K (Abs.put fr o.dst (disown (promoS E F o.dst v))) m = some r) : CalmStep E B c P w fx rho lam a o r K := by
  have hrun : ∀ w' : World, w'.heap = w.heap → (execOp a.eval o).run P w' = .ok (.value (a.eval x)) w' := fun w' _ => by
    rcases ho with ho | ho <;> simp [execOp, ho]
  rcases hK with hK | hK
  · exact ⟨_, _, _, hrun, hg.moveOwnP F hG h o.dst, hK⟩
  · exact fin hg (promoS_rep (B := B) F o.dst (ev_sound hg hG h).rep (ev_sound hg hG h).own).1.disown (noRow_disown _) hrun hK

theorem RepT.bool {b : Bool} {V : Value} (h : RepT w fx rho lam (.bool b) V) : V = .bool b := h
theorem RepT.int {k : IntKind} {n : Int} {V : Value} (h : RepT w fx rho lam (.int k n) V) : V = .int k n := h
theorem RepT.str {s : List UInt8} {V : Value} (h : RepT w fx rho lam (.str s) V) : V = .string ⟨s.toArray⟩ := h

theorem sound_pick (hg : Good E B c w fx rho lam fr m a) (hG : GlobOk E w fx) {x y z : Operand} (ho : o.op = .pick x y z) {t : Bool} (hx : ev E fr x = some (.bool t))
    {v : AVal} (h : ev E fr (if t then y else z) = some v) (hK : K (Abs.put fr o.dst (disown v)) m = some r) : CalmStep E B c P w fx rho lam a o r K := by
  have h1 := (ev_sound hg hG hx).rep.bool
  refine fin hg (ev_sound hg hG h).rep.disown (noRow_disown v) (fun w' hw' => ?_) hK
  simp [execOp, ho, h1, asBool]
  cases t <;> rfl

theorem sound_extract (hg : Good E B c w fx rho lam fr m a) (hG : GlobOk E w fx) {x : Operand} {i : Nat} (ho : o.op = .extract x i) {vs : List AVal} (hx : ev E fr x = some (.tup vs))
    {v : AVal} (hv : vs[i]? = some v) (hK : K (Abs.put fr o.dst (disown v)) m = some r) : CalmStep E B c P w fx rho lam a o r K := by
  obtain ⟨Vs, h1, h2⟩ := (ev_sound hg hG hx).rep
  obtain ⟨V, h3, h4⟩ := RepOL.get h2 (i := i) (v := disown v) (by simp [hv])
  refine fin hg h4.toT (noRow_disown v) (fun w' hw' => ?_) hK
  simp [execOp, ho, h1, Instr.extract, h3]

theorem bytes_eq (s : List UInt8) : (⟨s.toArray⟩ : ByteArray).toList = s := ByteArray.toList_mk s

/-- Structs that are held against each other cell by cell. -/
def EqFits (E : Env) (P : Program) : Prop := ∀ t n, E.eqT t = some n → ∀ (w : World) (fx : Nat → Nat) (xs ys : List AVal) (Xs Ys : List Value) (b : Bool), xs.length = n → sameCells xs ys = some b →
  RepL w fx xs Xs → RepL w fx ys Ys → ∀ x y, (eqGuard .eql t x y (.agg Xs.toArray) (.agg Ys.toArray)).run P w = .ok () w ∧ (eqGuard .neq t x y (.agg Xs.toArray) (.agg Ys.toArray)).run P w = .ok () w ∧
    (Op.equal t (.agg Xs.toArray) (.agg Ys.toArray)).run P w = .ok b w

theorem eqGuard_int (op : BinOp) (t : TypeId) (x y : Operand) (k k' : IntKind) (i j : Int) : (eqGuard op t x y (.int k i) (.int k' j)).run P w = .ok () w := by
  cases op <;> simp [eqGuard]
theorem eqGuard_str (op : BinOp) (t : TypeId) (x y : Operand) (i j : ByteArray) : (eqGuard op t x y (.string i) (.string j)).run P w = .ok () w := by
  cases op <;> simp [eqGuard]
theorem eqGuard_bool (op : BinOp) (t : TypeId) (x y : Operand) (i j : Bool) : (eqGuard op t x y (.bool i) (.bool j)).run P w = .ok () w := by
  cases op <;> simp [eqGuard]

theorem int_bin_run {op : BinOp} {t : TypeId} {k k' : IntKind} {i j : Int} {z : AVal}
    (hz : (if isShift op then shiftBin op k i j else if k = k' then intBin op k i j else none) = some z) :
    ∃ Z, (∀ w' : World, (binOp op t (.int k i) (.int k' j)).run P w' = .ok Z w') ∧ Rep w fx z Z := by
  by_cases hs : isShift op = true
  · rw [if_pos hs] at hz
    unfold shiftBin at hz
    split at hz
    · cases hz
    · rename_i hj
      cases op <;> simp [isShift] at hs <;> (injection hz with hz; subst hz; refine ⟨_, fun w' => ?_, rfl⟩; simp [binOp, Op.shift, hj])
  · rw [if_neg hs] at hz
    split at hz
    · rename_i hk
      subst hk
      cases op <;> simp [isShift] at hs <;> simp only [intBin] at hz
      all_goals first
        | (cases hz; done)
        | (injection hz with hz; subst hz; refine ⟨_, fun w' => ?_, rfl⟩; simp [binOp, Op.intArith, Op.intBits, Op.intCmp]; done)
        | (split at hz; (cases hz); rename_i hj; injection hz with hz; subst hz; refine ⟨_, fun w' => ?_, rfl⟩; simp [binOp, Op.intDiv, hj]; done)
    · cases hz

theorem str_bin_run {op : BinOp} {t : TypeId} {i j : List UInt8} {z : AVal} (hz : strBin op i j = some z) :
    ∃ Z, (∀ w' : World, (binOp op t (.string ⟨i.toArray⟩) (.string ⟨j.toArray⟩)).run P w' = .ok Z w') ∧ Rep w fx z Z := by
  cases op <;> simp only [strBin] at hz
  all_goals first
    | (cases hz; done)
    | (injection hz with hz; subst hz; refine ⟨_, fun w' => ?_, rfl⟩; simp [binOp, Op.stringOp]; done)
    | skip
  split at hz
  · rename_i hle
    injection hz with hz; subst hz
    refine ⟨_, fun w' => ?_, rfl⟩
    have h1 : ¬ (((⟨i.toArray⟩ : ByteArray).size + (⟨j.toArray⟩ : ByteArray).size : Nat) : Int) > IntKind.i64.max := by
      simp [ByteArray.size]; omega
    simp only [binOp, Op.stringOp]
    rw [if_neg h1]
    simp only [Sem.run_pure]
    congr 2
  · cases hz

theorem nilness_run {t : TypeId} {k : TK} (hk : kindOk P t k) {b : Bool} {u v : AVal} {U V : Value} (hb : nilness k u v = some b) (hU : RepT w fx rho lam u U) (hV : RepT w fx rho lam v V) :
    (Op.equal t U V).run P w = .ok b w ∧ (∀ op x y, (isConst x || isConst y) = true → (eqGuard op t x y U V).run P w = .ok () w) ∧
      ((∃ x, U = .bool x) ∨ (∃ x, U = .agg x) ∨ U = .nilIface ∨ (∃ t v, U = .iface t v) ∨ (∃ x, U = .pointer x) ∨ U = .nilFunc ∨ (∃ x y z, U = .func x y z)) := by
  have hnil : ∀ op x y, (isConst x || isConst y) = true → (eqGuard op t x y .nilIface .nilIface).run P w = .ok () w := by
    intro op x y h
    cases x <;> cases y <;> first | (cases h; done) | (cases op <;> simp [eqGuard]; done)
  unfold nilness at hb
  split at hb
  · obtain ⟨ms, hms⟩ := hk
    split at hb <;> cases hb
    · obtain rfl : U = .nilIface := hU
      obtain rfl : V = .nilIface := hV
      have key : ∀ d, (Op.equalIn (d + 1) t .nilIface .nilIface).run P w = .ok true w := fun d => by simp only [Op.equalIn, Sem.run_bind, run_underlying hms, Result.andThen_ok, Sem.run_pure]
      exact ⟨key 9999, hnil, .inr (.inr (.inl rfl))⟩
    · obtain rfl : U = .nilIface := hU
      obtain ⟨V', rfl, _⟩ := hV
      have key : ∀ d u, (Op.equalIn (d + 1) t .nilIface (.iface u V')).run P w = .ok false w := fun d u => by simp only [Op.equalIn, Sem.run_bind, run_underlying hms, Result.andThen_ok, Sem.run_pure]
      exact ⟨key 9999 _, fun op x y h => by cases op <;> simp [eqGuard], .inr (.inr (.inl rfl))⟩
    · obtain ⟨U', rfl, _⟩ := hU
      obtain rfl : V = .nilIface := hV
      have key : ∀ d u, (Op.equalIn (d + 1) t (.iface u U') .nilIface).run P w = .ok false w := fun d u => by simp only [Op.equalIn, Sem.run_bind, run_underlying hms, Result.andThen_ok, Sem.run_pure]
      exact ⟨key 9999 _, fun op x y h => by cases op <;> simp [eqGuard], .inr (.inr (.inr (.inl ⟨_, _, rfl⟩)))⟩
    · obtain rfl : U = .nilIface := hU
      rcases hV with ⟨rfl, rfl⟩ | ⟨rfl, u, V', rfl⟩
      · have key : ∀ d, (Op.equalIn (d + 1) t .nilIface .nilIface).run P w = .ok true w := fun d => by simp only [Op.equalIn, Sem.run_bind, run_underlying hms, Result.andThen_ok, Sem.run_pure]
        exact ⟨key 9999, hnil, .inr (.inr (.inl rfl))⟩
      · have key : ∀ d u, (Op.equalIn (d + 1) t .nilIface (.iface u V')).run P w = .ok false w := fun d u => by simp only [Op.equalIn, Sem.run_bind, run_underlying hms, Result.andThen_ok, Sem.run_pure]
        exact ⟨key 9999 _, fun op x y h => by cases op <;> simp [eqGuard], .inr (.inr (.inl rfl))⟩
    · obtain rfl : V = .nilIface := hV
      rcases hU with ⟨rfl, rfl⟩ | ⟨rfl, u, U', rfl⟩
      · have key : ∀ d, (Op.equalIn (d + 1) t .nilIface .nilIface).run P w = .ok true w := fun d => by simp only [Op.equalIn, Sem.run_bind, run_underlying hms, Result.andThen_ok, Sem.run_pure]
        exact ⟨key 9999, hnil, .inr (.inr (.inl rfl))⟩
      · have key : ∀ d u, (Op.equalIn (d + 1) t (.iface u U') .nilIface).run P w = .ok false w := fun d u => by simp only [Op.equalIn, Sem.run_bind, run_underlying hms, Result.andThen_ok, Sem.run_pure]
        exact ⟨key 9999 _, fun op x y h => by cases op <;> simp [eqGuard], .inr (.inr (.inr (.inl ⟨_, _, rfl⟩)))⟩
  · obtain ⟨ms, hms⟩ := hk
    split at hb <;> cases hb
    · obtain rfl : U = .pointer none := hU
      obtain rfl : V = .pointer none := hV
      have key : ∀ d, (Op.equalIn (d + 1) t (.pointer none) (.pointer none)).run P w = .ok true w := fun d => by simp only [Op.equalIn, Sem.run_bind, run_underlying hms, Result.andThen_ok, Sem.run_pure, Option.isNone]
      exact ⟨key 9999, fun op x y h => by cases op <;> simp [eqGuard], .inr (.inr (.inr (.inr (.inl ⟨_, rfl⟩))))⟩
    · obtain rfl : U = .pointer none := hU
      obtain ⟨g, _, rfl⟩ := hV
      have key : ∀ d x, (Op.equalIn (d + 1) t (.pointer none) (.pointer (some x))).run P w = .ok false w := fun d x => by simp only [Op.equalIn, Sem.run_bind, run_underlying hms, Result.andThen_ok, Sem.run_pure, Option.isNone]
      exact ⟨key 9999 _, fun op x y h => by cases op <;> simp [eqGuard], .inr (.inr (.inr (.inr (.inl ⟨_, rfl⟩))))⟩
    · obtain ⟨g, _, rfl⟩ := hU
      obtain rfl : V = .pointer none := hV
      have key : ∀ d x, (Op.equalIn (d + 1) t (.pointer (some x)) (.pointer none)).run P w = .ok false w := fun d x => by simp only [Op.equalIn, Sem.run_bind, run_underlying hms, Result.andThen_ok, Sem.run_pure, Option.isNone]
      exact ⟨key 9999 _, fun op x y h => by cases op <;> simp [eqGuard], .inr (.inr (.inr (.inr (.inl ⟨_, rfl⟩))))⟩
  · obtain ⟨ps, rs, vr, hms⟩ := hk
    split at hb <;> cases hb
    · obtain rfl : U = .nilFunc := hU
      obtain rfl : V = .nilFunc := hV
      have key : ∀ d, (Op.equalIn (d + 1) t .nilFunc .nilFunc).run P w = .ok true w := fun d => by simp only [Op.equalIn, Sem.run_bind, run_underlying hms, Result.andThen_ok, Sem.run_pure]
      exact ⟨key 9999, fun op x y h => by cases op <;> simp [eqGuard], .inr (.inr (.inr (.inr (.inr (.inl rfl)))))⟩
    · obtain rfl : U = .nilFunc := hU
      obtain ⟨Vs, rfl, _⟩ := hV
      have key : ∀ d f c, (Op.equalIn (d + 1) t .nilFunc (.func f #[] c)).run P w = .ok false w := fun d f c => by simp only [Op.equalIn, Sem.run_bind, run_underlying hms, Result.andThen_ok, Sem.run_pure]
      exact ⟨key 9999 _ _, fun op x y h => by cases op <;> simp [eqGuard], .inr (.inr (.inr (.inr (.inr (.inl rfl)))))⟩
    · obtain ⟨Vs, rfl, _⟩ := hU
      obtain rfl : V = .nilFunc := hV
      have key : ∀ d f c, (Op.equalIn (d + 1) t (.func f #[] c) .nilFunc).run P w = .ok false w := fun d f c => by simp only [Op.equalIn, Sem.run_bind, run_underlying hms, Result.andThen_ok, Sem.run_pure]
      exact ⟨key 9999 _ _, fun op x y h => by cases op <;> simp [eqGuard], .inr (.inr (.inr (.inr (.inr (.inr ⟨_, _, _, rfl⟩)))))⟩
  · cases hb

set_option maxHeartbeats 1000000 in
theorem eq_shape {t : TypeId} {op : BinOp} {e b : Bool} (he : isEq op = some e) {U V : Value} (h1 : (Op.equal t U V).run P w = .ok b w)
    (h2 : (∃ x, U = .bool x) ∨ (∃ x, U = .agg x) ∨ U = .nilIface ∨ (∃ t v, U = .iface t v) ∨ (∃ x, U = .pointer x) ∨ U = .nilFunc ∨ (∃ x y z, U = .func x y z)) :
    (binOp op t U V).run P w = .ok (.bool (e == b)) w := by
  cases op <;> simp [isEq] at he <;> subst he
  all_goals rcases h2 with ⟨x, rfl⟩ | ⟨x, rfl⟩ | rfl | ⟨x, y, rfl⟩ | ⟨x, rfl⟩ | rfl | ⟨x, y, z, rfl⟩
  all_goals (simp only [binOp, Sem.run_bind, h1, Result.andThen_ok, Sem.run_pure]; cases b <;> rfl)

theorem sound_int (hg : Good E B c w fx rho lam fr m a) (hG : GlobOk E w fx) {op : BinOp} {t t' : TypeId} {x y : Operand} (ho : o.op = .binOp op t x y t')
    {k k' : IntKind} {i j : Int} (hx : ev E fr x = some (.int k i)) (hy : ev E fr y = some (.int k' j)) {z : AVal}
    (hz : (if isShift op then shiftBin op k i j else if k = k' then intBin op k i j else none) = some z) (hK : K (Abs.put fr o.dst z) m = some r) : CalmStep E B c P w fx rho lam a o r K := by
  obtain ⟨Z, h1, h2⟩ := int_bin_run (P := P) (w := w) (fx := fx) (t := t) hz
  refine fin hg h2.toT h2.noRow (fun w' hw' => ?_) hK
  simp [execOp, ho, (ev_sound hg hG hx).rep.int, (ev_sound hg hG hy).rep.int, eqGuard_int, h1]
theorem sound_str (hg : Good E B c w fx rho lam fr m a) (hG : GlobOk E w fx) {op : BinOp} {t t' : TypeId} {x y : Operand} (ho : o.op = .binOp op t x y t')
    {i j : List UInt8} (hx : ev E fr x = some (.str i)) (hy : ev E fr y = some (.str j)) {z : AVal}
    (hz : strBin op i j = some z) (hK : K (Abs.put fr o.dst z) m = some r) : CalmStep E B c P w fx rho lam a o r K := by
  obtain ⟨Z, h1, h2⟩ := str_bin_run (P := P) (w := w) (fx := fx) (t := t) hz
  refine fin hg h2.toT h2.noRow (fun w' hw' => ?_) hK
  simp [execOp, ho, (ev_sound hg hG hx).rep.str, (ev_sound hg hG hy).rep.str, eqGuard_str, h1]

end
end Go.Abs
