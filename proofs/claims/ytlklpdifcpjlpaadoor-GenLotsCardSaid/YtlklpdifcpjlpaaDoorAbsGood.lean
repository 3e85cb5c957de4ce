/- What holds of memory while a function runs. -/
import Derived.Test.YtlklpdifcpjlpaaDoorAbsRep
namespace Go.Abs
set_option linter.unusedSectionVars false

theorem tget_eq : ∀ (l : List AVal) (i : Nat), tget l i = l.getD i .any
  | [], _ => by simp [tget]
  | _ :: _, 0 => rfl
  | _ :: r, i + 1 => by rw [tget, tget_eq r i]; simp
theorem tset_eq : ∀ (l : List AVal) (i : Nat) (v : AVal), tset l i v = l.set i v
  | [], _, _ => rfl
  | _ :: _, 0, _ => rfl
  | x :: r, i + 1, v => by rw [tset, tset_eq r i v]; rfl
theorem oget_eq : ∀ (l : List AObj) (i : Nat), oget l i = l[i]?
  | [], _ => by simp [oget]
  | _ :: _, 0 => rfl
  | _ :: r, i + 1 => by rw [oget, oget_eq r i]; simp
theorem oset_eq : ∀ (l : List AObj) (i : Nat) (v : AObj), oset l i v = l.set i v
  | [], _, _ => rfl
  | _ :: _, 0, _ => rfl
  | x :: r, i + 1, v => by rw [oset, oset_eq r i v]; rfl

/-! ### Who owns a block -/
def ownB : AVal → Value → Nat → Nat
  | .slice (.row _) _, .slice (some a) _ _, b => if a.block = b then 1 else 0
  | _, _, _ => 0
def ownSum : List AVal → List Value → Nat → Nat
  | v :: r, V :: Vr, b => ownB v V b + ownSum r Vr b
  | _, _, _ => 0
def blockVals (w : World) (g : Nat) : List Value :=
  match w.heap[g]? with
  | some (.cells arr _ _) => arr.toList
  | _ => []
def ownObj (w : World) : AObj → Nat → Nat → Nat
  | .cells l, g, b => ownSum l (blockVals w g) b
  | .iter _ _, _, _ => 0
  | .map _ _, _, _ => 0
def ownObjs (w : World) : List AObj → List Nat → Nat → Nat
  | o :: r, g :: gr, b => ownObj w o g b + ownObjs w r gr b
  | _, _, _ => 0

theorem ownB_disown (v : AVal) (V : Value) (b : Nat) : ownB (disown v) V b = 0 := by
  cases v <;> try rfl
  rename_i own es; cases own <;> rfl
theorem ownSum_set : ∀ (l : List AVal) (Vs : List Value) (i : Nat) (v v0 : AVal) (V V0 : Value) (b : Nat), l[i]? = some v0 → Vs[i]? = some V0 →
    ownSum (l.set i v) (Vs.set i V) b + ownB v0 V0 b = ownSum l Vs b + ownB v V b
  | [], _, _, _, _, _, _, _, h, _ => by simp at h
  | _ :: _, [], _, _, _, _, _, _, _, h => by simp at h
  | x :: r, X :: Xr, 0, v, v0, V, V0, b, h, h' => by
    simp at h h'; subst h; subst h'
    simp [ownSum]; omega
  | x :: r, X :: Xr, i + 1, v, v0, V, V0, b, h, h' => by
    simp at h h'
    have := ownSum_set r Xr i v v0 V V0 b h h'
    simp [ownSum]; omega
theorem ownSum_append : ∀ (l l' : List AVal) (Vs Vs' : List Value) (b : Nat), l.length = Vs.length → ownSum (l ++ l') (Vs ++ Vs') b = ownSum l Vs b + ownSum l' Vs' b
  | [], _, [], _, _, _ => by simp [ownSum]
  | [], _, _ :: _, _, _, h => by simp at h
  | _ :: _, _, [], _, _, h => by simp at h
  | x :: r, l', X :: Xr, Vs', b, h => by
    simp [ownSum, ownSum_append r l' Xr Vs' b (by simpa using h)]; omega
theorem ownSum_le_of_get : ∀ (l : List AVal) (Vs : List Value) (i : Nat) (v : AVal) (V : Value) (b : Nat), l[i]? = some v → Vs[i]? = some V → ownB v V b ≤ ownSum l Vs b
  | [], _, _, _, _, _, h, _ => by simp at h
  | _ :: _, [], _, _, _, _, _, h => by simp at h
  | x :: r, X :: Xr, 0, v, V, b, h, h' => by
    simp at h h'; subst h; subst h'
    simp [ownSum]
  | x :: r, X :: Xr, i + 1, v, V, b, h, h' => by
    simp at h h'
    have := ownSum_le_of_get r Xr i v V b h h'
    simp [ownSum]; omega
theorem ownObjs_append (w : World) : ∀ (l l' : List AObj) (gs gs' : List Nat) (b : Nat), l.length = gs.length → ownObjs w (l ++ l') (gs ++ gs') b = ownObjs w l gs b + ownObjs w l' gs' b
  | [], _, [], _, _, _ => by simp [ownObjs]
  | [], _, _ :: _, _, _, h => by simp at h
  | _ :: _, _, [], _, _, h => by simp at h
  | x :: r, l', X :: Xr, Vs', b, h => by
    simp [ownObjs, ownObjs_append w r l' Xr Vs' b (by simpa using h)]; omega
theorem ownObjs_set (w : World) : ∀ (l : List AObj) (gs : List Nat) (i : Nat) (o o0 : AObj) (g : Nat) (b : Nat), l[i]? = some o0 → gs[i]? = some g →
    ownObjs w (l.set i o) gs b + ownObj w o0 g b = ownObjs w l gs b + ownObj w o g b
  | [], _, _, _, _, _, _, h, _ => by simp at h
  | _ :: _, [], _, _, _, _, _, _, h => by simp at h
  | x :: r, X :: Xr, 0, o, o0, g, b, h, h' => by
    simp at h h'; subst h; subst h'
    simp [ownObjs]; omega
  | x :: r, X :: Xr, i + 1, o, o0, g, b, h, h' => by
    simp at h h'
    have := ownObjs_set w r Xr i o o0 g b h h'
    simp [ownObjs]; omega
theorem ownObjs_world {w w' : World} : ∀ (l : List AObj) (gs : List Nat) (b : Nat), (∀ g ∈ gs, w'.heap[g]? = w.heap[g]?) → ownObjs w' l gs b = ownObjs w l gs b
  | [], _, _, _ => rfl
  | _ :: _, [], _, _ => rfl
  | x :: r, g :: gr, b, h => by
    have hg : ownObj w' x g b = ownObj w x g b := by
      cases x with
      | cells l => simp [ownObj, blockVals, h g (List.mem_cons_self ..)]
      | iter _ _ => rfl
      | map _ _ => rfl
    simp [ownObjs, hg, ownObjs_world r gr b fun g' hg' => h g' (List.mem_cons_of_mem _ hg')]

/-- what an owned row is -/
def OwnOk (E : Env) (B : Nat) (w : World) (fx : Nat → Nat) (v : AVal) (V : Value) : Prop :=
  match v with
  | .slice (.row e) es => ∃ ei Vs, E.T e = some ei ∧ 0 < ei.size ∧ (∀ c ∈ es, c.length = ei.size) ∧ RepLL w fx es Vs ∧
      w.ownsRow B e ei.size V es.length Vs ∧ (∀ g, V.ownBlock = some g → fx g = es.length * ei.size)
  | _ => True
theorem OwnOk.of_disown {E : Env} {B : Nat} {w : World} {fx : Nat → Nat} (v : AVal) (V : Value) : OwnOk E B w fx (disown v) V := by
  cases v <;> try trivial
  rename_i own es; cases own <;> trivial
theorem ownB_block {v : AVal} {V : Value} {b : Nat} (h : 0 < ownB v V b) : V.ownBlock = some b := by
  unfold ownB at h
  split at h
  · split at h
    · simpa [Value.ownBlock]
    · omega
  · omega
theorem ownB_of_block {e : TypeId} {es : List (List AVal)} {V : Value} {g : Nat} (h : V.ownBlock = some g) : ownB (.slice (.row e) es) V g = 1 := by
  cases V <;> simp [Value.ownBlock] at h
  rename_i a _ _
  cases a <;> simp at h
  simp [ownB, h]
theorem OwnOk.ext {E : Env} {B : Nat} {w w' : World} {fx fx' : Nat → Nat} {v : AVal} {V : Value} (h : OwnOk E B w fx v V) (hx : Ext w fx w' fx')
    (hsame : ∀ g, 0 < ownB v V g → w'.heap[g]? = w.heap[g]? ∧ fx' g = fx g) : OwnOk E B w' fx' v V := by
  cases v <;> try trivial
  rename_i own es
  cases own <;> try trivial
  obtain ⟨ei, Vs, h1, h2, h3, h4, h5, h6⟩ := h
  refine ⟨ei, Vs, h1, h2, h3, RepLL.ext hx _ _ h4, ?_, fun g hg => ?_⟩
  · obtain ⟨hl, hr⟩ := h5
    refine ⟨hl, ?_⟩
    rcases hr with hr | ⟨g, cap, cur, hv, hb, hh, hr⟩
    · exact .inl hr
    · refine .inr ⟨g, cap, cur, hv, hb, ?_, hr⟩
      rw [(hsame g (by rw [ownB_of_block (by rw [hv]; rfl)]; omega)).1]
      exact hh
  · rw [(hsame g (by rw [ownB_of_block hg]; omega)).2]
    exact h6 g hg

/-! ### Objects -/
/-- the entries of a map, in their order -/
def EntsRep (w : World) (fx : Nat → Nat) (kk : KK) : List (AVal × AVal) → List MapEntry → Prop
  | [], [] => True
  | p :: r, q :: s => (keyOk kk p.1 = true ∧ Rep w fx p.1 q.key ∧ Rep w fx p.2 q.val) ∧ EntsRep w fx kk r s
  | _, _ => False
theorem EntsRep.ext {w w' : World} {fx fx' : Nat → Nat} (hx : Ext w fx w' fx') {kk : KK} : ∀ {es : List (AVal × AVal)} {qs : List MapEntry}, EntsRep w fx kk es qs → EntsRep w' fx' kk es qs
  | [], [], _ => trivial
  | p :: r, q :: s, h => ⟨⟨h.1.1, Rep.ext hx _ _ h.1.2.1, Rep.ext hx _ _ h.1.2.2⟩, EntsRep.ext hx (es := r) (qs := s) h.2⟩
  | [], _ :: _, h => h.elim
  | _ :: _, [], h => h.elim
def ObjRep (E : Env) (B : Nat) (w : World) (fx : Nat → Nat) (rho : List Nat) (hold : AVal → Bool) (o : AObj) (g : Nat) : Prop :=
  match o with
  | .cells l => ∃ arr et, w.heap[g]? = some (.cells arr et (0, 0)) ∧ RepOL w fx rho l arr.toList ∧
      (∀ (i : Nat) (v : AVal) (V : Value), l[i]? = some v → arr.toList[i]? = some V → OwnOk E B w fx v V ∧ V.oneCell' = true ∧ hold v = true) ∧ (∀ T, E.bld = some T → isBld l = true → et = T)
  | .iter s pos => w.heap[g]? = some (.stringIter ⟨s.toArray⟩ pos)
  | .map kk es => ∃ arr clock, w.heap[g]? = some (.map arr clock) ∧ EntsRep w fx kk es arr.toList
def ObjsRep (E : Env) (B : Nat) (w : World) (fx : Nat → Nat) (rho : List Nat) (hold : Nat → AVal → Bool) (os : List AObj) (gs : List Nat) : Prop :=
  gs.length = os.length ∧ ∀ (i : Nat) (o : AObj) (g : Nat), os[i]? = some o → gs[i]? = some g → ObjRep E B w fx rho (hold i) o g

theorem RepOL.length {w : World} {fx : Nat → Nat} {rho : List Nat} : ∀ {l : List AVal} {Vs : List Value}, RepOL w fx rho l Vs → Vs.length = l.length
  | [], _, h => by rw [show _ = [] from h]; rfl
  | _ :: r, _, h => by
    obtain ⟨V, Vr, rfl, _, h3⟩ := h
    simp [RepOL.length (l := r) h3]
theorem RepOL.get {w : World} {fx : Nat → Nat} {rho : List Nat} : ∀ {l : List AVal} {Vs : List Value} {i : Nat} {v : AVal}, RepOL w fx rho l Vs → l[i]? = some v →
    ∃ V, Vs[i]? = some V ∧ RepO w fx rho v V
  | [], _, _, _, _, hi => by simp at hi
  | x :: r, Vs, i, v, h, hi => by
    obtain ⟨V, Vr, rfl, h1, h3⟩ := h
    cases i with
    | zero => simp at hi; subst hi; exact ⟨V, rfl, h1⟩
    | succ i => simp at hi ⊢; exact RepOL.get (l := r) h3 hi
theorem RepOL.of_get {w : World} {fx : Nat → Nat} {rho : List Nat} : ∀ {l : List AVal} {Vs : List Value}, Vs.length = l.length →
    (∀ (i : Nat) (v : AVal) (V : Value), l[i]? = some v → Vs[i]? = some V → RepO w fx rho v V) → RepOL w fx rho l Vs
  | [], Vs, hl, _ => by simp at hl; exact hl
  | x :: r, [], hl, _ => by simp at hl
  | x :: r, V :: Vr, hl, h => ⟨V, Vr, rfl, h 0 x V rfl rfl, RepOL.of_get (by simpa using hl) fun i v U hi hU => h (i + 1) v U (by simpa using hi) (by simpa using hU)⟩
theorem ownObj_le (w : World) : ∀ (os : List AObj) (gs : List Nat) (i : Nat) (o : AObj) (g b : Nat), os[i]? = some o → gs[i]? = some g → ownObj w o g b ≤ ownObjs w os gs b
  | [], _, _, _, _, _, h, _ => by simp at h
  | _ :: _, [], _, _, _, _, _, h => by simp at h
  | x :: r, X :: Xr, 0, o, g, b, h, h' => by
    simp at h h'; subst h; subst h'
    simp [ownObjs]
  | x :: r, X :: Xr, i + 1, o, g, b, h, h' => by
    simp at h h'
    have := ownObj_le w r Xr i o g b h h'
    simp [ownObjs]; omega

theorem ObjRep.ext {E : Env} {B : Nat} {w w' : World} {fx fx' : Nat → Nat} {rho rho' : List Nat} {hold : AVal → Bool} {o : AObj} {g : Nat} (h : ObjRep E B w fx rho hold o g)
    (hx : Ext w fx w' fx') (hp : rho <+: rho') (hg : w'.heap[g]? = w.heap[g]?) (hsame : ∀ b, 0 < ownObj w o g b → w'.heap[b]? = w.heap[b]? ∧ fx' b = fx b) : ObjRep E B w' fx' rho' hold o g := by
  cases o with
  | iter s pos => exact hg.trans h
  | map kk es =>
    obtain ⟨arr, clock, h1, h2⟩ := h
    exact ⟨arr, clock, hg.trans h1, h2.ext hx⟩
  | cells l =>
    obtain ⟨arr, et, h1, h2, h3, h5⟩ := h
    refine ⟨arr, et, hg.trans h1, RepOL.ext hx hp h2, fun i v V hi hV => ?_, h5⟩
    obtain ⟨ha, hb, hc⟩ := h3 i v V hi hV
    refine ⟨ha.ext hx fun b hb' => hsame b ?_, hb, hc⟩
    have := ownSum_le_of_get l arr.toList i v V b hi hV
    simp only [ownObj, blockVals, h1]
    omega
theorem ObjsRep.ext {E : Env} {B : Nat} {w w' : World} {fx fx' : Nat → Nat} {rho rho' : List Nat} {hold : Nat → AVal → Bool} {os : List AObj} {gs : List Nat} (h : ObjsRep E B w fx rho hold os gs)
    (hx : Ext w fx w' fx') (hp : rho <+: rho') (hg : ∀ g ∈ gs, w'.heap[g]? = w.heap[g]?) (hsame : ∀ b, 0 < ownObjs w os gs b → w'.heap[b]? = w.heap[b]? ∧ fx' b = fx b) : ObjsRep E B w' fx' rho' hold os gs :=
  ⟨h.1, fun i o g ho hgi => (h.2 i o g ho hgi).ext hx hp (hg g (List.mem_of_getElem? hgi)) fun b hb => hsame b (Nat.lt_of_lt_of_le hb (ownObj_le w os gs i o g b ho hgi))⟩

/-! ### A frame at work -/
structure Ctx where
  w0 : World
  fx0 : Nat → Nat
  S0 : Nat → Prop
  rho0 : List Nat

structure Keep (c : Ctx) (w : World) (fx : Nat → Nat) : Prop where
  size : c.w0.heap.size ≤ w.heap.size
  os : w.os = c.w0.os
  tape : w.tape = c.w0.tape
  output : w.output = c.w0.output
  ext : Ext c.w0 c.fx0 w fx
  block : ∀ b, b < c.w0.heap.size → ¬ c.S0 b → w.heap[b]? = c.w0.heap[b]? ∧ fx b = c.fx0 b

def total (w : World) (rho lam : List Nat) (fr : AFrame) (m : Mem) (Vs : List Value) (b : Nat) : Nat :=
  rho.count b + lam.count b + ownSum fr.tmps Vs b + ownObjs w fr.locs lam b + ownObjs w m rho b

def DefRep (w : World) (fx : Nat → Nat) (rho : List Nat) : List (FuncId × List AVal) → List Deferred → Prop
  | [], ds => ds = []
  | (f, l) :: r, ds => ∃ d dr Vs, ds = d :: dr ∧ RepCL w fx rho l Vs ∧ (∃ cap, d.target = .fn (.func f) cap ∧ d.args ++ cap = Vs.toArray) ∧ DefRep w fx rho r dr
theorem DefRep.ext {w w' : World} {fx fx' : Nat → Nat} {rho rho' : List Nat} (hx : Ext w fx w' fx') (hp : rho <+: rho') : ∀ {l : List (FuncId × List AVal)} {ds : List Deferred}, DefRep w fx rho l ds → DefRep w' fx' rho' l ds
  | [], _, h => h
  | (_, _) :: r, _, h => by
    obtain ⟨d, dr, Vs, rfl, h1, h2, h3⟩ := h
    exact ⟨d, dr, Vs, rfl, RepCL.ext hx hp h1, h2, DefRep.ext hx hp h3⟩

structure Good (E : Env) (B : Nat) (c : Ctx) (w : World) (fx : Nat → Nat) (rho lam : List Nat) (fr : AFrame) (m : Mem) (a : Act) : Prop where
  size : a.tmps.size = fr.tmps.length
  tmp : ∀ (i : Nat) (v : AVal) (V : Value), fr.tmps[i]? = some v → a.tmps.toList[i]? = some V → RepT w fx rho lam v V ∧ OwnOk E B w fx v V
  defs : DefRep w fx rho fr.defers a.defers
  locs : ObjsRep E B w fx rho (fun _ => mayHoldL) fr.locs lam
  mem : ObjsRep E B w fx rho mayHold m rho
  fx0 : ∀ b, b ∈ rho ∨ b ∈ lam → fx b = 0
  fxb : ∀ b, w.heap.size ≤ b → fx b = 0
  tot : ∀ b, total w rho lam fr m a.tmps.toList b ≤ 1
  low : ∀ b, 0 < total w rho lam fr m a.tmps.toList b → B ≤ b ∧ b < w.heap.size ∧ (b < c.w0.heap.size → c.S0 b)
  keep : Keep c w fx
  pre : c.rho0 <+: rho

section
variable {E : Env} {B : Nat} {c : Ctx} {w w' : World} {fx fx' : Nat → Nat} {rho lam : List Nat} {fr : AFrame} {m : Mem} {a : Act}

theorem total_pos_rho {b : Nat} {Vs : List Value} (h : b ∈ rho) : 0 < total w rho lam fr m Vs b := by
  have := List.count_pos_iff.2 h
  unfold total; omega
theorem total_pos_lam {b : Nat} {Vs : List Value} (h : b ∈ lam) : 0 < total w rho lam fr m Vs b := by
  have := List.count_pos_iff.2 h
  unfold total; omega

/-- The world goes on: nothing that is owned turns, but for a block g that nobody owns and that may be written. -/
theorem Good.world (h : Good E B c w fx rho lam fr m a) (hx : Ext w fx w' fx') (hsz : w.heap.size ≤ w'.heap.size) (g : Nat)
    (hg0 : total w rho lam fr m a.tmps.toList g = 0) (hg1 : g < c.w0.heap.size → c.S0 g)
    (hsame : ∀ b, b < w.heap.size → b ≠ g → w'.heap[b]? = w.heap[b]? ∧ fx' b = fx b) (hfxb : ∀ b, w'.heap.size ≤ b → fx' b = 0)
    (h1 : w'.os = w.os) (h2 : w'.tape = w.tape) (h3 : w'.output = w.output) : Good E B c w' fx' rho lam fr m a := by
  have hs : ∀ b, 0 < total w rho lam fr m a.tmps.toList b → w'.heap[b]? = w.heap[b]? ∧ fx' b = fx b := fun b hb =>
    hsame b (h.low b hb).2.1 (by rintro rfl; omega)
  have hrho : ∀ g ∈ rho, w'.heap[g]? = w.heap[g]? := fun g hg => (hs g (total_pos_rho hg)).1
  have hlam : ∀ g ∈ lam, w'.heap[g]? = w.heap[g]? := fun g hg => (hs g (total_pos_lam hg)).1
  have htot : ∀ b, total w' rho lam fr m a.tmps.toList b = total w rho lam fr m a.tmps.toList b := fun b => by
    unfold total
    rw [ownObjs_world fr.locs lam b hlam, ownObjs_world m rho b hrho]
  exact {
    size := h.size
    tmp := fun i v V hi hV => by
      obtain ⟨ha, hb⟩ := h.tmp i v V hi hV
      refine ⟨RepT.ext hx (List.prefix_refl _) (List.prefix_refl _) ha, hb.ext hx fun b hb' => hs b ?_⟩
      have := ownSum_le_of_get fr.tmps a.tmps.toList i v V b hi hV
      unfold total; omega
    defs := h.defs.ext hx (List.prefix_refl _)
    locs := h.locs.ext hx (List.prefix_refl _) hlam fun b hb => hs b (by unfold total; omega)
    mem := h.mem.ext hx (List.prefix_refl _) hrho fun b hb => hs b (by unfold total; omega)
    fx0 := fun b hb => by
      have hp : 0 < total w rho lam fr m a.tmps.toList b := hb.elim total_pos_rho total_pos_lam
      rw [(hs b hp).2]; exact h.fx0 b hb
    fxb := hfxb
    tot := fun b => by rw [htot]; exact h.tot b
    low := fun b hb => by
      rw [htot] at hb
      obtain ⟨x, y, z⟩ := h.low b hb
      exact ⟨x, Nat.lt_of_lt_of_le y hsz, z⟩
    keep := {
      size := Nat.le_trans h.keep.size hsz
      os := h1.trans h.keep.os
      tape := h2.trans h.keep.tape
      output := h3.trans h.keep.output
      ext := h.keep.ext.trans hx
      block := fun b hb hS => by
        obtain ⟨x, y⟩ := h.keep.block b hb hS
        obtain ⟨x', y'⟩ := hsame b (Nat.lt_of_lt_of_le hb h.keep.size) (by rintro rfl; exact hS (hg1 hb))
        exact ⟨x'.trans x, y'.trans y⟩ }
    pre := h.pre }

theorem getElem?_set_ite {α : Type} {l : List α} {i j : Nat} {x v : α} (h : (l.set i x)[j]? = some v) : (i = j ∧ v = x ∧ i < l.length) ∨ (i ≠ j ∧ l[j]? = some v) := by
  by_cases e : i = j
  · subst e
    rw [List.getElem?_set] at h
    simp at h
    exact .inl ⟨rfl, h.2.symm, h.1⟩
  · rw [List.getElem?_set_ne e] at h
    exact .inr ⟨e, h⟩

/-- A slot is written. -/
theorem Good.setTmp (h : Good E B c w fx rho lam fr m a) (i : Nat) {v : AVal} {V : Value} (hr : RepT w fx rho lam v V) (ho : OwnOk E B w fx v V)
    (htot : ∀ b, 0 < ownB v V b → total w rho lam fr m a.tmps.toList b + ownB v V b ≤ 1 ∧ B ≤ b ∧ b < w.heap.size ∧ (b < c.w0.heap.size → c.S0 b)) :
    Good E B c w fx rho lam { fr with tmps := fr.tmps.set i v } m { a with tmps := a.tmps.setIfInBounds i V } := by
  have hl : a.tmps.toList.length = fr.tmps.length := by simpa using h.size
  have hle : ∀ b, total w rho lam { fr with tmps := fr.tmps.set i v } m (a.tmps.setIfInBounds i V).toList b ≤ total w rho lam fr m a.tmps.toList b + ownB v V b := fun b => by
    have : ownSum (fr.tmps.set i v) (a.tmps.toList.set i V) b ≤ ownSum fr.tmps a.tmps.toList b + ownB v V b := by
      rcases Nat.lt_or_ge i fr.tmps.length with hi | hi
      · have := ownSum_set fr.tmps a.tmps.toList i v _ V _ b (List.getElem?_eq_getElem hi) (List.getElem?_eq_getElem (by omega))
        omega
      · rw [List.set_eq_of_length_le (by omega), List.set_eq_of_length_le (by omega)]
        omega
    simp only [total, Array.toList_setIfInBounds]
    omega
  exact {
    size := by simpa using h.size
    tmp := fun j x X hj hX => by
      rw [Array.toList_setIfInBounds] at hX
      rcases getElem?_set_ite hj with ⟨rfl, rfl, hlt⟩ | ⟨hne, hj'⟩
      · rw [List.getElem?_set_self (by omega)] at hX
        injection hX with hX; subst hX
        exact ⟨hr, ho⟩
      · rw [List.getElem?_set_ne hne] at hX
        exact h.tmp j x X hj' hX
    defs := h.defs
    locs := h.locs
    mem := h.mem
    fx0 := h.fx0
    fxb := h.fxb
    tot := fun b => by
      show total w rho lam { fr with tmps := fr.tmps.set i v } m (a.tmps.setIfInBounds i V).toList b ≤ 1
      have h1 := hle b
      have h2 := h.tot b
      rcases Nat.eq_zero_or_pos (ownB v V b) with h0 | h0
      · omega
      · have := (htot b h0).1; omega
    low := fun b hb => by
      replace hb : 0 < total w rho lam { fr with tmps := fr.tmps.set i v } m (a.tmps.setIfInBounds i V).toList b := hb
      have h1 := hle b
      rcases Nat.eq_zero_or_pos (ownB v V b) with h0 | h0
      · exact h.low b (by omega)
      · exact (htot b h0).2
    keep := h.keep
    pre := h.pre }

/-- A slot that names a row gives it up. -/
theorem Good.drop (h : Good E B c w fx rho lam fr m a) (i : Nat) {v : AVal} {V : Value} (hv : fr.tmps[i]? = some v) (hV : a.tmps.toList[i]? = some V) :
    Good E B c w fx rho lam { fr with tmps := fr.tmps.set i (disown v) } m a ∧
      ∀ b, total w rho lam { fr with tmps := fr.tmps.set i (disown v) } m a.tmps.toList b + ownB v V b = total w rho lam fr m a.tmps.toList b := by
  have hd : ∀ b, ownSum (fr.tmps.set i (disown v)) a.tmps.toList b + ownB v V b = ownSum fr.tmps a.tmps.toList b := fun b => by
    have := ownSum_set fr.tmps a.tmps.toList i (disown v) v V V b hv hV
    have e : a.tmps.toList.set i V = a.tmps.toList := by
      apply List.ext_getElem?
      intro j
      by_cases hij : i = j
      · subst hij
        rw [List.getElem?_set_self (by
          rcases Nat.lt_or_ge i a.tmps.toList.length with h | h
          · exact h
          · simp [List.getElem?_eq_none h] at hV), hV]
      · rw [List.getElem?_set_ne hij]
    rw [e, ownB_disown] at this
    omega
  have ht : ∀ b, total w rho lam { fr with tmps := fr.tmps.set i (disown v) } m a.tmps.toList b + ownB v V b = total w rho lam fr m a.tmps.toList b := fun b => by
    have := hd b
    simp only [total]
    omega
  refine ⟨{
    size := by simpa using h.size
    tmp := fun j x X hj hX => by
      rcases getElem?_set_ite hj with ⟨rfl, rfl, hlt⟩ | ⟨hne, hj'⟩
      · rw [hV] at hX; injection hX with hX; subst hX
        obtain ⟨ha, _⟩ := h.tmp i v V hv hV
        refine ⟨?_, OwnOk.of_disown _ _⟩
        cases v with
        | slice own es => cases own <;> exact ha
        | _ => exact ha
      · exact h.tmp j x X hj' hX
    defs := h.defs
    locs := h.locs
    mem := h.mem
    fx0 := h.fx0
    fxb := h.fxb
    tot := fun b => by have := ht b; have := h.tot b; omega
    low := fun b hb => h.low b (by have := ht b; omega)
    keep := h.keep
    pre := h.pre }, ht⟩
end

end Go.Abs
