/- Regions that draw their order and call: whatever order is drawn, the order of the text tells what comes of it. -/
import Derived.Test.YtlklpdifcpjlpaaDoorAbsSound
namespace Go.Abs
set_option linter.unusedSectionVars false
set_option linter.unusedSimpArgs false
set_option linter.unusedVariables false

theorem tset_same (l : List AVal) (d : Nat) (v : AVal) (h : tget l d = v) (hv : v ≠ .any) : tset l d v = l := by
  rw [tset_eq]
  rw [tget_eq, List.getD_eq_getElem?_getD] at h
  apply List.ext_getElem?
  intro i
  by_cases e : d = i
  · subst e
    rcases Nat.lt_or_ge d l.length with hlt | hge
    · rw [List.getElem?_set_self hlt, List.getElem?_eq_getElem hlt]
      rw [List.getElem?_eq_getElem hlt] at h
      rw [← h]; rfl
    · rw [List.getElem?_eq_none (by simpa using hge), List.getElem?_eq_none hge]
  · rw [List.getElem?_set_ne e]
theorem tget_tset_ne (l : List AVal) (d t : Nat) (v : AVal) (h : d ≠ t) : tget (tset l d v) t = tget l t := by
  rw [tset_eq, tget_eq, tget_eq, List.getD_eq_getElem?_getD, List.getD_eq_getElem?_getD, List.getElem?_set_ne h]
theorem tset_comm (l : List AVal) (d t : Nat) (v u : AVal) (h : d ≠ t) : tset (tset l d v) t u = tset (tset l t u) d v := by
  simp only [tset_eq]; exact List.set_comm _ _ h

section
variable {P : Program} {E : Env} {B : Nat} {c : Ctx} {w w' : World} {fx fx' : Nat → Nat} {rho rho' lam : List Nat} {fr : AFrame} {m m' : Mem} {a : Act} {D : Ora}
variable {R : Type} {r : R} {o : Oper} {next : Act → World → Prop} {Q : Exit → Act → World → Prop} {K : AFrame → Mem → Option R} {Kp : AVal → AFrame → Mem → Option R}

theorem leave1_noRow {x : Operand} {v : AVal} (h : ev E fr x = some v) (hn : noRow v = true) : leave1 fr x = fr := by
  cases x with
  | tmp t =>
    obtain ⟨h1, h2⟩ := ev_tmp h
    simp only [leave1]
    rw [h1, disown_noRow hn, tset_same _ _ _ h1 h2]
  | _ => rfl
theorem argsD_ok {f : FuncId} : ∀ {l : List Operand} {i : Nat} {vs : List AVal}, argsD E f fr i l = some vs → argsOf E f i l fr = some (vs, fr)
  | [], i, vs, h => by injection h with h; subst h; rfl
  | x :: l, i, vs, h => by
    simp only [argsD] at h
    split at h
    · rename_i vs' hl
      split at h
      · rename_i v hv
        split at h
        · rename_i v' ha
          injection h with h; subst h
          simp only [argsOf, argsD_ok hl, hv]
          unfold argD at ha
          split at ha
          · cases ha
          · rename_i hne
            cases v <;> first | (exact absurd rfl (hne _ _)) | skip
            all_goals
              try simp only
              split at ha
              · split at ha
                · injection ha with ha; subst ha
                  rename_i hm hn
                  rw [if_pos hm, leave1_noRow hv hn]
                · cases ha
              · injection ha with ha; subst ha
                rename_i hm
                rw [if_neg hm]
        · cases h
      · cases h
    · cases h

theorem plainMove_noRow {v : AVal} (h : plainMove v = true) : noRow v = true := by
  cases v <;> try rfl
  rename_i own es; cases own <;> first | rfl | cases h
theorem plainMove_promo {v : AVal} (h : plainMove v = true) (F : FuncId) (d : Option Tmp) : promoS E F d v = v := by
  cases d with
  | none => rfl
  | some d =>
    rcases promo_cases E (E.row F d) v with e | ⟨e, ei, _, rfl, _⟩
    · exact e
    · cases h
theorem drawOp_abs {F : FuncId} {ops : List Oper} (h : drawOp E D o fr m (fun v m' => K (Abs.put fr o.dst v) m') = some r) : absOp E D F ops o fr m K Kp = some r := by
  unfold drawOp at h
  unfold absOp
  dsimp only
  split at h <;> rename_i hop
  · simp only [hop]
    split at h
    · rename_i v hv
      split at h
      · rename_i hn
        have hn' := plainMove_noRow hn
        simp only [leave1_noRow hv hn', plainMove_promo hn, disown_noRow hn', ite_self]; exact h
      · cases h
    · cases h
  · simp only [hop]
    split at h
    · rename_i v hv
      split at h
      · rename_i hn
        simp only [leave1_noRow hv (plainMove_noRow hn), plainMove_promo hn]; exact h
      · cases h
    · cases h
  · simp only [hop]; exact h
  · simp only [hop]; exact h
  · simp only [hop]
    split at h
    · rename_i p hp
      split at h
      · exact h
      · rename_i himm
        split at h
        · split at h
          · rename_i v hv
            split at h
            · rename_i hn
              simp only [hv, hn, Bool.not_true, Bool.and_false, Bool.false_eq_true, if_false, disown_noRow hn]; exact h
            · cases h
          · cases h
        · cases h
    · cases h
  · simp only [hop]; exact h
  · simp only [hop]; exact h
  · simp only [hop]; exact h
  · simp only [hop]
    split at h
    · rename_i v hv
      split at h
      · cases h
      · rename_i hne
        first
          | exact h
          | (split <;> first | exact h | (rename_i hz; rw [hz] at h; exact h) | (simp_all; done) | (rw [‹convV E _ _ _ = none›] at h; cases h))
    · cases h
  · simp only [hop]
    split at h
    · rename_i v ti hv hti
      cases hk : ti.kind with
      | iface => simp only [hk] at h; cases h
      | _ =>
        simp only [hk] at h ⊢
        split at h
        · rename_i hd; simp only [hd, if_true]; exact h
        · cases h
    · cases h
  · simp only [hop]
    split at h
    · cases h
    · rename_i hmx
      split at h
      · rw [if_neg hmx]; exact h
      · cases h
  · simp only [hop]; exact h
  · simp only [hop]; exact h
  · simp only [hop]; exact h
  · simp only [hop]; exact h
  · simp only [hop]; exact h
  · rename_i cl
    simp only [hop]
    split at h
    · rename_i x hc
      simp only [hc]
      split at h
      · rename_i f caps hx
        split at h
        · rename_i vs hvs
          rw [argsD_ok hvs]
          unfold absCall
          split at h
          · cases h
          · rename_i fn hf
            simp only [hf]
            obtain ⟨⟨out, m'⟩, h1, h2⟩ := CT.run_some h
            rw [CT.run_eq, h1]
            cases out with
            | ret v => exact h2
            | pan v => cases h2
        · cases h
      · cases h
    · rename_i hc; simp only [hc]; exact h
    · rename_i hc; simp only [hc]; exact h
    · rename_i hc; simp only [hc]; exact h
    · cases h
  · cases h

/-- what the operation yields, and the memory behind it -/
abbrev dyn (E : Env) (D : Ora) (o : Oper) (fr : AFrame) (m : Mem) : Option (AVal × Mem) := drawOp E D o fr m fun v m => some (v, m)

theorem toK_bind {x : Option AVal} {m : Mem} {k : AVal → Mem → Option R} : (toK x fun v => some (v, m)).bind (fun p => k p.1 p.2) = toK x fun v => k v m := by
  cases x <;> rfl
theorem callD_bind {ct : CT (Out × Mem)} {k : AVal → Mem → Option R} : ct.run (callD k) = (ct.run (callD fun v m => some (v, m))).bind fun p => k p.1 p.2 := by
  rw [CT.run_eq, CT.run_eq]
  cases ct.eval with
  | none => rfl
  | some x =>
    obtain ⟨out, m'⟩ := x
    cases out <;> rfl
theorem cond_bind {b : Bool} {v : AVal} {m' : Mem} {k : AVal → Mem → Option R} : (bif b then k v m' else none) = (bif b then some (v, m') else none).bind fun q => k q.1 q.2 := by cases b <;> rfl
theorem loadC_bind {t : TypeId} {p : List AVal} {k : AVal → Mem → Option R} : (loadC E t p fun v => k (disown v) m) = (loadC E t p fun v => some (disown v, m)).bind fun q => k q.1 q.2 := by
  rw [loadC_nat, loadC_nat (kk := fun v => some (disown v, m))]
  cases loadC E t p some <;> rfl
theorem loadC_map {t : TypeId} {p : List AVal} {m2 : Mem} : (loadC E t p fun v => some (disown v, m2)) = (loadC E t p fun v => some (disown v, m)).map fun q => (q.1, m2) := by
  rw [loadC_nat, loadC_nat (kk := fun v => some (disown v, m))]
  cases loadC E t p some <;> rfl
theorem drawOp_bind (k : AVal → Mem → Option R) : drawOp E D o fr m k = (dyn E D o fr m).bind fun p => k p.1 p.2 := by
  unfold dyn drawOp
  split
  all_goals (try simp only [binC_eq, convC_eq, sliceC_eq, indexC_eq, elemC_eq, asB, asI])
  all_goals (repeat' split)
  all_goals first | rfl | exact toK_bind.symm | exact loadC_bind | exact callD_bind | simp_all

theorem dyn_some {k : AVal → Mem → Option R} (h : drawOp E D o fr m k = some r) : ∃ v m', dyn E D o fr m = some (v, m') ∧ k v m' = some r := by
  rw [drawOp_bind] at h
  cases hd : dyn E D o fr m with
  | none => rw [hd] at h; cases h
  | some p => rw [hd] at h; exact ⟨p.1, p.2, rfl, h⟩

/-- two frames in which an operation finds the same -/
def Alike (E : Env) (fr fr2 : AFrame) (o : Oper) : Prop := (∀ x ∈ o.op.operands, ev E fr x = ev E fr2 x) ∧ fr.locs = fr2.locs

theorem evs_alike {fr2 : AFrame} : ∀ {l : List Operand}, (∀ x ∈ l, ev E fr x = ev E fr2 x) → evs E fr l = evs E fr2 l
  | [], _ => rfl
  | x :: l, h => by simp only [evs, h x (List.mem_cons_self ..), evs_alike fun x hx => h x (List.mem_cons_of_mem _ hx)]
theorem evParts_alike {fr2 : AFrame} : ∀ {l : List (Nat × Operand)}, (∀ x ∈ l.map (·.2), ev E fr x = ev E fr2 x) → evParts E fr l = evParts E fr2 l
  | [], _ => rfl
  | (i, x) :: l, h => by
    simp only [evParts, h x (by simp), evParts_alike (l := l) fun x hx => h x (by simp at hx ⊢; exact .inr hx)]
theorem argsD_alike {fr2 : AFrame} {f : FuncId} : ∀ {l : List Operand} {i : Nat}, (∀ x ∈ l, ev E fr x = ev E fr2 x) → argsD E f fr i l = argsD E f fr2 i l
  | [], _, _ => rfl
  | x :: l, i, h => by simp only [argsD, h x (List.mem_cons_self ..), argsD_alike fun x hx => h x (List.mem_cons_of_mem _ hx)]
theorem loadV_still {fr2 : AFrame} {t : TypeId} {p : AVal} {m2 : Mem} (hl : fr.locs = fr2.locs) (hp : stillPlace p = true) : loadV E fr m t p = loadV E fr2 m2 t p := by
  unfold loadV
  cases hT : E.T t with
  | none => rfl
  | some ti =>
    have : getCells fr m p ti.size = getCells fr2 m2 p ti.size := by
      cases p <;> first | (cases hp; done) | skip
      · simp only [getCells, hl]
      · rfl
    simp only [this]

theorem dyn_alike {fr2 : AFrame} (h : Alike E fr fr2 o) : dyn E D o fr m = dyn E D o fr2 m := by
  obtain ⟨he, hl⟩ := h
  unfold dyn drawOp
  split <;> rename_i hop <;> simp only [hop, Op.operands, Call.operands] at he
  · rw [he _ (by simp)]
  · rw [he _ (by simp)]
  · rename_i x y z
    rw [he x (by simp)]
    congr 1
    funext t
    cases t
    · simp only [Bool.false_eq_true, if_false, he z (by simp)]
    · simp only [if_true, he y (by simp)]
  · rw [evParts_alike (fr2 := fr2) (by simpa using he)]
  · rw [he _ (by simp)]
    split
    · rename_i p hp
      split
      · rfl
      · split
        · rename_i hs; rw [loadV_still hl hs]
        · rfl
    · rfl
  · rw [he _ (by simp)]
  · rw [he _ (by simp), he _ (by simp)]
  · rw [he _ (by simp)]
  · rw [he _ (by simp)]
  · rw [he _ (by simp)]
  · rename_i t x lo hi mx
    rw [he x (by simp)]
    have h1 : lo.map (ev E fr) = lo.map (ev E fr2) := by
      cases lo with
      | none => rfl
      | some y => simp only [Option.map_some, he y (by simp)]
    have h2 : hi.map (ev E fr) = hi.map (ev E fr2) := by
      cases hi with
      | none => rfl
      | some y => simp only [Option.map_some, he y (by simp)]
    rw [h1, h2]
  · rw [he _ (by simp)]
  · rw [he _ (by simp)]
  · rename_i t x i
    rw [he x (by simp), he i (by simp)]
  · rename_i t x i
    rw [he x (by simp), he i (by simp)]
  · rw [he _ (by simp)]
  · rename_i cl
    split
    · rename_i x hc
      simp only [hc] at he
      have ha : ∀ f, argsD E f fr 0 cl.args.toList = argsD E f fr2 0 cl.args.toList := fun f => argsD_alike fun y hy => he y (by simp; exact .inr (by simpa using hy))
      simp only [he x (by simp), ha]
    · rename_i hc
      simp only [hc] at he
      split
      · rename_i x t hx ht
        rw [he x (by simp; exact Array.mem_of_getElem? hx)]
      · rfl
    · rename_i hc
      simp only [hc] at he
      rw [evs_alike (fr2 := fr2) fun y hy => he y (by simpa using hy)]
    · rename_i hc
      simp only [hc] at he
      rw [evs_alike (fr2 := fr2) fun y hy => he y (by simpa using hy)]
    · rfl
  · rfl

theorem toK_map {x : Option AVal} {m m2 : Mem} : (toK x fun v => some (v, m2)) = (toK x fun v => some (v, m)).map fun p => (p.1, m2) := by
  cases x <;> rfl
theorem dyn_mem (hq : quietB o = true) (m2 : Mem) : dyn E D o fr m2 = (dyn E D o fr m).map fun p => (p.1, m2) := by
  unfold dyn drawOp
  split <;> rename_i hop
  case h_5 =>
    split
    · rename_i p hp
      split
      · exact loadC_map
      · split
        · rename_i hs
          rw [loadV_still (fr2 := fr) (m2 := m) rfl hs]
          repeat' split
          all_goals rfl
        · rfl
    · rfl
  case h_17 =>
    rename_i cl
    split
    · rename_i x hc
      simp [quietB, hop, hc] at hq
    all_goals (repeat' split)
    all_goals first | rfl | exact toK_map
  all_goals (try simp only [binC_eq, convC_eq, sliceC_eq, indexC_eq, elemC_eq, asB, asI])
  all_goals (repeat' split)
  all_goals first | rfl | exact toK_map
theorem dyn_quiet (hq : quietB o = true) {v : AVal} (h : dyn E D o fr m = some (v, m')) : m' = m ∧ ∀ m2, dyn E D o fr m2 = some (v, m2) := by
  have h1 := dyn_mem (E := E) (D := D) (fr := fr) (m := m) hq m
  rw [h] at h1
  injection h1 with h1
  injection h1 with _ h1
  refine ⟨h1, fun m2 => ?_⟩
  rw [dyn_mem (m := m) hq m2, h]; rfl

/-! ### The guard -/
def wantA (ops : List Oper) (o : Oper) (fr : AFrame) : Option Bool := withGuard ops o fr (fun _ => some true) (fun _ => some false)
theorem want_some {ops : List Oper} {yes no : AFrame → Option R} (h : withGuard ops o fr yes no = some r) : (wantA ops o fr = some true ∧ yes fr = some r) ∨ (wantA ops o fr = some false ∧ no fr = some r) := by
  unfold wantA
  unfold withGuard at h ⊢
  split at h
  · exact .inl ⟨rfl, h⟩
  · rename_i j want hgd
    split at h
    · cases h
    · rename_i d hd
      split at h
      · rename_i b hb
        have hne : AVal.bool b ≠ .any := fun e => by cases e
        cases b <;> cases want <;> simp only [Bool.false_eq_true, if_true, if_false] at h ⊢ <;> rw [tset_same _ _ _ hb hne] at h <;> (try simp only [hb]) <;> first | exact .inl ⟨trivial, h⟩ | exact .inr ⟨trivial, h⟩ | exact .inl ⟨rfl, h⟩ | exact .inr ⟨rfl, h⟩ | simp_all
      · rename_i hb
        first | exact .inr ⟨rfl, h⟩ | simp_all
      · cases h
theorem want_alike {ops : List Oper} {fr2 : AFrame} (h : ∀ j w d, o.guard = some (j, w) → (ops[j]?).bind (·.dst) = some d → tget fr.tmps d = tget fr2.tmps d) : wantA ops o fr = wantA ops o fr2 := by
  unfold wantA withGuard
  cases hg : o.guard with
  | none => rfl
  | some p =>
    obtain ⟨j, w⟩ := p
    simp only
    cases hd : (ops[j]?).bind (·.dst) with
    | none => rfl
    | some d =>
      simp only [h j w d hg hd]
      generalize tget fr2.tmps d = z
      cases z <;> first | rfl | (rename_i b; cases b <;> cases w <;> rfl) | (rename_i l; cases l <;> rfl)

/-- what an operation leaves in its slot, its guard reckoned in -/
def YA (E : Env) (D : Ora) (ops : List Oper) (o : Oper) (fr : AFrame) (m : Mem) (v : AVal) (m' : Mem) : Prop :=
  (wantA ops o fr = some true ∧ dyn E D o fr m = some (v, m')) ∨ (wantA ops o fr = some false ∧ v = .tup [] ∧ m' = m)
theorem YA.quiet {ops : List Oper} {v : AVal} (hq : quietB o = true) (h : YA E D ops o fr m v m') : m' = m ∧ ∀ m2, YA E D ops o fr m2 v m2 := by
  rcases h with ⟨h1, h2⟩ | ⟨h1, h2, h3⟩
  · obtain ⟨h3, h4⟩ := dyn_quiet hq h2
    exact ⟨h3, fun m2 => .inl ⟨h1, h4 m2⟩⟩
  · exact ⟨h3, fun m2 => .inr ⟨h1, h2, rfl⟩⟩

theorem ev_put {dst : Option Tmp} {u : AVal} {x : Operand} (h : ∀ d, dst = some d → x ≠ .tmp d) : ev E (Abs.put fr dst u) x = ev E fr x := by
  cases dst with
  | none => rfl
  | some d =>
    cases x with
    | tmp t =>
      have hne : d ≠ t := fun e => h d rfl (e ▸ rfl)
      simp only [ev, Abs.put, tget_tset_ne _ _ _ _ hne]
    | _ => rfl
theorem alike_put {ops : Array Oper} {dst : Option Tmp} {u : AVal} (h : ∀ d, dst = some d → d ∉ o.looksAt ops) : Alike E (Abs.put fr dst u) fr o ∧ wantA ops.toList o (Abs.put fr dst u) = wantA ops.toList o fr := by
  refine ⟨⟨fun x hx => ev_put fun d hd e => h d hd ?_, by cases dst <;> rfl⟩, want_alike fun j w d hg hd => ?_⟩
  · subst e
    simp only [Oper.looksAt, List.mem_append, List.mem_filterMap]
    exact .inl ⟨_, by simpa using hx, rfl⟩
  · cases dst with
    | none => rfl
    | some e =>
      have hne : e ≠ d := fun he => h e rfl (by
        subst he
        simp only [Oper.looksAt, hg]
        refine List.mem_append_right _ ?_
        have hd' : (ops[j]?).bind (·.dst) = some e := by simpa using hd
        rw [hd']; simp)
      simp only [Abs.put, tget_tset_ne _ _ _ _ hne]
theorem YA.put {ops : Array Oper} {dst : Option Tmp} {u v : AVal} (h : ∀ d, dst = some d → d ∉ o.looksAt ops) : YA E D ops.toList o (Abs.put fr dst u) m v m' ↔ YA E D ops.toList o fr m v m' := by
  obtain ⟨h1, h2⟩ := alike_put (E := E) (fr := fr) (u := u) h
  unfold YA
  rw [dyn_alike h1, h2]
theorem put_comm {x y : Option Tmp} {v u : AVal} (h : ∀ d, x = some d → y ≠ some d) : Abs.put (Abs.put fr x v) y u = Abs.put (Abs.put fr y u) x v := by
  cases x with
  | none => rfl
  | some d =>
    cases y with
    | none => rfl
    | some e =>
      have hne : d ≠ e := fun he => h d rfl (he ▸ rfl)
      simp only [Abs.put, tset_comm _ _ _ _ _ hne]

/-! ### Any order -/
def dOp (E : Env) (D : Ora) (ops : Array Oper) (i : Nat) (X : AFrame → Mem → Prop) (fr : AFrame) (m : Mem) : Prop :=
  match ops[i]? with
  | none => X fr m
  | some o => ∃ v m', YA E D ops.toList o fr m v m' ∧ X (Abs.put fr o.dst v) m'
theorem dOp_mono {ops : Array Oper} {i : Nat} {X Y : AFrame → Mem → Prop} (h : ∀ fr m, X fr m → Y fr m) (hh : dOp E D ops i X fr m) : dOp E D ops i Y fr m := by
  unfold dOp at *
  split
  · exact h _ _ (by simpa [*] using hh)
  · rename_i o ho
    simp only [ho] at hh
    obtain ⟨v, m', h1, h2⟩ := hh
    exact ⟨v, m', h1, h _ _ h2⟩
def dAny (E : Env) (D : Ora) (ops : Array Oper) (X : AFrame → Mem → Prop) : Nat → Array Bool → AFrame → Mem → Prop
  | 0, listed, fr, m => Region.ready .any ops listed = [] ∧ X fr m
  | n + 1, listed, fr, m => (Region.ready .any ops listed = [] → X fr m) ∧ ∀ i ∈ Region.ready .any ops listed, dOp E D ops i (dAny E D ops X n (listed.setIfInBounds i true)) fr m

theorem dOp_comm {ops : Array Oper} {j : Nat} {oi oj : Oper} {v : AVal} {m1 : Mem} (hj : ops[j]? = some oj) (hap : oi.apart ops oj = true) (hq : quietB oi = true ∨ quietB oj = true)
    {X : AFrame → Mem → Prop} (hy : YA E D ops.toList oi fr m v m1) (h : dOp E D ops j X (Abs.put fr oi.dst v) m1) :
    dOp E D ops j (fun fr' m' => ∃ m1', YA E D ops.toList oi fr' m' v m1' ∧ X (Abs.put fr' oi.dst v) m1') fr m := by
  obtain ⟨h1, h2, h3⟩ := Oper.apart_spec hap
  unfold dOp at *
  simp only [hj] at *
  obtain ⟨u, m2, hu, hX⟩ := h
  rw [YA.put h1] at hu
  rcases hq with hq | hq
  · obtain ⟨rfl, hy'⟩ := hy.quiet hq
    exact ⟨u, m2, hu, m2, (YA.put h3).2 (hy' m2), by rw [put_comm fun d hd e => h2 d e hd]; exact hX⟩
  · obtain ⟨rfl, hu'⟩ := hu.quiet hq
    exact ⟨u, m, hu' m, m2, (YA.put h3).2 hy, by rw [put_comm fun d hd e => h2 d e hd]; exact hX⟩

/-! ### What waits for what -/
def Closed (ops : Array Oper) (listed : Array Bool) : Prop := ∀ j oj, ops[j]? = some oj → listed.getD j false = true → ∀ e ∈ oj.after, Region.binds .any e = true → listed.getD e.on false = true
theorem waits_listed {ops : Array Oper} {listed : Array Bool} (hc : Closed ops listed) {i : Nat} : ∀ (n j : Nat), waitsB ops n j i = true → (∀ oj, ops[j]? = some oj → ∀ e ∈ oj.after, Region.binds .any e = true → listed.getD e.on false = true) → listed.getD i false = true
  | 0, _, h, _ => by cases h
  | n + 1, j, h, hr => by
    simp only [waitsB, Bool.or_eq_true] at h
    rcases h with h | h
    · unfold directB at h
      split at h
      · cases h
      · rename_i oj hj
        obtain ⟨e, he, hb⟩ := Array.any_eq_true'.1 h
        simp only [Bool.and_eq_true, beq_iff_eq] at hb
        have := hr oj hj e he hb.1
        rw [hb.2] at this; exact this
    · split at h
      · cases h
      · rename_i oj hj
        obtain ⟨e, he, hb⟩ := Array.any_eq_true'.1 h
        simp only [Bool.and_eq_true] at hb
        exact waits_listed hc n e.on hb.2 fun ok hk => hc e.on ok hk (hr oj hj e he hb.1)
theorem closed_set {ops : Array Oper} {listed : Array Bool} (hc : Closed ops listed) {j : Nat} (hj : j ∈ Region.ready .any ops listed) : Closed ops (listed.setIfInBounds j true) := by
  intro k ok hk hl e he hb
  by_cases hjk : j = k
  · subst hjk
    obtain ⟨_, oj, hoj, hall⟩ := mem_ready.1 hj
    rw [hoj] at hk; injection hk with hk; subst hk
    exact getD_set_true (hall e he hb)
  · rw [getD_set_ne false hjk] at hl
    exact getD_set_true (hc k ok hk hl e he hb)
theorem getD_true_false {listed : Array Bool} {i : Nat} (h : listed.getD i true = false) : listed.getD i false = false := by
  rcases Nat.lt_or_ge i listed.size with h' | h'
  · simp [h'] at h ⊢; exact h
  · simp [Array.getElem?_eq_none h']

theorem dAny_first {ops : Array Oper} {X : AFrame → Mem → Prop} {i : Nat} {oi : Oper} {v : AVal} (hi : ops[i]? = some oi) : ∀ (fuel : Nat) (listed : Array Bool) (fr : AFrame) (m m1 : Mem), Closed ops listed →
    (∀ j oj, ops[j]? = some oj → j ≠ i → listed.getD j true = false → waitsB ops 4 j i = false → oi.apart ops oj = true ∧ (quietB oi = true ∨ quietB oj = true)) →
    i ∈ Region.ready .any ops listed → YA E D ops.toList oi fr m v m1 → dAny E D ops X fuel (listed.setIfInBounds i true) (Abs.put fr oi.dst v) m1 → dAny E D ops X (fuel + 1) listed fr m := by
  intro fuel
  have hwait : ∀ (listed : Array Bool), Closed ops listed → i ∈ Region.ready .any ops listed → ∀ j, j ∈ Region.ready .any ops listed → waitsB ops 4 j i = false := fun listed hc hr j hj => by
    cases hw : waitsB ops 4 j i with
    | false => rfl
    | true =>
      obtain ⟨_, oj, hoj, hall⟩ := mem_ready.1 hj
      have h1 := waits_listed hc 4 j hw fun ok hk => by rw [hoj] at hk; injection hk with hk; subst hk; exact hall
      have h2 := getD_true_false (mem_ready.1 hr).1
      rw [h1] at h2; cases h2
  induction fuel with
  | zero =>
    intro listed fr m m1 hc hfree hr hy H
    refine ⟨fun h => (by rw [h] at hr; cases hr), fun j hj => ?_⟩
    by_cases hji : j = i
    · subst hji; unfold dOp; simp only [hi]; exact ⟨v, m1, hy, H⟩
    · have := ready_mono hj hji
      rw [H.1] at this
      cases this
  | succ fuel ih =>
    intro listed fr m m1 hc hfree hr hy H
    refine ⟨fun h => (by rw [h] at hr; cases hr), fun j hj => ?_⟩
    by_cases hji : j = i
    · subst hji; unfold dOp; simp only [hi]; exact ⟨v, m1, hy, H⟩
    · have h1 := H.2 j (ready_mono hj hji)
      obtain ⟨hjun, oj, hoj, hall⟩ := mem_ready.1 hj
      obtain ⟨hap, hq⟩ := hfree j oj hoj hji hjun (hwait listed hc hr j hj)
      have h2 := dOp_comm hoj hap hq hy h1
      refine dOp_mono (fun fr' m' ⟨m1', h3, h4⟩ => ih (listed.setIfInBounds j true) fr' m' m1' (closed_set hc hj) (fun k ok hk hki hun hno => ?_) (ready_mono hr (Ne.symm hji)) h3 ?_) h2
      · refine hfree k ok hk hki ?_ hno
        by_cases hjk : j = k
        · subst hjk; exact hjun
        · rw [getD_set_ne true hjk] at hun; exact hun
      · rw [Array.setIfInBounds_comm _ _ hji]
        exact h4

/-- the first k operations are listed -/
def Pre (ops : Array Oper) (k : Nat) (listed : Array Bool) : Prop := listed.size = ops.size ∧ ∀ j, j < ops.size → listed[j]? = some (decide (j < k))
theorem Pre.getD {ops : Array Oper} {k : Nat} {listed : Array Bool} (h : Pre ops k listed) {j : Nat} (d : Bool) (hj : j < ops.size) : listed.getD j d = decide (j < k) := by
  simp [h.2 j hj]

theorem dAny_lex {ops : Array Oper} (hB : lexA ops = true) : ∀ (l : List Oper) (k : Nat) (listed : Array Bool) (fr : AFrame) (m : Mem), (∀ j, l[j]? = ops[k + j]?) → Pre ops k listed →
    runDraw E D ops.toList l fr m K = some r → dAny E D ops (fun fr m => K fr m = some r) l.length listed fr m
  | [], k, listed, fr, m, hl, hp, h => by
    refine ⟨?_, h⟩
    have hk : ops.size ≤ k := by
      have := hl 0
      simp at this
      omega
    apply List.eq_nil_iff_forall_not_mem.2
    intro j hj
    obtain ⟨h0, o, ho, _⟩ := mem_ready.1 hj
    have hlt : j < ops.size := (Array.getElem?_eq_some_iff.1 ho).1
    rw [hp.getD true hlt] at h0
    simp at h0; omega
  | o :: l, k, listed, fr, m, hl, hp, h => by
    have h0 : ops[k]? = some o := by simpa using (hl 0).symm
    have hk : k < ops.size := (Array.getElem?_eq_some_iff.1 h0).1
    have hlk := List.all_eq_true.1 hB k (List.mem_range.2 hk)
    simp only [h0, Bool.and_eq_true] at hlk
    obtain ⟨ha, hf⟩ := hlk
    have hbind : ∀ e ∈ o.after, Region.binds .any e = true → e.on < k := fun e he hb => by
      have := Array.all_eq_true_iff_forall_mem.1 ha e he
      rw [hb] at this; simpa using this
    have hr : k ∈ Region.ready .any ops listed := by
      refine mem_ready.2 ⟨by rw [hp.getD true hk]; simp, o, h0, fun e he hb => ?_⟩
      have := hbind e he hb
      rw [hp.getD false (by omega)]; simpa using this
    have hc : Closed ops listed := fun j oj hj hlj e he hb => by
      have hlt : j < ops.size := (Array.getElem?_eq_some_iff.1 hj).1
      rw [hp.getD false hlt] at hlj
      have hjk : j < k := by simpa using hlj
      have hlj' := List.all_eq_true.1 hB j (List.mem_range.2 hlt)
      simp only [hj, Bool.and_eq_true] at hlj'
      have := Array.all_eq_true_iff_forall_mem.1 hlj'.1 e he
      rw [hb] at this
      have hej : e.on < j := by simpa using this
      rw [hp.getD false (by omega)]; simp; omega
    have hp' : Pre ops (k + 1) (listed.setIfInBounds k true) := by
      refine ⟨by simp [hp.1], fun j hj => ?_⟩
      by_cases e : k = j
      · subst e
        simp [Array.getElem?_setIfInBounds_self, hp.1, hj]
      · rw [Array.getElem?_setIfInBounds_ne e, hp.2 j hj]
        congr 1
        have : (j < k) = (j < k + 1) := by apply propext; omega
        simp only [this]
    have hfree : ∀ j oj, ops[j]? = some oj → j ≠ k → listed.getD j true = false → waitsB ops 4 j k = false → o.apart ops oj = true ∧ (quietB o = true ∨ quietB oj = true) := fun j oj hj hne hun hno => by
      have hlt : j < ops.size := (Array.getElem?_eq_some_iff.1 hj).1
      rw [hp.getD true hlt] at hun
      have hkj : k ≤ j := by simpa using hun
      have := List.all_eq_true.1 hf j (List.mem_range.2 hlt)
      simp only [freeA, hj, hno, Bool.or_false, Bool.or_eq_true, Bool.and_eq_true, decide_eq_true_eq] at this
      rcases this with h | h
      · omega
      · exact ⟨h.1, h.2⟩
    simp only [runDraw] at h
    rcases want_some h with ⟨hw, h⟩ | ⟨hw, h⟩
    · obtain ⟨v, m', h1, h2⟩ := dyn_some h
      exact dAny_first h0 l.length listed fr m m' hc hfree hr (.inl ⟨hw, h1⟩) (dAny_lex hB l (k + 1) _ _ _ (fun j => by have := hl (j + 1); simpa [Nat.add_assoc, Nat.add_comm 1 j] using this) hp' h2)
    · exact dAny_first h0 l.length listed fr m m hc hfree hr (.inr ⟨hw, rfl, rfl⟩) (dAny_lex hB l (k + 1) _ _ _ (fun j => by have := hl (j + 1); simpa [Nat.add_assoc, Nat.add_comm 1 j] using this) hp' h)

/-- what the guard says -/
theorem guard_sound (hg : Good E B c w fx rho lam fr m a) {ops : Array Oper} {yes no : AFrame → Option R} (h : withGuard ops.toList o fr yes no = some r) :
    (Region.wanted o (yielded ops a.tmps) = true ∧ yes fr = some r) ∨ (Region.wanted o (yielded ops a.tmps) = false ∧ no fr = some r) := by
  unfold withGuard at h
  split at h
  · rename_i hgd
    exact .inl ⟨by simp [Region.wanted, hgd], h⟩
  · rename_i j want hgd
    split at h
    · cases h
    · rename_i d hd
      have hd' : (ops[j]?).bind (·.dst) = some d := by simpa using hd
      split at h
      · rename_i b hb
        have hne : AVal.bool b ≠ .any := fun e => by cases e
        obtain ⟨h1, h2⟩ := tmp_get hg hb hne
        have hv : a.tmps[d]? = some (.bool b) := by
          have := (hg.tmp d _ _ h1 h2).1.bool
          rw [this] at h2
          rw [← Array.getElem?_toList]; exact h2
        have hy : yielded ops a.tmps j = some b := by simp [yielded, hd', hv]
        have hfr : ∀ b', b' = b → ({ fr with tmps := tset fr.tmps d (.bool b') } : AFrame) = fr := fun b' e => by
          subst e; rw [tset_same _ _ _ hb hne]
        cases b with
        | true =>
          simp only at h
          cases want with
          | true => simp only [if_true] at h; rw [hfr true rfl] at h; exact .inl ⟨by simp [Region.wanted, hgd, hy], h⟩
          | false => simp only [Bool.false_eq_true, if_false] at h; rw [hfr true rfl] at h; exact .inr ⟨by simp [Region.wanted, hgd, hy], h⟩
        | false =>
          simp only at h
          cases want with
          | true => simp only [if_true] at h; rw [hfr false rfl] at h; exact .inr ⟨by simp [Region.wanted, hgd, hy], h⟩
          | false => simp only [Bool.false_eq_true, if_false] at h; rw [hfr false rfl] at h; exact .inl ⟨by simp [Region.wanted, hgd, hy], h⟩
      · rename_i hb
        have hne : AVal.tup [] ≠ .any := fun e => by cases e
        obtain ⟨h1, h2⟩ := tmp_get hg hb hne
        obtain ⟨Vs, hV, hVs⟩ := (hg.tmp d _ _ h1 h2).1
        have hVs' : Vs = [] := hVs
        subst hVs'
        have hv : a.tmps[d]? = some (.tuple #[]) := by
          rw [hV] at h2
          rw [← Array.getElem?_toList]; exact h2
        have hy : yielded ops a.tmps j = none := by simp [yielded, hd', hv]
        exact .inr ⟨by simp [Region.wanted, hgd, hy], h⟩
      · cases h

theorem wpAny_of_dAny (S : Setting E P) (hB : B ≤ c.w0.heap.size) (hD : OraOk E P B D) {ops : Array Oper} (hQ : ∀ w fx rho lam fr m a, K fr m = some r → Good E B c w fx rho lam fr m a → GlobOk E w fx → Q .normal a w) :
    ∀ (fuel : Nat) (listed : Array Bool) {fr : AFrame} {m : Mem} {w : World} {fx : Nat → Nat} {rho lam : List Nat} {a : Act}, Good E B c w fx rho lam fr m a → GlobOk E w fx →
      dAny E D ops (fun fr m => K fr m = some r) fuel listed fr m → wpAny P .any ops Q fuel listed a w
  | 0, listed, fr, m, w, fx, rho, lam, a, hg, hG, h => ⟨h.1, hQ _ _ _ _ _ _ _ h.2 hg hG⟩
  | fuel + 1, listed, fr, m, w, fx, rho, lam, a, hg, hG, h => by
    refine ⟨fun h0 => hQ _ _ _ _ _ _ _ (h.1 h0) hg hG, fun i hi => ?_⟩
    have h1 := h.2 i hi
    unfold dOp at h1
    unfold wpOp
    cases ho : ops[i]? with
    | none => simp only [ho] at h1 ⊢; exact wpAny_of_dAny S hB hD hQ fuel _ hg hG h1
    | some o =>
      simp only [ho] at h1 ⊢
      obtain ⟨v, m', hy, hX⟩ := h1
      rcases hy with ⟨hw, hd⟩ | ⟨hw, rfl, rfl⟩
      · have hw' : Region.wanted o (yielded ops a.tmps) = true := by
          rcases guard_sound hg hw with ⟨h, _⟩ | ⟨_, h⟩
          · exact h
          · cases h
        rw [if_pos hw']
        refine .inl (absOp_sound (F := 0) (ops := []) (K := fun fr m => some (fr, m)) (Kp := fun _ _ _ => none) (r := (Abs.put fr o.dst v, m')) S hB hD
          (drawOp_abs (by rw [drawOp_bind, hd]; rfl)) hg hG (fun w1 fx1 rho1 lam1 fr1 m1 a1 e hg1 hG1 => ?_) (fun _ _ _ _ _ _ _ _ _ h _ _ _ => by cases h))
        injection e with e; injection e with e1 e2
        subst e1; subst e2
        exact wpAny_of_dAny S hB hD hQ fuel _ hg1 hG1 hX
      · have hw' : Region.wanted o (yielded ops a.tmps) = false := by
          rcases guard_sound hg hw with ⟨_, h⟩ | ⟨h, _⟩
          · cases h
          · exact h
        rw [if_neg (by rw [hw']; exact Bool.false_ne_true)]
        exact wpAny_of_dAny S hB hD hQ fuel _ (hg.put o.dst (v := .tup []) (V := undef) ⟨[], rfl, rfl⟩ rfl) hG hX

end
end Go.Abs
