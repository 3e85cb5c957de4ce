/- Every operation, every region, every code does to memory what the interpreter says. -/
import Derived.Test.YtlklpdifcpjlpaaDoorAbsCall2
import Derived.Test.YtlklpdifcpjlpaaDoorAbsMap
import Derived.Deep.Quiet
namespace Go.Abs
set_option linter.unusedSectionVars false
set_option linter.unusedSimpArgs false
set_option linter.unusedVariables false

/-- how code ends -/
def Ends (Q : Exit → Act → World → Prop) (w : World) (fx : Nat → Nat) (ex : AExit) (a : Act) : Prop :=
  match ex with
  | .normal => Q .normal a w
  | .ret => Q .ret a w
  | .exit id => Q (.exit id) a w
  | .pan v => ∀ V, Rep w fx v V → Q (.panic [{ v := V, recovered := false }]) a w

/-- the loop at its own head -/
def LoopIn (P : Program) (body : Code) (Q : Exit → Act → World → Prop) (a : Act) (w : World) : Prop :=
  ∀ (b : Frame) (k : List Item) (cs : List Frame), ∃ e a' w', Q e a' w' ∧ Arrives P (lone (b.at a (.code body :: .inLoop body :: k)) cs w) b k cs e a' w'

/-! ### What waits for what -/
/-- an operation that is no call of a function -/
def quietB (o : Oper) : Bool :=
  match o.op with
  | .call c => match c.callee with
    | .value _ => false
    | _ => true
  | _ => true
def directB (ops : Array Oper) (j i : Nat) : Bool :=
  match ops[j]? with
  | none => false
  | some oj => oj.after.any fun e => Region.binds .any e && e.on == i
def waitsB (ops : Array Oper) : Nat → Nat → Nat → Bool
  | 0, _, _ => false
  | n + 1, j, i => directB ops j i || (match ops[j]? with
    | none => false
    | some oj => oj.after.any fun e => Region.binds .any e && waitsB ops n e.on i)
def freeA (ops : Array Oper) (i j : Nat) (oi : Oper) : Bool :=
  match ops[j]? with
  | none => true
  | some oj => (oi.apart ops oj && (quietB oi || quietB oj)) || waitsB ops 4 j i
def lexA (ops : Array Oper) : Bool :=
  (List.range ops.size).all fun i => match ops[i]? with
    | none => false
    | some oi => oi.after.all (fun e => !Region.binds .any e || e.on < i) && (List.range ops.size).all fun j => j ≤ i || freeA ops i j oi

/-- the orders of regions that draw, as the kernel is asked -/
def drawsOk : Code → Bool
  | .region _ ops draw => !draw || (Region.lexB .any ops && lexA ops)
  | .seq a b => drawsOk a && drawsOk b
  | .cond _ a b => drawsOk a && drawsOk b
  | .block _ b => drawsOk b
  | .loop b => drawsOk b
  | _ => true

def LoopOk (E : Env) (P : Program) (B : Nat) (body : Code) (fr : AFrame) (m : Mem) (ex : AExit) (fr' : AFrame) (m' : Mem) : Prop :=
  drawsOk body = true → ∀ c w fx rho lam a Q, B ≤ c.w0.heap.size → Good E B c w fx rho lam fr m a → GlobOk E w fx →
    (∀ w' fx' rho' lam' a', Good E B c w' fx' rho' lam' fr' m' a' → GlobOk E w' fx' → Ends Q w' fx' ex a') → LoopIn P body Q a w

/-- a loop of the function -/
def InF (E : Env) (F : FuncId) (b : Code) : Prop := ∃ fn c, E.fn F = some fn ∧ fn.body = some c ∧ b ∈ subLoops c
structure OraOk (E : Env) (P : Program) (B : Nat) (D : Ora) : Prop where
  call : ∀ f args m out m', (D.call f args m).eval = some (out, m') → CallOk E P B f args m out m'
  loop : ∀ F body fr m ex fr' m', InF E F body → (D.loop F body fr m).eval = some (ex, fr', m') → LoopOk E P B body fr m ex fr' m'

structure Setting (E : Env) (P : Program) : Prop where
  fits : Fits E P
  eq : EqFits E P
  fn : FnOk E P
  draws : ∀ f fn c, E.fn f = some fn → fn.body = some c → drawsOk c = true
  mixed : P.follows .mixedOrders = true

section
variable {P : Program} {E : Env} {B : Nat} {c : Ctx} {w w' : World} {fx fx' : Nat → Nat} {rho rho' lam : List Nat} {fr : AFrame} {m m' : Mem} {a : Act} {D : Ora}
variable {R : Type} {r : R} {o : Oper} {next : Act → World → Prop} {Q : Exit → Act → World → Prop} {K : AFrame → Mem → Option R} {Kp : AVal → AFrame → Mem → Option R}

theorem asB_some {v : Option AVal} {k : Bool → Option R} (h : asB v k = some r) : ∃ b, v = some (.bool b) ∧ k b = some r := by
  unfold asB at h
  split at h
  · exact ⟨_, rfl, h⟩
  · cases h
theorem asI_some {v : Option AVal} {k : IntKind → Int → Option R} (h : asI v k = some r) : ∃ i n, v = some (.int i n) ∧ k i n = some r := by
  unfold asI at h
  split at h
  · exact ⟨_, _, rfl, h⟩
  · cases h

theorem toK_some {v : Option AVal} {k : AVal → Option R} (h : toK v k = some r) : ∃ z, v = some z ∧ k z = some r := by
  cases v with
  | none => cases h
  | some z => exact ⟨z, rfl, h⟩
theorem val_some {v : Option AVal} {k : AVal → Option R} (h : (match v with | some v => k v | none => none) = some r) : ∃ z, v = some z ∧ k z = some r := by
  cases v with
  | none => cases h
  | some z => exact ⟨z, rfl, h⟩

set_option maxHeartbeats 2000000 in
theorem absOp_sound (S : Setting E P) (hB : B ≤ c.w0.heap.size) (hD : OraOk E P B D) {F : FuncId} {ops : List Oper} (h : absOp E D F ops o fr m K Kp = some r) (hg : Good E B c w fx rho lam fr m a) (hG : GlobOk E w fx)
    (hn : NextOk E B c r K next) (hp : PanOk E B c r Kp Q) : o.wp P a w next Q := by
  unfold absOp at h
  dsimp only at h
  split at h
  · rename_i x ho
    split at h
    · rename_i v hv
      split at h
      · exact (sound_move hg hG (.inl ho) hv F (.inl h)).wp hG hn
      · exact (sound_move hg hG (.inl ho) hv F (.inr h)).wp hG hn
    · cases h
  · rename_i x ho
    split at h
    · rename_i v hv
      exact (sound_move hg hG (.inr ho) hv F (.inl h)).wp hG hn
    · cases h
  · rename_i x y z ho
    obtain ⟨t, hx, h⟩ := asB_some h
    obtain ⟨v, hv, h⟩ := val_some h
    cases hy : ev E fr (if t = true then y else z) with
    | none => rw [hy] at hv; cases hv
    | some u =>
      rw [hy] at hv; injection hv with hv; subst hv
      exact (sound_pick hg hG ho hx hy h).wp hG hn
  · rename_i e ho
    split at h
    · rename_i ti d hti hd
      split at h
      · rename_i hbld
        split at h
        · exact sound_alloc hB S.fits hg hG hn ho hti _ hbld (.inl h)
        · exact sound_alloc hB S.fits hg hG hn ho hti _ hbld (.inr h)
      · cases h
    · cases h
  · rename_i t x ho
    split at h
    · rename_i v d hv hd
      split at h
      · rename_i hbld
        split at h
        · split at h
          · exact sound_box hB hg hG hn ho hv _ hbld (.inl ⟨‹_›, h⟩)
          · cases h
        · split at h
          · exact sound_box hB hg hG hn ho hv _ hbld (.inr ⟨‹_›, h⟩)
          · cases h
      · cases h
    · cases h
  · rename_i t parts ho
    split at h
    · rename_i fs _ _ z ps hti hps
      obtain ⟨v, hv, h⟩ := val_some h
      cases hf : fill (fun i => (fs[i]?).map fun f => (f.1, f.2.1)) z ps with
      | none => rw [hf] at hv; cases hv
      | some cs =>
        rw [hf] at hv; injection hv with hv; subst hv
        exact (sound_build_struct S.fits hg hG ho hti rfl hps hf h).wp hG hn
    · rename_i n sz agg _ _ z ps hti hps
      obtain ⟨v, hv, h⟩ := val_some h
      cases hf : fill (fun i => some (i * sz, sz)) z ps with
      | none => rw [hf] at hv; cases hv
      | some cs =>
        rw [hf] at hv; injection hv with hv; subst hv
        exact (sound_build_array S.fits hg hG ho hti rfl hps hf h).wp hG hn
    · cases h
  · rename_i t len parts ho
    split at h
    · rename_i e _ _ _ ps hti hps
      split at h
      · rename_i ei hei
        split at h
        · rename_i hc
          simp only [Bool.and_eq_true, decide_eq_true_eq, ne_eq, Bool.not_eq_true', decide_eq_false_iff_not] at hc
          obtain ⟨v, hv, h⟩ := val_some h
          cases hf : fill (fun i => some (i * ei.size, ei.size)) (repl len ei.zero) (ps.map fun p => (p.1, plainAgg (plainCell p.2))) with
          | none => rw [hf] at hv; cases hv
          | some cs =>
            rw [hf] at hv; injection hv with hv; subst hv
            exact sound_buildSlice S.fits hg hG hn ho hti rfl hei hps (by simpa using hc.1.1) (by simpa using hc.1.2) hc.2 hf h
        · cases h
      · cases h
    · cases h
  · rename_i t x ho
    split at h
    · rename_i p hx
      split at h
      · obtain ⟨v, hv, h⟩ := loadC_some (fr := fr) (m := m) h
        exact (sound_load S.fits hg hG ho hx hv h).wp hG hn
      split at h
      · rename_i v hv
        split at h
        · rename_i hxf
          rw [Bool.and_eq_true] at hxf
          split at h
          · rename_i fr' m' hs
            exact (sound_loadMove S.fits hg hG ho hx hv (by simpa using hxf.2) hs h).wp hG hn
          · exact (sound_load S.fits hg hG ho hx hv h).wp hG hn
        · exact (sound_load S.fits hg hG ho hx hv h).wp hG hn
      · cases h
    · cases h
  · rename_i t x y ho
    split at h
    · rename_i p v ti hx hy hti
      split at h
      · rename_i hsz
        split at h
        · rename_i fr' m' hs
          exact sound_store S.fits hg hG hn ho hx hy hti hsz _ hs h
        · cases h
      · cases h
    · cases h
  · rename_i x ho
    split at h
    · rename_i v hv
      split at h
      · exact (sound_nilCheck hg hG ho hv ‹_› h).wp hG hn
      · cases h
    · cases h
  · rename_i op t x y t' ho
    split at h
    · rename_i u v hx hy
      rw [binC_eq] at h
      obtain ⟨z, hz, h⟩ := toK_some h
      exact (sound_bin S.fits S.eq hg hG ho hx hy hz h).wp hG hn
    · cases h
  · rename_i op t x ho
    split at h
    · rename_i u hx
      obtain ⟨z, hz, h⟩ := val_some h
      exact (sound_un hg hG ho hx hz h).wp hG hn
    · cases h
  · rename_i src dst x ho
    split at h
    · rename_i u hx
      split at h
      · rename_i s si e _ _ _ hsi hdi
        split at h
        · rename_i hc
          rw [Bool.and_eq_true] at hc
          exact sound_bytes S.fits hg hG hn ho hx hsi hdi rfl hc.1 h
        · cases h
      · rw [convC_eq] at h
        obtain ⟨z, hz, h⟩ := toK_some h
        exact (sound_convert S.fits hg hG ho hx hz h).wp hG hn
    · cases h
  · rename_i t x ho
    split at h
    · rename_i v ti hx hti
      split at h
      · cases h
      · rename_i hk
        split at h
        · exact (sound_makeInterface S.fits hg hG ho hx hti hk ‹_› h).wp hG hn
        · cases h
    · cases h
  · rename_i f first captured ho
    split at h
    · rename_i h0
      split at h
      · rename_i vs hvs
        obtain ⟨z, hz, h⟩ := val_some h
        cases hcap : capOk vs with
        | none => rw [hcap] at hz; cases hz
        | some l =>
          rw [hcap] at hz; injection hz with hz; subst hz
          exact (sound_makeFunc hg hG ho h0 hvs hcap h).wp hG hn
      · cases h
    · cases h
  · rename_i t x lo hi mx ho
    split at h
    · rename_i v ti hx hti
      split at h
      · exact (sound_slice3 S.fits hg hG ho hx hti h).wp hG hn
      · rename_i hmx
        have hmx' : mx = none := by cases mx <;> first | rfl | exact absurd rfl hmx
        subst hmx'
        rw [sliceC_eq] at h
        obtain ⟨z, hz, h⟩ := toK_some h
        exact (sound_slice S.fits hg hG ho hx hti hz h).wp hG hn
    · cases h
  · rename_i s x f ho
    split at h
    · rename_i fs p hs hx
      split at h
      · rename_i off size agg hi
        split at h
        · cases h
        · obtain ⟨z, hz, h⟩ := val_some h
          exact (sound_fieldAddr S.fits hg hG ho hs hx hi ‹_› hz h).wp hG hn
      · cases h
    · cases h
  · rename_i s x f ho
    split at h
    · rename_i fs cs hs hx
      split at h
      · rename_i off size agg hi
        split at h
        · rename_i l hl
          obtain ⟨z, hz, h⟩ := val_some h
          exact (sound_field S.fits hg hG ho hs hx hi hl hz h).wp hG hn
        · cases h
      · cases h
    · cases h
  · rename_i t x y ho
    obtain ⟨k, i, hy, h⟩ := asI_some h
    split at h
    · rename_i own es e _ _ _ hx hti
      split at h
      · rename_i ei hei
        split at h
        · cases h
        · rename_i h00
          rw [elemC_eq] at h
          obtain ⟨z, hz, h⟩ := toK_some h
          cases hel : elemOf ei.size es i with
          | none => rw [hel] at hz; cases hz
          | some l =>
            rw [hel] at hz; injection hz with hz; subst hz
            exact (sound_indexAddr_slice S.fits hg hG ho hy hx hti rfl hei h00 hel h).wp hG hn
      · cases h
    · rename_i p n sz agg _ _ _ hx hti
      split at h
      · rename_i hin
        obtain ⟨z, hz, h⟩ := val_some h
        exact (sound_indexAddr_array S.fits hg hG ho hy hx hti rfl hin hz h).wp hG hn
      · cases h
    · cases h
  · rename_i t x y ho
    obtain ⟨k, i, hy, h⟩ := asI_some h
    split at h
    · rename_i u hx
      rw [indexC_eq] at h
      obtain ⟨z, hz, h⟩ := toK_some h
      exact (sound_index S.fits hg hG ho hy hx hz h).wp hG hn
    · cases h
  · rename_i t x ho
    split at h
    · rename_i s _ _ _ d hx hti hd
      split at h
      · exact sound_range hB S.fits hg hG hn ho hx hti rfl h
      · cases h
    · cases h
  · rename_i x ho
    split at h
    · rename_i j off hx
      split at h
      · split at h
        · rename_i s pos hj
          split at h
          · exact sound_next hg hG hn ho hx hj (.inl ⟨‹_›, h⟩)
          · exact sound_next hg hG hn ho hx hj (.inr ⟨‹_›, h⟩)
        · cases h
      · cases h
    · cases h
  · rename_i x xt t ok ho
    split at h
    · rename_i v ti hx hti
      split at h
      · cases h
      · rename_i hk
        split at h
        · rename_i u y
          split at h
          · rename_i hut
            subst hut
            exact (sound_typeAssert S.fits hg hG ho hx hti hk (.inl ⟨y, rfl, rfl⟩) h).wp hG hn
          · rename_i hut
            split at h
            · rename_i hok
              split at h
              · rename_i z hz
                exact (sound_typeAssert S.fits hg hG ho hx hti hk (.inr ⟨z, .inr ⟨u, y, rfl, hut⟩, hok, hz, rfl⟩) h).wp hG hn
              · cases h
            · cases h
        · split at h
          · rename_i hok
            split at h
            · rename_i z hz
              exact (sound_typeAssert S.fits hg hG ho hx hti hk (.inr ⟨z, .inl rfl, hok, hz, rfl⟩) h).wp hG hn
            · cases h
          · cases h
        · cases h
    · cases h
  · rename_i x i ho
    split at h
    · rename_i vs hx
      split at h
      · rename_i v hv
        exact (sound_extract hg hG ho hx hv h).wp hG hn
      · cases h
    · cases h
  · rename_i cl ho
    split at h
    · rename_i x hc
      split at h
      · rename_i f caps hx
        split at h
        · rename_i vs fr' hargs
          unfold absCall at h
          split at h
          · cases h
          · rename_i fn hf
            obtain ⟨⟨out, m'⟩, hcall, h⟩ := CT.run_some h
            exact sound_call hB S.fn hg hG hn hp ho hc hx hargs hf (hD.call _ _ _ _ _ hcall) (by cases out <;> exact h)
        · cases h
      · cases h
    · rename_i hc
      split at h
      · rename_i x t ha hat
        split at h
        · rename_i v ti hx hti
          obtain ⟨z, hz, h⟩ := val_some h
          cases hl : lenV ti.kind v with
          | none => rw [hl] at hz; cases hz
          | some n =>
            rw [hl] at hz; injection hz with hz; subst hz
            exact (sound_len S.fits hg hG ho hc ha hat hx hti hl h).wp hG hn
        · cases h
      · cases h
    · rename_i hc
      split at h
      · rename_i s x t t' h0 h1 h2 h3
        split at h
        · rename_i hs
          simp only [Bool.and_eq_true, decide_eq_true_eq] at hs
          split at h
          · rename_i v u hv hu
            rw [appendC_eq] at h
            obtain ⟨z, hz, h⟩ := toK_some h
            exact sound_append hB S.fits hg hG hn ho hc h0 h1 h2 h3 hs.1 hs.2 hv hu hz h
          · cases h
        · cases h
      · cases h
    · rename_i hc
      split at h
      · rename_i k i k' j hargs
        exact (sound_max hg hG ho hargs (.inl ⟨hc, rfl⟩) h).wp hG hn
      · cases h
    · rename_i hc
      split at h
      · rename_i k i k' j hargs
        exact (sound_max hg hG ho hargs (.inr ⟨hc, rfl⟩) h).wp hG hn
      · cases h
    · cases h
  · rename_i t rs ho
    split at h
    · rename_i k e _ _ _ d _ hti hd
      split at h
      · rename_i kt hkt
        split at h
        · rename_i kk hkk
          exact sound_makeMap hB S.fits hg hG hn ho hti rfl kk h
        · cases h
      · cases h
    · cases h
  · rename_i t x ix ok ho
    split at h
    · rename_i j k kt e _ _ _ hx hix hti
      split at h
      · rename_i kk es ti hj he
        split at h
        · rename_i hk
          rw [Bool.and_eq_true] at hk
          exact (sound_lookup S.fits hg hG ho hx hix hti rfl hj he hk.1 hk.2 h).wp hG hn
        · cases h
      · cases h
    · cases h
  · rename_i t x k v ho
    split at h
    · rename_i j kv vv kt e _ _ _ hx hk hv hti
      split at h
      · rename_i kk es hj
        split at h
        · rename_i hc
          rw [Bool.and_eq_true, Bool.and_eq_true] at hc
          exact sound_mapUpdate S.fits hg hG hn (.inl ho) hx hk hv hti rfl hj hc.1.1 hc.1.2 hc.2 h
        · cases h
      · cases h
    · cases h
  · rename_i t x k v ho
    split at h
    · rename_i j kv vv kt e _ _ _ hx hk hv hti
      split at h
      · rename_i kk es hj
        split at h
        · rename_i hc
          rw [Bool.and_eq_true, Bool.and_eq_true] at hc
          exact sound_mapUpdate S.fits hg hG hn (.inr ho) hx hk hv hti rfl hj hc.1.1 hc.1.2 hc.2 h
        · cases h
      · cases h
    · cases h
  · rename_i x ho
    split at h
    · rename_i t v hx
      exact sound_panic hg hG hp ho hx h
    · cases h
  · rename_i cl ho
    split at h
    · rename_i x hc
      split at h
      · rename_i f caps hx
        split at h
        · rename_i vs fr' hargs
          split at h
          · rename_i l hl
            exact sound_defer hg hG hn ho hc hx hargs hl h
          · cases h
        · cases h
      · cases h
    · cases h
  · cases h

set_option maxHeartbeats 2000000 in
theorem absOp_calm (S : Setting E P) (hcalm : calm E o.op = true) {F : FuncId} {ops : List Oper} (h : absOp E D F ops o fr m K Kp = some r) (hg : Good E B c w fx rho lam fr m a) (hG : GlobOk E w fx) : CalmStep E B c P w fx rho lam a o r K := by
  unfold absOp at h
  dsimp only at h
  split at h
  · rename_i x ho
    split at h
    · rename_i v hv
      split at h
      · exact (sound_move hg hG (.inl ho) hv F (.inl h))
      · exact (sound_move hg hG (.inl ho) hv F (.inr h))
    · cases h
  · rename_i x ho
    split at h
    · rename_i v hv
      exact (sound_move hg hG (.inr ho) hv F (.inl h))
    · cases h
  · rename_i x y z ho
    obtain ⟨t, hx, h⟩ := asB_some h
    obtain ⟨v, hv, h⟩ := val_some h
    cases hy : ev E fr (if t = true then y else z) with
    | none => rw [hy] at hv; cases hv
    | some u =>
      rw [hy] at hv; injection hv with hv; subst hv
      exact (sound_pick hg hG ho hx hy h)
  · rename_i e ho
    exact absurd hcalm (by rw [ho]; intro h9; cases h9)
  · rename_i t x ho
    exact absurd hcalm (by rw [ho]; intro h9; cases h9)
  · rename_i t parts ho
    split at h
    · rename_i fs _ _ z ps hti hps
      obtain ⟨v, hv, h⟩ := val_some h
      cases hf : fill (fun i => (fs[i]?).map fun f => (f.1, f.2.1)) z ps with
      | none => rw [hf] at hv; cases hv
      | some cs =>
        rw [hf] at hv; injection hv with hv; subst hv
        exact (sound_build_struct S.fits hg hG ho hti rfl hps hf h)
    · rename_i n sz agg _ _ z ps hti hps
      obtain ⟨v, hv, h⟩ := val_some h
      cases hf : fill (fun i => some (i * sz, sz)) z ps with
      | none => rw [hf] at hv; cases hv
      | some cs =>
        rw [hf] at hv; injection hv with hv; subst hv
        exact (sound_build_array S.fits hg hG ho hti rfl hps hf h)
    · cases h
  · rename_i t len parts ho
    split at h
    · rename_i e _ _ _ ps hti hps
      split at h
      · rename_i ei hei
        split at h
        · rename_i hc
          simp only [Bool.and_eq_true, decide_eq_true_eq, ne_eq, Bool.not_eq_true', decide_eq_false_iff_not] at hc
          obtain ⟨v, hv, h⟩ := val_some h
          cases hf : fill (fun i => some (i * ei.size, ei.size)) (repl len ei.zero) (ps.map fun p => (p.1, plainAgg (plainCell p.2))) with
          | none => rw [hf] at hv; cases hv
          | some cs =>
            rw [hf] at hv; injection hv with hv; subst hv
            exact absurd hcalm (by rw [ho]; intro h9; cases h9)
        · cases h
      · cases h
    · cases h
  · rename_i t x ho
    split at h
    · rename_i p hx
      split at h
      · obtain ⟨v, hv, h⟩ := loadC_some (fr := fr) (m := m) h
        exact (sound_load S.fits hg hG ho hx hv h)
      split at h
      · rename_i v hv
        split at h
        · rename_i hxf
          rw [Bool.and_eq_true] at hxf
          split at h
          · rename_i fr' m' hs
            exact (sound_loadMove S.fits hg hG ho hx hv (by simpa using hxf.2) hs h)
          · exact (sound_load S.fits hg hG ho hx hv h)
        · exact (sound_load S.fits hg hG ho hx hv h)
      · cases h
    · cases h
  · rename_i t x y ho
    split at h
    · rename_i p v ti hx hy hti
      split at h
      · rename_i hsz
        split at h
        · rename_i fr' m' hs
          exact absurd hcalm (by rw [ho]; intro h9; cases h9)
        · cases h
      · cases h
    · cases h
  · rename_i x ho
    split at h
    · rename_i v hv
      split at h
      · exact (sound_nilCheck hg hG ho hv ‹_› h)
      · cases h
    · cases h
  · rename_i op t x y t' ho
    split at h
    · rename_i u v hx hy
      rw [binC_eq] at h
      obtain ⟨z, hz, h⟩ := toK_some h
      exact (sound_bin S.fits S.eq hg hG ho hx hy hz h)
    · cases h
  · rename_i op t x ho
    split at h
    · rename_i u hx
      obtain ⟨z, hz, h⟩ := val_some h
      exact (sound_un hg hG ho hx hz h)
    · cases h
  · rename_i src dst x ho
    split at h
    · rename_i u hx
      split at h
      · rename_i s si e _ _ _ hsi hdi
        split at h
        · rename_i hc
          rw [Bool.and_eq_true] at hc
          exact absurd hcalm (by rw [ho]; simp only [calm, hdi]; intro h9; cases h9)
        · cases h
      · rw [convC_eq] at h
        obtain ⟨z, hz, h⟩ := toK_some h
        exact (sound_convert S.fits hg hG ho hx hz h)
    · cases h
  · rename_i t x ho
    split at h
    · rename_i v ti hx hti
      split at h
      · cases h
      · rename_i hk
        split at h
        · exact (sound_makeInterface S.fits hg hG ho hx hti hk ‹_› h)
        · cases h
    · cases h
  · rename_i f first captured ho
    split at h
    · rename_i h0
      split at h
      · rename_i vs hvs
        obtain ⟨z, hz, h⟩ := val_some h
        cases hcap : capOk vs with
        | none => rw [hcap] at hz; cases hz
        | some l =>
          rw [hcap] at hz; injection hz with hz; subst hz
          exact (sound_makeFunc hg hG ho h0 hvs hcap h)
      · cases h
    · cases h
  · rename_i t x lo hi mx ho
    split at h
    · rename_i v ti hx hti
      split at h
      · exact (sound_slice3 S.fits hg hG ho hx hti h)
      · rename_i hmx
        have hmx' : mx = none := by cases mx <;> first | rfl | exact absurd rfl hmx
        subst hmx'
        rw [sliceC_eq] at h
        obtain ⟨z, hz, h⟩ := toK_some h
        exact (sound_slice S.fits hg hG ho hx hti hz h)
    · cases h
  · rename_i s x f ho
    split at h
    · rename_i fs p hs hx
      split at h
      · rename_i off size agg hi
        split at h
        · cases h
        · obtain ⟨z, hz, h⟩ := val_some h
          exact (sound_fieldAddr S.fits hg hG ho hs hx hi ‹_› hz h)
      · cases h
    · cases h
  · rename_i s x f ho
    split at h
    · rename_i fs cs hs hx
      split at h
      · rename_i off size agg hi
        split at h
        · rename_i l hl
          obtain ⟨z, hz, h⟩ := val_some h
          exact (sound_field S.fits hg hG ho hs hx hi hl hz h)
        · cases h
      · cases h
    · cases h
  · rename_i t x y ho
    obtain ⟨k, i, hy, h⟩ := asI_some h
    split at h
    · rename_i own es e _ _ _ hx hti
      split at h
      · rename_i ei hei
        split at h
        · cases h
        · rename_i h00
          rw [elemC_eq] at h
          obtain ⟨z, hz, h⟩ := toK_some h
          cases hel : elemOf ei.size es i with
          | none => rw [hel] at hz; cases hz
          | some l =>
            rw [hel] at hz; injection hz with hz; subst hz
            exact (sound_indexAddr_slice S.fits hg hG ho hy hx hti rfl hei h00 hel h)
      · cases h
    · rename_i p n sz agg _ _ _ hx hti
      split at h
      · rename_i hin
        obtain ⟨z, hz, h⟩ := val_some h
        exact (sound_indexAddr_array S.fits hg hG ho hy hx hti rfl hin hz h)
      · cases h
    · cases h
  · rename_i t x y ho
    obtain ⟨k, i, hy, h⟩ := asI_some h
    split at h
    · rename_i u hx
      rw [indexC_eq] at h
      obtain ⟨z, hz, h⟩ := toK_some h
      exact (sound_index S.fits hg hG ho hy hx hz h)
    · cases h
  · rename_i t x ho
    split at h
    · rename_i s _ _ _ d hx hti hd
      split at h
      · exact absurd hcalm (by rw [ho]; intro h9; cases h9)
      · cases h
    · cases h
  · rename_i x ho
    exact absurd hcalm (by rw [ho]; intro h9; cases h9)
  · rename_i x xt t ok ho
    split at h
    · rename_i v ti hx hti
      split at h
      · cases h
      · rename_i hk
        split at h
        · rename_i u y
          split at h
          · rename_i hut
            subst hut
            exact (sound_typeAssert S.fits hg hG ho hx hti hk (.inl ⟨y, rfl, rfl⟩) h)
          · rename_i hut
            split at h
            · rename_i hok
              split at h
              · rename_i z hz
                exact (sound_typeAssert S.fits hg hG ho hx hti hk (.inr ⟨z, .inr ⟨u, y, rfl, hut⟩, hok, hz, rfl⟩) h)
              · cases h
            · cases h
        · split at h
          · rename_i hok
            split at h
            · rename_i z hz
              exact (sound_typeAssert S.fits hg hG ho hx hti hk (.inr ⟨z, .inl rfl, hok, hz, rfl⟩) h)
            · cases h
          · cases h
        · cases h
    · cases h
  · rename_i x i ho
    split at h
    · rename_i vs hx
      split at h
      · rename_i v hv
        exact (sound_extract hg hG ho hx hv h)
      · cases h
    · cases h
  · rename_i cl ho
    split at h
    · rename_i x hc
      split at h
      · rename_i f caps hx
        split at h
        · rename_i vs fr' hargs
          unfold absCall at h
          split at h
          · cases h
          · exact absurd hcalm (by rw [ho]; simp only [calm, hc]; intro h9; cases h9)
        · cases h
      · cases h
    · rename_i hc
      split at h
      · rename_i x t ha hat
        split at h
        · rename_i v ti hx hti
          obtain ⟨z, hz, h⟩ := val_some h
          cases hl : lenV ti.kind v with
          | none => rw [hl] at hz; cases hz
          | some n =>
            rw [hl] at hz; injection hz with hz; subst hz
            exact (sound_len S.fits hg hG ho hc ha hat hx hti hl h)
        · cases h
      · cases h
    · rename_i hc
      split at h
      · rename_i s x t t' h0 h1 h2 h3
        split at h
        · rename_i hs
          simp only [Bool.and_eq_true, decide_eq_true_eq] at hs
          split at h
          · rename_i v u hv hu
            exact absurd hcalm (by rw [ho]; simp only [calm, hc]; intro h9; cases h9)
          · cases h
        · cases h
      · cases h
    · rename_i hc
      split at h
      · rename_i k i k' j hargs
        exact (sound_max hg hG ho hargs (.inl ⟨hc, rfl⟩) h)
      · cases h
    · rename_i hc
      split at h
      · rename_i k i k' j hargs
        exact (sound_max hg hG ho hargs (.inr ⟨hc, rfl⟩) h)
      · cases h
    · cases h
  · rename_i t rs ho
    exact absurd hcalm (by rw [ho]; intro h9; cases h9)
  · rename_i t x ix ok ho
    exact absurd hcalm (by rw [ho]; intro h9; cases h9)
  · rename_i t x k v ho
    exact absurd hcalm (by rw [ho]; intro h9; cases h9)
  · rename_i t x k v ho
    exact absurd hcalm (by rw [ho]; intro h9; cases h9)
  · rename_i x ho
    split at h
    · rename_i t v hx
      exact absurd hcalm (by rw [ho]; intro h9; cases h9)
    · cases h
  · rename_i cl ho
    split at h
    · rename_i x hc
      split at h
      · rename_i f caps hx
        split at h
        · rename_i vs fr' hargs
          split at h
          · rename_i l hl
            exact absurd hcalm (by rw [ho]; intro h9; cases h9)
          · cases h
        · cases h
      · cases h
    · cases h
  · cases h

end
end Go.Abs
