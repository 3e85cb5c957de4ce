/- Regions, code, loops. -/
import Derived.Test.YtlklpdifcpjlpaaDoorAbsDraw
import Derived.Deep.Quiet
namespace Go.Abs
set_option linter.unusedSectionVars false
set_option linter.unusedSimpArgs false
set_option linter.unusedVariables false

section
variable {P : Program} {E : Env} {B : Nat} {c : Ctx} {w w' : World} {fx fx' : Nat → Nat} {rho rho' lam : List Nat} {fr : AFrame} {m m' : Mem} {a : Act} {D : Ora}
variable {R : Type} {r : R} {o : Oper} {next : Act → World → Prop} {Q : Exit → Act → World → Prop} {K : AFrame → Mem → Option R} {Kp : AVal → AFrame → Mem → Option R}

theorem runOps_sound (S : Setting E P) (hB : B ≤ c.w0.heap.size) (hD : OraOk E P B D) {F : FuncId} {ops : Array Oper} (hn : NextOk E B c r K next) (hp : PanOk E B c r Kp Q)
    (hq : ∀ a w, next a w → Q .normal a w) : ∀ (l : List Oper) {fr : AFrame} {m : Mem} {w : World} {fx : Nat → Nat} {rho lam : List Nat} {a : Act}, runOps E D F ops.toList l fr m K Kp = some r →
      Good E B c w fx rho lam fr m a → GlobOk E w fx → wpList P ops Q l a w
  | [], fr, m, w, fx, rho, lam, a, h, hg, hG => hq _ _ (hn _ _ _ _ _ _ _ h hg hG)
  | o :: rest, fr, m, w, fx, rho, lam, a, h, hg, hG => by
    unfold runOps at h
    unfold wpList
    rcases guard_sound hg h with ⟨hw, h⟩ | ⟨hw, h⟩
    · rw [if_pos hw]
      refine .inl (absOp_sound S hB hD h hg hG (fun w1 fx1 rho1 lam1 fr1 m1 a1 h1 hg1 hG1 => ?_) hp)
      exact runOps_sound S hB hD hn hp hq rest h1 hg1 hG1
    · rw [if_neg (by rw [hw]; exact Bool.false_ne_true)]
      exact runOps_sound S hB hD hn hp hq rest h (hg.put o.dst (v := .tup []) (V := undef) ⟨[], rfl, rfl⟩ rfl) hG

/-- a region that only reads, in the order of the text -/
theorem runOps_calm (S : Setting E P) {F : FuncId} {ops : Array Oper} {Qc : Act → Prop} (hq : ∀ fr m a, K fr m = some r → Good E B c w fx rho lam fr m a → Qc a) (hG : GlobOk E w fx) :
    ∀ (l : List Oper) {fr : AFrame} {m : Mem} {a : Act}, (∀ o ∈ l, calm E o.op = true) → runOps E D F ops.toList l fr m K Kp = some r →
      Good E B c w fx rho lam fr m a → wpQuiet P ops (fun w' => ∃ n, w' = w.drewN n) Qc l a
  | [], fr, m, a, _, h, hg => hq _ _ _ h hg
  | o :: rest, fr, m, a, hc, h, hg => by
    unfold runOps at h
    unfold wpQuiet
    rcases guard_sound hg h with ⟨hw, h⟩ | ⟨hw, h⟩
    · rw [if_pos hw]
      obtain ⟨V, fr', m', h1, h2, h3⟩ := absOp_calm S (hc o (List.mem_cons_self ..)) h hg hG
      refine ⟨V, fun w' hw' => ?_, runOps_calm S hq hG rest (fun o ho => hc o (List.mem_cons_of_mem _ ho)) h3 h2⟩
      obtain ⟨n, rfl⟩ := hw'
      unfold Oper.quietAt
      rw [h1 (w.drewN n) rfl]
      exact ⟨rfl, rfl⟩
    · rw [if_neg (by rw [hw]; exact Bool.false_ne_true)]
      exact runOps_calm S hq hG rest (fun o ho => hc o (List.mem_cons_of_mem _ ho)) h (hg.put o.dst (v := .tup []) (V := undef) ⟨[], rfl, rfl⟩ rfl)

theorem drewN_ext (w : World) (fx : Nat → Nat) (n : Nat) : Ext w fx (w.drewN n) fx := ⟨fun _ => Nat.le_refl _, fun _ _ _ => rfl, fun _ _ _ h => h⟩
theorem Good.redraw (h : Good E B c w fx rho lam fr m a) (n : Nat) : Good E B c (w.drewN n) fx rho lam fr m a :=
  h.world (drewN_ext w fx n) (Nat.le_refl _) w.heap.size (by
    rcases Nat.eq_zero_or_pos (total w rho lam fr m a.tmps.toList w.heap.size) with h0 | h0
    · exact h0
    · have := (h.low _ h0).2.1; omega) (fun hlt => by have := h.keep.size; omega) (fun b _ _ => ⟨rfl, rfl⟩) h.fxb rfl rfl rfl

theorem rep_any_frame (hg : Good E B c w fx rho lam fr m a) : ∀ (keep : List Nat) (i : Nat) (l : List AVal) (Vs : List Value), (∀ (j : Nat) (v : AVal) (V : Value), l[j]? = some v → Vs[j]? = some V → RepT w fx rho lam v V ∧ OwnOk E B w fx v V) →
    (∀ (j : Nat) (v : AVal) (V : Value), (normL keep i l)[j]? = some v → Vs[j]? = some V → RepT w fx rho lam v V ∧ OwnOk E B w fx v V) ∧ (normL keep i l).length = l.length ∧ ∀ b, ownSum (normL keep i l) Vs b ≤ ownSum l Vs b
  | keep, i, [], Vs, h => ⟨fun j v V hj => by simp [normL] at hj, rfl, fun b => by simp [normL]⟩
  | keep, i, x :: r, [], h => ⟨fun j v V hj hV => by simp at hV, by
      have := (rep_any_frame hg keep (i + 1) r [] (fun j v V hj hV => by simp at hV)).2.1
      simp [normL, this], fun b => by simp [normL, ownSum]⟩
  | keep, i, x :: r, X :: Xr, h => by
    obtain ⟨h1, h2, h3⟩ := rep_any_frame hg keep (i + 1) r Xr fun j v V hj hV => h (j + 1) v V (by simpa using hj) (by simpa using hV)
    refine ⟨fun j v V hj hV => ?_, by simp [normL, h2], fun b => ?_⟩
    · cases j with
      | zero =>
        simp [normL] at hj hV
        subst hV
        split at hj
        · subst hj; exact h 0 x X rfl rfl
        · subst hj; exact ⟨trivial, trivial⟩
      | succ j => exact h1 j v V (by simpa [normL] using hj) (by simpa using hV)
    · simp only [normL, ownSum]
      have := h3 b
      split
      · omega
      · simp [ownB]; omega

theorem weakV_rep (k : WK) {v : AVal} {V : Value} (h : RepT w fx rho lam v V) (ho : OwnOk E B w fx v V) :
    RepT w fx rho lam (weakV k v) V ∧ OwnOk E B w fx (weakV k v) V ∧ ∀ b, ownB (weakV k v) V b ≤ ownB v V b := by
  cases k with
  | keep => exact ⟨h, ho, fun _ => Nat.le_refl _⟩
  | no =>
    cases v with
    | slice own es => exact ⟨(RepT.slice h : Rep w fx (.slice .no es) V), trivial, fun b => Nat.zero_le _⟩
    | _ => exact ⟨h, ho, fun _ => Nat.le_refl _⟩
  | err =>
    cases v with
    | nilIface => exact ⟨.inl ⟨rfl, h⟩, trivial, fun b => Nat.zero_le _⟩
    | iface t u =>
      have h' := h
      obtain ⟨V', rfl, _⟩ := h'
      exact ⟨.inr ⟨rfl, _, _, rfl⟩, trivial, fun b => Nat.zero_le _⟩
    | _ => exact ⟨h, ho, fun _ => Nat.le_refl _⟩
theorem weakL_rep (f : Nat → WK) : ∀ (i : Nat) (l : List AVal) (Vs : List Value), (∀ (j : Nat) (v : AVal) (V : Value), l[j]? = some v → Vs[j]? = some V → RepT w fx rho lam v V ∧ OwnOk E B w fx v V) →
    (∀ (j : Nat) (v : AVal) (V : Value), (weakL f i l)[j]? = some v → Vs[j]? = some V → RepT w fx rho lam v V ∧ OwnOk E B w fx v V) ∧ (weakL f i l).length = l.length ∧ ∀ b, ownSum (weakL f i l) Vs b ≤ ownSum l Vs b
  | i, [], Vs, h => ⟨fun j v V hj => by simp [weakL] at hj, rfl, fun b => by simp [weakL]⟩
  | i, x :: r, [], h => ⟨fun j v V hj hV => by simp at hV, by
      have : ∀ i, (weakL f i r).length = r.length := by
        intro i
        induction r generalizing i with
        | nil => rfl
        | cons y s ih => simp [weakL, ih (fun j v V _ hV => by simp at hV)]
      simp [weakL, this], fun b => by simp [weakL, ownSum]⟩
  | i, x :: r, X :: Xr, h => by
    obtain ⟨h1, h2, h3⟩ := weakL_rep f (i + 1) r Xr fun j v V hj hV => h (j + 1) v V (by simpa using hj) (by simpa using hV)
    obtain ⟨a1, a2⟩ := h 0 x X rfl rfl
    obtain ⟨b1, b2, b3⟩ := weakV_rep (f i) a1 a2
    refine ⟨fun j v V hj hV => ?_, by simp [weakL, h2], fun b => ?_⟩
    · cases j with
      | zero =>
        simp [weakL] at hj hV
        subst hj; subst hV
        exact ⟨b1, b2⟩
      | succ j => exact h1 j v V (by simpa [weakL] using hj) (by simpa using hV)
    · simp only [weakL, ownSum]
      have := h3 b
      have := b3 b
      omega
theorem nLocs_le : ∀ {l : List AVal} {o off : Nat}, AVal.loc o off ∈ l → o < nLocs l
  | v :: r, o, off, h => by
    rcases List.mem_cons.1 h with rfl | h
    · simp only [nLocs]
      split
      · omega
      · rename_i hb
        have : ¬ nLocs r ≤ o := fun h => by rw [Nat.ble_eq_true_of_le h] at hb; cases hb
        omega
    · have := nLocs_le h
      simp only [nLocs]
      split
      · split
        · rename_i hb
          have := Nat.le_of_ble_eq_true hb
          omega
        · exact this
      · exact this
theorem ownObjs_take (w : World) (b n : Nat) : ∀ (os : List AObj) (gs : List Nat), ownObjs w (os.take n) (gs.take n) b ≤ ownObjs w os gs b := by
  induction n with
  | zero => intro os gs; simp [ownObjs]
  | succ n ih =>
    intro os gs
    cases os with
    | nil => simp [ownObjs]
    | cons o os =>
      cases gs with
      | nil => simp [ownObjs]
      | cons g gs => simp [ownObjs]; exact ih os gs
theorem Good.takeLocs (hg : Good E B c w fx rho lam fr m a) (n : Nat) (hn : ∀ o off, AVal.loc o off ∈ fr.tmps → o < n) : Good E B c w fx rho (lam.take n) { fr with locs := fr.locs.take n } m a := by
  have hc : ∀ b, (lam.take n).count b ≤ lam.count b := fun b => (List.take_sublist _ _).count_le _
  have ht : ∀ b, total w rho (lam.take n) { fr with locs := fr.locs.take n } m a.tmps.toList b ≤ total w rho lam fr m a.tmps.toList b := fun b => by
    have := hc b
    have := ownObjs_take w b n fr.locs lam
    unfold total
    simp only
    omega
  exact {
    size := hg.size
    tmp := fun i v V hi hV => by
      obtain ⟨h1, h2⟩ := hg.tmp i v V hi hV
      refine ⟨?_, h2⟩
      cases v with
      | loc o off =>
        obtain ⟨b, hb, e⟩ := h1
        refine ⟨b, ?_, e⟩
        rw [List.getElem?_take, if_pos (hn o off (List.mem_of_getElem? hi))]
        exact hb
      | _ => exact h1
    defs := hg.defs
    locs := by
      refine ⟨by simp [hg.locs.1], fun i o g ho hgi => ?_⟩
      rw [List.getElem?_take] at ho hgi
      split at ho
      · rename_i hlt
        rw [if_pos hlt] at hgi
        exact hg.locs.2 i o g ho hgi
      · cases ho
    mem := hg.mem
    fx0 := fun b hb => hg.fx0 b (hb.imp id List.mem_of_mem_take)
    fxb := hg.fxb
    tot := fun b => Nat.le_trans (ht b) (hg.tot b)
    low := fun b hb => hg.low b (Nat.lt_of_lt_of_le hb (ht b))
    keep := hg.keep
    pre := hg.pre }
theorem Good.norm0 (hg : Good E B c w fx rho lam fr m a) (F : FuncId) : Good E B c w fx rho lam { fr with tmps := normT E F fr.tmps } m a := by
  obtain ⟨g1, g2, g3⟩ := rep_any_frame hg (E.keep F) 0 fr.tmps a.tmps.toList hg.tmp
  obtain ⟨h1, h2, h4⟩ := weakL_rep (E.wk F) 0 _ _ g1
  have h3 : ∀ b, ownSum (normT E F fr.tmps) a.tmps.toList b ≤ ownSum fr.tmps a.tmps.toList b := fun b => Nat.le_trans (h4 b) (g3 b)
  have ht : ∀ b, total w rho lam { fr with tmps := normT E F fr.tmps } m a.tmps.toList b ≤ total w rho lam fr m a.tmps.toList b := fun b => by
    have := h3 b
    unfold total
    simp only
    omega
  exact {
    size := by rw [hg.size]; exact (h2.trans g2).symm
    tmp := h1
    defs := hg.defs
    locs := hg.locs
    mem := hg.mem
    fx0 := hg.fx0
    fxb := hg.fxb
    tot := fun b => Nat.le_trans (ht b) (hg.tot b)
    low := fun b hb => hg.low b (Nat.lt_of_lt_of_le hb (ht b))
    keep := hg.keep
    pre := hg.pre }

theorem Good.norm (hg : Good E B c w fx rho lam fr m a) (F : FuncId) : ∃ lam', Good E B c w fx rho lam' (Abs.norm E F fr) m a :=
  ⟨_, (hg.norm0 F).takeLocs (nLocs (normT E F fr.tmps)) fun _ _ h => nLocs_le h⟩
theorem loop_of_in {body : Code} (h : LoopIn P body Q a w) : (Code.loop body).wp P Q a w := fun b k cs => by
  obtain ⟨e, a', w', hq, harr⟩ := h b k cs
  exact ⟨e, a', w', hq, .of_steps (.one step_loop) harr⟩

/-- what holds behind code -/
def ExOk (E : Env) (B : Nat) (c : Ctx) (r : R) (K : AExit → AFrame → Mem → Option R) (Q : Exit → Act → World → Prop) : Prop :=
  ∀ ex w fx rho lam fr m a, K ex fr m = some r → Good E B c w fx rho lam fr m a → GlobOk E w fx → Ends Q w fx ex a

theorem exec_sound (S : Setting E P) (hm : P.follows .mixedOrders = true) (hB : B ≤ c.w0.heap.size) (hD : OraOk E P B D) {F : FuncId} : ∀ (code : Code) {K : AExit → AFrame → Mem → Option R} {Q : Exit → Act → World → Prop} {fr : AFrame} {m : Mem} {w : World} {fx : Nat → Nat} {rho lam : List Nat} {a : Act},
    drawsOk code = true → (∀ b ∈ subLoops code, InF E F b) → exec E D F code fr m K = some r → Good E B c w fx rho lam fr m a → GlobOk E w fx → ExOk E B c r K Q → code.wp P Q a w
  | .skip, K, Q, fr, m, w, fx, rho, lam, a, _, hs, h, hg, hG, hk => Go.wp_skip (hk .normal _ _ _ _ _ _ _ h hg hG)
  | .region id ops draw, K, Q, fr, m, w, fx, rho, lam, a, hdr, hs, h, hg, hG, hk => by
    simp only [exec] at h
    split at h
    · rename_i hd
      rw [Bool.and_eq_true] at hd
      obtain rfl : draw = true := hd.1
      simp only [drawsOk, Bool.not_true, Bool.false_or, Bool.and_eq_true] at hdr
      refine wp_region_any hm ?_
      have hg' := hg.redraw 1
      have hG' := hG.ext (drewN_ext w fx 1)
      have hp : Pre ops 0 (Array.replicate ops.size false) := ⟨by simp, fun j hj => by simp [hj]⟩
      have := dAny_lex hdr.2 ops.toList 0 (Array.replicate ops.size false) fr m (fun j => by simp) hp h
      rw [Array.length_toList] at this
      exact wpAny_of_dAny S hB hD (fun w fx rho lam fr m a h hg hG => hk .normal _ _ _ _ _ _ _ h hg hG) _ _ hg' hG' this
    · rename_i hcalm
      cases draw with
      | false =>
        refine wp_region_list (runOps_sound (next := fun a w => Q .normal a w) S hB hD (fun w fx rho lam fr m a h hg hG => hk .normal _ _ _ _ _ _ _ h hg hG) (fun w fx rho lam fr m a v V h hg hG hV => hk (.pan v) _ _ _ _ _ _ _ h hg hG V hV) (fun _ _ h => h) ops.toList h hg hG)
      | true =>
        have hall : ∀ o ∈ ops.toList, calm E o.op = true := by
          intro o ho
          have h9 : (ops.toList.all fun o => calm E o.op) = true := by
            cases hh : (ops.toList.all fun o => calm E o.op) with
            | true => rfl
            | false => rw [hh] at hcalm; exact absurd rfl hcalm
          exact List.all_eq_true.1 h9 o ho
        have hlex : Region.lexB .any ops = true := by
          simp only [drawsOk, Bool.not_true, Bool.false_or, Bool.and_eq_true] at hdr; exact hdr.1
        refine wp_region_quiet (C := fun w' => ∃ n, w' = w.drewN n) hm hlex ⟨1, rfl⟩ ?_
        refine runOps_calm (Qc := fun a' => ∀ w', (∃ n, w' = w.drewN n) → Q .normal a' w') S (fun fr m a h hg => ?_) hG ops.toList hall h hg
        rintro w' ⟨n, rfl⟩
        exact hk .normal _ _ _ _ _ _ _ h (hg.redraw n) (hG.ext (drewN_ext w fx n))
  | .seq x y, K, Q, fr, m, w, fx, rho, lam, a, hdr, hs, h, hg, hG, hk => by
    simp only [exec] at h
    simp only [drawsOk, Bool.and_eq_true] at hdr
    refine wp_seq (exec_sound S hm hB hD x hdr.1 (fun b hb => hs b (by simp [subLoops, hb])) h hg hG fun ex w fx rho lam fr m a h hg hG => ?_)
    cases ex with
    | normal => exact exec_sound S hm hB hD y hdr.2 (fun b hb => hs b (by simp [subLoops, hb])) h hg hG hk
    | ret => exact hk .ret _ _ _ _ _ _ _ h hg hG
    | exit id => exact hk (.exit id) _ _ _ _ _ _ _ h hg hG
    | pan v => exact hk (.pan v) _ _ _ _ _ _ _ h hg hG
  | .cond cc x y, K, Q, fr, m, w, fx, rho, lam, a, hdr, hs, h, hg, hG, hk => by
    simp only [exec] at h
    simp only [drawsOk, Bool.and_eq_true] at hdr
    split at h
    · rename_i t ht
      have hb := (ev_sound hg hG ht).rep.bool
      refine wp_cond hb ?_
      cases t with
      | true => exact exec_sound S hm hB hD x hdr.1 (fun b hb => hs b (by simp [subLoops, hb])) h hg hG hk
      | false => exact exec_sound S hm hB hD y hdr.2 (fun b hb => hs b (by simp [subLoops, hb])) h hg hG hk
    · cases h
  | .block id body, K, Q, fr, m, w, fx, rho, lam, a, hdr, hs, h, hg, hG, hk => by
    simp only [exec] at h
    refine wp_block (exec_sound S hm hB hD body (by simpa [drawsOk] using hdr) (fun b hb => hs b (by simpa [subLoops] using hb)) h hg hG fun ex w fx rho lam fr m a h hg hG => ?_)
    cases ex with
    | normal => exact hk .normal _ _ _ _ _ _ _ h hg hG
    | ret => exact hk .ret _ _ _ _ _ _ _ h hg hG
    | exit id' =>
      simp only at h
      show Exit.inBlock id Q (.exit id') a w
      simp only [Exit.inBlock]
      split
      · rename_i e; rw [if_pos e] at h; exact hk .normal _ _ _ _ _ _ _ h hg hG
      · rename_i e; rw [if_neg e] at h; exact hk (.exit id') _ _ _ _ _ _ _ h hg hG
    | pan v => exact hk (.pan v) _ _ _ _ _ _ _ h hg hG
  | .loop body, K, Q, fr, m, w, fx, rho, lam, a, hdr, hs, h, hg, hG, hk => by
    simp only [exec] at h
    obtain ⟨⟨ex, fr', m'⟩, hl, h⟩ := CT.run_some h
    obtain ⟨lam1, hgn⟩ := hg.norm F
    exact loop_of_in (hD.loop _ _ _ _ _ _ _ (hs body (by simp [subLoops])) hl (by simpa [drawsOk] using hdr) c w fx rho lam1 a Q hB hgn hG fun w' fx' rho' lam' a' hg' hG' => hk ex _ _ _ _ _ _ _ h hg' hG')
  | .exit id, K, Q, fr, m, w, fx, rho, lam, a, _, hs, h, hg, hG, hk => wp_exit (hk (.exit id) _ _ _ _ _ _ _ h hg hG)
  | .ret, K, Q, fr, m, w, fx, rho, lam, a, _, hs, h, hg, hG, hk => wp_ret (hk .ret _ _ _ _ _ _ _ h hg hG)
  | .rangeFunc _ _ _ _, _, _, _, _, _, _, _, _, _, _, _, h, _, _, _ => by cases h
  | .scope _, _, _, _, _, _, _, _, _, _, _, _, h, _, _, _ => by cases h
  | .label _, _, _, _, _, _, _, _, _, _, _, _, h, _, _, _ => by cases h
  | .goto _, _, _, _, _, _, _, _, _, _, _, _, h, _, _, _ => by cases h
  | .refuse _, _, _, _, _, _, _, _, _, _, _, _, h, _, _, _ => by cases h

end
end Go.Abs
