/- Each operation does to memory what the interpreter says: addresses of elements, slices, closures, assertions, conversions. -/
import Derived.Test.YtlklpdifcpjlpaaDoorAbsOps4
namespace Go.Abs
set_option linter.unusedSectionVars false
set_option linter.unusedSimpArgs false
set_option linter.unusedVariables false

section
variable {P : Program} {E : Env} {B : Nat} {c : Ctx} {w w' : World} {fx fx' : Nat → Nat} {rho lam : List Nat} {fr : AFrame} {m : Mem} {a : Act}
variable {R : Type} {r : R} {o : Oper} {next : Act → World → Prop} {Q : Exit → Act → World → Prop} {K : AFrame → Mem → Option R}

theorem elemOf_ok {n : Nat} {es : List (List AVal)} {i : Int} {l : List AVal} (h : elemOf n es i = some l) : 0 ≤ i ∧ es[i.toNat]? = some l ∧ l.length = n := by
  unfold elemOf at h
  split at h
  · rename_i h0
    split at h
    · rename_i e he
      split at h
      · rename_i hl
        injection h with h; subst h
        exact ⟨h0, he, hl⟩
      · cases h
    · cases h
  · cases h

theorem sound_indexAddr_slice (hF : Fits E P) (hg : Good E B c w fx rho lam fr m a) (hG : GlobOk E w fx) {t : TypeId} {x y : Operand} (ho : o.op = .indexAddr t x y)
    {k : IntKind} {i : Int} (hy : ev E fr y = some (.int k i)) {own : Own} {es : List (List AVal)} (hx : ev E fr x = some (.slice own es)) {e : TypeId} {ti ei : TI} (hti : E.T t = some ti) (hk : ti.kind = .slice e)
    (hei : E.T e = some ei) (h00 : ei.size ≠ 0) {l : List AVal} (hl : elemOf ei.size es i = some l) (hK : K (Abs.put fr o.dst (.imm l)) m = some r) : CalmStep E B c P w fx rho lam a o r K := by
  have hI := (ev_sound hg hG hy).rep.int
  obtain ⟨A, n, cp, Vs, hV, hn', hnc, hr, ⟨sz, hs⟩, _, hc⟩ := (ev_sound hg hG hx).rep.slice
  have ht := (hF t _ hti).kind
  rw [hk] at ht
  have ht' : P.underlying t = some (.slice e) := ht
  obtain ⟨h0, h1, h2⟩ := elemOf_ok hl
  have hsz : sz = ei.size := by rw [← h2, hs l (List.mem_of_getElem? h1)]
  subst hsz
  obtain ⟨V0, V1, V2, rfl, hl0, hr1⟩ := hr.get hs h1
  have hlt : i.toNat < es.length := by
    rcases Nat.lt_or_ge i.toNat es.length with h | h
    · exact h
    · simp [List.getElem?_eq_none h] at h1
  have hne : V0 ++ V1 ++ V2 ≠ [] := fun hne => by
    have := congrArg List.length hne
    simp at this
    have h3 := hr1.length
    rw [this.2.1] at h3
    rw [h2] at h3
    exact h00 h3.symm
  obtain ⟨b, off, rfl, hat⟩ := hc hne
  have hat1 := hat.part
  rw [hl0] at hat1
  refine fin hg (v := .imm l) (V := .pointer (some ⟨b, off + i.toNat * ei.size, none⟩)) ⟨b, _, V1, rfl, hr1, hat1⟩ rfl (fun w' hw' => ?_) hK
  have hin : 0 ≤ i ∧ i < (n : Int) := ⟨h0, by omega⟩
  simp only [execOp, ho, Instr.indexAt, hI, asIntOf, Sem.run_bind, Sem.run_pure, Result.andThen_ok, run_underlying ht', hV]
  rw [if_pos hin]
  simp only [Sem.run_bind, (hF e _ hei).sizeOf, Result.andThen_ok, Sem.run_pure, addr_add]


theorem sound_indexAddr_array (hF : Fits E P) (hg : Good E B c w fx rho lam fr m a) (hG : GlobOk E w fx) {t : TypeId} {x y : Operand} (ho : o.op = .indexAddr t x y)
    {k : IntKind} {i : Int} (hy : ev E fr y = some (.int k i)) {p : AVal} (hx : ev E fr x = some p) {ti : TI} {n sz : Nat} {agg : Bool} (hti : E.T t = some ti) (hk : ti.kind = .array n sz agg)
    (hin : 0 ≤ i ∧ i < (n : Int)) {q : AVal} (hq : addrOff p (i.toNat * sz) = some q) (hK : K (Abs.put fr o.dst q) m = some r) : CalmStep E B c P w fx rho lam a o r K := by
  have hI := (ev_sound hg hG hy).rep.int
  have ht := (hF t _ hti).kind
  rw [hk] at ht
  obtain ⟨e, h1, h2, h3, h4, h7⟩ := ht
  obtain ⟨b, off, hV, hr, hnr⟩ := addrOff_rep hq (ev_sound hg hG hx).rep
  refine fin hg hr hnr (fun w' hw' => ?_) hK
  simp only [execOp, ho, Instr.indexAt, hI, asIntOf, Sem.run_bind, Sem.run_pure, Result.andThen_ok, run_underlying h1, hV, Instr.sureAddr]
  rw [if_pos hin]
  simp only [Sem.run_bind, sizeOf_run h4, Result.andThen_ok, Sem.run_pure, addr_add, h2]

theorem bound_val {n d i : Nat} {x : Option Operand} (h : bound n (x.map (ev E fr)) d = some i) (hg : Good E B c w fx rho lam fr m a) (hG : GlobOk E w fx) (hd : d ≤ n) :
    i ≤ n ∧ ((x = none ∧ i = d) ∨ ∃ y k, x = some y ∧ a.eval y = .int k (i : Int)) := by
  cases x with
  | none => injection h with h; subst h; exact ⟨hd, .inl ⟨rfl, rfl⟩⟩
  | some y =>
    simp only [Option.map_some, bound] at h
    split at h
    · rename_i heq
      cases heq
    · rename_i k j heq
      injection heq with heq
      split at h
      · rename_i hin
        injection h with h; subst h
        have := (ev_sound hg hG heq).rep.int
        refine ⟨by omega, .inr ⟨y, k, rfl, ?_⟩⟩
        rw [this]
        congr 1
        omega
      · cases h
    · cases h

theorem sliceBounds_run {isS : Bool} {len cap l h : Nat} {lo hi : Option Operand} (hh : h ≤ cap) (hl : l ≤ h) (hlo : (lo = none ∧ l = 0) ∨ ∃ y k, lo = some y ∧ a.eval y = .int k (l : Int))
    (hhi : (hi = none ∧ h = len) ∨ ∃ y k, hi = some y ∧ a.eval y = .int k (h : Int)) : (Instr.sliceBounds isS len cap (lo.map a.eval) (hi.map a.eval) none).run P w' = .ok (l, h, cap) w' := by
  unfold Instr.sliceBounds
  rcases hhi with ⟨rfl, rfl⟩ | ⟨y, k, rfl, hy⟩
  · rcases hlo with ⟨rfl, rfl⟩ | ⟨y', k', rfl, hy'⟩
    · simp
    · have : (0 : Int) ≤ (l : Int) ∧ (l : Int) ≤ (h : Int) := ⟨by omega, by omega⟩
      simp [hy', Instr.sliceBound, asIntOf, hl]
  · rcases hlo with ⟨rfl, rfl⟩ | ⟨y', k', rfl, hy'⟩
    · simp [hy, Instr.sliceBound, asIntOf, hh]
    · simp [hy, hy', Instr.sliceBound, asIntOf, hl, hh]

theorem sound_slice (hF : Fits E P) (hg : Good E B c w fx rho lam fr m a) (hG : GlobOk E w fx) {t : TypeId} {x : Operand} {lo hi : Option Operand} (ho : o.op = .slice t x lo hi none)
    {u : AVal} (hx : ev E fr x = some u) {ti : TI} (hti : E.T t = some ti) {v : AVal} (hv : sliceV E ti.kind u (lo.map (ev E fr)) (hi.map (ev E fr)) = some v) (hK : K (Abs.put fr o.dst v) m = some r) : CalmStep E B c P w fx rho lam a o r K := by
  have hU := (ev_sound hg hG hx).rep
  have ht := (hF t _ hti).kind
  unfold sliceV at hv
  split at hv
  · rename_i s
    split at hv
    · rename_i hk
      rw [hk] at ht
      have ht' : P.underlying t = some .string := ht
      split at hv
      · rename_i h hh
        obtain ⟨h1, h2⟩ := bound_val (a := a) hh hg hG (Nat.le_refl _)
        split at hv
        · rename_i l hl
          obtain ⟨h3, h4⟩ := bound_val (a := a) hl hg hG (Nat.zero_le _)
          injection hv with hv; subst hv
          have hs : (⟨s.toArray⟩ : ByteArray).size = s.length := by simp [ByteArray.size]
          have hrun : ∀ w' : World, (Instr.sliceBounds false (⟨s.toArray⟩ : ByteArray).size (⟨s.toArray⟩ : ByteArray).size (lo.map a.eval) (hi.map a.eval) none).run P w' = .ok (l, h, (⟨s.toArray⟩ : ByteArray).size) w' :=
            fun _ => sliceBounds_run (by rw [hs]; exact h1) h3 h4 (by rw [hs]; exact h2)
          refine fin hg (v := .str ((s.take h).drop l)) rfl rfl (fun w' hw' => ?_) hK
          simp only [execOp, ho, Instr.sliceAt, Sem.run_bind, run_underlying ht', Result.andThen_ok, hU.str, Instr.slice, Option.isSome]
          simp only [Option.map_none, Bool.false_eq_true, if_false, Sem.run_bind, Sem.run_pure, Result.andThen_ok, hrun]
          congr 3
          apply ByteArray.ext
          rw [ByteArray.data_extract]
          apply Array.ext'
          simp [List.drop_take]
        · cases hv
      · cases hv
    · cases hv
  · rename_i own es
    split at hv
    · rename_i e hk
      rw [hk] at ht
      have ht' : P.underlying t = some (.slice e) := ht
      split at hv
      · rename_i ei hei
        split at hv
        · rename_i huni
          split at hv
          · rename_i h hh
            obtain ⟨h1, h2⟩ := bound_val (a := a) hh hg hG (Nat.le_refl _)
            split at hv
            · rename_i l hl
              obtain ⟨h3, h4⟩ := bound_val (a := a) hl hg hG (Nat.zero_le _)
              injection hv with hv; subst hv
              obtain ⟨A, n, cp, Vs, hV, hn', hnc, hr, hs, _, hc⟩ := hU.slice
              subst hn'
              have hrun : ∀ w' : World, (Instr.sliceBounds true es.length cp (lo.map a.eval) (hi.map a.eval) none).run P w' = .ok (l, h, cp) w' :=
                fun _ => sliceBounds_run (by omega) h3 h4 h2
              have hel : es = (es.take h).take l ++ (es.take h).drop l ++ es.drop h := by rw [List.take_append_drop, List.take_append_drop]
              rw [hel] at hr
              obtain ⟨V01, V2, rfl, hr01, hr2⟩ := hr.split
              obtain ⟨V0, V1, rfl, hr0, hr1⟩ := hr01.split
              have hsz : ∀ x ∈ es, x.length = ei.size := by simpa [uni] using huni
              have hl0 : V0.length = l * ei.size := by
                rw [hr0.length fun x hx => hsz x (List.mem_of_mem_take (List.mem_of_mem_take hx))]
                simp only [List.length_take]
                congr 1
                omega
              have hcnt : ((es.take h).drop l).length = h - l := by simp; omega
              refine fin hg (v := .slice .no ((es.take h).drop l)) (V := .slice (if cp = l then A else A.map (·.add (l * ei.size))) (h - l) (cp - l)) ?_ rfl (fun w' hw' => ?_) hK
              · refine ⟨_, _, _, V1, rfl, by rw [hcnt], by omega, hr1, ⟨ei.size, fun x hx => hsz x (List.mem_of_mem_take (List.mem_of_mem_drop hx))⟩, trivial, fun hne => ?_⟩
                obtain ⟨b, off, rfl, hat⟩ := hc (by
                  intro hnil
                  have := congrArg List.length hnil
                  simp at this
                  exact hne this.2.1)
                have hat1 := hat.part
                rw [hl0] at hat1
                have hcl : cp ≠ l := by
                  intro hcl
                  have : (es.take h).drop l = [] := by
                    apply List.length_eq_zero_iff.1
                    rw [hcnt]; omega
                  rw [this] at hr1
                  exact hne hr1
                exact ⟨b, off + l * ei.size, by rw [if_neg hcl]; simp [addr_add], hat1⟩
              · simp only [execOp, ho, Instr.sliceAt, Sem.run_bind, run_underlying ht', Result.andThen_ok, hV, Instr.slice]
                simp only [Option.map_none, Sem.run_bind, Sem.run_pure, Result.andThen_ok, hrun, (hF e _ hei).sizeOf]
            · cases hv
          · cases hv
        · cases hv
      · cases hv
    · cases hv
  · cases hv

theorem capOk_ok : ∀ {l l' : List AVal}, capOk l = some l' → ∀ {Vs : List Value}, Vs.length = l.length → (∀ (i : Nat) (v : AVal) (V : Value), l[i]? = some v → Vs[i]? = some V → RepT w fx rho lam v V) → RepCL w fx rho l' Vs
  | [], l', h, Vs, hl, _ => by
    injection h with h; subst h
    exact List.length_eq_zero_iff.1 hl
  | v :: r, l', h, [], hl, _ => by simp at hl
  | v :: r, l', h, V :: Vr, hl, hr => by
    simp only [capOk] at h
    split at h
    · rename_i l0 hl0
      have hrest : RepCL w fx rho l0 Vr := capOk_ok hl0 (by simpa using hl) fun i x X hi hX => hr (i + 1) x X (by simpa using hi) (by simpa using hX)
      have hv := hr 0 v V rfl rfl
      split at h
      · injection h with h; subst h
        exact ⟨V, Vr, rfl, hv, hrest⟩
      · split at h
        · rename_i hd
          injection h with h; subst h
          refine ⟨V, Vr, rfl, ?_, hrest⟩
          have := hv.plain hd
          cases hq : plainAgg (plainCell v) <;> rw [hq] at this <;> first | exact this | exact this.elim
        · cases h
    · cases h

theorem evs_sound (hg : Good E B c w fx rho lam fr m a) (hG : GlobOk E w fx) : ∀ {xs : List Operand} {vs : List AVal}, evs E fr xs = some vs →
    (xs.map a.eval).length = vs.length ∧ ∀ (i : Nat) (v : AVal) (V : Value), vs[i]? = some v → (xs.map a.eval)[i]? = some V → RepT w fx rho lam v V
  | [], vs, h => by injection h with h; subst h; exact ⟨rfl, fun i v V hi => by simp at hi⟩
  | x :: xr, vs, h => by
    simp only [evs] at h
    split at h
    · rename_i v l hv hl
      injection h with h; subst h
      obtain ⟨h1, h2⟩ := evs_sound hg hG hl
      refine ⟨by simpa using h1, fun i u U hi hU => ?_⟩
      cases i with
      | zero =>
        simp at hi hU; subst hi; subst hU
        exact (ev_sound hg hG hv).rep
      | succ i => exact h2 i u U (by simpa using hi) (by simpa using hU)
    · cases h

theorem sound_makeFunc (hg : Good E B c w fx rho lam fr m a) (hG : GlobOk E w fx) {f : FuncId} {first captured : Array Operand} (ho : o.op = .makeFunc (.func f) first captured)
    (h0 : first.size = 0) {vs l : List AVal} (hx : evs E fr captured.toList = some vs) (hl : capOk vs = some l) (hK : K (Abs.put fr o.dst (.fn f l)) m = some r) : CalmStep E B c P w fx rho lam a o r K := by
  obtain ⟨h1, h2⟩ := evs_sound hg hG hx
  have hr := capOk_ok hl h1 h2
  refine fin hg (v := .fn f l) ⟨_, rfl, hr⟩ rfl (fun w' hw' => ?_) hK
  have : first = #[] := Array.eq_empty_of_size_eq_zero h0
  subst this
  have e : captured.map a.eval = (captured.toList.map a.eval).toArray := by apply Array.ext'; simp
  simp [execOp, ho, Instr.makeFunc, e]

theorem sound_typeAssert (hF : Fits E P) (hg : Good E B c w fx rho lam fr m a) (hG : GlobOk E w fx) {x : Operand} {xt t : TypeId} {ok : Bool} (ho : o.op = .typeAssert x xt t ok)
    {v : AVal} (hx : ev E fr x = some v) {ti : TI} (hti : E.T t = some ti) (hk : ti.kind ≠ .iface) {z : AVal}
    (hz : (∃ y, v = .iface t y ∧ z = if ok then .tup [y, .bool true] else y) ∨ (∃ q, (v = .nilIface ∨ ∃ u y, v = .iface u y ∧ u ≠ t) ∧ ok = true ∧ ofCells ti.isAgg ti.zero = some q ∧ z = .tup [q, .bool false]))
    (hK : K (Abs.put fr o.dst z) m = some r) : CalmStep E B c P w fx rho lam a o r K := by
  have hU := (ev_sound hg hG hx).rep
  have ht := hF t _ hti
  obtain ⟨d, hdd⟩ := Option.isSome_iff_exists.1 ht.under
  have hni : ∀ ms, d ≠ .interface ms := fun ms e => by
    have := ht.kind
    subst e
    cases hkk : ti.kind <;> rw [hkk] at this <;> simp only [kindOk] at this
    all_goals first
      | (exact hk hkk; done)
      | (rw [hdd] at this; cases this; done)
      | (obtain ⟨_, h, _⟩ := this; rw [hdd] at h; cases h; done)
      | (obtain ⟨_, h⟩ := this; rw [hdd] at h; cases h; done)
      | (obtain ⟨_, _, h⟩ := this; rw [hdd] at h; cases h; done)
      | (obtain ⟨_, _, _, h⟩ := this; rw [hdd] at h; cases h; done)
  rcases hz with ⟨y, rfl, rfl⟩ | ⟨q, hv, rfl, hq, rfl⟩
  · obtain ⟨V', hV, hr⟩ := hU
    cases ok with
    | false =>
      refine fin hg (V := V') hr.toT hr.noRow (fun w' hw' => ?_) hK
      simp only [execOp, ho, Instr.typeAssert, Sem.run_bind, run_underlying hdd, Result.andThen_ok, hV]
      cases d <;> first | (exact absurd rfl (hni _)) | simp
    | true =>
      refine fin hg (v := .tup [y, .bool true]) (V := .tuple #[V', .bool true]) ?_ rfl (fun w' hw' => ?_) hK
      · exact ⟨[V', .bool true], rfl, ⟨V', _, rfl, hr.disown.toO, ⟨_, _, rfl, rfl, rfl⟩⟩⟩
      · simp only [execOp, ho, Instr.typeAssert, Sem.run_bind, run_underlying hdd, Result.andThen_ok, hV]
        cases d <;> first | (exact absurd rfl (hni _)) | simp
  · obtain ⟨i, zv, hi, hs, hb, hz0, hzs, hzc, hza, hzo⟩ := ht.info
    have hzr : Rep w fx q zv := by
      have hrl := ofConsts_rep (w := w) (fx := fx) hzc
      unfold ofCells at hq
      split at hq
      · rename_i ha
        injection hq with hq; subst hq
        obtain ⟨cs, rfl⟩ := hza ha
        exact ⟨cs.toList, by simp, hrl⟩
      · rename_i ha
        split at hq
        · rename_i q' heq
          injection hq with hq; subst hq
          rw [heq] at hrl
          obtain ⟨V0, Vr, he, h1, h2, h3⟩ := hrl
          have hone := hzo (by simpa using ha)
          have : zv.cells = #[zv] := by cases zv <;> first | rfl | cases hone
          rw [this] at he
          injection he with he _
          subst he; exact h1
        · cases hq
    refine fin hg (v := .tup [q, .bool false]) (V := .tuple #[zv, .bool false]) ?_ rfl (fun w' hw' => ?_) hK
    · exact ⟨[zv, .bool false], rfl, ⟨zv, _, rfl, hzr.disown.toO, ⟨_, _, rfl, rfl, rfl⟩⟩⟩
    · rcases hv with rfl | ⟨u, y, rfl, hne⟩
      · have hV : a.eval x = .nilIface := hU
        simp only [execOp, ho, Instr.typeAssert, Sem.run_bind, run_underlying hdd, Result.andThen_ok, hV]
        cases d <;> first | (exact absurd rfl (hni _)) | simp [zeroValue, typeInfo, hi, hz0]
      · obtain ⟨V', hV, hr⟩ := hU
        simp only [execOp, ho, Instr.typeAssert, Sem.run_bind, run_underlying hdd, Result.andThen_ok, hV]
        cases d <;> first | (exact absurd rfl (hni _)) | simp [zeroValue, typeInfo, hi, hz0, hne]

theorem isByte_ok (hF : Fits E P) {e : TypeId} (h : isByte E e = true) : P.underlying e = some (.int .u8) ∧ ∃ i z, P.info? e = some i ∧ i.size = 1 ∧ i.zero = some z ∧ z.cells.size = 1 := by
  unfold isByte at h
  split at h
  · rename_i hti
    have ht := hF e _ hti
    obtain ⟨i, z, h1, h2, h3, h4, h5, _⟩ := ht.info
    exact ⟨ht.kind, i, z, h1, h2, h4, h5⟩
  · cases h

theorem bytesOf_ok : ∀ {es : List (List AVal)} {l : List UInt8} {Vs : List Value}, bytesOf es = some l → RepLL w fx es Vs → ∃ ns : List Int, Vs = ns.map (Value.int .u8) ∧ l = ns.map (fun n => UInt8.ofNat n.toNat) ∧ ns.length = es.length
  | [], l, Vs, h, hr => by
    injection h with h; subst h
    exact ⟨[], hr, rfl, rfl⟩
  | e :: r, l, Vs, h, hr => by
    unfold bytesOf at h
    split at h
    · rename_i heq; cases heq
    · rename_i n r' heq
      injection heq with e1 e2
      subst e1; subst e2
      obtain ⟨V1, V2, rfl, h1, h2⟩ := hr
      cases hb : bytesOf r with
      | none => rw [hb] at h; cases h
      | some l0 =>
        rw [hb] at h; injection h with h; subst h
        obtain ⟨ns, rfl, rfl, hl⟩ := bytesOf_ok hb h2
        obtain ⟨V, Vr, rfl, hV, _, hnil⟩ := h1
        obtain rfl : V = .int .u8 n := hV
        obtain rfl : Vr = [] := hnil
        exact ⟨n :: ns, rfl, rfl, by simp [hl]⟩
    · cases h

theorem foldl_push (ns : List Int) : ∀ (b : ByteArray), ns.foldl (fun r n => r.push (UInt8.ofNat n.toNat)) b = ⟨b.data ++ (ns.map fun n => UInt8.ofNat n.toNat).toArray⟩ := by
  induction ns with
  | nil => intro b; simp
  | cons n r ih =>
    intro b
    rw [List.foldl_cons, ih]
    apply ByteArray.ext
    simp [ByteArray.push]

theorem sound_convert (hF : Fits E P) (hg : Good E B c w fx rho lam fr m a) (hG : GlobOk E w fx) {x : Operand} {src dst : TypeId} (ho : o.op = .convert src dst x)
    {u : AVal} (hx : ev E fr x = some u) {v : AVal} (hv : convV E src dst u = some v) (hK : K (Abs.put fr o.dst v) m = some r) : CalmStep E B c P w fx rho lam a o r K := by
  have hU := (ev_sound hg hG hx).rep
  unfold convV at hv
  split at hv
  · rename_i si k _ _ _ hsi hdi
    obtain ⟨sd, hsd⟩ := Option.isSome_iff_exists.1 (hF _ _ hsi).under
    have hk : P.underlying dst = some (.int k) := (hF _ _ hdi).kind
    split at hv
    · injection hv with hv; subst hv
      refine fin hg (v := .int _ _) rfl rfl (fun w' hw' => ?_) hK
      simp [execOp, ho, convert, run_underlying hsd, run_underlying hk, hU.int, Conv.intToInt]
    · cases hv
  · rename_i si _ _ _ hsi hdi
    obtain ⟨sd, hsd⟩ := Option.isSome_iff_exists.1 (hF _ _ hsi).under
    have hk : P.underlying dst = some .string := (hF _ _ hdi).kind
    split at hv
    · injection hv with hv; subst hv
      refine fin hg (v := .str _) rfl rfl (fun w' hw' => ?_) hK
      simp [execOp, ho, convert, run_underlying hsd, run_underlying hk, hU.str]
    · injection hv with hv; subst hv
      refine fin hg (v := .str _) rfl rfl (fun w' hw' => ?_) hK
      simp [execOp, ho, convert, run_underlying hsd, run_underlying hk, hU.int, Conv.intToString]
    · split at hv
      · rename_i e he
        split at hv
        · rename_i hby
          obtain ⟨hbe, _⟩ := isByte_ok hF hby
          have hs' := (hF _ _ hsi).kind
          rw [he] at hs'
          have hse : P.underlying src = some (.slice e) := hs'
          rename_i es _ _
          unfold allByte bytesL at hv
          cases hbo : bytesOf es with
          | none => rw [hbo] at hv; cases hv
          | some l =>
            rw [hbo] at hv; injection hv with hv; subst hv
            obtain ⟨A, n, cp, Vs, hV, hn', hnc, hr, hs, _, hc⟩ := hU.slice
            obtain ⟨ns, rfl, rfl, hl⟩ := bytesOf_ok hbo hr
            refine fin hg (v := .str _) rfl rfl (fun w' hw' => ?_) hK
            simp only [execOp, ho, convert, Sem.run_bind, run_underlying hse, run_underlying hk, run_underlying hbe, Result.andThen_ok, hV]
            cases A with
            | none =>
              have : ns = [] := by
                cases ns with
                | nil => rfl
                | cons n0 nr => obtain ⟨b, off, h, _⟩ := hc (by simp); cases h
              subst this
              simp [Conv.bytesToString]
              rfl
            | some ad =>
              have hload : (loadCells ad n).run P w' = .ok (ns.map (Value.int .u8)).toArray w' := by
                cases ns with
                | nil =>
                  simp at hl
                  have : n = 0 := by rw [hn', ← hl]
                  subst this
                  simp [loadCells, loadCellsFrom]
                | cons n0 nr =>
                  obtain ⟨b, off, h, hat⟩ := hc (by simp)
                  injection h with h; subst h
                  have h9 : n = ((n0 :: nr).map (Value.int .u8)).length := by rw [hn', List.length_map, hl]
                  rw [h9]
                  exact run_loadCells_list w' _ _ fun j V hj => by rw [addr_add, cell_heap hw']; exact (hat j V hj).1
              rw [run_bytesToString w' ad n cp ns hload]
              simp only [Sem.run_pure, Result.andThen_ok]
              rw [foldl_push]
              have e0 : (ByteArray.empty.data ++ (ns.map fun n => UInt8.ofNat n.toNat).toArray) = (ns.map fun n => UInt8.ofNat n.toNat).toArray := by
                apply Array.ext'
                simp [ByteArray.empty, ByteArray.emptyWithCapacity]
                try rfl
              rw [e0]
        · cases hv
      · cases hv
    · cases hv
  · cases hv

theorem evs_two (hg : Good E B c w fx rho lam fr m a) (hG : GlobOk E w fx) {cl : Call} {k k' : IntKind} {i j : Int} (h : evs E fr cl.args.toList = some [.int k i, .int k' j]) : cl.args.map a.eval = #[.int k i, .int k' j] := by
  obtain ⟨h1, h2⟩ := evs_sound hg hG h
  have e0 := h2 0 _ _ rfl (List.getElem?_eq_getElem (by rw [h1]; simp))
  have e1 := h2 1 _ _ rfl (List.getElem?_eq_getElem (by rw [h1]; simp))
  apply Array.ext'
  rw [Array.toList_map]
  apply List.ext_getElem (by rw [h1]; rfl)
  intro n hn1 hn2
  match n, hn2 with
  | 0, _ => exact e0.int
  | 1, _ => exact e1.int

theorem sound_max (hg : Good E B c w fx rho lam fr m a) (hG : GlobOk E w fx) {cl : Call} (ho : o.op = .call cl) {k k' : IntKind} {i j : Int}
    (h : evs E fr cl.args.toList = some [.int k i, .int k' j]) {v : AVal} (hc : (cl.callee = .builtin .max ∧ v = .int k (if j > i then j else i)) ∨ (cl.callee = .builtin .min ∧ v = .int k (if j < i then j else i)))
    (hK : K (Abs.put fr o.dst v) m = some r) : CalmStep E B c P w fx rho lam a o r K := by
  have hargs := evs_two hg hG h
  rcases hc with ⟨hc, rfl⟩ | ⟨hc, rfl⟩
  · refine fin hg (v := .int _ _) rfl rfl (fun w' hw' => ?_) hK
    simp [execOp, ho, hc, resolve, invoke, builtin, Builtin.max_, Builtin.max2, hargs]
  · refine fin hg (v := .int _ _) rfl rfl (fun w' hw' => ?_) hK
    simp [execOp, ho, hc, resolve, invoke, builtin, Builtin.min_, Builtin.min2, hargs]

theorem repLL_nil {sz : Nat} (hz : sz ≠ 0) : ∀ {es : List (List AVal)}, RepLL w fx es [] → (∀ x ∈ es, x.length = sz) → es = []
  | [], _, _ => rfl
  | e :: r, h, hs => by
    have := RepLL.length h hs
    simp only [List.length_nil, List.length_cons, Nat.add_mul] at this
    omega
theorem sound_slice3 (hF : Fits E P) (hg : Good E B c w fx rho lam fr m a) (hG : GlobOk E w fx) {t : TypeId} {x : Operand} {lo hi mx : Option Operand} (ho : o.op = .slice t x lo hi mx)
    {u : AVal} (hx : ev E fr x = some u) {ti : TI} (hti : E.T t = some ti) (hK : slice3C E ti.kind u (lo.map (ev E fr)) (hi.map (ev E fr)) (mx.map (ev E fr)) (fun v => K (Abs.put fr o.dst v) m) = some r) : CalmStep E B c P w fx rho lam a o r K := by
  have hU := (ev_sound hg hG hx).rep
  have ht := (hF t _ hti).kind
  unfold slice3C at hK
  split at hK
  · rename_i own es
    split at hK
    · rename_i e hk
      rw [hk] at ht
      have ht' : P.underlying t = some (.slice e) := ht
      split at hK
      · rename_i ei hei
        split at hK
        · rename_i hcu
          rw [Bool.and_eq_true] at hcu
          have hz : ei.size ≠ 0 := by simpa using hcu.1
          have hsz : ∀ x ∈ es, x.length = ei.size := by simpa [uni] using hcu.2
          split at hK
          · rename_i h1 h2 h3 k1 h k2 q hlo hhi hmx
            split at hK
            · rename_i hin
              split at hK
              · rename_i heq
                subst heq
                have hlo' : lo = none := by cases lo <;> first | rfl | cases hlo
                subst hlo'
                obtain ⟨y, rfl, hy⟩ : ∃ y, hi = some y ∧ ev E fr y = some (.int k1 h) := by
                  cases hi with
                  | none => cases hhi
                  | some y => exact ⟨y, rfl, by simpa using hhi⟩
                obtain ⟨z, rfl, hzz⟩ : ∃ y, mx = some y ∧ ev E fr y = some (.int k2 h) := by
                  cases mx with
                  | none => cases hmx
                  | some y => exact ⟨y, rfl, by simpa using hmx⟩
                have hY := (ev_sound hg hG hy).rep.int
                have hZ := (ev_sound hg hG hzz).rep.int
                obtain ⟨A, n, cp, Vs, hV, hn', hnc, hr, hs, _, hc⟩ := hU.slice
                subst hn'
                obtain ⟨k, rfl⟩ : ∃ k : Nat, h = (k : Int) := ⟨h.toNat, by omega⟩
                have hkl : k ≤ es.length := by omega
                rw [Int.toNat_natCast] at hK
                have hrun : ∀ w' : World, (Instr.sliceBounds true es.length cp none (some (a.eval y)) (some (a.eval z))).run P w' = .ok (0, k, k) w' := fun w' => by
                  unfold Instr.sliceBounds
                  have h9 : k ≤ cp := by omega
                  simp [hY, hZ, Instr.sliceBound, asIntOf, h9]
                have hel : es = es.take k ++ es.drop k := by rw [List.take_append_drop]
                have hr' := hr
                rw [hel] at hr'
                obtain ⟨V0, V1, rfl, hr0, hr1⟩ := hr'.split
                have hnone : A = none → k = 0 := fun hA => by
                  have h8 : V0 ++ V1 = [] := by
                    rcases Classical.em (V0 ++ V1 = []) with h | h
                    · exact h
                    · obtain ⟨b, off, hb, _⟩ := hc h
                      rw [hA] at hb; cases hb
                  rw [h8] at hr
                  have := repLL_nil hz hr hsz
                  rw [this] at hkl
                  simpa using hkl
                refine fin hg (v := .slice .full (es.take k)) (V := .slice (if k = 0 then A else A.map (·.add (0 * ei.size))) (k - 0) (k - 0)) ?_ rfl (fun w' hw' => ?_) hK
                · refine ⟨_, _, _, V0, rfl, by simp; omega, Nat.le_refl _, hr0, ⟨ei.size, fun x hx => hsz x (List.mem_of_mem_take hx)⟩, ⟨rfl, fun hA => ?_⟩, fun hne => ?_⟩
                  · by_cases h0 : k = 0
                    · omega
                    · rw [if_neg h0] at hA
                      have : A = none := by cases A <;> first | rfl | cases hA
                      have := hnone this
                      omega
                  · obtain ⟨b, off, rfl, hat⟩ := hc (by
                      intro hnil
                      have := congrArg List.length hnil
                      simp at this
                      exact hne this.1)
                    refine ⟨b, off, ?_, hat.head⟩
                    split
                    · rfl
                    · simp [addr_add]
                · simp only [execOp, ho, Instr.sliceAt, Sem.run_bind, run_underlying ht', Result.andThen_ok, hV, Instr.slice]
                  simp only [Option.map_none, Option.map_some, Sem.run_bind, Sem.run_pure, Result.andThen_ok, hrun, (hF e _ hei).sizeOf]
              · cases hK
            · cases hK
          · cases hK
        · cases hK
      · cases hK
    · cases hK
  · cases hK

end
end Go.Abs
