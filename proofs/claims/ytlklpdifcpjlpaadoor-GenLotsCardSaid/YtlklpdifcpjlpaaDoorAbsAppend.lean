/- append. -/
import Derived.Test.YtlklpdifcpjlpaaDoorAbsStore2
import Derived.Deep.AppendSrc
import Derived.Deep.Upon
namespace Go.Abs
set_option linter.unusedSectionVars false
set_option linter.unusedSimpArgs false
set_option linter.unusedVariables false

section
variable {P : Program} {E : Env} {B : Nat} {c : Ctx} {w w' : World} {fx fx' : Nat → Nat} {rho lam : List Nat} {fr : AFrame} {m : Mem} {a : Act}
variable {R : Type} {r : R} {o : Oper} {next : Act → World → Prop} {Q : Exit → Act → World → Prop} {K : AFrame → Mem → Option R}

theorem src_ok (hF : Fits E P) {e : TypeId} {ei : TI} (hei : E.T e = some ei) (hsz : ei.size ≠ 0) {tx : TypeId} {ti : TI} (hti : E.T tx = some ti) {u : AVal} {U : Value} (hU : RepT w fx rho lam u U) {xs : List (List AVal)}
    (h : appendSrc E e ei.size ti.kind u = some xs) : ∃ news, RepLL w fx xs news ∧ (∀ x ∈ xs, x.length = ei.size) ∧ Src P ei.size tx U xs.length news w := by
  have hk := (hF tx _ hti).kind
  unfold appendSrc at h
  split at h
  · rename_i e' own es heq
    split at h
    · rename_i huni
      injection h with h; subst h
      rw [heq] at hk
      have hk' : P.underlying tx = some (.slice e') := hk
      obtain ⟨A, n, cp, Vs, hV, hn', hnc, hr, hs, _, hc⟩ := hU.slice
      have hel : ∀ x ∈ es, x.length = ei.size := by simpa [uni] using huni
      subst hn'
      refine ⟨Vs, hr, hel, ?_⟩
      rw [hV]
      cases A with
      | none =>
        have hVs : Vs = [] := by
          rcases Classical.em (Vs = []) with h | h
          · exact h
          · obtain ⟨_, _, h', _⟩ := hc h; cases h'
        have hl := hr.length hel
        rw [hVs] at hl
        have hl' : es.length * ei.size = 0 := hl.symm
        have : es = [] := by
          rcases Nat.mul_eq_zero.1 hl' with hl | hl
          · exact List.length_eq_zero_iff.1 hl
          · exact absurd hl hsz
        subst this
        subst hVs
        exact Src.ofNil w hk' cp
      | some ad =>
        refine Src.ofSlice w hk' ad es.length cp Vs (hr.length hel) (fun j u hj => ?_) hr.cells
        have hne : Vs ≠ [] := by rintro rfl; simp at hj
        obtain ⟨b, off, h', hat⟩ := hc hne
        injection h' with h'; subst h'
        rw [addr_add]; exact (hat j u hj).1
    · cases h
  · rename_i b heq
    split at h
    · rename_i hby
      injection h with h; subst h
      rw [heq] at hk
      have hk' : P.underlying tx = some .string := hk
      obtain ⟨_, i1, z1, hi1, hs1, _⟩ := isByte_ok hF hby
      obtain ⟨i2, z2, hi2, hs2, _⟩ := (hF e _ hei).info
      have hes : ei.size = 1 := by
        rw [hi1] at hi2; injection hi2 with hi2; subst hi2; rw [← hs2, hs1]
      rw [hU.str, hes]
      have hss : (⟨b.toArray⟩ : ByteArray).size = b.length := by simp [ByteArray.size]
      have hsrc := Src.ofString (P := P) w hk' ⟨b.toArray⟩
      rw [hss] at hsrc
      refine ⟨b.map fun c => Value.int .u8 c.toNat, ?_, fun x hx => ?_, ?_⟩
      · have : ∀ l : List UInt8, RepLL w fx (l.map fun c => [AVal.int .u8 c.toNat]) (l.map fun c => Value.int .u8 c.toNat) := fun l => by
          induction l with
          | nil => rfl
          | cons c l ih => exact ⟨[Value.int .u8 c.toNat], _, rfl, ⟨_, [], rfl, rfl, rfl, rfl⟩, ih⟩
        exact this b
      · obtain ⟨c, _, rfl⟩ := List.mem_map.1 hx; rfl
      · simpa [byteCells] using hsrc
    · cases h
  · cases h

theorem append_exec {cl : Call} (ho : o.op = .call cl) (hc : cl.callee = .builtin .append) {s x : Operand} {t t' : TypeId} (h0 : cl.args[0]? = some s) (h1 : cl.args[1]? = some x) (h2 : cl.argTypes[0]? = some t) (h3 : cl.argTypes[1]? = some t')
    (hs : cl.args.size = 2) (ht : cl.argTypes.size = 2) {V : Value} (hrun : (Builtin.append_ #[t, t'] o.type #[a.eval s, a.eval x]).run P w = .ok V w') : (execOp a.eval o).run P w = .ok (.value V) w' := by
  have e1 : cl.args = #[s, x] := by
    apply Array.ext (by rw [hs]; rfl)
    intro i hi1 hi2
    match i, hi2 with
    | 0, _ => rw [Array.getElem?_eq_getElem hi1] at h0; injection h0
    | 1, _ => rw [Array.getElem?_eq_getElem hi1] at h1; injection h1
  have e2 : cl.argTypes = #[t, t'] := by
    apply Array.ext (by rw [ht]; rfl)
    intro i hi1 hi2
    match i, hi2 with
    | 0, _ => rw [Array.getElem?_eq_getElem hi1] at h2; injection h2
    | 1, _ => rw [Array.getElem?_eq_getElem hi1] at h3; injection h3
  simp only [execOp, ho, hc, resolve, Sem.run_bind, Sem.run_pure, Result.andThen_ok, invoke, builtin, e1, e2]
  simp only [List.map_toArray, List.map_cons, List.map_nil, hrun, Result.andThen_ok]

theorem room_of {n bytes : Nat} (h : roomOk n bytes = true) : n ≤ 9223372036854775807 ∧ n * bytes ≤ 140737488355328 := by
  unfold roomOk at h
  rw [Bool.and_eq_true] at h
  exact ⟨by simpa using h.1, by simpa using h.2⟩

/-- it grows: a new row, of the frame's own -/
theorem append_grow (hB : B ≤ c.w0.heap.size) (hF : Fits E P) (hg : Good E B c w fx rho lam fr m a) (hG : GlobOk E w fx) (hn : NextOk E B c r K next) {cl : Call} (ho : o.op = .call cl) (hc : cl.callee = .builtin .append) {s x : Operand} {t t' : TypeId}
    (h0 : cl.args[0]? = some s) (h1 : cl.args[1]? = some x) (h2 : cl.argTypes[0]? = some t) (h3 : cl.argTypes[1]? = some t') (hsz : cl.args.size = 2) (hst : cl.argTypes.size = 2)
    {e : TypeId} {ei : TI} (ht : P.underlying t = some (.slice e)) (hei : E.T e = some ei) (hes : ei.size ≠ 0)
    {A : Option Addr} {n cp : Nat} (hV : a.eval s = .slice A n cp) {es : List (List AVal)} {Vs : List Value} (hnl : n = es.length) (hr : RepLL w fx es Vs) (hel : ∀ q ∈ es, q.length = ei.size)
    (hat : Vs ≠ [] → ∃ b off, A = some ⟨b, off, none⟩ ∧ ∀ j u, Vs[j]? = some u → w.cell? ⟨b, off + j, none⟩ = some u) (hA : A = none → n = 0 ∧ cp = 0) {xs : List (List AVal)} {news : List Value} (hrx : RepLL w fx xs news) (hxl : ∀ q ∈ xs, q.length = ei.size)
    (hsrc : Src P ei.size t' (a.eval x) xs.length news w) (hgrow : cp < n + xs.length) (hroom : roomOk (es.length + xs.length) ei.bytes = true) {fr0 : AFrame} (hg0 : Good E B c w fx rho lam fr0 m a)
    (hK : K (Abs.put fr0 o.dst (.slice (.row e) (es ++ xs))) m = some r) : o.wp P a w next Q := by
  obtain ⟨i, z, hi, hz, hzs, his, hzr⟩ := zeroRep (w := w) (fx := fx) (hF e _ hei)
  have hby : i.bytes = ei.bytes := by
    obtain ⟨i2, z2, hi2, _, hb2, _⟩ := (hF e _ hei).info
    rw [hi] at hi2; injection hi2 with hi2; subst hi2; exact hb2
  obtain ⟨r1, r2⟩ := room_of hroom
  have hol : Vs.length = n * i.size := by rw [his, hnl]; exact hr.length hel
  have hold : (Builtin.firstCells i.size n (.slice A n cp)).run P w.drew = .ok Vs.toArray w.drew := by
    cases A with
    | none =>
      obtain ⟨hn0, _⟩ := hA rfl
      have : Vs = [] := by
        rw [hn0] at hol
        exact List.length_eq_zero_iff.1 (by simpa using hol)
      subst this
      rw [hn0]
      exact run_firstCells_none _ _ _ _ _
    | some ad =>
      refine run_firstCells_some w.drew i.size n ad n cp Vs hol fun j u hj => ?_
      have hne : Vs ≠ [] := by rintro rfl; simp at hj
      obtain ⟨b, off, h', hat'⟩ := hat hne
      injection h' with h'; subst h'
      rw [addr_add]
      simpa using hat' j u hj
  have hnew : news.length = xs.length * i.size := by rw [his]; exact hrx.length hxl
  have hsrc' : Src P i.size t' (a.eval x) xs.length news w := by rw [his]; exact hsrc
  have hlen : n + xs.length ≤ 9223372036854775807 := by rw [hnl]; exact r1
  have hfit : Builtin.nextslicecap (n + xs.length) cp * i.bytes ≤ 281474976710656 := growslice_fits hgrow (by rw [hby, hnl]; exact r2)
  have hrun := run_append_grow_src (P := P) w t t' o.type e i z ht hi hz A n cp Vs hold (a.eval x) xs.length news hsrc' hgrow (by omega) hfit
  let cap' := grownCap w (n + xs.length) cp e
  let arr := ((Vs ++ news).toArray ++ Builtin.zeroCells z.cells (cap' - (n + xs.length)))
  have hge : n + xs.length ≤ cap' := grownCap_ge w (n + xs.length) cp e
  have hle : cap' ≤ maxLen := grownCap_le_maxLen w (n + xs.length) cp e (by simp only [maxLen]; omega)
  have hfull : (Vs ++ news).length = (n + xs.length) * ei.size := by rw [List.length_append, hol, hnew, his, Nat.add_mul]
  obtain ⟨hg1, hx1⟩ := hg0.grow (w' := w.drew.alloc (.cells arr e)) ((n + xs.length) * ei.size) (by simp) (fun b hb => heap_alloc_get w.drew _ b hb) rfl rfl rfl
  have hheap : (w.drew.alloc (.cells arr e)).heap[w.heap.size]? = some (.cells arr e (0, 0)) := heap_alloc_at w.drew _
  have hcells : CellsAt (w.drew.alloc (.cells arr e)) (fxSet fx w.heap.size ((n + xs.length) * ei.size)) w.heap.size 0 (Vs ++ news) := fun j V hj => by
    have hlt : j < (Vs ++ news).length := by
      rcases Nat.lt_or_ge j (Vs ++ news).length with h | h
      · exact h
      · rw [List.getElem?_eq_none h] at hj; cases hj
    refine ⟨?_, by unfold fxSet; rw [if_pos rfl]; omega⟩
    simp only [World.cell?, hheap, Nat.zero_add]
    have : arr[j]? = some V := by
      rw [← Array.getElem?_toList]
      simp only [arr, Array.toList_append]
      rw [List.getElem?_append_left hlt]; exact hj
    simpa using this
  have hrep2 : RepLL (w.drew.alloc (.cells arr e)) (fxSet fx w.heap.size ((n + xs.length) * ei.size)) (es ++ xs) (Vs ++ news) := (RepLL.ext hx1 _ _ hr).append (RepLL.ext hx1 _ _ hrx)
  have hall : ∀ q ∈ es ++ xs, q.length = ei.size := fun q hq => (List.mem_append.1 hq).elim (hel q) (hxl q)
  have hown : (w.drew.alloc (.cells arr e)).ownsRow B e ei.size (.slice (some ⟨w.heap.size, 0, none⟩) (n + xs.length) cap') (es ++ xs).length (Vs ++ news) := by
    have hl2 : (es ++ xs).length = n + xs.length := by rw [List.length_append, hnl]
    rw [hl2]
    refine ⟨hfull, .inr ⟨w.heap.size, cap', arr, rfl, Nat.le_trans hB hg.keep.size, hheap, hge, hle, ?_, ?_⟩⟩
    · simp only [arr, Array.size_append, List.size_toArray, size_zeroCells, hfull, hzs, ← Nat.add_mul]
      congr 1
      omega
    · simp only [arr, Array.toList_append]
      rw [← hfull]
      exact List.take_left
  have hrep : Rep (w.drew.alloc (.cells arr e)) (fxSet fx w.heap.size ((n + xs.length) * ei.size)) (.slice .no (es ++ xs)) (.slice (some ⟨w.heap.size, 0, none⟩) (n + xs.length) cap') :=
    ⟨_, _, _, _, rfl, by rw [List.length_append, hnl], hge, hrep2, ⟨ei.size, hall⟩, trivial, fun _ => ⟨_, 0, rfl, hcells⟩⟩
  refine wp_value (w' := w.drew.alloc (.cells arr e)) (V := .slice (some ⟨w.heap.size, 0, none⟩) (n + xs.length) cap') (append_exec ho hc h0 h1 h2 h3 hsz hst (by rw [hV]; exact hrun))
    (hn _ _ _ _ _ _ _ hK (hg1.putOwn o.dst (v := .slice (.row e) (es ++ xs)) hrep ⟨ei, Vs ++ news, hei, by omega, hall, hrep2, hown, fun g hg' => ?_⟩ fun b hb => ?_) (hG.ext hx1))
  · simp only [Value.ownBlock, Option.some.injEq] at hg'
    subst hg'
    unfold fxSet
    rw [if_pos rfl, List.length_append, hnl]
  · have hb' : b = w.heap.size := by
      have := ownB_block hb
      simp only [Value.ownBlock, Option.some.injEq] at this
      exact this.symm
    subst hb'
    have hz0 : total (w.drew.alloc (.cells arr e)) rho lam fr0 m a.tmps.toList w.heap.size = 0 := by
      have h9 := total_new hg0
      have hrho : ∀ g ∈ rho, (w.drew.alloc (.cells arr e)).heap[g]? = w.heap[g]? := fun g hg' => heap_alloc_get w.drew _ g (hg0.low g (total_pos_rho hg')).2.1
      have hlam : ∀ g ∈ lam, (w.drew.alloc (.cells arr e)).heap[g]? = w.heap[g]? := fun g hg' => heap_alloc_get w.drew _ g (hg0.low g (total_pos_lam hg')).2.1
      unfold total at h9 ⊢
      rw [ownObjs_world fr0.locs lam _ hlam, ownObjs_world m rho _ hrho]
      exact h9
    have h1o : ownB (.slice (.row e) (es ++ xs)) (.slice (some ⟨w.heap.size, 0, none⟩) (n + xs.length) cap') w.heap.size = 1 := ownB_of_block rfl
    rw [hz0, h1o]
    refine ⟨by omega, Nat.le_trans hB hg.keep.size, by simp, fun hlt => ?_⟩
    have := hg.keep.size
    omega


/-- there is room: the row is written on -/
theorem append_room (hF : Fits E P) (hg : Good E B c w fx rho lam fr m a) (hG : GlobOk E w fx) (hn : NextOk E B c r K next) {cl : Call} (ho : o.op = .call cl) (hc : cl.callee = .builtin .append) {s x : Operand} {t t' : TypeId}
    (h0 : cl.args[0]? = some s) (h1 : cl.args[1]? = some x) (h2 : cl.argTypes[0]? = some t) (h3 : cl.argTypes[1]? = some t') (hsz : cl.args.size = 2) (hst : cl.argTypes.size = 2)
    {e : TypeId} {ei : TI} (ht : P.underlying t = some (.slice e)) (hei : E.T e = some ei) (hes : ei.size ≠ 0)
    {es : List (List AVal)} (hev : ev E fr s = some (.slice (.row e) es)) {xs : List (List AVal)} {news : List Value} (hrx : RepLL w fx xs news) (hxl : ∀ q ∈ xs, q.length = ei.size)
    (hsrc : Src P ei.size t' (a.eval x) xs.length news w) {g cap : Nat} (hV : a.eval s = .slice (some ⟨g, 0, none⟩) es.length cap) (hroom : es.length + xs.length ≤ cap)
    (hK : K (Abs.put (leave1 fr s) o.dst (.slice (.row e) (es ++ xs))) m = some r) : o.wp P a w next Q := by
  obtain ⟨i, z, hi, hz, hzs, his, hzr⟩ := zeroRep (w := w) (fx := fx) (hF e _ hei)
  obtain ⟨hg0, htot0⟩ := leave_sound hg hev
  have hs := ev_sound hg hG hev
  obtain ⟨ei', Vs, hei', hp0, hel, hr, hown, hfx⟩ := hs.own
  rw [hei] at hei'; injection hei' with hei'; subst hei'
  rw [hV] at hown hfx
  obtain ⟨hVl, hor⟩ := hown
  rcases hor with ⟨hnil, _⟩ | ⟨g', cap', cur, hv, hBg, hh, hnc, hcm, hcs, htk⟩
  · cases hnil
  injection hv with hv1 hv2 hv3
  injection hv1 with hv1
  injection hv1 with hv1
  subst hv1; subst hv3
  have hfg := hfx g rfl
  have hxn : news.length = xs.length * ei.size := hrx.length hxl
  have hlow : g < w.heap.size := by
    rcases Nat.lt_or_ge g w.heap.size with h | h
    · exact h
    · rw [Array.getElem?_eq_none h] at hh; cases hh
  -- the row's cells in three parts
  have hcl : cur.toList.length = cap * ei.size := by rw [Array.length_toList, hcs]
  have hlim : es.length * ei.size + xs.length * ei.size ≤ cap * ei.size := by rw [← Nat.add_mul]; exact Nat.mul_le_mul_right _ hroom
  let q := (cur.toList.drop (es.length * ei.size)).take (xs.length * ei.size)
  let rr := (cur.toList.drop (es.length * ei.size)).drop (xs.length * ei.size)
  have hparts : cur.toList = Vs ++ q ++ rr := by
    rw [← htk, List.append_assoc, List.take_append_drop, List.take_append_drop]
  have hql : q.length = news.length := by
    simp only [q, List.length_take, List.length_drop, hcl, hxn]
    omega
  have hheap : w.heap[g]? = some (.cells (Vs ++ q ++ rr).toArray e (0, 0)) := by rw [hh, toArray_of hparts]
  have hrun := run_append_room_src (P := P) w t t' o.type e i ht hi g 0 es.length cap (a.eval x) xs.length news (by rw [his]; exact hsrc) hroom (fun j hj => by
      simp only [World.cell?, hheap, his]
      have h9 : 0 + es.length * ei.size + j < (Vs ++ q ++ rr).length := by
        rw [← hparts, hcl]; omega
      rw [List.getElem?_toArray, List.getElem?_eq_getElem h9]
      rfl) (fun j hj => by simp [World.frozen?, hheap])
  rw [his, Nat.zero_add, ← hVl] at hrun
  have hheap' := setCells_heap news hheap hql
  obtain ⟨hz1, hz2, hz3, hz4⟩ := setCells_rest news (w := w) (g := g) (off := Vs.length)
  have hto : total w rho lam (leave1 fr s) m a.tmps.toList g = 0 := by
    have h4 := htot0 g
    have h5 := hg.tot g
    rw [hV, ownB_of_block rfl] at h4
    omega
  have hlowg := hg.low g (by
    have h4 := htot0 g
    rw [hV, ownB_of_block rfl] at h4
    omega)
  have hx1 : Ext w fx (w.setCells g Vs.length news) (fxSet fx g ((es.length + xs.length) * ei.size)) := {
    le := fun b => by
      unfold fxSet
      split
      · rename_i e9; rw [e9, hfg, Nat.add_mul]; omega
      · exact Nat.le_refl _
    cell := fun b off hoff => by
      by_cases hb : b = g
      · subst hb
        rw [hfg] at hoff
        exact World.cell?_setCells_out _ _ _ _ _ fun _ _ => .inl (by rw [hVl]; exact hoff)
      · exact cell_same (setCells_other news hb)
    none := fun b off h0 hn => by
      by_cases hb : b = g
      · subst hb
        exact setCells_none news hn
      · rw [cell_same (setCells_other news hb)]; exact hn }
  have hg1 := hg0.world (w' := w.setCells g Vs.length news) hx1 (by rw [hz1]; exact Nat.le_refl _) g hto hlowg.2.2 (fun b hb hne => ⟨setCells_other news hne, by unfold fxSet; rw [if_neg hne]⟩)
    (fun b hb => by
      unfold fxSet
      rw [if_neg (by rw [hz1] at hb; omega)]
      exact hg.fxb b (by rw [hz1] at hb; exact hb)) hz2 hz3 hz4
  have hcells : CellsAt (w.setCells g Vs.length news) (fxSet fx g ((es.length + xs.length) * ei.size)) g 0 (Vs ++ news) := fun j V hj => by
    have hlt : j < (Vs ++ news).length := by
      rcases Nat.lt_or_ge j (Vs ++ news).length with h | h
      · exact h
      · rw [List.getElem?_eq_none h] at hj; cases hj
    refine ⟨?_, ?_⟩
    · simp only [World.cell?, hheap', Nat.zero_add]
      rw [List.getElem?_toArray, List.getElem?_append_left hlt]
      simpa using hj
    · unfold fxSet
      rw [if_pos rfl, Nat.zero_add, Nat.add_mul, ← hVl, ← hxn, ← List.length_append]
      exact hlt
  have hrep2 : RepLL (w.setCells g Vs.length news) (fxSet fx g ((es.length + xs.length) * ei.size)) (es ++ xs) (Vs ++ news) := (RepLL.ext hx1 _ _ hr).append (RepLL.ext hx1 _ _ hrx)
  have hall : ∀ q ∈ es ++ xs, q.length = ei.size := fun q hq => (List.mem_append.1 hq).elim (hel q) (hxl q)
  have hfull : (Vs ++ news).length = (es.length + xs.length) * ei.size := by rw [List.length_append, hVl, hxn, Nat.add_mul]
  have hown : (w.setCells g Vs.length news).ownsRow B e ei.size (.slice (some ⟨g, 0, none⟩) (es.length + xs.length) cap) (es ++ xs).length (Vs ++ news) := by
    rw [List.length_append]
    refine ⟨hfull, .inr ⟨g, cap, (Vs ++ news ++ rr).toArray, rfl, hBg, hheap', hroom, hcm, ?_, ?_⟩⟩
    · have := congrArg List.length hparts
      rw [hcl] at this
      simp only [List.size_toArray, List.length_append] at this ⊢
      omega
    · rw [← hfull]
      exact List.take_left
  have hrep : Rep (w.setCells g Vs.length news) (fxSet fx g ((es.length + xs.length) * ei.size)) (.slice .no (es ++ xs)) (.slice (some ⟨g, 0, none⟩) (es.length + xs.length) cap) :=
    ⟨_, _, _, _, rfl, by rw [List.length_append], hroom, hrep2, ⟨ei.size, hall⟩, trivial, fun _ => ⟨_, 0, rfl, hcells⟩⟩
  refine wp_value (w' := w.setCells g Vs.length news) (V := .slice (some ⟨g, 0, none⟩) (es.length + xs.length) cap) (append_exec ho hc h0 h1 h2 h3 hsz hst (by rw [hV]; exact hrun))
    (hn _ _ _ _ _ _ _ hK (hg1.putOwn o.dst (v := .slice (.row e) (es ++ xs)) hrep ⟨ei, Vs ++ news, hei, by omega, hall, hrep2, hown, fun g1 hg' => ?_⟩ fun b hb => ?_) (hG.ext hx1))
  · simp only [Value.ownBlock, Option.some.injEq] at hg'
    subst hg'
    unfold fxSet
    rw [if_pos rfl, List.length_append]
  · have hb' : b = g := by
      have := ownB_block hb
      simp only [Value.ownBlock, Option.some.injEq] at this
      exact this.symm
    subst hb'
    have hz0 : total (w.setCells b Vs.length news) rho lam (leave1 fr s) m a.tmps.toList b = 0 := by
      have hnot : ∀ g', (g' ∈ rho ∨ g' ∈ lam) → g' ≠ b := by
        rintro g' hg' rfl
        have h9 : 0 < total w rho lam (leave1 fr s) m a.tmps.toList g' := hg'.elim total_pos_rho total_pos_lam
        omega
      have hrho : ∀ g' ∈ rho, (w.setCells b Vs.length news).heap[g']? = w.heap[g']? := fun g' hg' => setCells_other news (hnot g' (.inl hg'))
      have hlam : ∀ g' ∈ lam, (w.setCells b Vs.length news).heap[g']? = w.heap[g']? := fun g' hg' => setCells_other news (hnot g' (.inr hg'))
      have h9 := hto
      unfold total at h9 ⊢
      rw [ownObjs_world (leave1 fr s).locs lam _ hlam, ownObjs_world m rho _ hrho]
      exact h9
    have h1o : ownB (.slice (.row e) (es ++ xs)) (.slice (some ⟨b, 0, none⟩) (es.length + xs.length) cap) b = 1 := ownB_of_block rfl
    rw [hz0, h1o]
    exact ⟨by omega, hlowg.1, by rw [hz1]; exact hlowg.2.1, hlowg.2.2⟩

theorem sound_append (hB : B ≤ c.w0.heap.size) (hF : Fits E P) (hg : Good E B c w fx rho lam fr m a) (hG : GlobOk E w fx) (hn : NextOk E B c r K next) {cl : Call} (ho : o.op = .call cl) (hc : cl.callee = .builtin .append) {s x : Operand} {t t' : TypeId}
    (h0 : cl.args[0]? = some s) (h1 : cl.args[1]? = some x) (h2 : cl.argTypes[0]? = some t) (h3 : cl.argTypes[1]? = some t') (hsz : cl.args.size = 2) (hst : cl.argTypes.size = 2)
    {v u z : AVal} (hs : ev E fr s = some v) (hx : ev E fr x = some u) (hz : appendV E t t' v u = some z) (hK : K (Abs.put (leave1 fr s) o.dst z) m = some r) : o.wp P a w next Q := by
  have hS := ev_sound hg hG hs
  have hX := ev_sound hg hG hx
  obtain ⟨hg0, htot0⟩ := leave_sound hg hs
  unfold appendV at hz
  split at hz
  · rename_i e _ _ _ ti' own es hti hti'
    have ht : P.underlying t = some (.slice e) := (hF t _ hti).kind
    split at hz
    · rename_i ei hei
      split at hz
      · rename_i xs hxs
        unfold appendTo at hz
        split at hz
        · rename_i hcond
          rw [Bool.and_eq_true] at hcond
          obtain ⟨hes, hroom⟩ := hcond
          have hes : ei.size ≠ 0 := by simpa using hes
          obtain ⟨news, hrx, hxl, hsrc⟩ := src_ok hF hei hes hti' hX.rep hxs
          split at hz
          · cases hz
          · obtain ⟨A, n, cp, Vs, hV, hn', hnc, hr, hu, ⟨hfull, hAn⟩, hat⟩ := hS.rep
            cases xs with
            | nil =>
              simp only [isCons, cond_false] at hz
              injection hz with hz; subst hz
              obtain ⟨i, z0, hi, hz0, hzs, his, hzr⟩ := zeroRep (w := w) (fx := fx) (hF e _ hei)
              have hnews : news = [] := hrx
              subst hnews
              have hrun := run_append_nothing (P := P) w t t' o.type e i ht hi A n cp hnc (a.eval x) (by rw [his]; exact hsrc)
              have hrep : Rep w fx (.slice .full es) (.slice A n cp) := ⟨A, n, cp, Vs, rfl, hn', hnc, hr, hu, ⟨hfull, hAn⟩, hat⟩
              exact wp_value (append_exec ho hc h0 h1 h2 h3 hsz hst (by rw [hV]; exact hrun)) (hn _ _ _ _ _ _ _ hK (hg0.put o.dst hrep.toT rfl) hG)
            | cons x0 xr =>
              simp only [isCons, cond_true] at hz
              split at hz
              · rename_i huni
                injection hz with hz; subst hz
                have hel : ∀ q ∈ es, q.length = ei.size := by simpa [uni] using huni
                refine append_grow hB hF hg hG hn ho hc h0 h1 h2 h3 hsz hst ht hei hes hV hn' hr hel (fun hne => ?_) (fun hA => ?_) hrx hxl hsrc ?_ hroom hg0 hK
                · obtain ⟨b, off, h', hat'⟩ := hat hne
                  exact ⟨b, off, h', fun j u hj => (hat' j u hj).1⟩
                · have := hAn hA
                  omega
                · rw [hfull]; simp
              · cases hz
          · injection hz with hz; subst hz
            have hsr : Rep w fx (.slice .nil es) (a.eval s) := hS.rep
            obtain ⟨A, n, cp, Vs, hV, hn', hnc, hr, hu, ⟨hA0, hc0⟩, hat⟩ := hsr
            subst hA0; subst hc0
            have hn0 : n = 0 := by omega
            subst hn0
            have hes0 : es = [] := List.length_eq_zero_iff.1 hn'.symm
            subst hes0
            have hVs : Vs = [] := hr
            subst hVs
            by_cases hx0 : xs = []
            · subst hx0
              obtain ⟨i, z0, hi, hz0, hzs, his, hzr⟩ := zeroRep (w := w) (fx := fx) (hF _ _ hei)
              have hnews : news = [] := hrx
              subst hnews
              have hrun := run_append_nothing (P := P) w t t' o.type _ i ht hi none 0 0 (Nat.le_refl _) (a.eval x) (by rw [his]; exact hsrc)
              have hrep : Rep w fx (.slice .nil []) (.slice none 0 0) := ⟨none, 0, 0, [], rfl, rfl, Nat.le_refl _, rfl, ⟨0, fun _ h => by cases h⟩, ⟨rfl, rfl⟩, fun h => absurd rfl h⟩
              refine wp_value (append_exec ho hc h0 h1 h2 h3 hsz hst (by rw [hV]; exact hrun)) (hn _ _ _ _ _ _ _ hK (hg0.putOwn o.dst (v := .slice (.row e) []) (Rep.plainCell (v := .slice .nil []) hrep) ⟨ei, [], hei, by omega, fun c hc => (by cases hc), rfl, ⟨by simp, .inl ⟨rfl, rfl⟩⟩, fun g hg => (by cases hg)⟩ fun b hb => by simp [ownB] at hb) hG)
            · refine append_grow hB hF hg hG hn ho hc h0 h1 h2 h3 hsz hst ht hei hes hV rfl hr (fun q hq => by cases hq) (fun hne => absurd rfl hne) (fun _ => ⟨rfl, rfl⟩) hrx hxl hsrc ?_ hroom hg0 hK
              have : 0 < xs.length := List.length_pos_iff.2 hx0
              simp; omega
          · split at hz
            · rename_i hee
              subst hee
              injection hz with hz; subst hz
              obtain ⟨ei', Vs, hei', hp0, hel, hr, hown, hfx⟩ := hS.own
              rw [hei] at hei'; injection hei' with hei'; subst hei'
              have hown' := hown
              obtain ⟨hVl, hor⟩ := hown'
              rcases hor with ⟨hnil, hn0⟩ | ⟨g, cap, cur, hv, hBg, hh, hnc, hcm, hcs, htk⟩
              · have hes0 : es = [] := List.length_eq_zero_iff.1 hn0
                subst hes0
                have hVs : Vs = [] := hr
                subst hVs
                by_cases hx0 : xs = []
                · subst hx0
                  obtain ⟨i, z0, hi, hz0, hzs, his, hzr⟩ := zeroRep (w := w) (fx := fx) (hF _ _ hei)
                  have hnews : news = [] := hrx
                  subst hnews
                  have hrun := run_append_nothing (P := P) w t t' o.type _ i ht hi none 0 0 (Nat.le_refl _) (a.eval x) (by rw [his]; exact hsrc)
                  have he := hS.own
                  rw [hnil] at he
                  have hrr := hS.rep
                  rw [hnil] at hrr
                  exact wp_value (append_exec ho hc h0 h1 h2 h3 hsz hst (by rw [hnil]; exact hrun)) (hn _ _ _ _ _ _ _ hK (hg0.putOwn o.dst hrr he fun b hb => by simp [ownB] at hb) hG)
                · refine append_grow hB hF hg hG hn ho hc h0 h1 h2 h3 hsz hst ht hei hes hnil rfl hr (fun q hq => by cases hq) (fun hne => absurd rfl hne) (fun _ => ⟨rfl, rfl⟩) hrx hxl hsrc ?_ hroom hg0 hK
                  have : 0 < xs.length := List.length_pos_iff.2 hx0
                  simp; omega
              · by_cases hro : es.length + xs.length ≤ cap
                · exact append_room hF hg hG hn ho hc h0 h1 h2 h3 hsz hst ht hei hes hs hrx hxl hsrc hv hro hK
                · refine append_grow hB hF hg hG hn ho hc h0 h1 h2 h3 hsz hst ht hei hes hv rfl hr hel (fun _ => ⟨g, 0, rfl, fun j u hj => ?_⟩) (fun h => by cases h) hrx hxl hsrc (by omega) hroom hg0 hK
                  simp only [World.cell?, hh, Nat.zero_add]
                  rw [← htk] at hj
                  rw [List.getElem?_take] at hj
                  split at hj
                  · simpa using hj
                  · cases hj
            · cases hz
        · cases hz
      · cases hz
    · cases hz
  · cases hz

end
end Go.Abs
