/- Literals of structs, arrays and slices; bytes out of a string; the next rune. -/
import Derived.Test.YtlklpdifcpjlpaaDoorAbsMem2
import Derived.Laws.Tables
import Derived.Great.BuildSlice
namespace Go.Abs
set_option linter.unusedSectionVars false

section
variable {P : Program} {E : Env} {B : Nat} {c : Ctx} {w w' : World} {fx fx' : Nat → Nat} {rho lam : List Nat} {fr : AFrame} {m : Mem} {a : Act}
variable {R : Type} {r : R} {o : Oper} {next : Act → World → Prop} {Q : Exit → Act → World → Prop} {K : AFrame → Mem → Option R}

theorem mapM_places : ∀ (l : List Field), (∀ f ∈ l, (P.info? f.type).isSome = true) → l.mapM (fun f => (P.info? f.type).map fun i => (f.offset, i.size)) = some (l.map fun f => (f.offset, P.cellsOf f.type))
  | [], _ => by simp
  | f :: r, h => by
    obtain ⟨i, hi⟩ := Option.isSome_iff_exists.1 (h f (List.mem_cons_self ..))
    have := mapM_places r fun f hf => h f (List.mem_cons_of_mem _ hf)
    simp [List.mapM_cons, hi, this, Program.cellsOf]

theorem zeroRep {t : TypeId} {ti : TI} (ht : FitsT P t ti) : ∃ i z, P.info? t = some i ∧ i.zero = some z ∧ z.cells.size = ti.size ∧ i.size = ti.size ∧ RepL w fx ti.zero z.cells.toList := by
  obtain ⟨i, z, hi, hs, hb, hz0, hzs, hzc, hza, hzo⟩ := ht.info
  exact ⟨i, z, hi, hz0, hzs, hs, ofConsts_rep hzc⟩

theorem sound_build_struct (hF : Fits E P) (hg : Good E B c w fx rho lam fr m a) (hG : GlobOk E w fx) {t : TypeId} {parts : Array (Nat × Operand)} (ho : o.op = .build t parts)
    {ti : TI} (hti : E.T t = some ti) {fs : List (Nat × Nat × Bool)} (hk : ti.kind = .struct fs) {ps : List (Nat × AVal)} (hps : evParts E fr parts.toList = some ps) {cs : List AVal}
    (hcs : fill (fun i => (fs[i]?).map fun f => (f.1, f.2.1)) ti.zero ps = some cs) (hK : K (Abs.put fr o.dst (.agg cs)) m = some r) : CalmStep E B c P w fx rho lam a o r K := by
  have ht := hF t _ hti
  obtain ⟨i, z, hi, hz, hzs, his, hzr⟩ := zeroRep (w := w) (fx := fx) ht
  have hkk := ht.kind
  rw [hk] at hkk
  obtain ⟨fields, h1, h2, h3⟩ := hkk
  obtain ⟨q1, q2⟩ := evParts_ok hg hG hps
  obtain ⟨Cs, hf, hr⟩ := fill_ok hcs hzr q1 fun i p q hp hq => by
    obtain ⟨e1, e2⟩ := q2 i p q hp hq
    exact ⟨e1, plainCell_cellsOf_rep e2⟩
  have hplace : (fun i : Nat => (fs[i]?).map fun f : Nat × Nat × Bool => (f.1, f.2.1)) = (fun i : Nat => (fields.toList.map fun f => (f.offset, P.cellsOf f.type)).toArray[i]?) := by
    funext i
    rw [← h2]
    simp [List.getElem?_map]
    cases fields[i]? <;> rfl
  rw [hplace] at hf
  have hb : P.built t (parts.map fun (i, x) => (i, a.eval x)).toList = some Cs.toArray := by
    unfold Program.built
    rw [hi, h1]
    simp only [hz, mapM_places _ fun f hf => (h3 f hf).1]
    simpa using hf
  have hrep : Rep w fx (.agg cs) (.agg Cs.toArray) := ⟨Cs, rfl, hr⟩
  refine fin hg hrep.toT rfl (fun w' hw' => ?_) hK
  simp only [execOp, ho, Sem.run_bind, run_build w' t _ _ hb, Result.andThen_ok, Sem.run_pure]

theorem sound_build_array (hF : Fits E P) (hg : Good E B c w fx rho lam fr m a) (hG : GlobOk E w fx) {t : TypeId} {parts : Array (Nat × Operand)} (ho : o.op = .build t parts)
    {ti : TI} (hti : E.T t = some ti) {n sz : Nat} {agg : Bool} (hk : ti.kind = .array n sz agg) {ps : List (Nat × AVal)} (hps : evParts E fr parts.toList = some ps) {cs : List AVal}
    (hcs : fill (fun i => some (i * sz, sz)) ti.zero ps = some cs) (hK : K (Abs.put fr o.dst (.agg cs)) m = some r) : CalmStep E B c P w fx rho lam a o r K := by
  have ht := hF t _ hti
  obtain ⟨i, z, hi, hz, hzs, his, hzr⟩ := zeroRep (w := w) (fx := fx) ht
  have hkk := ht.kind
  rw [hk] at hkk
  obtain ⟨e, h1, h2, h3, h4, h7⟩ := hkk
  obtain ⟨q1, q2⟩ := evParts_ok hg hG hps
  obtain ⟨Cs, hf, hr⟩ := fill_ok hcs hzr q1 fun i p q hp hq => by
    obtain ⟨e1, e2⟩ := q2 i p q hp hq
    exact ⟨e1, plainCell_cellsOf_rep e2⟩
  obtain ⟨ie, hie⟩ := Option.isSome_iff_exists.1 h4
  have hsz : ie.size = sz := by rw [← h2]; simp [Program.cellsOf, hie]
  have hb : P.built t (parts.map fun (i, x) => (i, a.eval x)).toList = some Cs.toArray := by
    unfold Program.built
    rw [hi, h1]
    simp only [hz, hie, hsz]
    simpa using hf
  have hrep : Rep w fx (.agg cs) (.agg Cs.toArray) := ⟨Cs, rfl, hr⟩
  refine fin hg hrep.toT rfl (fun w' hw' => ?_) hK
  simp only [execOp, ho, Sem.run_bind, run_build w' t _ _ hb, Result.andThen_ok, Sem.run_pure]

theorem repl_length (n : Nat) (z : List AVal) : (repl n z).length = n * z.length := by
  induction n with
  | zero => simp [repl]
  | succ n ih => simp [repl, ih, Nat.add_mul]; omega
theorem repl_get (z : List AVal) (hz : 0 < z.length) : ∀ (n i : Nat), i < n * z.length → (repl n z)[i]? = z[i % z.length]?
  | 0, i, h => by simp at h
  | n + 1, i, h => by
    simp only [repl]
    rcases Nat.lt_or_ge i z.length with hlt | hge
    · rw [List.getElem?_append_left hlt, Nat.mod_eq_of_lt hlt]
    · rw [List.getElem?_append_right hge, repl_get z hz n (i - z.length) (by rw [Nat.add_mul] at h; omega)]
      congr 1
      rw [Nat.mod_eq_sub_mod hge]

theorem RepL.of_get : ∀ {l : List AVal} {Vs : List Value}, Vs.length = l.length → (∀ (i : Nat) (v : AVal) (V : Value), l[i]? = some v → Vs[i]? = some V → Rep w fx v V ∧ V.oneCell' = true) → RepL w fx l Vs
  | [], Vs, hl, _ => List.length_eq_zero_iff.1 hl
  | x :: r, [], hl, _ => by simp at hl
  | x :: r, V :: Vr, hl, h => by
    obtain ⟨h1, h2⟩ := h 0 x V rfl rfl
    exact ⟨V, Vr, rfl, h1, h2, RepL.of_get (by simpa using hl) fun i v U hi hU => h (i + 1) v U (by simpa using hi) (by simpa using hU)⟩

theorem chunks_rep {sz : Nat} : ∀ (n : Nat) {cs : List AVal} {Cs : List Value}, cs.length = n * sz → RepL w fx cs Cs → RepLL w fx (chunks sz n cs) Cs
  | 0, cs, Cs, hl, hr => by
    have : cs = [] := List.length_eq_zero_iff.1 (by simpa using hl)
    subst this
    exact hr
  | n + 1, cs, Cs, hl, hr => by
    have e : cs = cs.take sz ++ cs.drop sz := (List.take_append_drop sz cs).symm
    rw [e] at hr
    obtain ⟨V1, V2, rfl, h1, h2⟩ := hr.split
    exact ⟨V1, V2, rfl, h1, chunks_rep n (by simp [hl, Nat.add_mul]) h2⟩
theorem chunks_length (sz : Nat) : ∀ (n : Nat) (cs : List AVal), (chunks sz n cs).length = n
  | 0, _ => rfl
  | n + 1, cs => by simp [chunks, chunks_length sz n]
theorem chunks_uni {sz : Nat} : ∀ (n : Nat) {cs : List AVal}, cs.length = n * sz → ∀ e ∈ chunks sz n cs, e.length = sz
  | 0, _, _, e, he => by simp [chunks] at he
  | n + 1, cs, hl, e, he => by
    simp only [chunks, List.mem_cons] at he
    rcases he with rfl | he
    · rw [List.length_take, hl, Nat.add_mul]; omega
    · exact chunks_uni n (by simp [hl, Nat.add_mul]) e he
theorem fill_length {place : Nat → Option (Nat × Nat)} : ∀ {ps : List (Nat × AVal)} {cells cells' : List AVal}, fill place cells ps = some cells' → cells'.length = cells.length
  | [], cells, cells', h => by unfold fill at h; injection h with h; rw [h]
  | (i, v) :: ps, cells, cells', h => by
    unfold fill at h
    split at h
    · cases h
    · split at h
      · split at h
        · rename_i c1 hc1
          obtain ⟨p, q, r, rfl, h1, h2, rfl⟩ := lput_eq hc1
          rw [fill_length h]
          simp [h2]
        · cases h
      · cases h

theorem rep_plain {v : AVal} {V : Value} (h : Rep w fx v V) : Rep w fx (plainAgg (plainCell v)) V := h.plainCell.plainAgg

theorem sound_buildSlice (hF : Fits E P) (hg : Good E B c w fx rho lam fr m a) (hG : GlobOk E w fx) (hn : NextOk E B c r K next) {t : TypeId} {len : Nat} {parts : Array (Nat × Operand)} (ho : o.op = .buildSlice t len parts)
    {ti ei : TI} (hti : E.T t = some ti) {e : TypeId} (hk : ti.kind = .slice e) (hei : E.T e = some ei) {ps : List (Nat × AVal)} (hps : evParts E fr parts.toList = some ps)
    (hsz : ei.size ≠ 0) (hlen : len ≠ 0) (hsmall : len * ei.size ≤ 16777216) {cs : List AVal}
    (hcs : fill (fun i => some (i * ei.size, ei.size)) (repl len ei.zero) (ps.map fun p : Nat × AVal => (p.1, plainAgg (plainCell p.2))) = some cs)
    (hK : K (Abs.put fr o.dst (.slice .full (chunks ei.size len cs))) m = some r) : o.wp P a w next Q := by
  have ht := hF t _ hti
  have het := hF e _ hei
  obtain ⟨ie, z, hie, hz, hzs, his, hzr⟩ := zeroRep (w := w) (fx := fx) het
  have hkk := ht.kind
  rw [hk] at hkk
  have hu : P.underlying t = some (.slice e) := hkk
  obtain ⟨q1, q2⟩ := evParts_ok hg hG hps
  have hzl : ei.zero.length = ei.size := by rw [← hzr.length, Array.length_toList, hzs]
  have hzero : RepL w fx (repl len ei.zero) ((List.range (len * ei.size)).map fun i => z.cells[i % ei.size]!) := by
    refine RepL.of_get (by simp [repl_length, hzl]) fun i v V hi hV => ?_
    have hlt : i < len * ei.zero.length := by
      rw [← repl_length]
      rcases Nat.lt_or_ge i (repl len ei.zero).length with h | h
      · exact h
      · rw [List.getElem?_eq_none h] at hi; cases hi
    rw [repl_get _ (by omega) _ _ hlt, hzl] at hi
    obtain ⟨V', h1, h2, h3⟩ := hzr.get hi
    rw [hzl] at hlt
    simp [hlt] at hV
    have hm : i % ei.size < z.cells.size := by rw [hzs]; exact Nat.mod_lt _ (by omega)
    have e1 : z.cells[i % ei.size]! = V' := by
      rw [getElem!_pos z.cells _ hm]
      rw [Array.getElem?_toList, Array.getElem?_eq_getElem hm] at h1
      injection h1
    rw [e1] at hV
    subst hV
    exact ⟨h2, h3⟩
  obtain ⟨Cs, hf, hr⟩ := fill_ok (Ps := parts.toList.map fun (i, x) => (i, a.eval x)) hcs hzero (by simpa using q1) fun i p q hp hq => by
    simp only [List.getElem?_map, Option.map_eq_some_iff] at hp
    obtain ⟨p0, hp0, rfl⟩ := hp
    obtain ⟨e1, e2⟩ := q2 i p0 q hp0 hq
    exact ⟨e1, plainCell_cellsOf_rep (rep_plain e2)⟩
  have hcl : cs.length = len * ei.size := by rw [fill_length hcs, repl_length, hzl]
  have hCl : Cs.length = len * ei.size := by rw [hr.length, hcl]
  have hrun := run_buildSlice w t e len (parts.map fun (i, x) => (i, a.eval x)) Cs.toArray ie z hu hie hz (by rw [his]; omega) (by rw [his]; exact Nat.mul_ne_zero hlen hsz) (by
    rw [his, hzs]
    have : ((Array.range (len * ei.size)).map fun i => z.cells[i % ei.size]!) = ((List.range (len * ei.size)).map fun i => z.cells[i % ei.size]!).toArray := by
      apply Array.ext'
      simp
    rw [this]
    simpa using hf)
  obtain ⟨hg1, hx1⟩ := hg.alloc (.cells Cs.toArray e) Cs.length
  refine wp_value (V := .slice (some ⟨w.heap.size, 0, none⟩) len len) (w' := w.alloc (.cells Cs.toArray e)) ?_ (hn _ _ _ _ _ _ _ hK (hg1.put o.dst (v := .slice .full (chunks ei.size len cs)) ?_ rfl) (hG.ext hx1))
  · simp only [execOp, ho, Sem.run_bind, hrun, Result.andThen_ok, Sem.run_pure]
  · refine ⟨_, _, _, Cs, rfl, (chunks_length _ _ _).symm, Nat.le_refl _, RepLL.ext hx1 _ _ (chunks_rep len hcl hr), ⟨ei.size, chunks_uni len hcl⟩, ⟨rfl, fun h => by cases h⟩, fun _ => ⟨_, 0, rfl, cellsAt_new Cs e⟩⟩

theorem sound_bytes (hF : Fits E P) (hg : Good E B c w fx rho lam fr m a) (hG : GlobOk E w fx) (hn : NextOk E B c r K next) {src dst : TypeId} {x : Operand} (ho : o.op = .convert src dst x)
    {s : List UInt8} (hx : ev E fr x = some (.str s)) {si ti : TI} (hsi : E.T src = some si) (hti : E.T dst = some ti) {e : TypeId} (hk : ti.kind = .slice e) (hby : isByte E e = true)
    (hK : K (Abs.put fr o.dst (.slice .no (s.map fun b => [.int .u8 b.toNat]))) m = some r) : o.wp P a w next Q := by
  obtain ⟨hbe, _⟩ := isByte_ok hF hby
  have hkk := (hF dst _ hti).kind
  rw [hk] at hkk
  have hu : P.underlying dst = some (.slice e) := hkk
  obtain ⟨sd, hsd⟩ := Option.isSome_iff_exists.1 (hF _ _ hsi).under
  have hX := (ev_sound hg hG hx).rep.str
  have hrun := Lib.run_convert_string_bytes w src dst e ⟨s.toArray⟩ hsd hu hbe
  have hss : (⟨s.toArray⟩ : ByteArray).size = s.length := by simp [ByteArray.size]
  obtain ⟨hg1, hx1⟩ := hg.grow (w' := Lib.bytesWorld w e ⟨s.toArray⟩) s.length (Lib.bytesWorld_size _ _ _) (fun b hb => Lib.bytesWorld_at_old _ _ _ _ hb) rfl rfl rfl
  have hat : CellsAt (Lib.bytesWorld w e ⟨s.toArray⟩) (fxSet fx w.heap.size s.length) w.heap.size 0 (s.map fun b => Value.int .u8 b.toNat) := fun j V hj => by
    have hlt : j < s.length := by
      rcases Nat.lt_or_ge j s.length with h | h
      · exact h
      · simp [List.getElem?_eq_none h] at hj
    have := Lib.bytesWorld_cell w e ⟨s.toArray⟩ j (by rw [hss]; exact hlt)
    refine ⟨?_, by unfold fxSet; rw [if_pos rfl]; omega⟩
    rw [Nat.zero_add, this]
    simp [hlt] at hj
    rw [← hj]
    simp [hlt]
  have hrl : ∀ (l : List UInt8), RepLL (Lib.bytesWorld w e ⟨s.toArray⟩) (fxSet fx w.heap.size s.length) (l.map fun b => [AVal.int .u8 b.toNat]) (l.map fun b => Value.int .u8 b.toNat) := fun l => by
    induction l with
    | nil => rfl
    | cons b l ih => exact ⟨[Value.int .u8 b.toNat], _, rfl, ⟨_, [], rfl, rfl, rfl, rfl⟩, ih⟩
  refine wp_value (V := .slice (some ⟨w.heap.size, 0, none⟩) (⟨s.toArray⟩ : ByteArray).size (grownCap w (⟨s.toArray⟩ : ByteArray).size 0 e)) (w' := Lib.bytesWorld w e ⟨s.toArray⟩) ?_
    (hn _ _ _ _ _ _ _ hK (hg1.put o.dst (v := .slice .no (s.map fun b => [.int .u8 b.toNat])) ?_ rfl) (hG.ext hx1))
  · simp only [execOp, ho, Sem.run_bind, hX, hrun, Result.andThen_ok, Sem.run_pure]
  · refine ⟨_, _, _, _, rfl, by simp [hss], ?_, hrl s, ⟨1, fun e he => ?_⟩, trivial, fun _ => ⟨_, 0, rfl, hat⟩⟩
    · unfold grownCap
      simp only [Question.cut]
      omega
    · obtain ⟨b, _, rfl⟩ := List.mem_map.1 he
      rfl

end
end Go.Abs
