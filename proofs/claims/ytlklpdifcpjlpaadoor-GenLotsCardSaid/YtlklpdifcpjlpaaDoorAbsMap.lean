/- Maps: made, asked, written. -/
import Derived.Test.YtlklpdifcpjlpaaDoorAbsStore2
import Derived.MapKept
namespace Go.Abs
set_option linter.unusedSectionVars false
set_option linter.unusedVariables false
set_option linter.unusedSimpArgs false

def kkDesc : KK → TypeDesc → Prop
  | .int k, d => d = .int k
  | .str, d => d = .string

section
variable {P : Program} {E : Env} {B : Nat} {c : Ctx} {w w' : World} {fx fx' : Nat → Nat} {rho lam : List Nat} {fr : AFrame} {m : Mem} {a : Act}
variable {R : Type} {r : R} {o : Oper} {next : Act → World → Prop} {Q : Exit → Act → World → Prop} {K : AFrame → Mem → Option R}

theorem same_now {kk : KK} {d : TypeDesc} (hd : kkDesc kk d) {k u : AVal} {V U : Value} (hk : keyOk kk k = true) (hu : keyOk kk u = true) (hV : Rep w fx k V) (hU : Rep w fx u U) :
    Instr.sameNow d V U = some (keyEq k u) ∧ (keyEq k u = true → Instr.sameBits 10000 U V = true) := by
  cases kk with
  | int kd =>
    have hd' : d = .int kd := hd
    subst hd'
    cases k <;> simp [keyOk] at hk
    cases u <;> simp [keyOk] at hu
    subst hk; subst hu
    obtain rfl := hV
    obtain rfl := hU
    refine ⟨by simp [Instr.sameNow, keyEq], fun h => ?_⟩
    simp only [keyEq] at h
    have h := eq_of_beq h
    subst h
    simp [Instr.sameBits]
  | str =>
    have hd' : d = .string := hd
    subst hd'
    cases k <;> simp [keyOk] at hk
    cases u <;> simp [keyOk] at hu
    obtain rfl := hV
    obtain rfl := hU
    rename_i s s'
    have he : ((⟨s.toArray⟩ : ByteArray) == ⟨s'.toArray⟩) = (s == s') := by
      show ByteArray.beq _ _ = _
      unfold ByteArray.beq
      simp
    refine ⟨by simp only [Instr.sameNow, keyEq, he], fun h => ?_⟩
    simp only [keyEq] at h
    have h := eq_of_beq h
    subst h
    have h1 : ((⟨s.toArray⟩ : ByteArray) == ⟨s.toArray⟩) = true := by rw [he]; simp
    simp [Instr.sameBits, h1]

theorem find_ok {kk : KK} {d : TypeDesc} (hd : kkDesc kk d) {k : AVal} {V : Value} (hk : keyOk kk k = true) (hV : Rep w fx k V) : ∀ {es : List (AVal × AVal)} {qs : List MapEntry} (n : Nat), EntsRep w fx kk es qs →
    (mhas k es = false ∧ Instr.findNow d V qs n = some none ∧ ∀ v, mput k v es = es ++ [(k, v)]) ∨
    (mhas k es = true ∧ ∃ i q, Instr.findNow d V qs n = some (some (n + i, q.val)) ∧ qs[i]? = some q ∧ Instr.sameBits 10000 q.key V = true ∧ Rep w fx (mget k es) q.val ∧
      ∀ v U, Rep w fx v U → EntsRep w fx kk (mput k v es) (qs.modify i fun e => { e with key := V, val := U }))
  | [], [], n, _ => .inl ⟨rfl, rfl, fun v => rfl⟩
  | p :: r, q :: s, n, h => by
    obtain ⟨⟨h1, h2, h3⟩, h4⟩ := h
    obtain ⟨e1, e2⟩ := same_now hd hk h1 hV h2
    cases hb : keyEq k p.1 with
    | true =>
      rw [hb] at e1 e2
      refine .inr ⟨by simp [mhas, hb], 0, q, by simp [Instr.findNow, e1], rfl, e2 rfl, by simp only [mget, hb, cond_true]; exact h3, fun v U hU => ?_⟩
      simp only [mput, hb, cond_true, List.modify_zero_cons]
      exact ⟨⟨hk, hV, hU⟩, h4⟩
    | false =>
      rw [hb] at e1
      have hf : Instr.findNow d V (q :: s) n = Instr.findNow d V s (n + 1) := by simp [Instr.findNow, e1]
      rcases find_ok hd hk hV (es := r) (qs := s) (n + 1) h4 with ⟨a1, a2, a3⟩ | ⟨a1, i, q', a2, a3, a4, a5, a6⟩
      · exact .inl ⟨by simp [mhas, hb, a1], by rw [hf, a2], fun v => by simp [mput, hb, a3 v]⟩
      · refine .inr ⟨by simp [mhas, a1], i + 1, q', by rw [hf, a2, show n + 1 + i = n + (i + 1) by omega], by simpa using a3, a4, by simp only [mget, hb, cond_false]; exact a5, fun v U hU => ?_⟩
        simp only [mput, hb, cond_false, List.modify_succ_cons]
        exact ⟨⟨h1, h2, h3⟩, a6 v U hU⟩
  | [], _ :: _, _, h => h.elim
  | _ :: _, [], _, h => h.elim
theorem ents_snoc {kk : KK} {p : AVal × AVal} {q : MapEntry} (h1 : keyOk kk p.1 = true) (h2 : Rep w fx p.1 q.key) (h3 : Rep w fx p.2 q.val) : ∀ {es : List (AVal × AVal)} {qs : List MapEntry}, EntsRep w fx kk es qs → EntsRep w fx kk (es ++ [p]) (qs ++ [q])
  | [], [], _ => ⟨⟨h1, h2, h3⟩, trivial⟩
  | _ :: r, _ :: s, h => ⟨h.1, ents_snoc h1 h2 h3 (es := r) (qs := s) h.2⟩
  | [], _ :: _, h => h.elim
  | _ :: _, [], h => h.elim

theorem kkB_eq {a b : KK} (h : kkB a b = true) : a = b := by
  cases a <;> cases b <;> simp [kkB] at h
  · subst h; rfl
  · rfl
theorem keyT_desc (hF : Fits E P) {t : TypeId} {kk : KK} (h : keyT E t kk = true) : ∃ d, P.underlying t = some d ∧ kkDesc kk d := by
  unfold keyT at h
  split at h
  · rename_i ti hti
    have hk := (hF t _ hti).kind
    split at h
    · rename_i kk' hkk
      obtain rfl := kkB_eq h
      unfold kindK at hkk
      split at hkk
      · rename_i k e
        injection hkk with hkk; subst hkk
        rw [e] at hk
        exact ⟨_, hk, rfl⟩
      · rename_i e
        injection hkk with hkk; subst hkk
        rw [e] at hk
        exact ⟨_, hk, rfl⟩
      · cases hkk
    · cases h
  · cases h
theorem checkKey_run {t : TypeId} {kk : KK} {d : TypeDesc} (ht : P.underlying t = some d) (hd : kkDesc kk d) {k : AVal} {V : Value} (hk : keyOk kk k = true) (hV : Rep w fx k V) (b : Bool) (w' : World) :
    (Instr.checkKey b 10000 t V).run P w' = .ok () w' := by
  have key : ∀ n, (Instr.checkKey b (n + 1) t V).run P w' = .ok () w' := fun n => by
    cases kk with
    | int kd =>
      have hd' : d = .int kd := hd
      subst hd'
      cases k <;> simp [keyOk] at hk
      obtain rfl := hV
      simp only [Instr.checkKey, Sem.run_bind, run_underlying ht, Result.andThen_ok, Sem.run_pure]
    | str =>
      have hd' : d = .string := hd
      subst hd'
      cases k <;> simp [keyOk] at hk
      obtain rfl := hV
      simp only [Instr.checkKey, Sem.run_bind, run_underlying ht, Result.andThen_ok, Sem.run_pure]
  exact key 9999
theorem findKey_run {t : TypeId} {d : TypeDesc} (ht : P.underlying t = some d) {V : Value} {qs : List MapEntry} {x : Option (Nat × Value)} (h : Instr.findNow d V qs 0 = some x) (w' : World) :
    (Instr.findKey t V qs).run P w' = .ok x w' := by
  simp only [Instr.findKey, Sem.run_bind, run_underlying ht, Result.andThen_ok, h, Sem.run_pure]

theorem outC_some {ti : TI} {v : AVal} {kk : AVal → Option R} (h : outC ti v kk = some r) : ∃ v', kk v' = some r ∧ noRow v' = true ∧ ∀ (w : World) (fx : Nat → Nat) (V : Value), Rep w fx v V → Rep w fx v' V := by
  unfold outC at h
  split at h
  · split at h
    · rename_i cs
      cases hb : Nat.beq cs.length ti.zero.length with
      | false => rw [hb] at h; cases h
      | true =>
        rw [hb] at h
        simp only [cond_true] at h
        have hl := Nat.eq_of_beq_eq_true hb
        obtain ⟨vs, h1, h2⟩ := etaCs_some h (by omega)
        rw [List.drop_zero, ← hl] at h1
        have hvs : vs = cs := by
          obtain ⟨r', e, hle⟩ := takeN_eq h1
          have : r' = [] := by
            have := congrArg List.length e
            simp at this
            apply List.length_eq_zero_iff.1; omega
          subst this
          simpa using e.symm
        subst hvs
        split at h2
        · refine ⟨_, h2, rfl, fun w fx V hV => ?_⟩
          obtain ⟨Vs, e, hr⟩ := hV
          exact ⟨Vs, e, hr.disowns⟩
        · cases h2
    · cases h
  · split at h
    · have h1 := etaC_some h
      split at h1
      · exact ⟨_, h1, noRow_disown v, fun w fx V hV => hV.disown⟩
      · cases h1
    · cases h

theorem zeroV_rep (hF : Fits E P) {t : TypeId} {ti : TI} (ht : E.T t = some ti) (w : World) (fx : Nat → Nat) : ∃ z, (∀ w' : World, (zeroValue t).run P w' = .ok z w') ∧ Rep w fx (zeroV ti) z := by
  obtain ⟨i, z, hi, _, _, hz, hs, hc, hagg, hone⟩ := (hF t _ ht).info
  refine ⟨z, fun w' => by simp [zeroValue, typeInfo, hi, hz], ?_⟩
  unfold zeroV
  cases ha : ti.isAgg with
  | true =>
    obtain ⟨cs, rfl⟩ := hagg ha
    exact ⟨cs.toList, by simp, ofConsts_rep hc⟩
  | false =>
    have h1 := hone ha
    have hcells : z.cells.toList = [z] := by cases z <;> first | rfl | cases h1
    rw [hcells] at hc
    simp only [ofConsts] at hc
    split at hc
    · rename_i a l h2 h3
      injection hc with hc
      have h3' : l = [] := by injection h3 with h3; exact h3.symm
      subst h3'
      rw [← hc]
      exact (ofConst1_rep h2).1
    · cases hc

theorem sound_lookup (hF : Fits E P) (hg : Good E B c w fx rho lam fr m a) (hG : GlobOk E w fx) {t : TypeId} {x ix : Operand} {ok : Bool} (ho : o.op = .lookup t x ix ok)
    {j : Nat} {k : AVal} (hx : ev E fr x = some (.mapp j)) (hix : ev E fr ix = some k) {ti : TI} (hti : E.T t = some ti) {kt e : TypeId} (hkind : ti.kind = .map kt e) {kk : KK} {es : List (AVal × AVal)} {ei : TI}
    (hj : oget m j = some (.map kk es)) (he : E.T e = some ei) (hk : keyOk kk k = true) (hkt : keyT E kt kk = true)
    (hK : (bif mhas k es then outC ei (mget k es) fun v => K (Abs.put fr o.dst (lookK ok true v)) m else K (Abs.put fr o.dst (lookK ok false (zeroV ei))) m) = some r) : CalmStep E B c P w fx rho lam a o r K := by
  obtain ⟨b, hb, hX⟩ := (ev_sound hg hG hx).rep
  have ht : P.underlying t = some (.map kt e) := by have := (hF t _ hti).kind; rw [hkind] at this; exact this
  obtain ⟨d, hd, hdk⟩ := keyT_desc hF hkt
  have hkr : Rep w fx k (a.eval ix) := by
    have := (ev_sound hg hG hix).rep
    cases kk with
    | int kd => cases k <;> simp [keyOk] at hk; exact this
    | str => cases k <;> simp [keyOk] at hk; exact this
  rw [oget_eq] at hj
  obtain ⟨arr, clock, h1, h2⟩ := hg.mem.2 _ _ _ hj hb
  rcases find_ok hdk hk hkr 0 h2 with ⟨a1, a2, a3⟩ | ⟨a1, i, q, a2, a3, a4, a5, a6⟩
  · rw [a1] at hK
    simp only [cond_false] at hK
    obtain ⟨z, hz1, hz2⟩ := zeroV_rep hF he w fx
    have hrun : ∀ w' : World, w'.heap = w.heap → (execOp a.eval o).run P w' = .ok (.value (if ok then .tuple #[z, .bool false] else z)) w' := fun w' hw' => by
      have hh : w'.heap[b]? = some (.map arr clock) := by rw [hw']; exact h1
      simp only [execOp, ho, Instr.lookup, hX, Sem.run_bind, run_underlying ht, Result.andThen_ok, MapKept.run_getObj_map hh, Sem.run_pure, checkKey_run hd hdk hk hkr, findKey_run hd a2, hz1]
    cases ok with
    | false => exact fin hg (V := z) hz2.toT hz2.noRow hrun hK
    | true => exact fin hg (v := .tup [zeroV ei, .bool false]) (V := .tuple #[z, .bool false]) ⟨[z, .bool false], rfl, z, [.bool false], rfl, (by rw [disown_noRow hz2.noRow]; exact hz2.toO), .bool false, [], rfl, rfl, rfl⟩ rfl hrun hK
  · rw [a1] at hK
    simp only [cond_true] at hK
    obtain ⟨v', hK, hnr, hrep⟩ := outC_some hK
    have hv := hrep w fx _ a5
    rw [Nat.zero_add] at a2
    have hrun : ∀ w' : World, w'.heap = w.heap → (execOp a.eval o).run P w' = .ok (.value (if ok then .tuple #[q.val, .bool true] else q.val)) w' := fun w' hw' => by
      have hh : w'.heap[b]? = some (.map arr clock) := by rw [hw']; exact h1
      simp only [execOp, ho, Instr.lookup, hX, Sem.run_bind, run_underlying ht, Result.andThen_ok, MapKept.run_getObj_map hh, Sem.run_pure, checkKey_run hd hdk hk hkr, findKey_run hd a2]
    cases ok with
    | false => exact fin hg (V := q.val) hv.toT hnr hrun hK
    | true => exact fin hg (v := .tup [v', .bool true]) (V := .tuple #[q.val, .bool true]) ⟨[q.val, .bool true], rfl, q.val, [.bool true], rfl, (by rw [disown_noRow hnr]; exact hv.toO), .bool true, [], rfl, rfl, rfl⟩ rfl hrun hK

theorem sound_makeMap (hB : B ≤ c.w0.heap.size) (hF : Fits E P) (hg : Good E B c w fx rho lam fr m a) (hG : GlobOk E w fx) (hn : NextOk E B c r K next) {t : TypeId} (ho : o.op = .makeMap t none)
    {ti : TI} (hti : E.T t = some ti) {kt e : TypeId} (hkind : ti.kind = .map kt e) (kk : KK) (hK : K (Abs.put fr o.dst (.mapp m.length)) (m ++ [.map kk []]) = some r) : o.wp P a w next Q := by
  have hlow : B ≤ w.heap.size := Nat.le_trans hB hg.keep.size
  have hrun : (execOp a.eval o).run P w = .ok (.value (.map (some w.heap.size))) (w.alloc (.map #[] 0)) := by
    simp [execOp, ho, Instr.makeMap]
  have hxx : Ext w fx (w.alloc (.map #[] 0)) fx := by
    have := (hg.alloc (.map #[] 0) 0).2
    have hfx : fxSet fx w.heap.size 0 = fx := by
      funext b; unfold fxSet; split
      · rename_i e; rw [e, hg.fxb _ (Nat.le_refl _)]
      · rfl
    rwa [hfx] at this
  have hgd := hg.newPtr (.map #[] 0) (.map kk []) (fun w' fx' rho' hx' hp hh hsame => ⟨_, _, hh, trivial⟩) (fun b hb => by simp [ownObj] at hb) hlow
  refine wp_value hrun (hn _ _ _ _ _ _ _ hK (hgd.put o.dst (v := .mapp m.length) (V := .map (some w.heap.size)) ?_ rfl) (hG.ext hxx))
  exact ⟨w.heap.size, by rw [← hg.mem.1]; simp, rfl⟩

theorem sound_mapUpdate (hF : Fits E P) (hg : Good E B c w fx rho lam fr m a) (hG : GlobOk E w fx) (hn : NextOk E B c r K next) {t : TypeId} {x k v : Operand} (ho : o.op = .mapUpdate t x k v ∨ o.op = .insert t x k v)
    {j : Nat} {kv vv : AVal} (hx : ev E fr x = some (.mapp j)) (hk : ev E fr k = some kv) (hv : ev E fr v = some vv) {ti : TI} (hti : E.T t = some ti) {kt e : TypeId} (hkind : ti.kind = .map kt e) {kk : KK} {es : List (AVal × AVal)}
    (hj : oget m j = some (.map kk es)) (hkk : keyOk kk kv = true) (hkt : keyT E kt kk = true) (hd : isData vv = true)
    (hK : K (Abs.put fr o.dst (.tup [])) (oset m j (.map kk (mput kv (plainAgg (plainCell vv)) es))) = some r) : o.wp P a w next Q := by
  obtain ⟨b, hb, hX⟩ := (ev_sound hg hG hx).rep
  have ht : P.underlying t = some (.map kt e) := by have := (hF t _ hti).kind; rw [hkind] at this; exact this
  obtain ⟨d, hdd, hdk⟩ := keyT_desc hF hkt
  have hkr : Rep w fx kv (a.eval k) := by
    have := (ev_sound hg hG hk).rep
    cases kk with
    | int kd => cases kv <;> simp [keyOk] at hkk; exact this
    | str => cases kv <;> simp [keyOk] at hkk; exact this
  have hvr : Rep w fx (plainAgg (plainCell vv)) (a.eval v) := (ev_sound hg hG hv).rep.plain hd
  rw [oget_eq] at hj
  rw [oset_eq] at hK
  obtain ⟨arr, clock, h1, h2⟩ := hg.mem.2 _ _ _ hj hb
  have hfinish : ∀ (arr' : Array MapEntry) (clock' : Nat), EntsRep w fx kk (mput kv (plainAgg (plainCell vv)) es) arr'.toList →
      (Instr.mapUpdate t (.map (some b)) (a.eval k) (a.eval v)).run P w = .ok () { w with heap := w.heap.setIfInBounds b (.map arr' clock') } → o.wp P a w next Q := fun arr' clock' he hr => by
    have hblt : b < w.heap.size := by
      rcases Nat.lt_or_ge b w.heap.size with h | h
      · exact h
      · rw [Array.getElem?_eq_none h] at h1; cases h1
    obtain ⟨hgood, hxx, _⟩ := hg.setMem (w' := { w with heap := w.heap.setIfInBounds b (.map arr' clock') }) (ao' := .map kk (mput kv (plainAgg (plainCell vv)) es)) hj hb (by simp) (fun b' hb' => by
        simp only [Array.getElem?_setIfInBounds_ne (Ne.symm hb')]) rfl rfl rfl (fun hx => ⟨arr', clock', by simp [hblt], he.ext hx⟩) (fun _ => 0) (fun b' => by simp [ownObj]) (fun b' hb' => absurd hb' (Nat.lt_irrefl 0))
    refine wp_skip (V := undef) rfl (w' := { w with heap := w.heap.setIfInBounds b (.map arr' clock') }) ?_ (hn _ _ _ _ _ _ _ hK (hgood.put o.dst (v := .tup []) ⟨[], rfl, rfl⟩ rfl) (hG.ext hxx))
    rcases ho with ho | ho
    · simp only [execOp, ho, hX, Sem.run_bind, hr, Result.andThen_ok, Sem.run_pure]
    · simp only [execOp, ho, hX, Sem.run_bind, hr, Result.andThen_ok, Sem.run_pure]
  rcases find_ok hdk hkk hkr 0 h2 with ⟨a1, a2, a3⟩ | ⟨a1, i, q, a2, a3, a4, a5, a6⟩
  · refine hfinish (arr.push { key := a.eval k, val := a.eval v, born := clock }) (clock + 1) ?_ ?_
    · rw [a3, Array.toList_push]
      exact ents_snoc hkk hkr hvr h2
    · simp only [Instr.mapUpdate, Sem.run_bind, run_underlying ht, Result.andThen_ok, MapKept.run_getObj_map h1, checkKey_run hdd hdk hkk hkr, findKey_run hdd a2, MapKept.run_setObj_map _ h1]
  · rw [Nat.zero_add] at a2
    refine hfinish (arr.modify i fun e => { e with key := a.eval k, val := a.eval v }) clock ?_ ?_
    · rw [Array.toList_modify]
      exact a6 _ _ hvr
    · have hold : arr[i]? = some q := by rw [← Array.getElem?_toList]; exact a3
      have hstay : ∀ w' : World, (Instr.keyThatStays (((arr[i]?).map (·.key)).getD (a.eval k)) (a.eval k)).run P w' = .ok (a.eval k) w' := fun w' => by
        rw [hold]
        simp [Instr.keyThatStays, a4]
      simp only [Instr.mapUpdate, Sem.run_bind, run_underlying ht, Result.andThen_ok, MapKept.run_getObj_map h1, checkKey_run hdd hdk hkk hkr, findKey_run hdd a2, hstay, MapKept.run_setObj_map _ h1]
end
end Go.Abs
