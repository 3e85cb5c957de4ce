/- From what the interpreter says of a law to what the row asks of the call. -/
import Derived.Test.YtlklpdifcpjlpaaDoorAbsTree
import Derived.ChangeSame
import Derived.Carry
import Derived.RowKit
import Derived.OpenShut
namespace Go.Abs
open Go.ChangeShapes Go.WideShapes Go.RowKit
set_option linter.unusedSectionVars false

/-- nothing that was there when the call began is written -/
def fxAll (W : World) : Nat → Nat := fun b =>
  match W.heap[b]? with
  | some (.cells c _ _) => c.size
  | _ => 0

theorem cellsAt_all {W : World} {b off : Nat} {Vs : List Value} (h : ∀ (j : Nat) (V : Value), Vs[j]? = some V → W.cell? ⟨b, off + j, none⟩ = some V) : CellsAt W (fxAll W) b off Vs := fun j V hj => by
  have hc := h j V hj
  refine ⟨hc, ?_⟩
  unfold World.cell? at hc
  unfold fxAll
  cases hb : W.heap[b]? with
  | none => simp [hb] at hc
  | some o =>
    cases o with
    | cells c e fz =>
      simp [hb] at hc
      simp only
      rcases Nat.lt_or_ge (off + j) c.size with h | h
      · exact h
      · simp [Array.getElem?_eq_none h] at hc
    | _ => simp [hb] at hc

theorem ownSum_noRow : ∀ (l : List AVal) (Vs : List Value) (b : Nat), (∀ v ∈ l, noRow v = true) → ownSum l Vs b = 0
  | [], _, _, _ => rfl
  | _ :: _, [], _, _ => rfl
  | v :: r, V :: Vr, b, h => by
    simp only [ownSum, noRow_own (h v (List.mem_cons_self ..)), ownSum_noRow r Vr b fun v' h' => h v' (List.mem_cons_of_mem _ h')]

theorem law_pre {E : Env} {W : World} {args : List AVal} {vals : List Value} (hl : vals.length = args.length)
    (hr : ∀ (i : Nat) (v : AVal) (V : Value), args[i]? = some v → vals[i]? = some V → RepT W (fxAll W) [] [] v V) (hn : ∀ v ∈ args, noRow v = true)
    (hG : GlobOk E W (fxAll W)) : CallPre E W.heap.size W (fxAll W) [] args vals [] := by
  have hp : ∀ b, preTot W [] [] args vals b = 0 := fun b => by
    unfold preTot
    rw [ownSum_noRow _ _ _ hn]
    simp [ownObjs]
  exact {
    len := hl
    rep := fun i v V hi hV => ⟨hr i v V hi hV, noRow_ok (hn v (List.mem_of_getElem? hi)) V⟩
    mem := ⟨rfl, fun i o g ho => by simp at ho⟩
    fx0 := fun b hb => by simp at hb
    fxb := fun b hb => by unfold fxAll; rw [Array.getElem?_eq_none hb]
    tot := fun b => by rw [hp]; omega
    low := fun b hb => by rw [hp] at hb; omega
    glob := hG
    base := Nat.le_refl _ }

/-- what a law's call does, as the rows ask -/
theorem law_calls {E : Env} {P : Program} {W : World} {f : FuncId} {args : List AVal} {vals : List Value} {m' : Mem} {b : Bool} (h : CallOk E P W.heap.size f args [] (.ret (.bool b)) m')
    (hl : vals.length = args.length) (hr : ∀ (i : Nat) (v : AVal) (V : Value), args[i]? = some v → vals[i]? = some V → RepT W (fxAll W) [] [] v V) (hn : ∀ v ∈ args, noRow v = true)
    (hG : GlobOk E W (fxAll W)) : Calls P f vals.toArray W fun e W' => e = .returned (.bool b) ∧ Below W.heap.size W W' := by
  have hp : ∀ b, preTot W [] [] args vals b = 0 := fun b => by
    unfold preTot
    rw [ownSum_noRow _ _ _ hn]
    simp [ownObjs]
  refine (h W (fxAll W) [] vals (law_pre hl hr hn hG)).mono fun e W' ⟨V, fx', rho', he, hpost⟩ => ?_
  have hV : V = .bool b := hpost.rep.1
  subst hV
  exact ⟨he, hpost.keep.os, hpost.keep.tape, hpost.keep.output, hpost.keep.size, fun k hk => (hpost.keep.block k hk (by show ¬ (0 < preTot W [] [] args vals k); rw [hp]; omega)).1⟩

theorem trodAll_stays {H : Type} {enc : TypeId × Value → H} {P : Program} (hl : laidOutB P = true) {W W' : World} (hb : Below W.heap.size W W') {sp : Nat → Bool} :
    ∀ {ts : List TypeId} {vs : List Value} {ds : List (DataW H)} {ps : List MemPlace}, (ts.all fun t => P.readableRec t && decide (t < P.types.size)) = true → DataW.TrodAll enc P W 0 (fun _ => true) true ts vs ds ps →
      (∀ p ∈ ps, p.block < W.heap.size) → (∀ p ∈ ps, sp p.block = true) → DataW.TrodAll enc P W' 0 sp true ts vs ds ps
  | [], [], [], _, _, h, _, _ => h
  | t :: ts, v :: vs, d :: ds, _, hr, h, hlt, hs => by
    obtain ⟨p, q, h1, h2, rfl⟩ := h
    simp only [List.all_cons, Bool.and_eq_true, decide_eq_true_eq] at hr
    refine ⟨p, q, WideElems.Trod_stays hl hr.1.1 hr.1.2 h1 (fun x hx => hb.same (hlt x (by simp [hx]))) (fun x hx => hs x (by simp [hx])), ?_, rfl⟩
    exact trodAll_stays hl hb (by simpa using hr.2) h2 (fun x hx => hlt x (by simp [hx])) (fun x hx => hs x (by simp [hx]))
  | [], _ :: _, _, _, _, h, _, _ => h.elim
  | [], [], _ :: _, _, _, h, _, _ => h.elim
  | _ :: _, [], _, _, _, h, _, _ => h.elim
  | _ :: _, _ :: _, [], _, _, h, _, _ => h.elim

/-- A law's promise: true, and each argument reads as it read. -/
theorem law_post {H : Type} {enc : TypeId × Value → H} {P : Program} {f : Func} {s : ChangeSpec} {apart fresh handsOn again : Bool} {W W' : World} {args : Array Value} {ds gs : List (DataW H)} {before : List MemPlace} {tb : TypeId}
    (hl : laidOutB P = true) (hr : (f.params.toList.all fun t => P.readableRec t && decide (t < P.types.size)) = true) (hrt : f.resultTypes = #[tb]) (htb : P.underlying tb = some .bool)
    (hv : s.vars = []) (hW : DataW.Whole enc P f.params.toList s.vars apart W args.toList ds gs before) (hfn : s.fn H ds = { results := [.lit (.bool true)], args := ds })
    (hb : Below W.heap.size W W') : s.post enc P f apart fresh handsOn again W args (.bool true) W' := by
  have hlt : ∀ p ∈ before, p.block < W.heap.size := fun p hp => by simpa using hW.lt p hp
  have hW' := hW
  obtain ⟨p, q, hA, hV, hpq, hz, hnd⟩ := hW
  have hgs : gs = [] ∧ q = [] := by
    rw [hv] at hV
    cases gs with
    | nil => exact ⟨rfl, hV⟩
    | cons _ _ => exact hV.elim
  obtain ⟨rfl, rfl⟩ := hgs
  have hpb : before = p := by rw [hpq, List.append_nil]
  have hfn' : s.fn H (ds ++ []) = { results := [.lit (.bool true)], args := ds } := by rw [List.append_nil]; exact hfn
  have hargs : ∀ sp : Nat → Bool, (∀ p ∈ before, sp p.block = true) → DataW.TrodAll enc P W' 0 sp true f.params.toList args.toList (s.fn H (ds ++ [])).args p := fun sp hsp => by
    rw [hfn']
    exact trodAll_stays hl hb hr hA (fun x hx => hlt x (by rw [hpb]; exact hx)) (fun x hx => hsp x (by rw [hpb]; exact hx))
  have hres : ∀ (b : Nat) (sp : Nat → Bool) (hd : Bool), DataW.TrodAll enc P W' b sp hd f.resultTypes.toList ((Value.bool true).resultList f.resultTypes.size) (s.fn H (ds ++ [])).results [] := fun b sp hd => by
    rw [hfn', hrt]
    exact trodAll_cons_mk (shut_bool htb _) trodAll_mk0
  have hvars : ∀ sp : Nat → Bool, DataW.TrodVars enc P W' sp s.vars (s.fn H (ds ++ [])).vars [] := fun sp => by
    rw [hfn', hv]; rfl
  have hold : ∀ p ∈ before, (fun b => decide (b < W.heap.size)) p.block = true := fun p hp => by simpa using hlt p hp
  refine ⟨ds, [], before, [], p, [], hW', hres _ _ _, hargs _ hold, hvars _, World.keptBut_mono (fun x hx => ⟨hx, .inr (.inl (by rw [← hpb]; exact hx))⟩) (hb.frame (· ∈ before)), fun _ => ?_⟩
  refine ⟨ok_one hrt rfl (okWide_bool_mk htb _), _, _, ([] ++ p) ++ [], ⟨[] ++ p, [], trodAll_append (hargs _ (fun _ _ => rfl)) (hres _ _ _), hvars _, rfl, ?_, ?_⟩, ?_⟩
  · intro b off hp
    have hp' : MemPlace.cell b off ∈ before := by rw [hpb]; simpa using hp
    rw [hb.frozen (p := ⟨b, off, none⟩) (hlt _ hp')]
    exact hz b off hp'
  · intro ha
    have := hnd ha
    rw [hpb] at this
    simpa using this
  · intro x hx _
    rw [hpb]
    simpa using hx

end Go.Abs
