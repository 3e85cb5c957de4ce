/- strings.Builder: the copy check as a summary, out of its two walks. -/
import Derived.Test.YtlklpdifcpjlpaaDoorAbsAt
namespace Go.Abs
open Go.RowKit
set_option linter.unusedSectionVars false
set_option linter.unusedVariables false
def selfP : AVal → Bool
  | .nilptr => true
  | .ptr o off => Nat.beq o 0 && Nat.beq off 0
  | _ => false
/-- copyCheck -/
def copyG : List AVal → Mem → CT (Out × Mem) := fun args m =>
  match args with
  | [.ptr o off] => (match m with
    | [.cells l] => (match l with
      | [p, s] => .ite ((Nat.beq o 0 && Nat.beq off 0) && (isBldR [p, s] && selfP p)) (.done (.ret (.tup []), [.cells [.ptr 0 0, s]])) .fail
      | _ => .fail)
    | _ => .fail)
  | _ => .fail
theorem isBld_two {p s : AVal} (h : isBldR [p, s] = true) : ∃ e es, s = .slice (.row e) es := by
  cases p <;> cases s <;> first | cases h | (rename_i own es; cases own <;> first | exact ⟨_, _, rfl⟩ | cases h)
section
variable {P : Program} {E : Env} {B : Nat} {w w' : World} {fx fx' : Nat → Nat} {rho : List Nat}
theorem nat_copyCheck {f : FuncId} {T : TypeId} (hE : E.bld = some T)
    (hused : ∀ (b : Nat) (w : World), w.cell? ⟨b, 0, none⟩ = some (.pointer (some ⟨b, 0, none⟩)) → Calls P f #[.pointer (some ⟨b, 0, none⟩)] w fun e w' => e = .returned (.tuple #[]) ∧ w' = w)
    (hfresh : ∀ (b : Nat) (w : World), w.cell? ⟨b, 0, none⟩ = some (.pointer none) → w.shape? b = some (T, 2) → w.frozen? ⟨b, 0, none⟩ = false →
      Calls P f #[.pointer (some ⟨b, 0, none⟩)] w fun e w' => e = .returned (.tuple #[]) ∧ w' = w.setCell ⟨b, 0, none⟩ (.pointer (some ⟨b, 0, none⟩))) : NatOk E P B f copyG := by
  intro args m out m' h
  unfold copyG at h
  split at h
  · rename_i o off
    split at h
    · rename_i l
      split at h
      · rename_i p s
        simp only [CT.eval] at h
        cases hc : ((Nat.beq o 0 && Nat.beq off 0) && (isBldR [p, s] && selfP p)) with
        | false => rw [hc] at h; cases h
        | true =>
          rw [hc, cond_true] at h
          injection h with h
          injection h with h1 h2
          subst h1; subst h2
          simp only [Bool.and_eq_true] at hc
          obtain ⟨⟨ho, hoff⟩, hb, hp⟩ := hc
          obtain rfl := Nat.eq_of_beq_eq_true ho
          obtain rfl := Nat.eq_of_beq_eq_true hoff
          intro w fx rho vals hpre
          obtain ⟨e, es, rfl⟩ := isBld_two hb
          obtain ⟨g, rfl⟩ : ∃ g, rho = [g] := by
            have := hpre.mem.1
            match rho, this with
            | [g], _ => exact ⟨g, rfl⟩
            | [], h => cases h
            | _ :: _ :: _, h => simp at h
          obtain ⟨V, rfl⟩ : ∃ V, vals = [V] := by
            have := hpre.len
            match vals, this with
            | [V], _ => exact ⟨V, rfl⟩
            | [], h => cases h
            | _ :: _ :: _, h => simp at h
          obtain ⟨b, hb1, rfl⟩ := (hpre.rep 0 (.ptr 0 0) V rfl rfl).1
          obtain rfl : g = b := by simpa using hb1
          obtain ⟨arr, et, hh, hrl, hoks, het⟩ := hpre.mem.2 0 _ g rfl rfl
          obtain rfl := het T hE (isBldR_bld hb)
          obtain ⟨P0, Pr, harr, hP, S0, Sr, rfl, hS, hnil⟩ := hrl
          obtain rfl : Sr = [] := hnil
          have harr' : arr = #[P0, S0] := by rw [← Array.toArray_toList (xs := arr), harr]
          subst harr'
          have hcell : w.cell? ⟨g, 0, none⟩ = some P0 := by simp [World.cell?, hh]
          have key : Calls P f #[.pointer (some ⟨g, 0, none⟩)] w fun e w' => e = .returned (.tuple #[]) ∧ w'.heap.size = w.heap.size ∧ w'.os = w.os ∧ w'.tape = w.tape ∧ w'.output = w.output ∧
              (∀ b, b ≠ g → w'.heap[b]? = w.heap[b]?) ∧ w'.heap[g]? = some (.cells #[.pointer (some ⟨g, 0, none⟩), S0] et (0, 0)) := by
            cases p with
            | nilptr =>
              obtain rfl : P0 = .pointer none := hP
              refine (hfresh g w hcell (by simp [World.shape?, hh]) (by simp [World.frozen?, hh])).mono fun e w' hw => ?_
              obtain ⟨rfl, rfl⟩ := hw
              refine ⟨rfl, by simp [World.setCell], rfl, rfl, rfl, fun b hbg => setCell_other hbg, ?_⟩
              have := setCell_heap (w := w) (g := g) (p := []) (r := [S0]) (u := .pointer none) (v := .pointer (some ⟨g, 0, none⟩)) (et := et) (fz := (0, 0)) (by simpa using hh)
              simpa using this
            | ptr o off =>
              simp only [selfP, Bool.and_eq_true] at hp
              obtain rfl := Nat.eq_of_beq_eq_true hp.1
              obtain rfl := Nat.eq_of_beq_eq_true hp.2
              obtain ⟨b, hb1, rfl⟩ := hP
              obtain rfl : g = b := by simpa using hb1
              refine (hused g w hcell).mono fun e w' hw => ?_
              obtain ⟨rfl, rfl⟩ := hw
              exact ⟨rfl, rfl, rfl, rfl, rfl, fun _ _ => rfl, hh⟩
            | _ => cases hp
          refine key.mono fun e1 w' hw => ?_
          obtain ⟨rfl, hsz, hos, htp, hou, hsame, hg'⟩ := hw
          have hfg : fx g = 0 := hpre.fx0 g (by simp)
          have hx : Ext w fx w' fx := ext_one hfg hsame
          have hlow := hpre.low g (by unfold preTot; simp; omega)
          have hown : ∀ b, ownObjs w' [.cells [.ptr 0 0, .slice (.row e) es]] [g] b = ownObjs w [.cells [p, .slice (.row e) es]] [g] b := fun b => by
            have hp0 : ownB p P0 b = 0 := by cases p <;> first | rfl | cases hp
            simp only [ownObjs, ownObj, blockVals, hg', hh, ownSum, hp0]
            rfl
          have hSown : S0.ownBlock ≠ some g := fun hS0 => by
            have h1 := hpre.tot g
            have h2 : ownB (.slice (.row e) es) S0 g = 1 := ownB_of_block hS0
            unfold preTot at h1
            simp only [ownObjs, ownObj, blockVals, hh, ownSum, h2] at h1
            simp at h1; omega
          refine ⟨.tuple #[], fx, [g], rfl, {
            rep := ⟨⟨[], rfl, rfl⟩, trivial⟩
            mem := ⟨rfl, fun i x y hi hy => by
              cases i with
              | zero =>
                simp at hi hy; subst hi; subst hy
                obtain ⟨s1, s2, s3⟩ := hoks 1 _ S0 rfl rfl
                refine ⟨_, _, hg', ⟨_, _, rfl, ⟨g, rfl, rfl⟩, _, _, rfl, RepO.ext hx (List.prefix_refl _) hS, rfl⟩, fun i v V hi hV => ?_, fun T' hT' _ => by rw [hE] at hT'; exact (Option.some.inj hT')⟩
                match i, hi, hV with
                | 0, hi, hV => simp at hi hV; subst hi; subst hV; exact ⟨trivial, rfl, rfl⟩
                | 1, hi, hV =>
                  simp at hi hV; subst hi; subst hV
                  exact ⟨s1.ext hx fun b hb => ⟨hsame b (by rintro rfl; exact hSown (ownB_block hb)), rfl⟩, s2, rfl⟩
                | i + 2, hi, hV => simp at hi
              | succ i => simp at hi⟩
            fx0 := hpre.fx0
            fxb := fun b hb => hpre.fxb b (by omega)
            tot := fun b => by
              have h1 := hpre.tot b
              unfold preTot at h1
              rw [hown b]
              simp only [outOwn] at h1 ⊢
              show [g].count b + 0 + _ ≤ 1
              omega
            low := fun b hb => by
              rw [hown b] at hb
              have h1 : 0 < preTot w [g] [.cells [p, .slice (.row e) es]] [.ptr 0 0] [.pointer (some ⟨g, 0, none⟩)] b := by
                unfold preTot
                have hb : 0 < [g].count b + 0 + ownObjs w [.cells [p, .slice (.row e) es]] [g] b := hb
                omega
              obtain ⟨x, y⟩ := hpre.low b h1
              exact ⟨x, by omega, fun _ => h1⟩
            keep := {
              size := by show w.heap.size ≤ _; omega
              os := hos
              tape := htp
              output := hou
              ext := hx
              block := fun b hb hS => ⟨hsame b (by rintro rfl; exact hS (by show 0 < preTot _ _ _ _ _ _; unfold preTot; simp; omega)), rfl⟩ }
            pre := List.prefix_refl _ }⟩
      · cases h
    · cases h
  · cases h
def okBytes (es : List (List AVal)) : Bool := es.all fun
  | [.int .u8 n] => decide (0 ≤ n) && decide (n < 256)
  | _ => false
/-- (*strings.Builder).String of a builder that holds a byte -/
def stringG (e5 : TypeId) : List AVal → Mem → CT (Out × Mem) := fun args m =>
  match args with
  | [.ptr o off] => (match m with
    | [.cells l] => (match l with
      | [p, s] => (match s with
        | .slice own es => (match own with
          | .row e => .ite ((Nat.beq o 0 && Nat.beq off 0) && ((isBldR [p, .slice (.row e) es] && selfP p) && (Nat.beq e e5 && (okBytes es && isCons es)))) (.done (.ret (.str (bytesL es)), [.cells [p, .slice .no es]])) .fail
          | _ => .fail)
        | _ => .fail)
      | _ => .fail)
    | _ => .fail)
  | _ => .fail
theorem okBytes_of : ∀ {es : List (List AVal)}, okBytes es = true → es = (bytesL es).map fun b => [AVal.int .u8 (b.toNat : Int)]
  | [], _ => rfl
  | x :: r, h => by
    simp only [okBytes, List.all_cons, Bool.and_eq_true] at h
    have ih := okBytes_of (es := r) h.2
    have h1 := h.1
    split at h1
    · rename_i n
      simp only [Bool.and_eq_true, decide_eq_true_eq] at h1
      have hb : ∃ l, bytesOf r = some l := by
        rw [ih]
        generalize bytesL r = l
        induction l with
        | nil => exact ⟨_, rfl⟩
        | cons a l ihl => obtain ⟨q, hq⟩ := ihl; exact ⟨_, by simp [bytesOf, hq]; rfl⟩
      obtain ⟨l, hl⟩ := hb
      have e1 : bytesL r = l := by rw [bytesL, hl]
      have e2 : bytesL ([.int .u8 n] :: r) = UInt8.ofNat n.toNat :: l := by rw [bytesL]; simp [bytesOf, hl]
      rw [e2, List.map_cons, ← e1, ← ih]
      congr 2
      have : (UInt8.ofNat n.toNat).toNat = n.toNat := by simp; omega
      rw [this]; congr 1; omega
    · cases h1
theorem freeze_other {w : World} {g n b : Nat} (h : b ≠ g) : (w.drew.freeze ⟨g, 0, none⟩ n).heap[b]? = w.heap[b]? := by
  unfold World.freeze
  split
  · rfl
  · show (w.heap.modify g _)[b]? = _
    rw [Array.getElem?_modify, if_neg (Ne.symm h)]
theorem freeze_cell {w : World} {g n b i : Nat} : (w.drew.freeze ⟨g, 0, none⟩ n).cell? ⟨b, i, none⟩ = w.cell? ⟨b, i, none⟩ := by
  by_cases h : b = g
  · subst h
    unfold World.freeze
    split
    · rfl
    · simp only [World.cell?]
      show (match (w.heap.modify b _)[b]? with | some (.cells c _ _) => _ | _ => _) = _
      rw [Array.getElem?_modify, if_pos rfl]
      cases hb : w.heap[b]? with
      | none => rfl
      | some o => cases o <;> rfl
  · simp only [World.cell?, freeze_other h]
theorem freeze_rest {w : World} {g n : Nat} : (w.drew.freeze ⟨g, 0, none⟩ n).heap.size = w.heap.size ∧ (w.drew.freeze ⟨g, 0, none⟩ n).os = w.os ∧ (w.drew.freeze ⟨g, 0, none⟩ n).tape = w.tape ∧ (w.drew.freeze ⟨g, 0, none⟩ n).output = w.output := by
  unfold World.freeze
  split
  · exact ⟨rfl, rfl, rfl, rfl⟩
  · refine ⟨?_, rfl, rfl, rfl⟩
    show (w.heap.modify g _).size = _
    simp
theorem repLL_bytes {w : World} {fx : Nat → Nat} : ∀ {l : List UInt8} {Vs : List Value}, RepLL w fx (l.map fun b => [AVal.int .u8 (b.toNat : Int)]) Vs → Vs = l.map fun b => Value.int .u8 b.toNat
  | [], _, h => h
  | b :: r, _, ⟨V1, V2, hV, ⟨V, Vr, hV1, h1, _, h2⟩, h3⟩ => by
    subst hV; subst hV1
    obtain rfl := h1
    obtain rfl : Vr = [] := h2
    rw [repLL_bytes h3]; rfl
theorem nat_builderString {f : FuncId} {T e5 : TypeId} (hE : E.bld = some T)
    (hrun : ∀ (b g cap : Nat) (cur : Array Value) (p : Value) (l : List UInt8) (w : World), l ≠ [] → w.heap[b]? = some (.cells #[p, .slice (some ⟨g, 0, none⟩) l.length cap] T (0, 0)) →
      w.heap[g]? = some (.cells cur e5 (0, 0)) → l.length ≤ cap → cap ≤ maxLen → cur.size = cap → (∀ j x, l[j]? = some x → w.cell? ⟨g, j, none⟩ = some (.int .u8 x.toNat)) →
      Calls P f #[.pointer (some ⟨b, 0, none⟩)] w fun e w' => e = .returned (.string ⟨l.toArray⟩) ∧ w' = w.drew.freeze ⟨g, 0, none⟩ l.length) : NatOk E P B f (stringG e5) := by
  intro args m out m' h
  unfold stringG at h
  split at h
  · rename_i o off
    split at h
    · rename_i l0
      split at h
      · rename_i p s
        split at h
        · rename_i own es
          split at h
          · rename_i e
            simp only [CT.eval] at h
            cases hc : ((Nat.beq o 0 && Nat.beq off 0) && ((isBldR [p, .slice (.row e) es] && selfP p) && (Nat.beq e e5 && (okBytes es && isCons es)))) with
            | false => rw [hc] at h; cases h
            | true =>
              rw [hc, cond_true] at h
              injection h with h
              injection h with h1 h2
              subst h1; subst h2
              simp only [Bool.and_eq_true] at hc
              obtain ⟨⟨ho, hoff⟩, ⟨hb, hp⟩, he5, hby, hcons⟩ := hc
              obtain rfl := Nat.eq_of_beq_eq_true ho
              obtain rfl := Nat.eq_of_beq_eq_true hoff
              obtain rfl := Nat.eq_of_beq_eq_true he5
              intro w fx rho vals hpre
              obtain ⟨b, rfl⟩ : ∃ g, rho = [g] := by
                have := hpre.mem.1
                match rho, this with
                | [g], _ => exact ⟨g, rfl⟩
                | [], h => cases h
                | _ :: _ :: _, h => simp at h
              obtain ⟨V, rfl⟩ : ∃ V, vals = [V] := by
                have := hpre.len
                match vals, this with
                | [V], _ => exact ⟨V, rfl⟩
                | [], h => cases h
                | _ :: _ :: _, h => simp at h
              obtain ⟨b', hb1, rfl⟩ := (hpre.rep 0 (.ptr 0 0) V rfl rfl).1
              obtain rfl : b = b' := by simpa using hb1
              obtain ⟨arr, et, hh, hrl, hoks, het⟩ := hpre.mem.2 0 _ b rfl rfl
              obtain rfl := het T hE (isBldR_bld hb)
              obtain ⟨P0, Pr, harr, hP, S0, Sr, rfl, hS, hnil⟩ := hrl
              obtain rfl : Sr = [] := hnil
              have harr' : arr = #[P0, S0] := by rw [← Array.toArray_toList (xs := arr), harr]
              subst harr'
              obtain ⟨s1, s2, s3⟩ := hoks 1 _ S0 rfl rfl
              obtain ⟨ei, Vs, hei, hpos, hlen, hVs, hrow, hfx⟩ := s1
              have hes := okBytes_of hby
              generalize hl : bytesL es = l at hes
              have hne : l ≠ [] := fun h0 => by rw [h0] at hes; subst hes; cases hcons
              have hsz1 : ei.size = 1 := by
                cases l with
                | nil => exact absurd rfl hne
                | cons a r => rw [hes] at hlen; exact (hlen _ (List.mem_cons_self ..)).symm
              rw [hes] at hVs
              obtain rfl := repLL_bytes hVs
              have hel : es.length = l.length := by rw [hes, List.length_map]
              have hrow' := hrow
              rw [hsz1, hel] at hrow'
              obtain ⟨g, cap, cur, rfl, hBg, hg, hnc, hcm, hcs, htake⟩ : ∃ g cap cur, S0 = .slice (some ⟨g, 0, none⟩) l.length cap ∧ B ≤ g ∧ w.heap[g]? = some (.cells cur e (0, 0)) ∧ l.length ≤ cap ∧ cap ≤ maxLen ∧ cur.size = cap * 1 ∧ cur.toList.take (l.length * 1) = l.map fun b => Value.int .u8 b.toNat := by
                rcases hrow'.2 with ⟨_, hz⟩ | ⟨g, cap, cur, h⟩
                · exact absurd (List.eq_nil_of_length_eq_zero hz) hne
                · exact ⟨g, cap, cur, h⟩
              refine (hrun b g cap cur P0 l w hne hh hg hnc hcm (by omega) fun j x hx => ?_).mono fun e1 w' hw => ?_
              · have := hrow'.cells (g := g) rfl j (.int .u8 x.toNat) (by rw [List.getElem?_map, hx]; rfl)
                rwa [Addr.add_lit, Nat.zero_add] at this
              · obtain ⟨rfl, rfl⟩ := hw
                obtain ⟨hsz, hos, htp, hou⟩ := freeze_rest (w := w) (g := g) (n := l.length)
                have hx : Ext w fx (w.drew.freeze ⟨g, 0, none⟩ l.length) fx := ⟨fun _ => Nat.le_refl _, fun b off _ => freeze_cell, fun b off _ hn => by rw [freeze_cell]; exact hn⟩
                have hbg : b ≠ g := fun e9 => by
                  have h1 := hpre.tot b
                  have h2 : ownB (.slice (.row e) es) (.slice (some ⟨g, 0, none⟩) l.length cap) g = 1 := ownB_of_block rfl
                  unfold preTot at h1
                  simp only [ownObjs, ownObj, blockVals, hh, ownSum] at h1
                  rw [e9, h2] at h1
                  simp at h1; omega
                have hh' : (w.drew.freeze ⟨g, 0, none⟩ l.length).heap[b]? = some (.cells #[P0, .slice (some ⟨g, 0, none⟩) l.length cap] et (0, 0)) := (freeze_other hbg).trans hh
                have hp0 : ∀ c, ownB p P0 c = 0 := fun c => by cases p <;> first | rfl | cases hp
                have hown : ∀ c, ownObjs (w.drew.freeze ⟨g, 0, none⟩ l.length) [.cells [p, .slice .no es]] [b] c = 0 := fun c => by
                  simp only [ownObjs, ownObj, blockVals, hh', ownSum, hp0]; rfl
                have hcnt : ∀ c, [b].count c ≤ preTot w [b] [.cells [p, .slice (.row e) es]] [.ptr 0 0] [.pointer (some ⟨b, 0, none⟩)] c := fun c => by unfold preTot; omega
                refine ⟨.string ⟨l.toArray⟩, fx, [b], rfl, {
                  rep := ⟨rfl, trivial⟩
                  mem := ⟨rfl, fun i x y hi hy => by
                    cases i with
                    | zero =>
                      simp at hi hy; subst hi; subst hy
                      refine ⟨_, _, hh', ⟨_, _, rfl, RepO.ext hx (List.prefix_refl _) hP, _, _, rfl, RepO.ext hx (List.prefix_refl _) (show RepO w fx [b] (.slice .no es) _ from hS), rfl⟩, fun i v V hi hV => ?_, fun T' hT' hb' => Option.some.inj (hE.symm.trans hT')⟩
                      match i, hi, hV with
                      | 0, hi, hV =>
                        simp at hi hV; subst hi; subst hV
                        obtain ⟨q1, q2, q3⟩ := hoks 0 _ P0 rfl rfl
                        refine ⟨?_, q2, q3⟩
                        cases p <;> first | trivial | cases hp
                      | 1, hi, hV => simp at hi hV; subst hi; subst hV; exact ⟨trivial, s2, rfl⟩
                      | i + 2, hi, hV => simp at hi
                    | succ i => simp at hi⟩
                  fx0 := hpre.fx0
                  fxb := fun c hc => hpre.fxb c (by omega)
                  tot := fun c => by
                    rw [hown c]
                    have := hpre.tot c
                    have := hcnt c
                    show [b].count c + 0 + 0 ≤ 1
                    omega
                  low := fun c hc => by
                    rw [hown c] at hc
                    have hc : 0 < [b].count c + 0 + 0 := hc
                    have := hcnt c
                    have h1 : 0 < preTot w [b] [.cells [p, .slice (.row e) es]] [.ptr 0 0] [.pointer (some ⟨b, 0, none⟩)] c := by omega
                    obtain ⟨x, y⟩ := hpre.low c h1
                    exact ⟨x, by omega, fun _ => h1⟩
                  keep := {
                    size := by show w.heap.size ≤ _; omega
                    os := hos
                    tape := htp
                    output := hou
                    ext := hx
                    block := fun c hc hnS => ⟨freeze_other (by
                      rintro rfl
                      refine hnS ?_
                      show 0 < preTot _ _ _ _ _ _
                      have h2 : ownB (.slice (.row e) es) (.slice (some ⟨c, 0, none⟩) l.length cap) c = 1 := ownB_of_block rfl
                      unfold preTot
                      simp only [ctxOf, ownObjs, ownObj, blockVals, hh, ownSum]
                      rw [h2]; omega), rfl⟩ }
                  pre := List.prefix_refl _ }⟩
          · cases h
        · cases h
      · cases h
    · cases h
  · cases h
end
end Go.Abs
