/- The library's functions as summaries: the lexer's. -/
import Derived.Test.YtefenlmpbgdpnaaDoorEsShelf
import Derived.Test.YtefenlmpbgdpnaaDoorEsLEnv
import Derived.Test.YtefenlmpbgdpnaaDoorEs3
import Derived.Test.YtefenlmpbgdpnaaDoorEs2
import Derived.WalkKit
import Derived.ProofKit
namespace Go.Proofs.YtefenlmpbgdpnaaDoor
open Go.Abs Go.Uni Go.RowKit
set_option maxRecDepth 100000
set_option maxHeartbeats 1000000
theorem repL_ints {w : World} {fx : Nat → Nat} {k : IntKind} : ∀ {l : List Int} {Vs : List Value}, RepL w fx (l.map (AVal.int k)) Vs → Vs = l.map (Value.int k)
  | [], Vs, h => h
  | n :: r, _, ⟨V, Vr, rfl, h1, _, h3⟩ => by
    obtain rfl := h1
    rw [repL_ints h3]; rfl
theorem repL_get {w : World} {fx : Nat → Nat} : ∀ {l : List AVal} {Vs : List Value}, RepL w fx l Vs → ∀ (i : Nat) (v : AVal), l[i]? = some v → ∃ V, Vs[i]? = some V ∧ Rep w fx v V
  | [], _, _, i, v, h => by simp at h
  | a :: r, _, ⟨V, Vr, rfl, h1, _, h3⟩, 0, v, h => by
    simp only [List.getElem?_cons_zero, Option.some.injEq] at h
    subst h
    exact ⟨V, rfl, h1⟩
  | a :: r, _, ⟨V, Vr, rfl, h1, _, h3⟩, i + 1, v, h => by
    simp only [List.getElem?_cons_succ] at h
    obtain ⟨V', h4, h5⟩ := repL_get h3 i v h
    exact ⟨V', by simpa using h4, h5⟩
theorem acc_get : ∀ i, i < 16 → tabAcc[2 * i]? = some (.int .u8 (Lib.accLo i)) ∧ tabAcc[2 * i + 1]? = some (.int .u8 (Lib.accHi i)) := by
  intro i hi
  rcases i with _|_|_|_|_|_|_|_|_|_|_|_|_|_|_|_|i
  all_goals first | exact ⟨rfl, rfl⟩ | omega
theorem first_get {c : Nat} (h : c < 256) : tabFirst[c]? = some (.int .u8 (Lib.firstT c)) := by
  simp [tabFirst, h]
theorem decodeGo_eq (s : List UInt8) : Lib.decodeGo ⟨s.toArray⟩ = decS s := by
  have hsz : (⟨s.toArray⟩ : ByteArray).size = s.length := by simp [ByteArray.size]
  cases s with
  | nil => rfl
  | cons a r =>
    unfold Lib.decodeGo
    rw [if_neg (by rw [hsz]; simp), decode_eq _ 0 (by simp)]
    rfl
def fieldsRow (s : List UInt8) : List (List AVal) := (Lib.fields s).map fun l => [.str l]
def allAscii (s : List UInt8) : Bool := s.all fun b => decide (b.toNat < 128)
def lowerS (s : List UInt8) : List UInt8 := Lib.toLowerD s
def indexS (s t : List UInt8) : Int := Lib.index s t
def byteIn (s : List UInt8) (c : Int) : Int := Lib.indexByte s c.toNat.toUInt8
namespace L
theorem tabSpace_of_glob {w : World} {fx : Nat → Nat} (h : GlobOk env w fx) : Lib.TabIs prog w "strings.asciiSpace" .u8 Lib.asciiSpaceTab := by
  obtain ⟨Vs, h1, h2, h3⟩ := h 0 tabSpace rfl
  obtain rfl := repL_ints h1
  have h3 := h3.1 rfl (by decide)
  have hg : prog.globalNamed "strings.asciiSpace" = some 0 := by kernel_rfl
  have h0 := (h2 0 (.int .u8 0) rfl).1
  unfold Lib.TabIs World.var?
  rw [hg]
  simp only [Option.bind_some]
  simp only [World.cell?] at h0 h3
  cases hb : w.heap[0]? with
  | none => rw [hb] at h0; cases h0
  | some o =>
    cases o with
    | cells c t f =>
      rw [hb] at h3
      simp only [Option.some.injEq]
      refine Array.ext' (List.ext_getElem? fun j => ?_)
      rw [List.length_map] at h3
      have h3 : c[Lib.asciiSpaceTab.length]? = none := by simpa using h3
      rcases Nat.lt_or_ge j Lib.asciiSpaceTab.length with hj | hj
      · have h4 := (h2 j (.int .u8 Lib.asciiSpaceTab[j]) (by simp [hj])).1
        simp only [World.cell?, hb] at h4
        have h4 : c[j]? = some (.int .u8 Lib.asciiSpaceTab[j]) := by simpa using h4
        rw [Array.getElem?_toList, h4]
        simp [hj]
      · rw [List.getElem?_eq_none (by have := Array.getElem?_eq_none_iff.1 h3; simpa using Nat.le_trans this hj), List.getElem?_eq_none (by simpa using hj)]
    | _ => rw [hb] at h0; cases h0
theorem tabs_of_glob {w : World} {fx : Nat → Nat} (h : GlobOk env w fx) : Lib.Utf8Tabs 2 3 w := by
  constructor
  · intro c hc
    obtain ⟨Vs, h1, h2, _⟩ := h 2 tabFirst rfl
    obtain ⟨V, h3, h4⟩ := repL_get h1 c _ (first_get hc)
    have := (h2 c V h3).1
    rw [Nat.zero_add] at this
    rw [this]
    exact congrArg some h4
  · intro i hi
    obtain ⟨Vs, h1, h2, _⟩ := h 3 tabAcc rfl
    obtain ⟨V, h3, h4⟩ := repL_get h1 _ _ (acc_get i hi).1
    obtain ⟨V', h5, h6⟩ := repL_get h1 _ _ (acc_get i hi).2
    have a1 := (h2 _ V h3).1
    have a2 := (h2 _ V' h5).1
    rw [Nat.zero_add] at a1 a2
    rw [a1, a2]
    exact ⟨congrArg some h4, congrArg some h6⟩
theorem max_of_glob {w : World} {fx : Nat → Nat} (h : GlobOk env w fx) : ∃ m, w.cell? ⟨4, 0, none⟩ = some (.int .i64 m) := by
  obtain ⟨Vs, _, _, _, h4⟩ := h 4 [] rfl
  obtain ⟨n, hn, _⟩ := h4 rfl
  exact ⟨n, hn⟩
theorem rows_case {w : World} {fx : Nat → Nat} : ∀ {l : List Lib.CaseRow} {Vs : List Value}, RepLL w fx (l.map caseCells) Vs →
    Vs = l.flatMap fun r => [.int .u32 r.1, .int .u32 r.2.1, .int .i32 r.2.2.1, .int .i32 r.2.2.2.1, .int .i32 r.2.2.2.2]
  | [], _, h => h
  | r :: l, Vs, h => by
    obtain ⟨V1, V2, rfl, ⟨_, _, rfl, rfl, _, _, _, rfl, rfl, _, _, _, rfl, rfl, _, _, _, rfl, rfl, _, _, _, rfl, rfl, _, rfl⟩, h2⟩ := h
    rw [rows_case h2]; rfl
theorem flat5 {α β : Type} (f : α → List β) (h5 : ∀ a, (f a).length = 5) : ∀ (l : List α) (i j : Nat) (a : α), l[i]? = some a → j < 5 → (l.flatMap f)[i * 5 + j]? = (f a)[j]?
  | [], i, j, a, h, _ => by simp at h
  | x :: l, 0, j, a, h, hj => by
    simp only [List.getElem?_cons_zero, Option.some.injEq] at h
    subst h
    rw [List.flatMap_cons, Nat.zero_mul, Nat.zero_add, List.getElem?_append_left (by rw [h5]; exact hj)]
  | x :: l, i + 1, j, a, h, hj => by
    rw [List.flatMap_cons, List.getElem?_append_right (by rw [h5]; omega), h5, show (i + 1) * 5 + j - 5 = i * 5 + j by omega]
    exact flat5 f h5 l i j a (by simpa using h) hj
theorem case_of_glob {w : World} {fx : Nat → Nat} (h : GlobOk env w fx) : Lib.CaseVar 7 Lib.caseA w := by
  obtain ⟨Vs, h1, h2, _⟩ := h 7 tabCase rfl
  obtain ⟨V, Vr, rfl, hr, _, _⟩ := h1
  obtain ⟨A, n, c, Us, rfl, hn, _, hrep, _, _, hne⟩ := hr
  obtain rfl := rows_case hrep
  obtain ⟨b, off, rfl, hc⟩ := hne (by decide)
  refine ⟨b, off, c, ?_, fun i hi => ?_⟩
  · have := (h2 0 _ rfl).1
    rw [Nat.zero_add] at this
    rw [this, hn]
    simp [Lib.caseA]
  · have hi' : i < Lib.caseT.length := by simpa [Lib.caseA] using hi
    have hget : Lib.caseT[i]? = some (Lib.caseA.getD i (0, 0, 0, 0, 0)) := by
      simp [Lib.caseA, Array.getD, hi']
    have hcell : ∀ j, j < 5 → ∀ X, ([.int .u32 (Lib.caseA.getD i (0, 0, 0, 0, 0)).1, .int .u32 (Lib.caseA.getD i (0, 0, 0, 0, 0)).2.1, .int .i32 (Lib.caseA.getD i (0, 0, 0, 0, 0)).2.2.1, .int .i32 (Lib.caseA.getD i (0, 0, 0, 0, 0)).2.2.2.1, .int .i32 (Lib.caseA.getD i (0, 0, 0, 0, 0)).2.2.2.2] : List Value)[j]? = some X → w.cell? ⟨b, off + i * 5 + j, none⟩ = some X := fun j hj X hX => by
      have h5 := flat5 (fun r : Lib.CaseRow => ([.int .u32 r.1, .int .u32 r.2.1, .int .i32 r.2.2.1, .int .i32 r.2.2.2.1, .int .i32 r.2.2.2.2] : List Value)) (fun _ => rfl) Lib.caseT i j _ hget hj
      have := (hc (i * 5 + j) X (h5.trans hX)).1
      rw [← Nat.add_assoc] at this
      exact this
    exact ⟨hcell 0 (by decide) _ rfl, hcell 1 (by decide) _ rfl, hcell 2 (by decide) _ rfl, hcell 3 (by decide) _ rfl, hcell 4 (by decide) _ rfl⟩
def utf8_Dec.g : List AVal → Mem → CT (Out × Mem) := leafG [.c .str] (fun _ => true) fun args => .done (.tup [.int .i32 (decS (getS (tget args 0))).1, .int .i64 (decS (getS (tget args 0))).2])
theorem utf8_Dec.ok (B : Nat) : NatOk env prog B 48 utf8_Dec.g := nat_leaf (fun _ => rfl) fun m args w fx rho vals _ hpre => by
  obtain ⟨V, rfl, hr⟩ := vals1 hpre
  obtain rfl := hr
  refine (Tryd.utf8_DecodeRuneInString ⟨(getS (tget args 0)).toArray⟩ w (tabs_of_glob hpre.glob)).mono fun e w' hh => ?_
  rw [decodeGo_eq] at hh
  exact ⟨_, hh.1, ⟨[_, _], rfl, ⟨_, _, rfl, rfl, _, _, rfl, rfl, rfl⟩⟩, hh.2⟩
def str_Byte.g : List AVal → Mem → CT (Out × Mem) := leafG [.c .str, .c (.int .u8)] (fun _ => true) fun args => .done (.int .i64 (byteIn (getS (tget args 0)) (getI (tget args 1))))
theorem str_Byte.ok (B : Nat) : NatOk env prog B 85 str_Byte.g := nat_leaf (fun _ => rfl) fun m args w fx rho vals _ hpre => by
  obtain ⟨U, V, rfl, hr, hs⟩ := vals2 hpre
  obtain rfl := hr
  obtain rfl := hs
  refine (Tryd.stringslite_IndexByte ⟨(getS (tget args 0)).toArray⟩ (getI (tget args 1)) w).mono fun e w' hh => ?_
  obtain ⟨rfl, rfl⟩ := hh
  exact ⟨_, rfl, rfl, Below.refl _ _⟩
def str_Index.g : List AVal → Mem → CT (Out × Mem) := leafG [.c .str, .c .str] (fun args => decide ((getS (tget args 0)).length < 4294967281)) fun args => .done (.int .i64 (indexS (getS (tget args 0)) (getS (tget args 1))))
theorem str_Index.ok (B : Nat) : NatOk env prog B 72 str_Index.g := nat_leaf (fun _ => rfl) fun m args w fx rho vals hb hpre => by
  obtain ⟨U, V, rfl, hr, hs⟩ := vals2 hpre
  obtain rfl := hr
  obtain rfl := hs
  have hsz : (⟨(getS (tget args 0)).toArray⟩ : ByteArray).size = (getS (tget args 0)).length := by simp [ByteArray.size]
  obtain ⟨mx, hmx⟩ := max_of_glob hpre.glob
  refine (Tryd.strings_Index ⟨(getS (tget args 0)).toArray⟩ ⟨(getS (tget args 1)).toArray⟩ mx w (by rw [hsz]; exact of_decide_eq_true hb) hmx).mono fun e w' hh => ?_
  obtain ⟨rfl, rfl⟩ := hh
  exact ⟨_, rfl, rfl, Below.refl _ _⟩
def str_Lower.g : List AVal → Mem → CT (Out × Mem) := leafG [.c .str] (fun args => decide ((getS (tget args 0)).length < 35184372088832)) fun args => .done (.str (lowerS (getS (tget args 0))))
theorem str_Lower.ok (B : Nat) : NatOk env prog B 89 str_Lower.g := nat_leaf (fun _ => rfl) fun m args w fx rho vals hb hpre => by
  obtain ⟨U, rfl, hr⟩ := vals1 hpre
  obtain rfl := hr
  have hsz : (⟨(getS (tget args 0)).toArray⟩ : ByteArray).size = (getS (tget args 0)).length := by simp [ByteArray.size]
  refine (Tryd.strings_ToLower_any ⟨(getS (tget args 0)).toArray⟩ w (by rw [hsz]; exact of_decide_eq_true hb) (case_of_glob hpre.glob) (tabs_of_glob hpre.glob)).mono fun e w' hh => ?_
  exact ⟨_, hh.1, rfl, hh.2⟩
def str_Fields.g : List AVal → Mem → CT (Out × Mem) := leafG [.c .str] (fun args => decide ((getS (tget args 0)).length < 4294967281) && allAscii (getS (tget args 0))) fun args => .done (.slice .no (fieldsRow (getS (tget args 0))))
theorem str_Fields.ok (B : Nat) : NatOk env prog B 30 str_Fields.g := nat_fresh (fun _ => rfl) fun m args w fx rho vals hb hpre => by
  obtain ⟨U, rfl, hr⟩ := vals1 hpre
  obtain rfl := hr
  have hsz : (⟨(getS (tget args 0)).toArray⟩ : ByteArray).size = (getS (tget args 0)).length := by simp [ByteArray.size]
  rw [Bool.and_eq_true] at hb
  refine (Tryd.strings_Fields ⟨(getS (tget args 0)).toArray⟩ w (by rw [hsz]; exact of_decide_eq_true hb.1) (fun j b hj => by
    have := List.all_eq_true.1 hb.2 b (List.mem_of_getElem? hj)
    exact of_decide_eq_true this) (tabSpace_of_glob hpre.glob)).mono fun e w' hh => ?_
  obtain ⟨rfl, rfl⟩ := hh
  refine ⟨_, w.heap.size, (Lib.fields (getS (tget args 0))).length, rfl, Nat.le_refl _, by simp, ?_, (Below.refl _ w).alloc (Nat.le_refl _) _⟩
  refine ⟨_, _, _, (Lib.fields (getS (tget args 0))).map fun l => Value.string ⟨l.toArray⟩, rfl, ?_, Nat.le_refl _, ?_, ⟨1, fun e he => ?_⟩, trivial, fun hne => ⟨w.heap.size, 0, rfl, fun j V hj => ⟨?_, ?_⟩⟩⟩
  · simp [fieldsRow]
  · exact repLL_one (fun l => AVal.str l) (fun l => Value.string ⟨l.toArray⟩) (fun _ => rfl) (fun _ => rfl) _
  · obtain ⟨l, _, rfl⟩ := List.mem_map.1 he
    rfl
  · have hj' : ((Lib.fields (getS (tget args 0))).map fun l => Value.string ⟨l.toArray⟩).toArray[j]? = some V := by simpa using hj
    rw [Nat.zero_add]
    exact (cell_fresh w _ _ _).trans hj'
  · rw [upF_eq, Nat.zero_add]
    have := (List.getElem?_eq_some_iff.1 hj).1
    simpa using this
end L
end Go.Proofs.YtefenlmpbgdpnaaDoor
