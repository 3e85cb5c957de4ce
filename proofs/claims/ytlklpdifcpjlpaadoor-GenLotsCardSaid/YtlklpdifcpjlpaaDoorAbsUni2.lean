/- Texts, code points and units, plain: there and back. -/
import Derived.Test.YtlklpdifcpjlpaaDoorAbsUni1
namespace Go.Uni

def ob (n : Nat) : UInt8 := UInt8.ofNat n
def enc (c : Nat) : List UInt8 :=
  if c < 128 then [ob c]
  else if c < 2048 then [ob (192 + c / 64), ob (128 + c % 64)]
  else if c < 65536 then [ob (224 + c / 4096), ob (128 + c / 64 % 64), ob (128 + c % 64)]
  else [ob (240 + c / 262144), ob (128 + c / 4096 % 64), ob (128 + c / 64 % 64), ob (128 + c % 64)]
theorem ob_toNat {n : Nat} (h : n < 256) : (ob n).toNat = n := by simp [ob, Nat.mod_eq_of_lt h]
theorem ob_eq {n : Nat} {b : UInt8} (h : b.toNat = n) : b = ob n := by rw [← h]; simp [ob]
theorem enc_len (c : Nat) : 0 < (enc c).length ∧ (enc c).length ≤ 4 := by
  unfold enc; repeat' split
  all_goals simp
theorem pt_enc {c : Nat} (hc : c ≤ 1114111) (r : List UInt8) : pt (enc c ++ r) = (c, (enc c).length) := by
  unfold enc
  split
  · have h1 : (ob c).toNat = c := ob_toNat (by omega)
    simp only [List.cons_append, List.nil_append, pt, h1]
    rw [if_pos (by omega)]; rfl
  · split
    · have h1 : (ob (192 + c / 64)).toNat = 192 + c / 64 := ob_toNat (by omega)
      have h2 : (ob (128 + c % 64)).toNat = 128 + c % 64 := ob_toNat (by omega)
      simp only [List.cons_append, List.nil_append, pt, h1, h2, cont]
      rw [if_neg (by omega), if_pos (by omega), if_pos (by simp; omega)]
      simp; omega
    · split
      · have h1 : (ob (224 + c / 4096)).toNat = 224 + c / 4096 := ob_toNat (by omega)
        have h2 : (ob (128 + c / 64 % 64)).toNat = 128 + c / 64 % 64 := ob_toNat (by omega)
        have h3 : (ob (128 + c % 64)).toNat = 128 + c % 64 := ob_toNat (by omega)
        simp only [List.cons_append, List.nil_append, pt, h1, h2, h3, cont]
        rw [if_neg (by omega), if_neg (by omega), if_pos (by omega), if_pos (by simp; omega), if_neg (by omega)]
        simp; omega
      · have h1 : (ob (240 + c / 262144)).toNat = 240 + c / 262144 := ob_toNat (by omega)
        have h2 : (ob (128 + c / 4096 % 64)).toNat = 128 + c / 4096 % 64 := ob_toNat (by omega)
        have h3 : (ob (128 + c / 64 % 64)).toNat = 128 + c / 64 % 64 := ob_toNat (by omega)
        have h4 : (ob (128 + c % 64)).toNat = 128 + c % 64 := ob_toNat (by omega)
        simp only [List.cons_append, List.nil_append, pt, h1, h2, h3, h4, cont]
        rw [if_neg (by omega), if_neg (by omega), if_neg (by omega), if_pos (by omega), if_pos (by simp; omega), if_neg (by omega)]
        simp; omega
theorem enc_pt {l : List UInt8} (h : (pt l).2 ≠ 0) : l = enc (pt l).1 ++ l.drop (pt l).2 ∧ (enc (pt l).1).length = (pt l).2 := by
  match l, h with
  | a :: r, h =>
    have ha := b_lt a
    simp only [pt] at h ⊢
    split
    · rename_i h0
      simp only [h0, if_true] at h
      simp only [enc, h0, if_true]
      refine ⟨?_, rfl⟩
      simp [← ob_eq (n := a.toNat) rfl]
    · rename_i h0
      simp only [h0, if_false] at h
      split
      · rename_i h1
        simp only [h1, and_self, if_true] at h
        match r, h with
        | b :: r, h =>
          have hb := b_lt b
          simp only at h ⊢
          split at h
          · rename_i hc
            simp only [hc, if_true]
            simp only [cont, Bool.and_eq_true, decide_eq_true_eq] at hc
            simp only [enc]
            rw [if_neg (by omega), if_pos (by omega)]
            refine ⟨?_, rfl⟩
            simp only [List.cons_append, List.nil_append, List.drop_succ_cons, List.drop_zero]
            rw [← ob_eq (n := 192 + ((a.toNat - 192) * 64 + (b.toNat - 128)) / 64) (b := a) (by omega), ← ob_eq (n := 128 + ((a.toNat - 192) * 64 + (b.toNat - 128)) % 64) (b := b) (by omega)]
          · exact absurd rfl h
        | [], h => exact absurd rfl h
      · rename_i h1
        simp only [h1, if_false] at h
        split
        · rename_i h2
          simp only [h2, and_self, if_true] at h
          match r, h with
          | b :: c :: r, h =>
            have hb := b_lt b
            have hc' := b_lt c
            simp only at h ⊢
            split at h
            · rename_i hc
              simp only [hc, if_true]
              simp only [cont, Bool.and_eq_true, decide_eq_true_eq] at hc
              split at h
              · exact absurd rfl h
              · rename_i h3
                simp only [h3, if_false]
                simp only [enc]
                rw [if_neg (by omega), if_neg (by omega), if_pos (by omega)]
                refine ⟨?_, rfl⟩
                simp only [List.cons_append, List.nil_append, List.drop_succ_cons, List.drop_zero]
                rw [← ob_eq (b := a) (by omega), ← ob_eq (b := b) (by omega), ← ob_eq (b := c) (by omega)]
            · exact absurd rfl h
          | [_], h => exact absurd rfl h
          | [], h => exact absurd rfl h
        · rename_i h2
          simp only [h2, if_false] at h
          split
          · rename_i h3
            simp only [h3, and_self, if_true] at h
            match r, h with
            | b :: c :: d :: r, h =>
              have hb := b_lt b
              have hc' := b_lt c
              have hd' := b_lt d
              simp only at h ⊢
              split at h
              · rename_i hc
                simp only [hc, if_true]
                simp only [cont, Bool.and_eq_true, decide_eq_true_eq] at hc
                split at h
                · exact absurd rfl h
                · rename_i h4
                  simp only [h4, if_false]
                  simp only [enc]
                  rw [if_neg (by omega), if_neg (by omega), if_neg (by omega)]
                  refine ⟨?_, rfl⟩
                  simp only [List.cons_append, List.nil_append, List.drop_succ_cons, List.drop_zero]
                  rw [← ob_eq (b := a) (by omega), ← ob_eq (b := b) (by omega), ← ob_eq (b := c) (by omega), ← ob_eq (b := d) (by omega)]
              · exact absurd rfl h
            | [_, _], h => exact absurd rfl h
            | [_], h => exact absurd rfl h
            | [], h => exact absurd rfl h
          · rename_i h3
            simp only [h3, if_false] at h
            exact absurd rfl h

/-! ### A text's code points -/
def scan : Nat → Bool → List UInt8 → List Nat × Bool
  | _, _, [] => ([], true)
  | 0, _, _ :: _ => ([], false)
  | f + 1, ah, a :: r =>
    if (pt (a :: r)).2 = 0 || (ah && isLow (pt (a :: r)).1) then ([], false)
    else ((pt (a :: r)).1 :: (scan f (isLead (pt (a :: r)).1) ((a :: r).drop (pt (a :: r)).2)).1, (scan f (isLead (pt (a :: r)).1) ((a :: r).drop (pt (a :: r)).2)).2)
def pts (s : List UInt8) : List Nat × Bool := scan s.length false s
def right (s : List UInt8) : Bool := (pts s).2
def u16 (c : Nat) : List Nat := if 65535 < c then [55296 + (c - 65536) / 1024, 56320 + (c - 65536) % 1024] else [c]
def unitsOf (s : List UInt8) : List Nat := if right s then (pts s).1.flatMap u16 else []
def cps : List Nat → List Nat
  | [] => []
  | [u] => [u]
  | u :: v :: r => if isLead u && isLow v then (65536 + (u - 55296) * 1024 + (v - 56320)) :: cps r else u :: cps (v :: r)
def textOf (u : List Nat) : List UInt8 := (cps u).flatMap enc

/-- code points that may stand in a row -/
def okc : Bool → List Nat → Prop
  | _, [] => True
  | ah, c :: r => c ≤ 1114111 ∧ (ah && isLow c) = false ∧ okc (isLead c) r

theorem scan_enc : ∀ (cs : List Nat) (f : Nat) (ah : Bool), okc ah cs → (cs.flatMap enc).length ≤ f → scan f ah (cs.flatMap enc) = (cs, true)
  | [], f, ah, _, _ => by cases f <;> rfl
  | c :: r, f, ah, ⟨h1, h2, h3⟩, hf => by
    have hp := pt_enc h1 (r.flatMap enc)
    have hl := (enc_len c).1
    simp only [List.flatMap_cons, List.length_append] at hf ⊢
    have hne : enc c ++ r.flatMap enc ≠ [] := by
      intro h
      have h9 := congrArg List.length h
      rw [List.length_append, List.length_nil] at h9
      omega
    match f, hf with
    | 0, hf => omega
    | f + 1, hf =>
      generalize hl' : enc c ++ r.flatMap enc = l at hp hne
      match l, hne with
      | a :: t, _ =>
        simp only [scan, hp]
        rw [if_neg (by simp [h2]; exact List.length_pos_iff.1 hl)]
        have hd : (a :: t).drop (enc c).length = r.flatMap enc := by rw [← hl']; simp
        rw [hd, scan_enc r f _ h3 (by omega)]
theorem scan_ok : ∀ (f : Nat) (ah : Bool) (l : List UInt8) (cs : List Nat), scan f ah l = (cs, true) → okc ah cs ∧ l = cs.flatMap enc
  | f, ah, [], cs, h => by
    have : cs = [] := by cases f <;> simp [scan] at h <;> exact h.symm ▸ rfl
    subst this; exact ⟨trivial, rfl⟩
  | 0, ah, _ :: _, cs, h => by simp [scan] at h
  | f + 1, ah, a :: r, cs, h => by
    simp only [scan] at h
    split at h
    · simp at h
    · rename_i hn
      simp only [Bool.or_eq_true, decide_eq_true_eq, not_or, Bool.not_eq_true] at hn
      injection h with h1 h2
      have ih := scan_ok f _ _ _ (show scan f (isLead (pt (a :: r)).1) ((a :: r).drop (pt (a :: r)).2) = ((scan f (isLead (pt (a :: r)).1) ((a :: r).drop (pt (a :: r)).2)).1, true) by rw [← h2])
      subst h1
      refine ⟨⟨pt_lt _, hn.2, ih.1⟩, ?_⟩
      rw [List.flatMap_cons, ← ih.2]
      exact (enc_pt hn.1).1

theorem cps_ok : ∀ (u : List Nat) (ah : Bool), (∀ x ∈ u, x < 65536) → (ah && (match u with | x :: _ => isLow x | [] => false)) = false → okc ah (cps u)
  | [], _, _, _ => trivial
  | [u], ah, h, ha => ⟨by have := h u (by simp); omega, ha, trivial⟩
  | u :: v :: r, ah, h, ha => by
    have hu := h u (by simp)
    have hv := h v (by simp)
    simp only [cps]
    split
    · rename_i hp
      simp only [isLead, isLow, Bool.and_eq_true, decide_eq_true_eq] at hp
      have h9 : isLow (65536 + (u - 55296) * 1024 + (v - 56320)) = false := by
        simp only [isLow, Bool.and_eq_false_iff, decide_eq_false_iff_not]; omega
      refine ⟨by omega, by rw [h9, Bool.and_false], ?_⟩
      have : isLead (65536 + (u - 55296) * 1024 + (v - 56320)) = false := by
        simp only [isLead, Bool.and_eq_false_iff, decide_eq_false_iff_not]; omega
      rw [this]
      exact cps_ok r false (fun x hx => h x (by simp [hx])) (by simp)
    · rename_i hp
      refine ⟨by omega, ha, cps_ok (v :: r) _ (fun x hx => h x (by simp at hx ⊢; exact .inr hx)) ?_⟩
      simpa using hp
theorem u16_cps : ∀ (u : List Nat), (∀ x ∈ u, x < 65536) → (cps u).flatMap u16 = u
  | [], _ => rfl
  | [u], h => by
    have := h u (by simp)
    simp only [cps, List.flatMap_cons, List.flatMap_nil, u16]
    rw [if_neg (by omega)]; rfl
  | u :: v :: r, h => by
    have hu := h u (by simp)
    have hv := h v (by simp)
    simp only [cps]
    split
    · rename_i hp
      simp only [isLead, isLow, Bool.and_eq_true, decide_eq_true_eq] at hp
      rw [List.flatMap_cons, u16_cps r fun x hx => h x (by simp [hx])]
      simp only [u16]
      rw [if_pos (by omega)]
      simp only [List.cons_append, List.nil_append, List.cons.injEq, and_true]
      omega
    · rw [List.flatMap_cons, u16_cps (v :: r) fun x hx => h x (by simp at hx ⊢; exact .inr hx)]
      simp only [u16]
      rw [if_neg (by omega)]; rfl
theorem cps_u16 : ∀ (cs : List Nat) (ah : Bool), okc ah cs → cps (cs.flatMap u16) = cs
  | [], _, _ => rfl
  | c :: r, ah, ⟨h1, h2, h3⟩ => by
    have ih := cps_u16 r _ h3
    rw [List.flatMap_cons]
    simp only [u16]
    split
    · simp only [List.cons_append, List.nil_append, cps]
      have hp : (isLead (55296 + (c - 65536) / 1024) && isLow (56320 + (c - 65536) % 1024)) = true := by
        simp only [isLead, isLow, Bool.and_eq_true, decide_eq_true_eq]; omega
      have he : 65536 + (55296 + (c - 65536) / 1024 - 55296) * 1024 + (56320 + (c - 65536) % 1024 - 56320) = c := by omega
      rw [if_pos hp, ih, he]
    · match r, h3, ih with
      | [], _, _ => rfl
      | d :: r, ⟨h4, h5, h6⟩, ih =>
        simp only [List.cons_append, List.nil_append]
        have hfirst : ∃ x t, (d :: r).flatMap u16 = x :: t ∧ (isLead c && isLow x) = false := by
          rw [List.flatMap_cons]
          simp only [u16]
          split
          · refine ⟨_, _, rfl, ?_⟩
            have : isLow (55296 + (d - 65536) / 1024) = false := by
              simp only [isLow, Bool.and_eq_false_iff, decide_eq_false_iff_not]; omega
            rw [this, Bool.and_false]
          · exact ⟨_, _, rfl, h5⟩
        obtain ⟨x, t, hx, hl⟩ := hfirst
        rw [hx] at ih ⊢
        simp only [cps]
        rw [if_neg (by simp [hl]), ih]
theorem u16_lt {c : Nat} (h : c ≤ 1114111) : ∀ x ∈ u16 c, x < 65536 := by
  unfold u16
  split
  · intro x hx
    simp only [List.mem_cons, List.not_mem_nil, or_false] at hx
    rcases hx with hx | hx <;> omega
  · intro x hx
    simp only [List.mem_cons, List.not_mem_nil, or_false] at hx
    omega
theorem okc_lt : ∀ {cs : List Nat} {ah : Bool}, okc ah cs → ∀ c ∈ cs, c ≤ 1114111
  | [], _, _, _, h => by cases h
  | c :: r, _, ⟨h1, _, h3⟩, x, hx => by
    rcases List.mem_cons.1 hx with rfl | hx
    · exact h1
    · exact okc_lt h3 x hx

/-! ### There and back -/
theorem pts_right {s : List UInt8} (h : right s = true) : pts s = ((pts s).1, true) := by
  unfold right at h; rw [← h]
theorem units_lt (s : List UInt8) : ∀ x ∈ unitsOf s, x < 65536 := by
  unfold unitsOf
  split
  · rename_i h
    intro x hx
    obtain ⟨c, hc, hx⟩ := List.mem_flatMap.1 hx
    exact u16_lt (okc_lt (scan_ok _ _ _ _ (pts_right h)).1 c hc) x hx
  · intro x hx; simp at hx
theorem text_units {s : List UInt8} (h : right s = true) : textOf (unitsOf s) = s := by
  obtain ⟨h1, h2⟩ := scan_ok _ _ _ _ (pts_right h)
  unfold textOf unitsOf
  rw [if_pos h, cps_u16 _ _ h1, ← h2]
theorem pts_text {u : List Nat} (h : ∀ x ∈ u, x < 65536) : pts (textOf u) = (cps u, true) :=
  scan_enc _ _ _ (cps_ok u false h (by simp)) (Nat.le_refl _)
theorem right_text {u : List Nat} (h : ∀ x ∈ u, x < 65536) : right (textOf u) = true := by
  unfold right; rw [pts_text h]
theorem units_text {u : List Nat} (h : ∀ x ∈ u, x < 65536) : unitsOf (textOf u) = u := by
  unfold unitsOf
  rw [if_pos (right_text h), pts_text h, u16_cps u h]
end Go.Uni
