/- Texts and code points, plain. -/
import GoSem.Core.Utf8
namespace Go.Uni

/-- is a byte one that goes on? -/
def cont (b : UInt8) : Bool := 128 ≤ b.toNat && b.toNat ≤ 191
/-- the code point that a text begins with, half ones too, and how many bytes it has; 0 bytes: there is none -/
def pt : List UInt8 → Nat × Nat
  | [] => (0, 0)
  | a :: r =>
    if a.toNat < 128 then (a.toNat, 1)
    else if 194 ≤ a.toNat ∧ a.toNat ≤ 223 then (match r with
      | b :: _ => if cont b then ((a.toNat - 192) * 64 + (b.toNat - 128), 2) else (0, 0)
      | _ => (0, 0))
    else if 224 ≤ a.toNat ∧ a.toNat ≤ 239 then (match r with
      | b :: c :: _ => if cont b && cont c then
          (if (a.toNat - 224) * 4096 + (b.toNat - 128) * 64 + (c.toNat - 128) < 2048 then (0, 0) else ((a.toNat - 224) * 4096 + (b.toNat - 128) * 64 + (c.toNat - 128), 3)) else (0, 0)
      | _ => (0, 0))
    else if 240 ≤ a.toNat ∧ a.toNat ≤ 244 then (match r with
      | b :: c :: d :: _ => if cont b && cont c && cont d then
          (if (a.toNat - 240) * 262144 + (b.toNat - 128) * 4096 + (c.toNat - 128) * 64 + (d.toNat - 128) < 65536 ∨ 1114111 < (a.toNat - 240) * 262144 + (b.toNat - 128) * 4096 + (c.toNat - 128) * 64 + (d.toNat - 128)
            then (0, 0) else ((a.toNat - 240) * 262144 + (b.toNat - 128) * 4096 + (c.toNat - 128) * 64 + (d.toNat - 128), 4)) else (0, 0)
      | _ => (0, 0))
    else (0, 0)
def isHalf (c : Nat) : Bool := 55296 ≤ c && c ≤ 57343
def isLead (c : Nat) : Bool := 55296 ≤ c && c ≤ 56319
def isLow (c : Nat) : Bool := 56320 ≤ c && c ≤ 57343
/-- what Go's own decoder tells at the begin of a text that is not empty -/
def dec (l : List UInt8) : Nat × Nat := if (pt l).2 = 0 || isHalf (pt l).1 then (65533, 1) else pt l

theorem b_lt (b : UInt8) : b.toNat < 256 := b.toNat_lt

theorem pt_width (l : List UInt8) : (pt l).2 ≤ l.length ∧ (pt l).2 ≤ 4 := by
  unfold pt
  split
  · simp
  · repeat' split
    all_goals simp
theorem pt_lt (l : List UInt8) : (pt l).1 ≤ 1114111 := by
  unfold pt
  split
  · simp
  · rename_i a r
    have ha := b_lt a
    repeat' split
    all_goals (try simp only [cont, Bool.and_eq_true, decide_eq_true_eq] at *)
    all_goals (try simp)
    all_goals omega

theorem get_drop (s : List UInt8) (pos k : Nat) : ((⟨s.toArray⟩ : ByteArray).get! (pos + k)).toNat = ((s.drop pos).getD k 0).toNat := by
  have : (⟨s.toArray⟩ : ByteArray).get! (pos + k) = s.toArray[pos + k]! := rfl
  rw [this, List.getD_eq_getElem?_getD, List.getElem?_drop]
  simp only [List.getElem!_toArray]
  rw [List.getElem!_eq_getElem?_getD]
  rfl
theorem size_drop (s : List UInt8) (pos k : Nat) : (pos + k < (⟨s.toArray⟩ : ByteArray).size) = (k < (s.drop pos).length) := by
  have : (⟨s.toArray⟩ : ByteArray).size = s.length := by simp [ByteArray.size]
  rw [this, List.length_drop]
  apply propext; omega

set_option maxHeartbeats 4000000 in
theorem decode_eq (s : List UInt8) (pos : Nat) (h : pos < s.length) : Utf8.decode ⟨s.toArray⟩ pos = dec (s.drop pos) := by
  have hne : s.drop pos ≠ [] := by simp; omega
  unfold Utf8.decode
  simp only [get_drop, size_drop]
  generalize s.drop pos = l at hne
  match l, hne with
  | a :: r, _ =>
    have ha := b_lt a
    simp only [List.getD_cons_zero, dec, pt, isHalf, cont, Utf8.valid, Utf8.runeError, List.getD_cons_succ, List.length_cons]
    match r with
    | [] =>
      simp
      repeat' split
      all_goals (try simp_all)
      all_goals (try omega)
    | b :: r =>
      have hb := b_lt b
      match r with
      | [] =>
        simp
        repeat' split
        all_goals (try simp_all)
        all_goals (try omega)
      | c :: r =>
        have hc := b_lt c
        match r with
        | [] =>
          simp
          repeat' split
          all_goals (try simp_all)
          all_goals (try omega)
        | d :: r =>
          have hd := b_lt d
          simp
          repeat' split
          all_goals (try simp_all)
          all_goals (try omega)
end Go.Uni
