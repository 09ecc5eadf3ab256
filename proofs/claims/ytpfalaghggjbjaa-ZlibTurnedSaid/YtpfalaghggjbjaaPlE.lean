/-
  Plain: the codes, told in the order of their lengths, one behind the other.
  Conditions: none.
-/
import Derived.Test.YtpfalaghggjbjaaPlH
namespace Go.Proofs.Ytpfalaghggjbjaa

/-- What comes next at length L, after a code of length p (0: none yet). -/
def nxt (c p L : Nat) : Nat := if p = 0 then 0 else (c + 1) * 2 ^ (L - p)
structure RcInv (l : List Nat) (L s c p : Nat) : Prop where
  le : p ≤ L
  val : nxt c p L = firstOf (cnt l) L + (l.take s).count L
  zero : p = 0 → c = 0
theorem rc_start (l : List Nat) : RcInv l 1 0 0 0 := ⟨by omega, by simp [nxt, firstOf], fun _ => rfl⟩
theorem rc_same {l : List Nat} {L s c p : Nat} (h : RcInv l L s c p) (hs : s < l.length) (hx : atN l s ≠ L) : RcInv l L (s + 1) c p := by
  refine ⟨h.le, ?_, h.zero⟩
  rw [take_atN hs, List.count_append, h.val, List.count_cons, List.count_nil]
  simp [hx]
theorem rc_step {l : List Nat} {L s c p : Nat} (h : RcInv l L s c p) (hL : 0 < L) (hs : s < l.length) (hx : atN l s = L) : RcInv l L (s + 1) (nxt c p L) L := by
  refine ⟨Nat.le_refl _, ?_, by omega⟩
  rw [take_atN hs, List.count_append, List.count_cons, List.count_nil, h.val]
  unfold nxt
  rw [if_neg (by omega)]
  simp [hx]; omega
theorem rc_next {l : List Nat} {L c p : Nat} (h : RcInv l L l.length c p) (hL : 0 < L) (h16 : L < 16) : RcInv l (L + 1) 0 c p := by
  refine ⟨by have := h.le; omega, ?_, h.zero⟩
  have hv := h.val
  rw [List.take_length] at hv
  obtain ⟨m, rfl⟩ : ∃ m, L = m + 1 := ⟨L - 1, by omega⟩
  show _ = (firstOf (cnt l) (m + 1) + atN (cnt l) (m + 1)) * 2 + _
  rw [atN_cnt l h16, ← hv]
  unfold nxt
  split
  · simp
  · have := h.le
    rw [show m + 1 + 1 - p = m + 1 - p + 1 by omega, Nat.pow_succ]
    simp [Nat.mul_assoc]
/-- The codes as far as they are told: lengths below L, and of length L the symbols below s. -/
def rcAt (l : List Nat) (L s j : Nat) : Int := if atN l j = 0 then 0 else if atN l j < L ∨ (atN l j = L ∧ j < s) then codeAt l j else 0
def rcT (l : List Nat) (L s : Nat) : List Int := (List.range l.length).map (rcAt l L s)
theorem rcT_length (l : List Nat) (L s : Nat) : (rcT l L s).length = l.length := by simp [rcT]
theorem rcT_start (l : List Nat) : rcT l 1 0 = List.replicate l.length 0 := by
  apply List.ext_getElem?
  intro k
  by_cases hk : k < l.length
  · simp only [rcT, List.getElem?_map, List.getElem?_range hk, Option.map_some, List.getElem?_replicate, if_pos hk, rcAt]
    split
    · rfl
    · rw [if_neg (by omega)]
  · rw [List.getElem?_eq_none (by simp [rcT]; omega), List.getElem?_eq_none (by simp; omega)]
theorem rcT_same {l : List Nat} {L s : Nat} (hx : atN l s ≠ L) : rcT l L (s + 1) = rcT l L s := by
  unfold rcT
  apply List.map_congr_left
  intro k _
  unfold rcAt
  split
  · rfl
  · by_cases e : atN l k < L ∨ (atN l k = L ∧ k < s)
    · rw [if_pos e, if_pos (by omega)]
    · rw [if_neg e, if_neg]
      intro h
      rcases h with h | ⟨h1, h2⟩
      · exact e (.inl h)
      · have : k = s := by omega
        subst this; exact hx h1
theorem rcT_next (l : List Nat) (L : Nat) : rcT l L l.length = rcT l (L + 1) 0 := by
  unfold rcT
  apply List.map_congr_left
  intro k hk
  have hk : k < l.length := by simpa using hk
  unfold rcAt
  split
  · rfl
  · by_cases e : atN l k < L ∨ (atN l k = L ∧ k < l.length)
    · rw [if_pos e, if_pos (by omega)]
    · rw [if_neg e, if_neg (by omega)]
theorem rcT_step {l : List Nat} {L s c p : Nat} (h : RcInv l L s c p) (hL : 0 < L) (_hs : s < l.length) (hx : atN l s = L) : (rcT l L s).set s ((nxt c p L : Nat) : Int) = rcT l L (s + 1) := by
  apply List.ext_getElem?
  intro k
  by_cases hk : k < l.length
  · simp only [rcT, List.getElem?_set, List.getElem?_map, List.getElem?_range hk, List.length_map, List.length_range, Option.map_some]
    by_cases e : s = k
    · subst e
      rw [if_pos rfl, if_pos hk]
      unfold rcAt
      rw [if_neg (by omega), if_pos (by omega)]
      unfold codeAt
      rw [if_neg (by omega), hx, h.val]
    · rw [if_neg e]
      unfold rcAt
      split
      · rfl
      · by_cases e2 : atN l k < L ∨ (atN l k = L ∧ k < s)
        · rw [if_pos e2, if_pos (by omega)]
        · rw [if_neg e2, if_neg (by omega)]
  · rw [List.getElem?_eq_none (by simp [rcT]; omega), List.getElem?_eq_none (by simp [rcT]; omega)]
/-- .. and the symbols without a code, as far as they are marked. -/
def rmT (l : List Nat) (i : Nat) : List Int := (List.range l.length).map fun j => if atN l j = 0 then (if j < i then -1 else 0) else codeAt l j
theorem rmT_length (l : List Nat) (i : Nat) : (rmT l i).length = l.length := by simp [rmT]
theorem atN_le15 {l : List Nat} (h : ∀ x ∈ l, x ≤ 15) (k : Nat) : atN l k ≤ 15 := atN_le_of h k
theorem rmT_start {l : List Nat} (h : ∀ x ∈ l, x ≤ 15) : rmT l 0 = rcT l 16 0 := by
  unfold rmT rcT
  apply List.map_congr_left
  intro k _
  unfold rcAt
  have := atN_le15 h k
  split
  · simp
  · rw [if_pos (by omega)]
theorem rmT_same {l : List Nat} {i : Nat} (hx : atN l i ≠ 0) : rmT l (i + 1) = rmT l i := by
  unfold rmT
  apply List.map_congr_left
  intro k _
  split
  · rename_i h
    have : k ≠ i := fun e => hx (e ▸ h)
    by_cases e : k < i
    · rw [if_pos e, if_pos (by omega)]
    · rw [if_neg e, if_neg (by omega)]
  · rfl
theorem rmT_step {l : List Nat} {i : Nat} (_hi : i < l.length) (hx : atN l i = 0) : (rmT l i).set i (-1) = rmT l (i + 1) := by
  apply List.ext_getElem?
  intro k
  by_cases hk : k < l.length
  · simp only [rmT, List.getElem?_set, List.getElem?_map, List.getElem?_range hk, List.length_map, List.length_range, Option.map_some]
    by_cases e : i = k
    · subst e; simp [hk, hx]
    · rw [if_neg e]
      split
      · by_cases e2 : k < i
        · rw [if_pos e2, if_pos (by omega)]
        · rw [if_neg e2, if_neg (by omega)]
      · rfl
  · rw [List.getElem?_eq_none (by simp [rmT]; omega), List.getElem?_eq_none (by simp [rmT]; omega)]
theorem rmT_all (l : List Nat) : rmT l l.length = codesP l := by
  unfold rmT codesP
  apply List.map_congr_left
  intro k hk
  have hk : k < l.length := by simpa using hk
  split
  · rename_i h
    unfold codeAt; rw [if_pos h]
  · rfl
end Go.Proofs.Ytpfalaghggjbjaa
