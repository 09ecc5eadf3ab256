/-
  Plain: prefix codes told by their lengths: counts, first codes, the codes.
  Conditions: none.
-/
import Derived.Test.YtpfalaghggjbjaaPlA
namespace Go.Proofs.Ytpfalaghggjbjaa

def natI (l : List Nat) : List Int := l.map fun x : Nat => (x : Int)
theorem natI_length (l : List Nat) : (natI l).length = l.length := by simp [natI]
theorem natI_set (l : List Nat) (j x : Nat) : natI (l.set j x) = (natI l).set j (x : Int) := by simp [natI, List.map_set]
theorem natI_append (l m : List Nat) : natI (l ++ m) = natI l ++ natI m := by simp [natI]

/-- How many of each length there are. -/
def cnt (l : List Nat) : List Nat := (List.range 16).map fun k => l.count k
theorem cnt_length (l : List Nat) : (cnt l).length = 16 := by simp [cnt]
theorem atN_cnt (l : List Nat) {k : Nat} (hk : k < 16) : atN (cnt l) k = l.count k := by simp [atN, cnt, List.getD, List.getElem?_map, List.getElem?_range hk]
theorem cnt_snoc (l : List Nat) (x : Nat) (hx : x < 16) : (cnt l).set x (atN (cnt l) x + 1) = cnt (l ++ [x]) := by
  apply List.ext_getElem?
  intro i
  rw [atN_cnt l hx]
  by_cases hi : i < 16
  · simp only [cnt, List.getElem?_set, List.getElem?_map, List.getElem?_range hi, List.length_map, List.length_range, Option.map_some]
    by_cases e : x = i
    · subst e; simp [hx, List.count_append]
    · simp [e, List.count_append]
  · rw [List.getElem?_eq_none (by simp [cnt]; omega), List.getElem?_eq_none (by simp [cnt]; omega)]
theorem take_atN {l : List Nat} {i : Nat} (h : i < l.length) : l.take (i + 1) = l.take i ++ [atN l i] := by
  rw [List.take_succ_eq_append_getElem h]; simp [atN, List.getD, List.getElem?_eq_getElem h]
theorem cnt_le (l : List Nat) : ∀ x ∈ cnt l, x ≤ l.length := by
  intro x hx
  simp only [cnt, List.mem_map] at hx
  obtain ⟨k, _, rfl⟩ := hx
  exact List.count_le_length

/-- The first code of each length. -/
def firstOf (c : List Nat) : Nat → Nat
  | 0 => 0
  | 1 => 0
  | i + 2 => (firstOf c (i + 1) + atN c (i + 1)) * 2
def firstsN (c : List Nat) : List Nat := (List.range 17).map (firstOf c)
/-- .. as far as they are reckoned: up to i. -/
def firstsT (c : List Nat) (i : Nat) : List Nat := (List.range 17).map fun k => if k ≤ i then firstOf c k else 0
theorem firstsT_length (c : List Nat) (i : Nat) : (firstsT c i).length = 17 := by simp [firstsT]
theorem atN_firstsT (c : List Nat) {i k : Nat} (hk : k < 17) : atN (firstsT c i) k = if k ≤ i then firstOf c k else 0 := by simp [atN, firstsT, List.getD, List.getElem?_map, List.getElem?_range hk]
theorem firstsT_step (c : List Nat) {i : Nat} (h1 : 1 ≤ i) (hi : i < 16) : (firstsT c i).set (i + 1) ((firstOf c i + atN c i) * 2) = firstsT c (i + 1) := by
  apply List.ext_getElem?
  intro k
  by_cases hk : k < 17
  · simp only [firstsT, List.getElem?_set, List.getElem?_map, List.getElem?_range hk, List.length_map, List.length_range, Option.map_some]
    obtain ⟨j, rfl⟩ : ∃ j, i = j + 1 := ⟨i - 1, by omega⟩
    by_cases e : j + 1 + 1 = k
    · subst e; simp [show j + 2 < 17 by omega, firstOf]
    · by_cases e2 : k ≤ j + 1
      · simp [e, e2, show k ≤ j + 1 + 1 by omega]
      · simp [e, e2, show ¬ k ≤ j + 1 + 1 by omega]
  · rw [List.getElem?_eq_none (by simp [firstsT]; omega), List.getElem?_eq_none (by simp [firstsT]; omega)]
theorem firstsT_all (c : List Nat) : firstsT c 16 = firstsN c := by
  unfold firstsT firstsN
  apply List.map_congr_left
  intro k hk
  rw [if_pos (by simp at hk; omega)]
theorem firstsT_one (c : List Nat) : firstsT c 1 = List.replicate 17 0 := by
  unfold firstsT
  apply List.ext_getElem?
  intro k
  by_cases hk : k < 17
  · simp only [List.getElem?_map, List.getElem?_range hk, Option.map_some, List.getElem?_replicate, if_pos hk]
    split
    · rcases k with _ | _ | k
      · rfl
      · rfl
      · omega
    · rfl
  · rw [List.getElem?_eq_none (by simp; omega), List.getElem?_eq_none (by simp; omega)]
theorem firstOf_le1 (c : List Nat) (M : Nat) (hc : ∀ k, atN c k ≤ M) : ∀ i, firstOf c (i + 1) + 2 * M ≤ M * 2 ^ (i + 1)
  | 0 => by simp [firstOf]; omega
  | i + 1 => by
    have ih := firstOf_le1 c M hc i
    have h2 := hc (i + 1)
    show (firstOf c (i + 1) + atN c (i + 1)) * 2 + 2 * M ≤ M * 2 ^ (i + 1 + 1)
    have e : M * 2 ^ (i + 1 + 1) = 2 * (M * 2 ^ (i + 1)) := by rw [Nat.pow_succ 2 (i + 1), ← Nat.mul_assoc, Nat.mul_comm]
    omega
theorem firstOf_le (c : List Nat) (M : Nat) (hc : ∀ k, atN c k ≤ M) (i : Nat) : firstOf c i ≤ M * 2 ^ i := by
  cases i with
  | zero => simp [firstOf]
  | succ i => have := firstOf_le1 c M hc i; omega
theorem atN_le_of {c : List Nat} {M : Nat} (h : ∀ x ∈ c, x ≤ M) (k : Nat) : atN c k ≤ M := by
  unfold atN
  by_cases hk : k < c.length
  · rw [List.getD, List.getElem?_eq_getElem hk]; exact h _ (List.getElem_mem hk)
  · rw [List.getD, List.getElem?_eq_none (by omega)]; exact Nat.zero_le _

/-- Of each length but 0: the code of the next symbol of that length. -/
def nextT (l : List Nat) (i : Nat) : List Nat := (List.range 17).map fun k => if k = 0 then 0 else firstOf (cnt l) k + (l.take i).count k
/-- The codes (-1: none). -/
def codeAt (l : List Nat) (i : Nat) : Int := if atN l i = 0 then -1 else ((firstOf (cnt l) (atN l i) + (l.take i).count (atN l i) : Nat) : Int)
def codesP (l : List Nat) : List Int := (List.range l.length).map (codeAt l)
theorem nextT_length (l : List Nat) (i : Nat) : (nextT l i).length = 17 := by simp [nextT]
theorem atN_nextT (l : List Nat) (i : Nat) {k : Nat} (hk : k < 17) : atN (nextT l i) k = if k = 0 then 0 else firstOf (cnt l) k + (l.take i).count k := by simp [atN, nextT, List.getD, List.getElem?_map, List.getElem?_range hk]
theorem nextT_zero (l : List Nat) : nextT l 0 = firstsN (cnt l) := by
  unfold nextT firstsN
  apply List.map_congr_left
  intro k _
  cases k with
  | zero => rfl
  | succ k => simp
theorem nextT_step {l : List Nat} {i : Nat} (hi : i < l.length) (hx : atN l i < 17) (h0 : atN l i ≠ 0) : (nextT l i).set (atN l i) (atN (nextT l i) (atN l i) + 1) = nextT l (i + 1) := by
  rw [atN_nextT l i hx, if_neg h0]
  apply List.ext_getElem?
  intro k
  by_cases hk : k < 17
  · simp only [nextT, List.getElem?_set, List.getElem?_map, List.getElem?_range hk, List.length_map, List.length_range, Option.map_some, take_atN hi, List.count_append, List.count_cons, List.count_nil]
    by_cases e : atN l i = k
    · subst e; simp [hx, h0]; omega
    · simp [e]
  · rw [List.getElem?_eq_none (by simp [nextT]; omega), List.getElem?_eq_none (by simp [nextT]; omega)]
theorem nextT_same {l : List Nat} {i : Nat} (hi : i < l.length) (h0 : atN l i = 0) : nextT l (i + 1) = nextT l i := by
  unfold nextT
  apply List.map_congr_left
  intro k _
  split
  · rfl
  · rename_i hk
    rw [take_atN hi, List.count_append, h0]
    simp [List.count_cons]; omega
/-- The codes so far, -1 or 0 behind: as the loop leaves them. -/
def codesT (l : List Nat) (i : Nat) : List Int := (List.range l.length).map fun j => if j < i then codeAt l j else 0
theorem codesT_length (l : List Nat) (i : Nat) : (codesT l i).length = l.length := by simp [codesT]
theorem codesT_step {l : List Nat} {i : Nat} (_hi : i < l.length) : (codesT l i).set i (codeAt l i) = codesT l (i + 1) := by
  apply List.ext_getElem?
  intro k
  by_cases hk : k < l.length
  · simp only [codesT, List.getElem?_set, List.getElem?_map, List.getElem?_range hk, List.length_map, List.length_range, Option.map_some]
    by_cases e : i = k
    · subst e; simp [hk]
    · by_cases e2 : k < i
      · simp [e, e2, show k < i + 1 by omega]
      · simp [e, e2, show ¬ k < i + 1 by omega]
  · rw [List.getElem?_eq_none (by simp [codesT]; omega), List.getElem?_eq_none (by simp [codesT]; omega)]
theorem codesT_all (l : List Nat) : codesT l l.length = codesP l := by
  unfold codesT codesP
  apply List.map_congr_left
  intro k hk
  rw [if_pos (by simpa using hk)]
theorem codesT_zero (l : List Nat) : codesT l 0 = List.replicate l.length 0 := by
  unfold codesT
  apply List.ext_getElem?
  intro k
  by_cases hk : k < l.length
  · simp [hk]
  · rw [List.getElem?_eq_none (by simp; omega), List.getElem?_eq_none (by simp; omega)]

/-- The room that lengths take up, of 32768. -/
def kraft (l : List Nat) : Nat := (l.map fun x => if x = 0 then 0 else 2 ^ (15 - x)).sum
def checkP (l : List Nat) : Bool × Nat := if 32768 < kraft l then (false, 7) else (decide (kraft l = 32768), 0)
/-- .. reckoned by the counts, up to length k. -/
def sumT (l : List Nat) : Nat → Nat
  | 0 => 0
  | k + 1 => sumT l k + l.count (k + 1) * 2 ^ (15 - (k + 1))
theorem kraft_snoc (l : List Nat) (x : Nat) : kraft (l ++ [x]) = kraft l + if x = 0 then 0 else 2 ^ (15 - x) := by simp [kraft]
theorem kraft_le (l : List Nat) : kraft l ≤ l.length * 16384 := by
  unfold kraft
  induction l with
  | nil => simp
  | cons x l ih =>
    have h : (if x = 0 then 0 else 2 ^ (15 - x)) ≤ 16384 := by
      split
      · omega
      · exact Nat.le_trans (Nat.pow_le_pow_right (by omega) (show 15 - x ≤ 14 by omega)) (by decide)
    simp only [List.map_cons, List.sum_cons, List.length_cons]
    omega
theorem sumT_cons (x : Nat) (l : List Nat) : ∀ k, sumT (x :: l) k = sumT l k + if 1 ≤ x ∧ x ≤ k then 2 ^ (15 - x) else 0
  | 0 => by simp [sumT]; omega
  | k + 1 => by
    unfold sumT
    rw [sumT_cons x l k, List.count_cons]
    by_cases e : x = k + 1
    · subst e
      rw [if_neg (by omega), if_pos (by simp), if_pos (by omega), Nat.add_mul]
      omega
    · have e' : (x == k + 1) = false := by simpa using e
      have e3 : (if (x == k + 1) = true then 1 else 0) = 0 := by rw [e']; rfl
      rw [e3]
      by_cases e2 : 1 ≤ x ∧ x ≤ k
      · rw [if_pos e2, if_pos (by omega)]; simp; omega
      · rw [if_neg e2, if_neg (by omega)]; simp
theorem sumT_kraft (l : List Nat) (h : ∀ x ∈ l, x ≤ 15) : sumT l 15 = kraft l := by
  induction l with
  | nil => rfl
  | cons x l ih =>
    rw [sumT_cons, ih fun y hy => h y (by simp [hy])]
    have hx := h x (by simp)
    unfold kraft
    simp only [List.map_cons, List.sum_cons]
    by_cases e : x = 0
    · rw [if_pos e, if_neg (by omega)]; omega
    · rw [if_neg e, if_pos (by omega)]; omega

/-- The lengths of the fixed codes. -/
def fixAt (i : Nat) : Nat := if i < 144 then 8 else if i < 256 then 9 else if i < 280 then 7 else 8
def fixT (i : Nat) : List Nat := (List.range i).map fixAt
def fixL : List Nat := fixT 288
def fixD : List Nat := List.replicate 32 5
theorem fixT_succ (i : Nat) : fixT (i + 1) = fixT i ++ [fixAt i] := by simp [fixT, List.range_succ]
theorem fixT_length (i : Nat) : (fixT i).length = i := by simp [fixT]

/-- A list that is filled from the front: f up to i, 0 behind. -/
def partT (f : Nat → Nat) (n i : Nat) : List Nat := (List.range n).map fun k => if k < i then f k else 0
theorem partT_length (f : Nat → Nat) (n i : Nat) : (partT f n i).length = n := by simp [partT]
theorem partT_zero (f : Nat → Nat) (n : Nat) : partT f n 0 = List.replicate n 0 := by
  unfold partT
  apply List.ext_getElem?
  intro k
  by_cases hk : k < n
  · simp [hk]
  · rw [List.getElem?_eq_none (by simp; omega), List.getElem?_eq_none (by simp; omega)]
theorem partT_all (f : Nat → Nat) (n : Nat) : partT f n n = (List.range n).map f := by
  unfold partT
  apply List.map_congr_left
  intro k hk
  rw [if_pos (by simpa using hk)]
theorem partT_step (f : Nat → Nat) {n i : Nat} (_hi : i < n) : (partT f n i).set i (f i) = partT f n (i + 1) := by
  apply List.ext_getElem?
  intro k
  by_cases hk : k < n
  · simp only [partT, List.getElem?_set, List.getElem?_map, List.getElem?_range hk, List.length_map, List.length_range, Option.map_some]
    by_cases e : i = k
    · subst e; simp [hk]
    · by_cases e2 : k < i
      · simp [e, e2, show k < i + 1 by omega]
      · simp [e, e2, show ¬ k < i + 1 by omega]
  · rw [List.getElem?_eq_none (by simp [partT]; omega), List.getElem?_eq_none (by simp [partT]; omega)]
end Go.Proofs.Ytpfalaghggjbjaa
