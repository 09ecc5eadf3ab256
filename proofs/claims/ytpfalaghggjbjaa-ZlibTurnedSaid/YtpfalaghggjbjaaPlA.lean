/-
  Plain functions on lists: how many bytes two places share; the pieces of bytes. Nothing of the program is in sight.
  Conditions: none.
-/
namespace Go.Proofs.Ytpfalaghggjbjaa

/-- How many bytes two places share, n being known; at most f more are looked at. -/
def shared (l : List UInt8) (i k : Nat) : Nat → Nat → Nat
  | 0, n => n
  | f + 1, n => if k + n < l.length ∧ l.getD (i + n) 0 = l.getD (k + n) 0 then shared l i k f (n + 1) else n
def longest (l : List UInt8) (i k : Nat) : Nat := shared l i k 258 0

theorem shared_le (l : List UInt8) (i k : Nat) : ∀ f n, n ≤ shared l i k f n ∧ shared l i k f n ≤ n + f
  | 0, n => by simp [shared]
  | f + 1, n => by
    unfold shared
    split
    · have := shared_le l i k f (n + 1); omega
    · omega
theorem longest_le (l : List UInt8) (i k : Nat) : longest l i k ≤ 258 := by have := shared_le l i k 258 0; unfold longest; omega
theorem shared_yes {l : List UInt8} {i k n : Nat} (h : n < 258) (h1 : k + n < l.length) (h2 : l.getD (i + n) 0 = l.getD (k + n) 0) : shared l i k (258 - n) n = shared l i k (258 - (n + 1)) (n + 1) := by
  obtain ⟨f, hf⟩ : ∃ f, 258 - n = f + 1 := ⟨257 - n, by omega⟩
  rw [hf, show 258 - (n + 1) = f by omega, shared, if_pos ⟨h1, h2⟩]
theorem shared_no {l : List UInt8} {i k n : Nat} (h : n = 258 ∨ ¬ (k + n < l.length ∧ l.getD (i + n) 0 = l.getD (k + n) 0)) (hn : n ≤ 258) : shared l i k (258 - n) n = n := by
  rcases h with rfl | h
  · rfl
  · cases hf : 258 - n with
    | zero => rfl
    | succ f => rw [shared, if_neg h]

/-- A list of numbers' element, which the walk does not look into. -/
def atN (l : List Nat) (j : Nat) : Nat := l.getD j 0

structure Piece where
  len : Int
  dist : Int
  byte : UInt8
deriving DecidableEq

/-- The longest copy at p, and how far back the nearest such stands: from back on, at most f are looked at. -/
def scan (l : List UInt8) (p : Nat) : Nat → Nat → Nat × Nat → Nat × Nat
  | 0, _, s => s
  | f + 1, back, s => if back ≤ p ∧ back ≤ 32768 ∧ s.1 < 258 then scan l p f (back + 1) (if s.1 < longest l (p - back) p then (longest l (p - back) p, back) else s) else s
def best (l : List UInt8) (p : Nat) : Nat × Nat := scan l p p 1 (0, 0)
def piecesF (l : List UInt8) : Nat → Nat → List Piece
  | 0, _ => []
  | f + 1, p => if p < l.length then (if 3 ≤ (best l p).1 then ⟨(best l p).1, (best l p).2, 0⟩ :: piecesF l f (p + (best l p).1) else ⟨0, 0, l.getD p 0⟩ :: piecesF l f (p + 1)) else []
def pieces (l : List UInt8) : List Piece := piecesF l l.length 0

theorem longest_fits (l : List UInt8) (i k : Nat) (hk : k ≤ l.length) : k + longest l i k ≤ l.length := by
  have key : ∀ f n, k + n ≤ l.length → k + shared l i k f n ≤ l.length := by
    intro f
    induction f with
    | zero => intro n h; simpa [shared] using h
    | succ f ih =>
      intro n h
      unfold shared
      split
      · exact ih _ (by omega)
      · exact h
  exact key 258 0 (by omega)
theorem scan_yes {l : List UInt8} {p back : Nat} {s : Nat × Nat} (h1 : back ≤ p) (h2 : back ≤ 32768) (h3 : s.1 < 258) :
    scan l p (p + 1 - back) back s = scan l p (p + 1 - (back + 1)) (back + 1) (if s.1 < longest l (p - back) p then (longest l (p - back) p, back) else s) := by
  obtain ⟨f, hf⟩ : ∃ f, p + 1 - back = f + 1 := ⟨p - back, by omega⟩
  rw [hf, show p + 1 - (back + 1) = f by omega, scan, if_pos ⟨h1, h2, h3⟩]
theorem scan_no {l : List UInt8} {p back : Nat} {s : Nat × Nat} (h : ¬ (back ≤ p ∧ back ≤ 32768 ∧ s.1 < 258)) : scan l p (p + 1 - back) back s = s := by
  cases hf : p + 1 - back with
  | zero => rfl
  | succ f => rw [scan, if_neg h]
/-- What the scan keeps: no longer than 258, within the bytes, from no further than p back. -/
theorem scan_inv (l : List UInt8) (p : Nat) (hp : p ≤ l.length) : ∀ f back s, s.1 ≤ 258 → p + s.1 ≤ l.length → s.2 ≤ p → s.2 ≤ 32768 → (s.1 = 0 ∨ 1 ≤ s.2) → 1 ≤ back →
    (scan l p f back s).1 ≤ 258 ∧ p + (scan l p f back s).1 ≤ l.length ∧ (scan l p f back s).2 ≤ p ∧ (scan l p f back s).2 ≤ 32768 ∧ ((scan l p f back s).1 = 0 ∨ 1 ≤ (scan l p f back s).2) := by
  intro f
  induction f with
  | zero => intro back s h1 h2 h3 h4 h5 _; exact ⟨h1, h2, h3, h4, h5⟩
  | succ f ih =>
    intro back s h1 h2 h3 h4 h5 h6
    unfold scan
    split
    · rename_i hc
      refine ih _ _ ?_ ?_ ?_ ?_ ?_ (by omega) <;> split
      · exact longest_le _ _ _
      · exact h1
      · exact longest_fits _ _ _ hp
      · exact h2
      · exact hc.1
      · exact h3
      · exact hc.2.1
      · exact h4
      · right; exact h6
      · exact h5
    · exact ⟨h1, h2, h3, h4, h5⟩
theorem best_inv (l : List UInt8) (p : Nat) (hp : p ≤ l.length) : (best l p).1 ≤ 258 ∧ p + (best l p).1 ≤ l.length ∧ (best l p).2 ≤ p ∧ (best l p).2 ≤ 32768 ∧ ((best l p).1 = 0 ∨ 1 ≤ (best l p).2) :=
  scan_inv l p hp p 1 (0, 0) (by omega) (by omega) (by omega) (by omega) (.inl rfl) (by omega)

theorem piecesF_copy {l : List UInt8} {f p : Nat} (hp : p < l.length) (hf : l.length - p ≤ f) (h : 3 ≤ (best l p).1) :
    ∃ g, l.length - (p + (best l p).1) ≤ g ∧ piecesF l f p = ⟨(best l p).1, (best l p).2, 0⟩ :: piecesF l g (p + (best l p).1) := by
  cases f with
  | zero => omega
  | succ f => exact ⟨f, by omega, by rw [piecesF, if_pos hp, if_pos h]⟩
theorem piecesF_byte {l : List UInt8} {f p : Nat} (hp : p < l.length) (hf : l.length - p ≤ f) (h : ¬ 3 ≤ (best l p).1) :
    ∃ g, l.length - (p + 1) ≤ g ∧ piecesF l f p = ⟨0, 0, l.getD p 0⟩ :: piecesF l g (p + 1) := by
  cases f with
  | zero => omega
  | succ f => exact ⟨f, by omega, by rw [piecesF, if_pos hp, if_neg h]⟩
theorem piecesF_end {l : List UInt8} {f p : Nat} (hp : ¬ p < l.length) : piecesF l f p = [] := by
  cases f with
  | zero => rfl
  | succ f => rw [piecesF, if_neg hp]
theorem piecesF_length (l : List UInt8) : ∀ f p, (piecesF l f p).length ≤ f
  | 0, _ => by simp [piecesF]
  | f + 1, p => by
    unfold piecesF
    split
    · split
      · have := piecesF_length l f (p + (best l p).1); simp; omega
      · have := piecesF_length l f (p + 1); simp; omega
    · simp
end Go.Proofs.Ytpfalaghggjbjaa
