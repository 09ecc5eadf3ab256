/-
  Plain: which symbol a length has, and which a distance; whether a piece may be; what pieces make.
  Conditions: none.
-/
import Derived.Test.YtpfalaghggjbjaaPlA
namespace Go.Proofs.Ytpfalaghggjbjaa

/-- The last k from a to a + n with f k ≤ x (a where there is none). -/
def lastLe (f : Nat → Nat) (x a : Nat) : Nat → Nat
  | 0 => a
  | n + 1 => if f (a + n + 1) ≤ x then a + n + 1 else lastLe f x a n

theorem lastLe_ge (f : Nat → Nat) (x a : Nat) : ∀ n, a ≤ lastLe f x a n ∧ lastLe f x a n ≤ a + n
  | 0 => by simp [lastLe]
  | n + 1 => by
    have := lastLe_ge f x a n
    unfold lastLe
    split <;> omega
theorem lastLe_eq {f : Nat → Nat} {x a n s : Nat} (hmono : ∀ i j, a ≤ i → i < j → j ≤ a + n → f i ≤ f j) (ha : a ≤ s) (hs : s ≤ a + n) (h1 : s = a ∨ f s ≤ x) (h2 : s = a + n ∨ x < f (s + 1)) : lastLe f x a n = s := by
  induction n with
  | zero => unfold lastLe; omega
  | succ n ih =>
    unfold lastLe
    by_cases hsn : s = a + (n + 1)
    · have h0 : f (a + n + 1) ≤ x := by
        rcases h1 with h1 | h1
        · omega
        · rw [show a + n + 1 = s by omega]; exact h1
      rw [if_pos h0]
      omega
    · have hx : x < f (s + 1) := by
        rcases h2 with h2 | h2
        · omega
        · exact h2
      have : f (s + 1) ≤ f (a + n + 1) := by
        by_cases e : s + 1 = a + n + 1
        · rw [e]; exact Nat.le_refl _
        · exact hmono _ _ (by omega) (by omega) (by omega)
      rw [if_neg (by omega)]
      exact ih (fun i j h1 h2 h3 => hmono i j h1 h2 (by omega)) (by omega) (.inr hx)

def lbits (s : Nat) : Nat := if s = 285 then 0 else if s < 265 then 0 else (s - 261) / 4
def lbase (s : Nat) : Nat := if s = 285 then 258 else if s < 265 then s - 254 else 3 + (4 + (s - 261) % 4) * 2 ^ ((s - 261) / 4)
def dbits (s : Nat) : Nat := if s < 4 then 0 else (s - 2) / 2
def dbase (s : Nat) : Nat := if s < 4 then s + 1 else 1 + (2 + s % 2) * 2 ^ ((s - 2) / 2)
def lsym (n : Nat) : Nat := if n = 258 then 285 else lastLe lbase n 257 27
def dsym (n : Nat) : Nat := lastLe dbase n 0 29

theorem lbase_mono : ∀ i, i ≤ 27 → ∀ j, j ≤ 27 → i < j → lbase (257 + i) ≤ lbase (257 + j) := by decide
theorem dbase_mono : ∀ i, i ≤ 29 → ∀ j, j ≤ 29 → i < j → dbase i ≤ dbase j := by decide
theorem lsym_eq {n s : Nat} (hn : n < 258) (h1 : 257 ≤ s) (h2 : s ≤ 284) (h3 : lbase s ≤ n) (h4 : s = 284 ∨ n < lbase (s + 1)) : lsym n = s := by
  unfold lsym
  rw [if_neg (by omega)]
  refine lastLe_eq (fun i j h1 h2 h3 => ?_) h1 (by omega) (.inr h3) (by omega)
  have := lbase_mono (i - 257) (by omega) (j - 257) (by omega) (by omega)
  rwa [show 257 + (i - 257) = i by omega, show 257 + (j - 257) = j by omega] at this
theorem dsym_eq {n s : Nat} (h2 : s ≤ 29) (h3 : dbase s ≤ n) (h4 : s = 29 ∨ n < dbase (s + 1)) : dsym n = s := by
  unfold dsym
  refine lastLe_eq (fun i j _ h2 h3 => dbase_mono i (by omega) j (by omega) h2) (by omega) (by omega) (.inr h3) (by omega)

def mayB (p : Piece) : Bool := if p.len = 0 then decide (p.dist = 0) else decide (3 ≤ p.len ∧ p.len ≤ 258 ∧ 1 ≤ p.dist ∧ p.dist ≤ 32768 ∧ p.byte = 0)

/-- A copy of n bytes from d back. -/
def copyN : Nat → Nat → List UInt8 → List UInt8
  | 0, _, out => out
  | n + 1, d, out => copyN n d (out ++ [out.getD (out.length - d) 0])
/-- What pieces make behind bytes, and the error (2: no piece; 5: from too far back). -/
def expand : List Piece → List UInt8 → List UInt8 × Nat
  | [], out => (out, 0)
  | p :: ps, out => if mayB p = false then ([], 2) else if p.len = 0 then expand ps (out ++ [p.byte]) else if (out.length : Int) < p.dist then ([], 5) else expand ps (copyN p.len.toNat p.dist.toNat out)

theorem mayB_cases {p : Piece} (h : mayB p = true) : (p.len = 0 ∧ p.dist = 0) ∨ (3 ≤ p.len ∧ p.len ≤ 258 ∧ 1 ≤ p.dist ∧ p.dist ≤ 32768 ∧ p.byte = 0) := by
  unfold mayB at h
  split at h
  · rename_i h0; exact .inl ⟨h0, by simpa using h⟩
  · right; simpa using h
theorem copyN_length (n d : Nat) : ∀ out, (copyN n d out).length = out.length + n := by
  induction n with
  | zero => intro out; rfl
  | succ n ih => intro out; show (copyN n d _).length = _; rw [ih]; simp; omega
theorem expand_length (l : List Piece) : ∀ out, (expand l out).1.length ≤ out.length + 258 * l.length := by
  induction l with
  | nil => intro out; simp [expand]
  | cons p ps ih =>
    intro out
    unfold expand
    split
    · simp
    · rename_i hm
      split
      · have := ih (out ++ [p.byte]); simp at this ⊢; omega
      · rename_i h0
        split
        · simp
        · have := ih (copyN p.len.toNat p.dist.toNat out)
          rw [copyN_length] at this
          have hm' : mayB p = true := by simpa using hm
          rcases mayB_cases hm' with ⟨h1, _⟩ | ⟨h1, h2, _⟩
          · exact absurd h1 h0
          · simp; omega
theorem copyN_step {n d k : Nat} {out : List UInt8} (h : k < n) : copyN (n - k) d out = copyN (n - (k + 1)) d (out ++ [out.getD (out.length - d) 0]) := by
  rw [show n - k = n - (k + 1) + 1 by omega]; rfl
end Go.Proofs.Ytpfalaghggjbjaa
