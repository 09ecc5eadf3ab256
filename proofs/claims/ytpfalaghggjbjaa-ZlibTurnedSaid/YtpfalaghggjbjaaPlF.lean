/-
  Plain: pieces as bits of the fixed codes.
  Conditions: none.
-/
import Derived.Test.YtpfalaghggjbjaaPlC
import Derived.Test.YtpfalaghggjbjaaPlD
import Derived.Test.YtpfalaghggjbjaaPlH
namespace Go.Proofs.Ytpfalaghggjbjaa

/-- A number of a list of numbers, which may be below 0. -/
def atZ (l : List Int) (j : Nat) : Int := l.getD j 0
/-- Symbol j's code, as bits. -/
def codeFor (l : List Nat) (j : Nat) : List Nat := codeBits (atZ (codesP l) j) (atN l j)
def pieceBits (L D : List Nat) (p : Piece) : List Nat :=
  if p.len = 0 then codeFor L p.byte.toNat
  else codeFor L (lsym p.len.toNat) ++ (fieldBits (p.len - (lbase (lsym p.len.toNat) : Nat)) (lbits (lsym p.len.toNat)) ++ (codeFor D (dsym p.dist.toNat) ++ fieldBits (p.dist - (dbase (dsym p.dist.toNat) : Nat)) (dbits (dsym p.dist.toNat))))
def restBits (L D : List Nat) (ps : List Piece) : List Nat := ps.flatMap (pieceBits L D) ++ codeFor L 256
def fixedBits (L D : List Nat) (ps : List Piece) : List Nat := fieldBits 1 1 ++ (fieldBits 1 2 ++ restBits L D ps)
def fixedG (L D : List Nat) (ps : List Piece) : List UInt8 × Nat := if (expand ps []).2 = 0 then ((putAll ([], 0) (fixedBits L D ps)).1, 0) else ([], (expand ps []).2)
def fixedP (ps : List Piece) : List UInt8 × Nat := fixedG fixL fixD ps
/-- What the lengths of codes must be for the pieces to be told. -/
structure Tab (L D : List Nat) : Prop where
  l1 : L.length = 288
  l2 : D.length = 32
  b1 : ∀ x ∈ L, x ≤ 9
  b2 : ∀ x ∈ D, x ≤ 9
  o1 : (checkP L).2 = 0
  o2 : (checkP D).2 = 0

theorem restBits_cons (L D : List Nat) (p : Piece) (ps : List Piece) : restBits L D (p :: ps) = pieceBits L D p ++ restBits L D ps := by simp [restBits]
theorem fixL_length : fixL.length = 288 := fixT_length 288
theorem fixD_length : fixD.length = 32 := by simp [fixD]
theorem codesP_length (l : List Nat) : (codesP l).length = l.length := by simp [codesP]
theorem fixL_le : ∀ x ∈ fixL, x ≤ 9 := by decide +kernel
theorem fixD_le : ∀ x ∈ fixD, x ≤ 9 := by decide +kernel
theorem fixL_ok : (checkP fixL).2 = 0 := by decide +kernel
theorem fixD_ok : (checkP fixD).2 = 0 := by decide +kernel
theorem fixTab : Tab fixL fixD := ⟨fixL_length, fixD_length, fixL_le, fixD_le, fixL_ok, fixD_ok⟩
theorem lsym_le {n : Nat} (_h : n ≤ 258) : lsym n ≤ 285 := by
  unfold lsym; split
  · omega
  · have := lastLe_ge lbase n 257 27; omega
theorem dsym_le (n : Nat) : dsym n ≤ 29 := by have := lastLe_ge dbase n 0 29; unfold dsym; omega
theorem lbits_le {s : Nat} (h : s ≤ 285) : lbits s ≤ 6 := by unfold lbits; split <;> (try split) <;> omega
theorem dbits_le {s : Nat} (h : s ≤ 29) : dbits s ≤ 13 := by unfold dbits; split <;> omega
theorem lbase_le {n : Nat} (h1 : 3 ≤ n) (h : n ≤ 258) : lbase (lsym n) ≤ n := by
  unfold lsym; split
  · rename_i e; subst e; decide
  · have key : ∀ k, lbase 257 ≤ n → lbase (lastLe lbase n 257 k) ≤ n := by
      intro k hk
      induction k with
      | zero => exact hk
      | succ k ih => unfold lastLe; split <;> assumption
    exact key 27 (by show 3 ≤ n; exact h1)
theorem dbase_le {n : Nat} (h1 : 1 ≤ n) : dbase (dsym n) ≤ n := by
  have key : ∀ k, dbase 0 ≤ n → dbase (lastLe dbase n 0 k) ≤ n := by
    intro k hk
    induction k with
    | zero => exact hk
    | succ k ih => unfold lastLe; split <;> assumption
  exact key 29 (by show 1 ≤ n; exact h1)
/-- The pieces that expand may be, one and all. -/
theorem expand_may : ∀ (l : List Piece) (out : List UInt8), (expand l out).2 = 0 → ∀ p ∈ l, mayB p = true
  | [], _, _, p, hp => by simp at hp
  | q :: l, out, h, p, hp => by
    unfold expand at h
    by_cases hm : mayB q = true
    · have : ∃ o, (expand l o).2 = 0 := by
        simp only [hm] at h
        revert h
        repeat' split
        all_goals (intro h; first | (exact ⟨_, h⟩) | (simp at h))
      obtain ⟨o, ho⟩ := this
      rcases List.mem_cons.1 hp with rfl | hp
      · exact hm
      · exact expand_may l o ho p hp
    · simp [hm] at h
end Go.Proofs.Ytpfalaghggjbjaa
