/-
  Plain: bits behind one another in bytes.
  Conditions: none.
-/
import Derived.Test.YtpfalaghggjbjaaPlA
namespace Go.Proofs.Ytpfalaghggjbjaa

/-- A byte with bit k or-ed by x. -/
def orBit (c : UInt8) (k x : Nat) : UInt8 := UInt8.ofNat (c.toNat ||| (x * 2 ^ k))
/-- A bit behind n bits. -/
def putBit (s : List UInt8 × Nat) (x : Nat) : List UInt8 × Nat :=
  let b := if s.2 % 8 = 0 then s.1 ++ [0] else s.1
  (b.set (s.2 / 8) (orBit (b.getD (s.2 / 8) 0) (s.2 % 8) x), s.2 + 1)
def putAll (s : List UInt8 × Nat) (l : List Nat) : List UInt8 × Nat := l.foldl putBit s
/-- Bit i of a number. -/
def bitOf (x : Int) (i : Nat) : Nat := ((x / 2 ^ i) % 2).toNat
/-- A field's bits, the lowest first; a code's, the highest first. -/
def fieldBits (x : Int) (n : Nat) : List Nat := (List.range n).map (bitOf x)
def codeBits (x : Int) (n : Nat) : List Nat := (List.range n).reverse.map (bitOf x)

theorem bitOf_lt (x : Int) (i : Nat) : bitOf x i < 2 := by unfold bitOf; omega
theorem putBit_snd (s : List UInt8 × Nat) (x : Nat) : (putBit s x).2 = s.2 + 1 := rfl
theorem putBit_len (s : List UInt8 × Nat) (x : Nat) (h : s.1.length = (s.2 + 7) / 8) : (putBit s x).1.length = ((putBit s x).2 + 7) / 8 := by
  unfold putBit
  simp only [List.length_set]
  split
  · simp; omega
  · omega
theorem putAll_snd (l : List Nat) : ∀ s, (putAll s l).2 = s.2 + l.length := by
  induction l with
  | nil => intro s; rfl
  | cons x l ih => intro s; show (putAll (putBit s x) l).2 = _; rw [ih, putBit_snd]; simp; omega
theorem putAll_len (l : List Nat) : ∀ s : List UInt8 × Nat, s.1.length = (s.2 + 7) / 8 → (putAll s l).1.length = ((putAll s l).2 + 7) / 8 := by
  induction l with
  | nil => intro s h; exact h
  | cons x l ih => intro s h; exact ih _ (putBit_len s x h)
theorem putAll_append (s : List UInt8 × Nat) (l m : List Nat) : putAll s (l ++ m) = putAll (putAll s l) m := List.foldl_append
theorem fieldBits_succ (x : Int) (n : Nat) : fieldBits x (n + 1) = fieldBits x n ++ [bitOf x n] := by simp [fieldBits, List.range_succ]
theorem codeBits_succ (x : Int) (n : Nat) : codeBits x (n + 1) = bitOf x n :: codeBits x n := by simp [codeBits, List.range_succ]
theorem fieldBits_length (x : Int) (n : Nat) : (fieldBits x n).length = n := by simp [fieldBits]
theorem codeBits_length (x : Int) (n : Nat) : (codeBits x n).length = n := by simp [codeBits]
theorem bitOf_shift (x : Int) (k : Nat) : bitOf (x / 2 ^ k) 0 = bitOf x k := by unfold bitOf; simp
theorem putAll_one (s : List UInt8 × Nat) (x : Nat) : putAll s [x] = putBit s x := rfl
theorem putAll_cons (s : List UInt8 × Nat) (x : Nat) (l : List Nat) : putAll s (x :: l) = putAll (putBit s x) l := rfl
end Go.Proofs.Ytpfalaghggjbjaa
