/-
  Plain: Adler-32.
  Conditions: none.
-/
import Derived.Test.YtpfalaghggjbjaaPlA
namespace Go.Proofs.Ytpfalaghggjbjaa

def adlerStep (s : Nat × Nat) (c : UInt8) : Nat × Nat := ((s.1 + c.toNat) % 65521, (s.2 + (s.1 + c.toNat) % 65521) % 65521)
def adlerOf (l : List UInt8) : Nat × Nat := l.foldl adlerStep (1, 0)
def adler (l : List UInt8) : Nat := (adlerOf l).2 * 65536 + (adlerOf l).1
theorem adlerOf_take {l : List UInt8} {i : Nat} (h : i < l.length) : adlerOf (l.take (i + 1)) = adlerStep (adlerOf (l.take i)) (l.getD i 0) := by
  unfold adlerOf
  rw [List.take_succ_eq_append_getElem h, List.foldl_append]
  simp [List.getD, List.getElem?_eq_getElem h]
theorem adlerOf_lt (l : List UInt8) : (adlerOf l).1 < 65521 ∧ (adlerOf l).2 < 65521 := by
  have key : ∀ (l : List UInt8) (s : Nat × Nat), s.1 < 65521 ∧ s.2 < 65521 → (l.foldl adlerStep s).1 < 65521 ∧ (l.foldl adlerStep s).2 < 65521 := by
    intro l
    induction l with
    | nil => intro s h; exact h
    | cons c l ih => intro s _; exact ih _ ⟨Nat.mod_lt _ (by decide), Nat.mod_lt _ (by decide)⟩
  exact key l (1, 0) (by decide)
theorem adler_lt (l : List UInt8) : adler l < 4294967296 := by have := adlerOf_lt l; unfold adler; omega
end Go.Proofs.Ytpfalaghggjbjaa
