/-
  Plain: squeezed frames.
  Conditions: none.
-/
import Derived.Test.YtpfalaghggjbjaaPlS
import Derived.Test.YtpfalaghggjbjaaPlI
namespace Go.Proofs.Ytpfalaghggjbjaa

/-- A number's k lowest bytes, the lowest first. -/
def le (x k : Nat) : List UInt8 := (List.range k).map fun i => UInt8.ofNat (x / 256 ^ i)
theorem le_length (x k : Nat) : (le x k).length = k := by simp [le]
theorem le_succ (x k : Nat) : le x (k + 1) = le x k ++ [UInt8.ofNat (x / 256 ^ k)] := by simp [le, List.range_succ]
end Go.Proofs.Ytpfalaghggjbjaa
