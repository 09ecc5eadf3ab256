/-
  Plain: stored blocks; whole bytes put as bits.
  Conditions: none.
-/
import Derived.Test.YtpfalaghggjbjaaPlF
namespace Go.Proofs.Ytpfalaghggjbjaa

def head5 (fin n : Nat) : List UInt8 := [UInt8.ofNat fin, UInt8.ofNat n, UInt8.ofNat (n / 256), UInt8.ofNat (255 - n % 256), UInt8.ofNat (255 - n / 256)]
/-- Stored blocks, of at most 65535 bytes each. -/
def storedF : Nat → List UInt8 → List UInt8
  | 0, _ => []
  | f + 1, l => head5 (if l.length ≤ 65535 then 1 else 0) (min l.length 65535) ++ l.take 65535 ++ if l.length ≤ 65535 then [] else storedF f (l.drop 65535)
def stored (l : List UInt8) : List UInt8 := storedF (l.length + 1) l

theorem storedF_last {f : Nat} {l : List UInt8} (h : l.length ≤ 65535) : storedF (f + 1) l = head5 1 l.length ++ l := by
  unfold storedF
  rw [if_pos h, if_pos h, Nat.min_eq_left h, List.take_of_length_le h, List.append_nil]
theorem storedF_more {f : Nat} {l : List UInt8} (h : ¬ l.length ≤ 65535) : storedF (f + 1) l = head5 0 65535 ++ l.take 65535 ++ storedF f (l.drop 65535) := by
  rw [storedF, if_neg h, if_neg h, Nat.min_eq_right (by omega)]
theorem storedF_length : ∀ (f : Nat) (l : List UInt8), l.length < f → (storedF f l).length ≤ 6 * l.length + 5
  | 0, l, h => by omega
  | f + 1, l, h => by
    by_cases hl : l.length ≤ 65535
    · rw [storedF_last hl]; simp [head5]; omega
    · rw [storedF_more hl]
      have := storedF_length f (l.drop 65535) (by simp; omega)
      simp [head5] at this ⊢
      omega

/-- A byte's bits so far: k of them. -/
def byteOf : List Nat → Nat → UInt8 → UInt8
  | [], _, c => c
  | x :: l, k, c => byteOf l (k + 1) (orBit c k x)
theorem putAll_in (l : List Nat) : ∀ (bs : List UInt8) (c : UInt8) (k : Nat), 0 < k → k + l.length ≤ 8 → putAll (bs ++ [c], 8 * bs.length + k) l = (bs ++ [byteOf l k c], 8 * bs.length + (k + l.length)) := by
  induction l with
  | nil => intro bs c k _ _; rfl
  | cons x l ih =>
    intro bs c k hk hle
    simp only [List.length_cons] at hle
    have e : putBit (bs ++ [c], 8 * bs.length + k) x = (bs ++ [orBit c k x], 8 * bs.length + (k + 1)) := by
      unfold putBit
      have h2 : (8 * bs.length + k) / 8 = bs.length := by omega
      have h3 : (8 * bs.length + k) % 8 = k := by omega
      simp only [h2, h3]
      rw [if_neg (by omega)]
      simp [List.getD, Nat.add_assoc]
    rw [putAll_cons, e, ih bs _ (k + 1) (by omega) (by omega)]
    simp [byteOf]; omega
/-- Up to eight bits, put at a byte's edge, are one byte. -/
theorem putAll_byte (bs : List UInt8) (l : List Nat) (h0 : l ≠ []) (h8 : l.length ≤ 8) : putAll (bs, 8 * bs.length) l = (bs ++ [byteOf l 0 0], 8 * bs.length + l.length) := by
  cases l with
  | nil => exact absurd rfl h0
  | cons x l =>
    have e : putBit (bs, 8 * bs.length) x = (bs ++ [orBit 0 0 x], 8 * bs.length + 1) := by
      unfold putBit
      have h1 : (8 * bs.length) % 8 = 0 := by omega
      have h2 : (8 * bs.length) / 8 = bs.length := by omega
      simp only [h1, h2]
      simp [List.getD]
    simp only [List.length_cons] at h8
    rw [putAll_cons, e, putAll_in l bs _ 1 (by omega) (by omega)]
    simp [byteOf]; omega
theorem bitOf_mod (x : Int) (i : Nat) (hi : i < 8) : bitOf x i = bitOf (x % 256) i := by
  unfold bitOf
  have : i = 0 ∨ i = 1 ∨ i = 2 ∨ i = 3 ∨ i = 4 ∨ i = 5 ∨ i = 6 ∨ i = 7 := by omega
  rcases this with rfl | rfl | rfl | rfl | rfl | rfl | rfl | rfl <;> (simp <;> omega)
theorem byteOf_field8 : ∀ k : Fin 256, byteOf (fieldBits (k.val : Int) 8) 0 0 = UInt8.ofNat k.val := by decide +kernel
theorem fieldBits_mod (x : Int) : fieldBits x 8 = fieldBits (x % 256) 8 := by
  unfold fieldBits
  apply List.map_congr_left
  intro i hi
  exact bitOf_mod x i (by simpa using hi)
theorem byteOf_field (x : Int) (k : Nat) (h : x % 256 = ((k % 256 : Nat) : Int)) : byteOf (fieldBits x 8) 0 0 = UInt8.ofNat k := by
  rw [fieldBits_mod, h]
  have := byteOf_field8 ⟨k % 256, Nat.mod_lt _ (by decide)⟩
  rw [this]
  apply UInt8.toNat_inj.1
  simp
theorem fieldBits_split (x : Int) : fieldBits x 16 = fieldBits x 8 ++ fieldBits (x / 256) 8 := by
  unfold fieldBits
  rw [show 16 = 8 + 8 from rfl, List.range_add, List.map_append, List.map_map]
  congr 1
  apply List.map_congr_left
  intro i _
  unfold bitOf
  simp only [Function.comp]
  rw [Int.pow_add, Int.ediv_ediv_of_nonneg (by decide)]
  congr 2
/-- A field of 16 bits, put at a byte's edge, is two bytes. -/
theorem putAll_16 (bs : List UInt8) (x : Int) (a b : Nat) (ha : x % 256 = ((a % 256 : Nat) : Int)) (hb : x / 256 % 256 = ((b % 256 : Nat) : Int)) : putAll (bs, 8 * bs.length) (fieldBits x 16) = (bs ++ [UInt8.ofNat a, UInt8.ofNat b], 8 * (bs.length + 2)) := by
  have l8 : ∀ y, (fieldBits y 8).length = 8 := fun y => fieldBits_length y 8
  have n8 : ∀ y, fieldBits y 8 ≠ [] := fun y h => by have := l8 y; rw [h] at this; simp at this
  rw [fieldBits_split, putAll_append, putAll_byte bs _ (n8 _) (by rw [l8]; omega), l8, byteOf_field x a ha]
  have e : 8 * bs.length + 8 = 8 * (bs ++ [UInt8.ofNat a]).length := by simp; omega
  rw [e, putAll_byte _ _ (n8 _) (by rw [l8]; omega), l8, byteOf_field _ b hb]
  simp; omega
theorem putAll_3 (bs : List UInt8) (fin : Nat) (h : fin = 0 ∨ fin = 1) : putAll (bs, 8 * bs.length) (fieldBits (fin : Int) 3) = (bs ++ [UInt8.ofNat fin], 8 * bs.length + 3) := by
  rw [putAll_byte bs _ (by rcases h with rfl | rfl <;> decide) (by rw [fieldBits_length]; omega), fieldBits_length]
  have : byteOf (fieldBits (fin : Int) 3) 0 0 = UInt8.ofNat fin := by rcases h with rfl | rfl <;> decide +kernel
  rw [this]
end Go.Proofs.Ytpfalaghggjbjaa
