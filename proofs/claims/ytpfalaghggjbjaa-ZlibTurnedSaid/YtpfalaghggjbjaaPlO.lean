/-
  Plain: the lengths of a dynamic block's codes, part by part.
  Conditions: none.
-/
import Derived.Test.YtpfalaghggjbjaaPlL
namespace Go.Proofs.Ytpfalaghggjbjaa

theorem bnd_assoc {α β γ : Type} (m : M α) (f : α → M β) (g : β → M γ) : bnd (bnd m f) g = bnd m fun x => bnd (f x) g := by
  funext b n t o
  unfold bnd bndR
  cases m b n t o <;> rfl
theorem bnd_ret {α β : Type} (x : α) (f : α → M β) : bnd (ret x) f = f x := rfl
/-- The two codes, out of the lengths. -/
def dyn4 (x : Nat) (l : List Nat) : M (List Nat × List Nat) := if okLit (l.take (257 + x)) && okDist (l.drop (257 + x)) then ret (l.take (257 + x), l.drop (257 + x)) else failM 5
def dyn3 (x y : Nat) (C : List Nat) : M (List Nat × List Nat) := if checkP C = (true, 0) then bnd (lensGo C (257 + x + (1 + y)) (257 + x + (1 + y)) []) (dyn4 x) else failM 5
def dyn2 (x y z : Nat) : M (List Nat × List Nat) := bnd (readLens (4 + z) 0 (List.replicate 19 0)) (dyn3 x y)
theorem dynM_eq : dynM = bnd (fieldM 5) fun x => bnd (fieldM 5) fun y => bnd (fieldM 4) fun z => if 286 < 257 + x ∨ 30 < 1 + y then failM 5 else dyn2 x y z := rfl
theorem readLens_step {n i : Nat} {c : List Nat} (h : i < n) (x y : Nat) : bnd (readLens (n - i) i c) (dyn3 x y) = bnd (fieldM 3) fun v => bnd (readLens (n - (i + 1)) (i + 1) (c.set (atN orderL i) v)) (dyn3 x y) := by
  obtain ⟨d, hd⟩ : ∃ d, n - i = d + 1 := ⟨n - i - 1, by omega⟩
  rw [hd, show n - (i + 1) = d by omega]
  show bnd (bnd (fieldM 3) _) _ = _
  rw [bnd_assoc]
theorem lens_len {C : List Nat} {n : Nat} {b : List UInt8} {m : Nat} : ∀ (f : Nat) {l : List Nat} {t : Nat} {o : List UInt8} {l' : List Nat} {t' : Nat} {o' : List UInt8}, l.length ≤ n → n ≤ l.length + f → lensGo C n f l b m t o = .ok l' t' o' → l'.length = n
  | 0, l, t, o, l', t', o', h1, h2, h => by cases h; omega
  | f + 1, l, t, o, l', t', o', h1, h2, h => by
    rw [lensGo] at h
    by_cases hl : l.length < n
    · rw [if_pos hl] at h
      obtain ⟨s, t1, o1, _, h⟩ := bnd_inv h
      by_cases h16 : s = 16
      · rw [if_pos h16] at h
        by_cases h0 : l.length = 0
        · rw [if_pos h0] at h; cases h
        · rw [if_neg h0] at h
          obtain ⟨k, t2, o2, _, h⟩ := bnd_inv h
          by_cases hov : n < l.length + (3 + k)
          · rw [if_pos hov] at h; cases h
          · rw [if_neg hov] at h
            exact lens_len f (by simp; omega) (by simp; omega) h
      · rw [if_neg h16] at h
        by_cases h17 : s = 17
        · rw [if_pos h17] at h
          obtain ⟨k, t2, o2, _, h⟩ := bnd_inv h
          by_cases hov : n < l.length + (3 + k)
          · rw [if_pos hov] at h; cases h
          · rw [if_neg hov] at h
            exact lens_len f (by simp; omega) (by simp; omega) h
        · rw [if_neg h17] at h
          by_cases h18 : s = 18
          · rw [if_pos h18] at h
            obtain ⟨k, t2, o2, _, h⟩ := bnd_inv h
            by_cases hov : n < l.length + (11 + k)
            · rw [if_pos hov] at h; cases h
            · rw [if_neg hov] at h
              exact lens_len f (by simp; omega) (by simp; omega) h
          · rw [if_neg h18] at h
            exact lens_len f (by simp; omega) (by simp; omega) h
    · rw [if_neg hl] at h
      cases h
      omega
end Go.Proofs.Ytpfalaghggjbjaa
