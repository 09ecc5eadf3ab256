/-
  Plain: what stands in the pieces is the longest copy, and of those the nearest.
  Conditions: none.
-/
import Derived.Test.YtpfalaghggjbjaaPlA
namespace Go.Proofs.Ytpfalaghggjbjaa

/-- No place from 1 to m back has a longer copy than s, nor one as long that is nearer. -/
def Top (l : List UInt8) (p m : Nat) (s : Nat × Nat) : Prop := ∀ b, 1 ≤ b → b ≤ m → longest l (p - b) p ≤ s.1 ∧ (longest l (p - b) p = s.1 → 0 < s.1 → s.2 ≤ b)

theorem scan_top (l : List UInt8) (p : Nat) : ∀ f back s, back + f = p + 1 → Top l p (back - 1) s → 1 ≤ back → p ≤ 32768 → s.1 ≤ 258 → (s.1 = 0 ∨ s.2 ≤ back - 1) → Top l p p (scan l p f back s)
  | 0, back, s, hf, ht, _, _, _, _ => by
    have : back - 1 = p := by omega
    rw [this] at ht
    exact ht
  | f + 1, back, s, hf, ht, hb, hp, h258, hs2 => by
    unfold scan
    split
    · rename_i hc
      refine scan_top l p f (back + 1) _ (by omega) ?_ (by omega) hp ?_ ?_
      · intro b h1 h2
        by_cases hbb : b = back
        · subst hbb
          split
          · exact ⟨Nat.le_refl _, fun _ _ => Nat.le_refl _⟩
          · refine ⟨by omega, fun _ h0 => ?_⟩
            rcases hs2 with h | h
            · omega
            · omega
        · have := ht b h1 (by omega)
          split
          · exact ⟨by show _ ≤ longest l (p - back) p; omega, fun he _ => by
              have he : longest l (p - b) p = longest l (p - back) p := he
              omega⟩
          · exact this
      · split
        · exact longest_le _ _ _
        · exact h258
      · split
        · right; show back ≤ _; omega
        · rcases hs2 with h | h
          · exact .inl h
          · right; omega
    · rename_i hc
      intro b h1 h2
      by_cases hb1 : b ≤ back - 1
      · exact ht b h1 hb1
      · have h3 : s.1 = 258 := by omega
        have h4 := longest_le l (p - b) p
        refine ⟨by omega, fun _ _ => ?_⟩
        rcases hs2 with h | h <;> omega
theorem best_top (l : List UInt8) (p : Nat) (hp : p ≤ 32768) : Top l p p (best l p) :=
  scan_top l p p 1 (0, 0) (by omega) (fun b h1 h2 => by omega) (by omega) hp (by simp) (.inl rfl)

/-- The first of the pieces from p on. -/
theorem piecesF_cons {l : List UInt8} {f p : Nat} (hp : p < l.length) (hf : l.length - p ≤ f) :
    ∃ (c : Piece) (n g : Nat), piecesF l f p = c :: piecesF l g (p + n) ∧ l.length - (p + n) ≤ g ∧ p + n ≤ l.length ∧ 1 ≤ n ∧ n ≤ 258 ∧ ((c.len = 0 ∧ n = 1 ∧ c.byte = l.getD p 0 ∧ (best l p).1 < 3) ∨ (c.len = n ∧ 3 ≤ n ∧ (best l p).1 = n ∧ c.dist = ((best l p).2 : Int))) := by
  have hi := best_inv l p (by omega)
  by_cases h : 3 ≤ (best l p).1
  · obtain ⟨g, hg, e⟩ := piecesF_copy hp hf h
    exact ⟨_, _, g, e, hg, by omega, by omega, by omega, .inr ⟨rfl, h, rfl, rfl⟩⟩
  · obtain ⟨g, hg, e⟩ := piecesF_byte hp hf h
    exact ⟨_, 1, g, e, hg, by omega, by omega, by omega, .inl ⟨rfl, rfl, rfl, by omega⟩⟩
end Go.Proofs.Ytpfalaghggjbjaa
