/-
  A row of bytes that came in, as the walks' contracts read it.
  Conditions: none.
-/
import Derived.Test.YtpfalaghggjbjaaBase
namespace Go.Proofs.Ytpfalaghggjbjaa
open Go.RowKit

theorem wf_u8 {z : Int} (h : (Lit.int .u8 z).wf = true) : 0 ≤ z ∧ z ≤ 255 := by
  simp [Lit.wf] at h
  have h1 : IntKind.u8.min = 0 := by decide
  have h2 : IntKind.u8.max = 255 := by decide
  omega
theorem rb_of_row {w : World} {a : Option Addr} {n cap : Nat} {zs : List Int}
    (h : (a = none ∧ n = 0 ∧ cap = 0 ∧ zs = []) ∨
      ∃ x, a = some x ∧ n ≤ cap ∧ cap ≤ maxLen ∧ zs.length = cap ∧ (∀ i, i < zs.length → w.cell? (x.add i) = some (.int .u8 (zs.getD i 0))) ∧ ∀ k ∈ zs, (Lit.int .u8 k).wf = true) :
    ∃ l : List UInt8, RB w a n cap l := by
  rcases h with ⟨rfl, rfl, rfl, rfl⟩ | ⟨x, rfl, hn, hm, hz, hc, hw⟩
  · exact ⟨[], by simp, Nat.le_refl _, by omega, .inl rfl⟩
  · refine ⟨(zs.take n).map fun z => UInt8.ofNat z.toNat, by simp; omega, hn, by unfold maxLen at hm; omega, ?_⟩
    by_cases h0 : n = 0
    · exact .inl h0
    · right
      have hx := hc 0 (by omega)
      have hs : x.spot = none := by
        unfold World.cell? at hx
        have e : x.add 0 = x := by simp [Addr.add]
        rw [e] at hx
        split at hx
        · split at hx
          · cases hx
          · rename_i hs; simpa using hs
        · cases hx
      obtain ⟨b, off, sp⟩ := x
      simp only at hs
      subst hs
      refine ⟨b, off, rfl, fun j hj => ?_⟩
      have hj' : j < zs.length ∧ j < n := by simp at hj; omega
      have := hc j hj'.1
      rw [Addr.add_lit] at this
      rw [this]
      have hb := wf_u8 (hw _ (List.getElem_mem hj'.1))
      simp only [cB, List.map_map, List.getElem_map, List.getElem_take, Function.comp, List.getD, List.getElem?_eq_getElem hj'.1, Option.getD_some]
      have e : ((UInt8.ofNat (zs[j]'hj'.1).toNat).toNat : Int) = zs[j]'hj'.1 := by simp; omega
      rw [e]
end Go.Proofs.Ytpfalaghggjbjaa
