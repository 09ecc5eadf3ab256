/-
  What an argument of type []api.Piece reads as: a list of pieces.
  Conditions: none.
-/
import Derived.Test.YtpfalaghggjbjaaRow
import Derived.Deep.Slices
import Derived.Deep.Strs
import Derived.ChangeSame
import Derived.ChangeArms
namespace Go.Proofs.Ytpfalaghggjbjaa
open Go.RowKit Go.ChangeShapes Go.WideShapes Go.Deep

section
variable {H : Type} {enc : TypeId × Value → H} {W : World} {base : Nat} {spare : Nat → Bool} {held : Bool}
theorem three {α : Type} {l : List α} (h : l.length = 3) : ∃ a b c, l = [a, b, c] := by
  match l, h with
  | [a, b, c], _ => exact ⟨a, b, c, rfl⟩
theorem u8_int {n : Int} (h : (Lit.int .u8 n).wf = true) : ((UInt8.ofNat n.toNat).toNat : Int) = n := by
  have hb := wf_u8 h
  simp
  omega
theorem piece_of_trod {k : Nat} {x : Addr} {i : Nat} {cs : List Value} {y : DataW H × List MemPlace} (hc : W.cells? base (x.add (i * 3)) 3 = some cs) (ht : DataW.trod enc Try.prog W base spare held k 31 cs = some y) :
    ∃ p : Piece, ∀ r, r < 3 → W.cell? (x.add (i * 3 + r)) = (pc p)[r]? := by
  obtain ⟨_, hlen, hat⟩ := World.cells?_some hc
  obtain ⟨y0, y1, y2, n, _, _, h0, h1, h2⟩ := trod_struct3 Try.underlying31 ht
  obtain ⟨c0, c1, c2, rfl⟩ := three hlen
  have k3 : Try.prog.cellsOf 3 = 1 := by kernel_rfl
  have k5 : Try.prog.cellsOf 5 = 1 := by kernel_rfl
  simp only [k3, k5, List.drop_zero, List.drop_succ_cons, List.take_succ_cons, List.take_zero] at h0 h1 h2
  obtain ⟨n0, e0, _, _⟩ := DataW.trod_int Try.underlying3 h0
  obtain ⟨n1, e1, _, _⟩ := DataW.trod_int Try.underlying3 h1
  obtain ⟨n2, e2, _, w2⟩ := DataW.trod_int Try.underlying5 h2
  simp only [List.cons.injEq, and_true] at e0 e1 e2
  subst e0 e1 e2
  refine ⟨⟨n0, n1, UInt8.ofNat n2.toNat⟩, fun r hr => ?_⟩
  rw [← Go.Deep.add_add, hat r hr]
  simp only [pc]
  rw [u8_int w2]
theorem rp_of_trod {fuel : Nat} {a : Option Addr} {len cap : Nat} {y : DataW H × List MemPlace} (hf : DataW.trod enc Try.prog W base (fun _ => true) held fuel 26 [.slice a len cap] = some y) :
    ∃ l : List Piece, RP W a len cap l := by
  rcases open_slice Try.underlying26 hf with ⟨hcs, _⟩ | ⟨x, n, c, m, k, D, Pl, hcs, _, hl, hm, hmm, _, hi⟩
  · simp only [List.cons.injEq, Value.slice.injEq, and_true] at hcs
    obtain ⟨rfl, rfl, rfl⟩ := hcs
    exact ⟨[], rfl, Nat.le_refl _, by omega, .inl rfl⟩
  · simp only [List.cons.injEq, Value.slice.injEq, and_true] at hcs
    obtain ⟨rfl, rfl, rfl⟩ := hcs
    simp only [if_true] at hmm
    have k31 : Try.prog.cellsOf 31 = 3 := by kernel_rfl
    rw [k31] at hi
    have key : ∀ i, i < len → ∃ p : Piece, ∀ r, r < 3 → W.cell? (x.add (i * 3 + r)) = (pc p)[r]? := fun i hi' => by
      obtain ⟨cs', hc, ht⟩ := hi i (by omega)
      exact piece_of_trod hc ht
    have hex : ∃ l : List Piece, l.length = len ∧ ∀ i, i < len → ∀ r, r < 3 → W.cell? (x.add (i * 3 + r)) = (pc (l.getD i ⟨0, 0, 0⟩))[r]? := by
      have step : ∀ n, n ≤ len → ∃ l : List Piece, l.length = n ∧ ∀ i, i < n → ∀ r, r < 3 → W.cell? (x.add (i * 3 + r)) = (pc (l.getD i ⟨0, 0, 0⟩))[r]? := by
        intro n
        induction n with
        | zero => exact fun _ => ⟨[], rfl, fun i h => by omega⟩
        | succ n ih =>
          intro hn
          obtain ⟨l, hl1, hl2⟩ := ih (by omega)
          obtain ⟨p, hp⟩ := key n (by omega)
          refine ⟨l ++ [p], by simp [hl1], fun i hi' r hr => ?_⟩
          by_cases hin : i < n
          · rw [hl2 i hin r hr]
            simp [List.getD, List.getElem?_append_left (show i < l.length by omega)]
          · obtain rfl : i = n := by omega
            rw [hp r hr]
            simp [List.getD, ← hl1]
      exact step len (Nat.le_refl _)
    obtain ⟨l, hll, hcell⟩ := hex
    have hcl := length_cP l
    refine ⟨l, by rw [hcl, hll], hl, by unfold maxLen at hm; omega, ?_⟩
    by_cases h0 : len = 0
    · exact .inl h0
    · right
      have hx := hcell 0 (by omega) 0 (by omega)
      have hs : x.spot = none := by
        have e : x.add (0 * 3 + 0) = x := by simp [Addr.add]
        rw [e] at hx
        have hx : W.cell? x = some (.int .i64 (l.getD 0 ⟨0, 0, 0⟩).len) := hx
        unfold World.cell? at hx
        split at hx
        · split at hx
          · cases hx
          · rename_i hs; simpa using hs
        · cases hx
      obtain ⟨b, off, sp⟩ := x
      simp only at hs
      subst hs
      refine ⟨b, off, rfl, fun j hj => ?_⟩
      rw [hcl] at hj
      have h1 := hcell (j / 3) (by omega) (j % 3) (by omega)
      rw [show j / 3 * 3 + j % 3 = j by omega] at h1
      rw [show (⟨b, off + j, none⟩ : Addr) = (⟨b, off, none⟩ : Addr).add j by simp [Addr.add], h1, ← cP_get l (j / 3) (j % 3) (by omega) (by omega), show j / 3 * 3 + j % 3 = j by omega, List.getElem?_eq_getElem]
end
end Go.Proofs.Ytpfalaghggjbjaa
