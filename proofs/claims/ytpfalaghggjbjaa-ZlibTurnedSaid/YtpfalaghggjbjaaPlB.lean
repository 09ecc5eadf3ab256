/-
  Plain: looking at the places where the same three bytes stand finds the same copies as looking everywhere.
  Conditions: none.
-/
import Derived.Test.YtpfalaghggjbjaaPlA
namespace Go.Proofs.Ytpfalaghggjbjaa

abbrev K3 := UInt8 × UInt8 × UInt8
def tri (l : List UInt8) (i : Nat) : K3 := (l.getD i 0, l.getD (i + 1) 0, l.getD (i + 2) 0)
/-- The places before p at which k stands. -/
def npl (l : List UInt8) (p : Nat) (k : K3) : List Nat := (List.range p).filter (fun i : Nat => decide (i + 3 ≤ l.length ∧ tri l i = k))
def places (l : List UInt8) (p : Nat) (k : K3) : List Int := (npl l p k).map fun i : Nat => (i : Int)
theorem places_yes {l : List UInt8} {i : Nat} (h : i + 3 ≤ l.length) : places l (i + 1) = fun x => if x = tri l i then places l i (tri l i) ++ [(i : Int)] else places l i x := by
  funext x
  unfold places npl
  rw [List.range_succ, List.filter_append]
  split
  · rename_i hx
    subst hx
    simp [h]
  · rename_i hx
    have : ¬ tri l i = x := fun e => hx e.symm
    simp [this]
theorem places_no {l : List UInt8} {i : Nat} (h : ¬ i + 3 ≤ l.length) : places l (i + 1) = places l i := by
  funext x
  unfold places npl
  rw [List.range_succ, List.filter_append]
  have : decide (i + 3 ≤ l.length ∧ tri l i = x) = false := decide_eq_false fun e => h e.1
  rw [List.filter_cons, if_neg (by rw [this]; simp)]
  simp
theorem npl_length (l : List UInt8) (p : Nat) (k : K3) : (npl l p k).length ≤ p := by
  unfold npl
  have := List.length_filter_le (fun i : Nat => decide (i + 3 ≤ l.length ∧ tri l i = k)) (List.range p)
  simpa using this
theorem places_length (l : List UInt8) (p : Nat) (k : K3) : (places l p k).length ≤ p := by
  unfold places
  rw [List.length_map]
  exact npl_length l p k
theorem npl_lt (l : List UInt8) (p : Nat) (k : K3) : ∀ i ∈ npl l p k, i < p := by
  intro i hi
  unfold npl at hi
  simp at hi
  exact hi.1

def pscan (l : List UInt8) (p : Nat) : List Nat → Nat × Nat → Nat × Nat
  | [], s => s
  | q :: qs, s => if p - q ≤ 32768 ∧ s.1 < 258 then pscan l p qs (if s.1 < longest l q p then (longest l q p, p - q) else s) else s

theorem longest_three {l : List UInt8} {q p : Nat} (hp : p + 3 ≤ l.length) : 3 ≤ longest l q p ↔ tri l q = tri l p := by
  unfold longest
  have key : ∀ f n, n ≤ shared l q p f n := fun f n => (shared_le l q p f n).1
  constructor
  · intro h
    by_cases h0 : l.getD q 0 = l.getD p 0
    · by_cases h1 : l.getD (q + 1) 0 = l.getD (p + 1) 0
      · by_cases h2 : l.getD (q + 2) 0 = l.getD (p + 2) 0
        · unfold tri; rw [h0, h1, h2]
        · rw [shared, if_pos ⟨by omega, by simpa using h0⟩, shared, if_pos ⟨by omega, by simpa using h1⟩, shared, if_neg (fun h => h2 (by simpa using h.2))] at h
          omega
      · rw [shared, if_pos ⟨by omega, by simpa using h0⟩, shared, if_neg (fun h => h1 (by simpa using h.2))] at h
        omega
    · rw [shared, if_neg (fun h => h0 (by simpa using h.2))] at h
      omega
  · intro h
    unfold tri at h
    simp only [Prod.mk.injEq] at h
    obtain ⟨h0, h1, h2⟩ := h
    rw [shared, if_pos ⟨by omega, by simpa using h0⟩, shared, if_pos ⟨by omega, by simpa using h1⟩, shared, if_pos ⟨by omega, by simpa using h2⟩]
    exact key _ _

def Alike (s s' : Nat × Nat) : Prop := (3 ≤ s.1 ∧ s' = s) ∨ (s.1 < 3 ∧ s'.1 = 0)

theorem pscan_far {l : List UInt8} {p : Nat} {qs : List Nat} {s : Nat × Nat} (h : ∀ q ∈ qs, ¬ (p - q ≤ 32768 ∧ s.1 < 258)) : pscan l p qs s = s := by
  cases qs with
  | nil => rfl
  | cons q qs => rw [pscan, if_neg (h q (by simp))]

theorem scan_pscan (l : List UInt8) (p : Nat) (hp : p + 3 ≤ l.length) : ∀ f s s', f ≤ p → Alike s s' →
    Alike (scan l p f (p + 1 - f) s) (pscan l p ((List.range f).filter (fun i : Nat => decide (i + 3 ≤ l.length ∧ tri l i = tri l p))).reverse s') := by
  intro f
  induction f with
  | zero => intro s s' _ h; simpa [scan, pscan] using h
  | succ f ih =>
    intro s s' hf h
    rw [List.range_succ, List.filter_append, List.reverse_append]
    rw [show p + 1 - (f + 1) = p - f by omega, scan]
    have hpf : p - (p - f) = f := by omega
    by_cases hc : p - f ≤ p ∧ p - f ≤ 32768 ∧ s.1 < 258
    · rw [if_pos hc, hpf, show p - f + 1 = p + 1 - f by omega]
      have hs' : s'.1 < 258 := by rcases h with ⟨_, rfl⟩ | ⟨_, h⟩ <;> omega
      by_cases ht : tri l f = tri l p
      · have h3 := (longest_three (q := f) hp).2 ht
        have hd : decide (f + 3 ≤ l.length ∧ tri l f = tri l p) = true := decide_eq_true ⟨by omega, ht⟩
        have hfl : List.filter (fun i : Nat => decide (i + 3 ≤ l.length ∧ tri l i = tri l p)) [f] = [f] := by simp only [List.filter, hd]
        have hps : ∀ qs, pscan l p (f :: qs) s' = pscan l p qs (if s'.1 < longest l f p then (longest l f p, p - f) else s') := fun qs => by rw [pscan, if_pos ⟨hc.2.1, hs'⟩]
        rw [hfl, List.reverse_singleton, List.singleton_append, hps]
        refine ih _ _ (by omega) ?_
        rcases h with ⟨h, rfl⟩ | ⟨h, h'⟩
        · split
          · exact .inl ⟨h3, rfl⟩
          · exact .inl ⟨h, rfl⟩
        · rw [if_pos (by omega), if_pos (by omega)]
          exact .inl ⟨h3, rfl⟩
      · have h3 : ¬ 3 ≤ longest l f p := fun h => ht ((longest_three hp).1 h)
        have hd : decide (f + 3 ≤ l.length ∧ tri l f = tri l p) = false := decide_eq_false fun e => ht e.2
        have hfl : List.filter (fun i : Nat => decide (i + 3 ≤ l.length ∧ tri l i = tri l p)) [f] = [] := by simp only [List.filter, hd]
        rw [hfl, List.reverse_nil, List.nil_append]
        refine ih _ _ (by omega) ?_
        rcases h with ⟨h, rfl⟩ | ⟨h, h'⟩
        · rw [if_neg (by omega)]; exact .inl ⟨h, rfl⟩
        · right
          refine ⟨?_, h'⟩
          split
          · show longest l f p < 3; omega
          · exact h
    · rw [if_neg hc, pscan_far]
      · exact h
      · intro q hq hcq
        have hqf : q ≤ f := by
          simp only [List.mem_append, List.mem_reverse, List.mem_filter, List.mem_range, List.mem_singleton] at hq
          rcases hq with hq | hq <;> omega
        refine hc ⟨by omega, by omega, ?_⟩
        rcases h with ⟨_, rfl⟩ | ⟨h, _⟩
        · exact hcq.2
        · omega

/-- What looking at the noted places finds is the best, where that is a copy. -/
theorem pscan_best (l : List UInt8) (p : Nat) (hp : p + 3 ≤ l.length) : Alike (best l p) (pscan l p (npl l p (tri l p)).reverse (0, 0)) := by
  have := scan_pscan l p hp p (0, 0) (0, 0) (Nat.le_refl _) (.inr ⟨by decide, rfl⟩)
  rw [show p + 1 - p = 1 by omega] at this
  exact this
theorem best_short (l : List UInt8) (p : Nat) (hp : p ≤ l.length) (h : ¬ p + 3 ≤ l.length) : (best l p).1 < 3 := by
  have := best_inv l p hp
  omega
theorem pscan_step {l : List UInt8} {p j : Nat} {ps : List Nat} {s : Nat × Nat} (hj : j < ps.length) (h1 : p - atN ps j ≤ 32768) (h2 : s.1 < 258) :
    pscan l p (ps.take (j + 1)).reverse s = pscan l p (ps.take j).reverse (if s.1 < longest l (atN ps j) p then (longest l (atN ps j) p, p - atN ps j) else s) := by
  have e : atN ps j = ps[j] := by simp [atN, List.getD, List.getElem?_eq_getElem hj]
  rw [List.take_succ_eq_append_getElem hj, List.reverse_append, List.reverse_singleton, List.singleton_append, pscan, ← e, if_pos ⟨h1, h2⟩]
theorem pscan_stop {l : List UInt8} {p j : Nat} {ps : List Nat} {s : Nat × Nat} (hj : j < ps.length) (h : ¬ (p - atN ps j ≤ 32768 ∧ s.1 < 258)) :
    pscan l p (ps.take (j + 1)).reverse s = s := by
  have e : atN ps j = ps[j] := by simp [atN, List.getD, List.getElem?_eq_getElem hj]
  rw [List.take_succ_eq_append_getElem hj, List.reverse_append, List.reverse_singleton, List.singleton_append, pscan, ← e, if_neg h]
end Go.Proofs.Ytpfalaghggjbjaa
