/-
  Plain: where a stream ends: what lies behind it, what is missing of it, what there is room for; its blocks.
  Conditions: none.
-/
import Derived.Test.YtpfalaghggjbjaaPlJ
namespace Go.Proofs.Ytpfalaghggjbjaa

theorem inflateP_ok {b : List UInt8} {n : Nat} {l : List Blk} {t : Nat} {o : List UInt8} (h : blocksM b n 0 [] = .ok l t o) : inflateP b n = (o, (t + 7) / 8, 0) := by unfold inflateP; rw [h]
theorem inflateP_no {b : List UInt8} {n e : Nat} (h : blocksM b n 0 [] = .no e) : inflateP b n = ([], 0, e) := by unfold inflateP; rw [h]
theorem inflateP_inv {b : List UInt8} {n : Nat} : (∃ l t o, blocksM b n 0 [] = .ok l t o ∧ inflateP b n = (o, (t + 7) / 8, 0) ∧ blocksP b n = (l, 0)) ∨ (∃ e, blocksM b n 0 [] = .no e ∧ inflateP b n = ([], 0, e) ∧ blocksP b n = ([], e)) := by
  unfold inflateP blocksP
  cases h : blocksM b n 0 [] with
  | ok l t o => exact .inl ⟨l, t, o, rfl, rfl, rfl⟩
  | no e => exact .inr ⟨e, rfl, rfl, rfl⟩

/-- Errors are never 0. -/
def Errs {α : Type} (m : M α) : Prop := ∀ {b n t o e}, m b n t o = .no e → e ≠ 0 ∧ e < 100
theorem errs_ret {α : Type} (x : α) : Errs (ret x) := fun h => by cases h
theorem errs_fail {α : Type} {e : Nat} (he : e ≠ 0) (h2 : e < 100) : Errs (failM e : M α) := fun h => by cases h; exact ⟨he, h2⟩
theorem errs_bit : Errs bitM := fun h => by
  unfold bitM at h
  split at h <;> cases h
  exact ⟨by decide, by decide⟩
theorem errs_tell (c : UInt8) : Errs (tellM c) := fun h => by
  unfold tellM at h
  split at h <;> cases h
  exact ⟨by decide, by decide⟩
theorem errs_align : Errs alignM := fun h => by cases h
theorem errs_out : Errs outM := fun h => by cases h
theorem errs_at : Errs atM := fun h => by cases h
theorem errs_bnd {α β : Type} {m : M α} {f : α → M β} (hm : Errs m) (hf : ∀ x, Errs (f x)) : Errs (bnd m f) := by
  intro b n t o e h
  unfold bnd bndR at h
  split at h
  · exact hf _ h
  · cases h; exact hm (by assumption)
theorem errs_ite {α : Type} {p : Prop} [Decidable p] {m m' : M α} (h : Errs m) (h' : Errs m') : Errs (if p then m else m') := by
  by_cases hp : p
  · rw [if_pos hp]; exact h
  · rw [if_neg hp]; exact h'
theorem errs_bad {α : Type} : Errs (failM 5 : M α) := errs_fail (by decide) (by decide)
theorem errs_never {α : Type} : Errs (failM 99 : M α) := errs_fail (by decide) (by decide)
theorem errs_field (n : Nat) : Errs (fieldM n) := by
  have key : ∀ n i x, Errs (fieldGo n i x) := by
    intro n
    induction n with
    | zero => intro i x; exact errs_ret x
    | succ n ih => intro i x; exact errs_bnd errs_bit fun y => ih _ _
  intro b m t o e h
  exact key n 0 0 h
theorem errs_rep (n : Nat) {m : M Unit} (hm : Errs m) : Errs (repM n m) := by
  induction n with
  | zero => exact errs_ret ()
  | succ n ih => exact errs_bnd hm fun _ => ih
theorem errs_stored : Errs storedM :=
  errs_bnd errs_align fun _ => errs_bnd (errs_field _) fun _ => errs_bnd (errs_field _) fun _ => errs_ite (errs_rep _ (errs_bnd (errs_field _) fun _ => errs_tell _)) errs_bad
theorem errs_sym (L : List Nat) : Errs (symM L) := by
  have key : ∀ f i x, Errs (symGo L f i x) := by
    intro f
    induction f with
    | zero => intro i x; exact errs_bad
    | succ f ih =>
      intro i x
      refine errs_bnd errs_bit fun y => ?_
      cases symOf L i (2 * x + y) with
      | some s => exact errs_ret _
      | none => exact ih _ _
  intro b m t o e h
  exact key _ _ _ h
theorem errs_copy (k n : Nat) : Errs (copyM k n) := errs_rep _ (errs_bnd errs_out fun _ => errs_tell _)
theorem errs_piece (D : List Nat) (s : Nat) : Errs (pieceM D s) :=
  errs_ite errs_bad (errs_bnd (errs_field _) fun _ => errs_bnd (errs_sym _) fun _ => errs_ite errs_bad (errs_bnd (errs_field _) fun _ => errs_bnd errs_out fun _ => errs_ite errs_bad (errs_copy _ _)))
theorem errs_coded (L D : List Nat) (f : Nat) : Errs (codedGo L D f) := by
  induction f with
  | zero => exact errs_never
  | succ f ih => exact errs_bnd (errs_sym _) fun _ => errs_ite (errs_ret _) (errs_bnd (errs_ite (errs_tell _) (errs_piece _ _)) fun _ => ih)
theorem errs_lens (C : List Nat) (n f : Nat) (l : List Nat) : Errs (lensGo C n f l) := by
  induction f generalizing l with
  | zero => exact errs_ret _
  | succ f ih =>
    exact errs_ite (errs_bnd (errs_sym _) fun _ => errs_ite (errs_ite errs_bad (errs_bnd (errs_field _) fun _ => errs_ite errs_bad (ih _)))
      (errs_ite (errs_bnd (errs_field _) fun _ => errs_ite errs_bad (ih _)) (errs_ite (errs_bnd (errs_field _) fun _ => errs_ite errs_bad (ih _)) (ih _)))) (errs_ret _)
theorem errs_readLens (n i : Nat) (c : List Nat) : Errs (readLens n i c) := by
  induction n generalizing i c with
  | zero => exact errs_ret _
  | succ n ih => exact errs_bnd (errs_field _) fun _ => ih _ _
theorem errs_dyn : Errs dynM :=
  errs_bnd (errs_field _) fun _ => errs_bnd (errs_field _) fun _ => errs_bnd (errs_field _) fun _ => errs_ite errs_bad (errs_bnd (errs_readLens _ _ _) fun _ =>
    errs_ite (errs_bnd (errs_lens _ _ _ _) fun _ => errs_ite (errs_ret _) errs_bad) errs_bad)
theorem errs_body (k : Nat) : Errs (bodyM k) := errs_ite errs_stored (errs_ite (errs_coded _ _ _) (errs_ite (errs_bnd errs_dyn fun _ => errs_coded _ _ _) errs_bad))
theorem errs_block : Errs blockM :=
  errs_bnd errs_at fun _ => errs_bnd errs_out fun _ => errs_bnd (errs_field _) fun _ => errs_bnd (errs_field _) fun _ => errs_bnd (errs_body _) fun _ => errs_bnd errs_out fun _ => errs_ret _
theorem errs_blocks (f : Nat) (l : List Blk) : Errs (blocksGo f l) := by
  induction f generalizing l with
  | zero => exact errs_never
  | succ f ih => exact errs_bnd errs_block fun _ => errs_ite (errs_ret _) (ih _)

theorem bit?_take {b : List UInt8} {n i : Nat} (h : i < 8 * n) : bit? (b.take n) i = bit? b i := by
  unfold bit?
  rw [List.getElem?_take_of_lt (by omega)]
theorem bit?_take_no {b : List UInt8} {n i : Nat} (h : 8 * n ≤ i) : bit? (b.take n) i = none := by
  unfold bit?
  rw [List.getElem?_eq_none (by simp; omega)]
  rfl
theorem bit?_app {b c : List UInt8} {i : Nat} (h : i < 8 * b.length) : bit? (b ++ c) i = bit? b i := by
  unfold bit?
  rw [List.getElem?_append_left (by omega)]
theorem field_t {n : Nat} : ∀ {i x : Nat} {b : List UInt8} {m t : Nat} {o : List UInt8} {y t' : Nat} {o' : List UInt8}, fieldGo n i x b m t o = .ok y t' o' → t' = t + n ∧ o' = o := by
  induction n with
  | zero => intro i x b m t o y t' o' h; cases h; exact ⟨rfl, rfl⟩
  | succ n ih =>
    intro i x b m t o y t' o' h
    obtain ⟨z, t1, o1, e1, e2⟩ := bnd_inv h
    have h2 := ih e2
    unfold bitM at e1
    split at e1
    · cases e1; exact ⟨by omega, h2.2⟩
    · cases e1
theorem fieldM_t {n : Nat} {b : List UInt8} {m t : Nat} {o : List UInt8} {y t' : Nat} {o' : List UInt8} (h : fieldM n b m t o = .ok y t' o') : t' = t + n ∧ o' = o := field_t h
theorem block_inv {b : List UInt8} {n t : Nat} {o : List UInt8} {x : Blk} {t' : Nat} {o' : List UInt8} (h : blockM b n t o = .ok x t' o') :
    x.at_ = t ∧ t + 3 ≤ t' ∧ x.kind ≤ 2 ∧ x.out = o'.length - o.length ∧ o.length ≤ o'.length := by
  obtain ⟨_, _, _, e1, h⟩ := bnd_inv h
  cases e1
  obtain ⟨_, _, _, e2, h⟩ := bnd_inv h
  cases e2
  obtain ⟨l, t3, o3, e3, h⟩ := bnd_inv h
  obtain ⟨rfl, rfl⟩ := fieldM_t e3
  obtain ⟨k, t4, o4, e4, h⟩ := bnd_inv h
  obtain ⟨rfl, rfl⟩ := fieldM_t e4
  obtain ⟨u, t5, o5, e5, h⟩ := bnd_inv h
  obtain ⟨_, _, _, e6, h⟩ := bnd_inv h
  cases e6
  cases h
  have hm := (good_body k).mono e5
  refine ⟨rfl, by omega, ?_, rfl, hm.2.2.1⟩
  show k ≤ 2
  by_cases hk : k ≤ 2
  · exact hk
  · unfold bodyM at e5
    rw [if_neg (by omega), if_neg (by omega), if_neg (by omega)] at e5
    cases e5

/-- What the blocks of a stream are: the last alone says so; each begins where there is room, behind the one before it. -/
structure Chain (l : List Blk) (t : Nat) : Prop where
  kind : ∀ x ∈ l, x.kind ≤ 2 ∧ x.at_ < t
  first : ∀ h : 0 < l.length, l[0].at_ = 0
  next : ∀ i (h : i + 1 < l.length), l[i].at_ < l[i + 1].at_
theorem blocks_inv {b : List UInt8} {n : Nat} : ∀ (f : Nat) {l : List Blk} {t : Nat} {o : List UInt8} {l' : List Blk} {t' : Nat} {o' : List UInt8}, Chain l t → (∀ x ∈ l, x.last = false) → (l = [] → t = 0) → (l.map (·.out)).sum = o.length →
    blocksGo f l b n t o = .ok l' t' o' → Chain l' t' ∧ 3 ≤ t' ∧ (l'.map (·.out)).sum = o'.length ∧ ∃ k x, l' = k ++ [x] ∧ x.last = true ∧ ∀ y ∈ k, y.last = false
  | 0, _, _, _, _, _, _, _, _, _, _, h => by cases h
  | f + 1, l, t, o, l', t', o', hc, hl, h0, hs, h => by
    obtain ⟨x, t1, o1, e1, h⟩ := bnd_inv h
    obtain ⟨k1, k2, k3, k4, k5⟩ := block_inv e1
    have hc1 : Chain (l ++ [x]) t1 := by
      refine ⟨?_, ?_, ?_⟩
      · intro y hy
        simp only [List.mem_append, List.mem_singleton] at hy
        rcases hy with hy | rfl
        · have := hc.kind y hy; exact ⟨this.1, by omega⟩
        · exact ⟨k3, by omega⟩
      · intro hlen
        by_cases hl0 : l = []
        · subst hl0; have := h0 rfl; show x.at_ = 0; omega
        · have : 0 < l.length := List.length_pos_iff.2 hl0
          rw [List.getElem_append_left this]; exact hc.first this
      · intro i hi
        by_cases hil : i + 1 < l.length
        · rw [List.getElem_append_left (by omega), List.getElem_append_left hil]; exact hc.next i hil
        · have hil2 : i + 1 = l.length := by simp at hi; omega
          have e : (l ++ [x])[i + 1] = x := by simp [hil2]
          rw [e, List.getElem_append_left (by omega), k1]
          exact (hc.kind _ (List.getElem_mem _)).2
    have hs1 : ((l ++ [x]).map (·.out)).sum = o1.length := by simp [hs, k4]; omega
    cases hx : x.last with
    | true =>
      simp only [hx, if_true] at h
      cases h
      exact ⟨hc1, by omega, hs1, l, x, rfl, hx, hl⟩
    | false =>
      simp only [hx] at h
      refine blocks_inv f hc1 ?_ (by simp) hs1 h
      intro y hy
      simp only [List.mem_append, List.mem_singleton] at hy
      rcases hy with hy | rfl
      · exact hl y hy
      · exact hx
theorem blocksM_inv {b : List UInt8} {n : Nat} {l : List Blk} {t : Nat} {o : List UInt8} (h : blocksM b n 0 [] = .ok l t o) :
    Chain l t ∧ 3 ≤ t ∧ (l.map (·.out)).sum = o.length ∧ ∃ k x, l = k ++ [x] ∧ x.last = true ∧ ∀ y ∈ k, y.last = false :=
  blocks_inv lots ⟨fun x hx => by simp at hx, fun h => by simp at h, fun i h => by simp at h⟩ (fun x hx => by simp at hx) (fun _ => rfl) rfl h

/-- 'A stream ends where it says.' -/
theorem ends_len {b : List UInt8} {n : Nat} (h : (inflateP b n).2.2 = 0) : 1 ≤ (inflateP b n).2.1 ∧ (inflateP b n).2.1 ≤ b.length ∧ (inflateP b n).1.length ≤ n := by
  rcases @inflateP_inv b n with ⟨l, t, o, h1, h2, _⟩ | ⟨e, h1, h2, _⟩
  · rw [h2]
    have hm := good_all.mono h1
    have hi := blocksM_inv h1
    refine ⟨by show 1 ≤ (t + 7) / 8; omega, by show (t + 7) / 8 ≤ b.length; omega, hm.2.2.2 (by simp)⟩
  · rw [h2] at h
    exact absurd h ((errs_blocks _ _) h1).1
theorem ends_no {b : List UInt8} {n : Nat} (h : (inflateP b n).2.2 ≠ 0) : (inflateP b n).1 = [] ∧ (inflateP b n).2.1 = 0 := by
  rcases @inflateP_inv b n with ⟨l, t, o, h1, h2, _⟩ | ⟨e, h1, h2, _⟩
  · rw [h2] at h; exact absurd rfl h
  · rw [h2]; exact ⟨rfl, rfl⟩
theorem ends_same {b c : List UInt8} {n m : Nat} (h : (inflateP b n).2.2 = 0) (hm : (inflateP b n).1.length ≤ m) : inflateP (b.take (inflateP b n).2.1 ++ c) m = inflateP b n := by
  have hlen := ends_len h
  rcases @inflateP_inv b n with ⟨l, t, o, h1, h2, _⟩ | ⟨e, h1, h2, _⟩
  · rw [h2] at hm hlen ⊢
    simp only at hm hlen ⊢
    refine inflateP_ok (l := l) (good_all.here h1 _ m (fun i hi => ?_) hm)
    rw [bit?_app (by simp; omega), bit?_take (by omega)]
  · rw [h2] at h
    exact absurd h ((errs_blocks _ _) h1).1
theorem ends_short {b : List UInt8} {n k : Nat} (h : (inflateP b n).2.2 = 0) (hk : k < (inflateP b n).2.1) : inflateP (b.take k) n = ([], 0, 4) := by
  have hlen := ends_len h
  rcases @inflateP_inv b n with ⟨l, t, o, h1, h2, _⟩ | ⟨e, h1, h2, _⟩
  · rw [h2] at hk hlen
    simp only at hk hlen
    exact inflateP_no (good_all.cut h1 _ (8 * k) (by omega) (fun i hi => bit?_take hi) (bit?_take_no (Nat.le_refl _)) (by simp) (by omega) (by omega))
  · rw [h2] at hk
    simp at hk
theorem ends_long {b : List UInt8} {n m : Nat} (hm : m < (inflateP b n).1.length) : inflateP b m = ([], 0, 3) := by
  rcases @inflateP_inv b n with ⟨l, t, o, h1, h2, _⟩ | ⟨e, h1, h2, _⟩
  · rw [h2] at hm
    exact inflateP_no (good_all.full h1 m (by simp) hm)
  · rw [h2] at hm
    simp at hm
end Go.Proofs.Ytpfalaghggjbjaa
