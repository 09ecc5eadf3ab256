/-
  Plain: reading a compressed stream: what it tells, where it ends, the first error.
  Conditions: none.
-/
import Derived.Test.YtpfalaghggjbjaaPlF
namespace Go.Proofs.Ytpfalaghggjbjaa

/-- What a reader comes to: a value, the bit behind what was read, what has been told; or the first error. -/
inductive R (α : Type) where
  | ok (x : α) (t : Nat) (o : List UInt8)
  | no (e : Nat)
/-- A reader: of bytes, the most that may be told, the bit where it stands, what has been told. -/
abbrev M (α : Type) := List UInt8 → Nat → Nat → List UInt8 → R α
variable {α β : Type}
def ret (x : α) : M α := fun _ _ t o => .ok x t o
def bndR (r : R α) (f : α → Nat → List UInt8 → R β) : R β := match r with
  | .ok x t o => f x t o
  | .no e => .no e
def bnd (m : M α) (f : α → M β) : M β := fun b n t o => bndR (m b n t o) fun x t' o' => f x b n t' o'
def failM (e : Nat) : M α := fun _ _ _ _ => .no e
def bit? (b : List UInt8) (i : Nat) : Option Nat := (b[i / 8]?).map fun c => c.toNat / 2 ^ (i % 8) % 2
def bitM : M Nat := fun b _ t o => match bit? b t with
  | some x => .ok x (t + 1) o
  | none => .no 4
def tellM (c : UInt8) : M Unit := fun _ n t o => if n ≤ o.length then .no 3 else .ok () t (o ++ [c])
def alignM : M Unit := fun _ _ t o => .ok () ((t + 7) / 8 * 8) o
def outM : M (List UInt8) := fun _ _ t o => .ok o t o
def atM : M Nat := fun _ _ t o => .ok t t o
/-- A field: n more bits, bit i on. -/
def fieldGo : Nat → Nat → Nat → M Nat
  | 0, _, x => ret x
  | n + 1, i, x => bnd bitM fun y => fieldGo n (i + 1) (x + y * 2 ^ i)
def fieldM (n : Nat) : M Nat := fieldGo n 0 0
def repM : Nat → M Unit → M Unit
  | 0, _ => ret ()
  | n + 1, m => bnd m fun _ => repM n m
def storedM : M Unit := bnd alignM fun _ => bnd (fieldM 16) fun n => bnd (fieldM 16) fun m =>
  if n + m = 65535 then repM n (bnd (fieldM 8) fun c => tellM (UInt8.ofNat c)) else failM 5
/-- The symbols whose codes are i bits long; the one whose code is x. -/
def posOf (L : List Nat) (i : Nat) : List Nat := (List.range L.length).filter fun s => atN L s == i
def symOf (L : List Nat) (i x : Nat) : Option Nat := if firstOf (cnt L) i ≤ x then (posOf L i)[x - firstOf (cnt L) i]? else none
def symGo (L : List Nat) : Nat → Nat → Nat → M Nat
  | 0, _, _ => failM 5
  | f + 1, i, x => bnd bitM fun y => match symOf L i (2 * x + y) with
    | some s => ret s
    | none => symGo L f (i + 1) (2 * x + y)
def maxOf (L : List Nat) : Nat := L.foldl max 0
def symM (L : List Nat) : M Nat := symGo L (maxOf L) 1 0
def copyM (k n : Nat) : M Unit := repM n (bnd outM fun o => tellM (o.getD (o.length - k) 0))
def pieceM (D : List Nat) (s : Nat) : M Unit := if 285 < s then failM 5 else bnd (fieldM (lbits s)) fun x => bnd (symM D) fun d =>
  if 29 < d then failM 5 else bnd (fieldM (dbits d)) fun y => bnd outM fun o => if o.length < dbase d + y then failM 5 else copyM (dbase d + y) (lbase s + x)
def codedGo (L D : List Nat) : Nat → M Unit
  | 0 => failM 99
  | f + 1 => bnd (symM L) fun s => if s = 256 then ret () else bnd (if s < 256 then tellM (UInt8.ofNat s) else pieceM D s) fun _ => codedGo L D f
def lensGo (C : List Nat) (n : Nat) : Nat → List Nat → M (List Nat)
  | 0, l => ret l
  | f + 1, l => if l.length < n then bnd (symM C) fun s =>
      if s = 16 then (if l.length = 0 then failM 5 else bnd (fieldM 2) fun k => if n < l.length + (3 + k) then failM 5 else lensGo C n f (l ++ List.replicate (3 + k) (atN l (l.length - 1))))
      else if s = 17 then bnd (fieldM 3) fun k => if n < l.length + (3 + k) then failM 5 else lensGo C n f (l ++ List.replicate (3 + k) 0)
      else if s = 18 then bnd (fieldM 7) fun k => if n < l.length + (11 + k) then failM 5 else lensGo C n f (l ++ List.replicate (11 + k) 0)
      else lensGo C n f (l ++ [s])
    else ret l
def orderL : List Nat := [16, 17, 18, 0, 8, 7, 9, 6, 10, 5, 11, 4, 12, 3, 13, 2, 14, 1, 15]
def readLens : Nat → Nat → List Nat → M (List Nat)
  | 0, _, c => ret c
  | n + 1, i, c => bnd (fieldM 3) fun x => readLens n (i + 1) (c.set (atN orderL i) x)
def lone (L : List Nat) : Bool := decide ((L.filter fun x => decide (0 < x)).length = 1 ∧ L.sum = 1)
def noneB (L : List Nat) : Bool := L.all fun x => decide (x = 0)
def okLit (L : List Nat) : Bool := decide ((checkP L).2 = 0) && !decide (atN L 256 = 0) && ((checkP L).1 || lone L)
def okDist (D : List Nat) : Bool := decide ((checkP D).2 = 0) && ((checkP D).1 || lone D || noneB D)
def dynM : M (List Nat × List Nat) := bnd (fieldM 5) fun a => bnd (fieldM 5) fun d => bnd (fieldM 4) fun c =>
  if 286 < 257 + a ∨ 30 < 1 + d then failM 5 else bnd (readLens (4 + c) 0 (List.replicate 19 0)) fun C =>
    if checkP C = (true, 0) then bnd (lensGo C (257 + a + (1 + d)) (257 + a + (1 + d)) []) fun l =>
      if okLit (l.take (257 + a)) && okDist (l.drop (257 + a)) then ret (l.take (257 + a), l.drop (257 + a)) else failM 5
    else failM 5
/-- More rounds than any stream has. -/
def lots : Nat := 1099511627776
structure Blk where
  kind : Nat
  last : Bool
  at_ : Nat
  out : Nat
def bodyM (k : Nat) : M Unit := if k = 0 then storedM else if k = 1 then codedGo fixL fixD lots else if k = 2 then bnd dynM fun p => codedGo p.1 p.2 lots else failM 5
def blockM : M Blk := bnd atM fun t => bnd outM fun o => bnd (fieldM 1) fun l => bnd (fieldM 2) fun k => bnd (bodyM k) fun _ => bnd outM fun o' => ret ⟨k, decide (l = 1), t, o'.length - o.length⟩
def blocksGo : Nat → List Blk → M (List Blk)
  | 0, _ => failM 99
  | f + 1, l => bnd blockM fun x => if x.last then ret (l ++ [x]) else blocksGo f (l ++ [x])
def blocksM : M (List Blk) := blocksGo lots []
def inflateP (b : List UInt8) (n : Nat) : List UInt8 × Nat × Nat := match blocksM b n 0 [] with
  | .ok _ t o => (o, (t + 7) / 8, 0)
  | .no e => ([], 0, e)
def blocksP (b : List UInt8) (n : Nat) : List Blk × Nat := match blocksM b n 0 [] with
  | .ok l _ _ => (l, 0)
  | .no e => ([], e)

theorem bnd_ok {m : M α} {f : α → M β} {b : List UInt8} {n t t1 : Nat} {o o1 : List UInt8} {x : α} (h : m b n t o = .ok x t1 o1) : bnd m f b n t o = f x b n t1 o1 := by unfold bnd bndR; rw [h]
theorem bnd_no {m : M α} {f : α → M β} {b : List UInt8} {n t e : Nat} {o : List UInt8} (h : m b n t o = .no e) : bnd m f b n t o = .no e := by unfold bnd bndR; rw [h]
theorem bnd_inv {m : M α} {f : α → M β} {b : List UInt8} {n t t' : Nat} {o o' : List UInt8} {y : β} (h : bnd m f b n t o = .ok y t' o') : ∃ x t1 o1, m b n t o = .ok x t1 o1 ∧ f x b n t1 o1 = .ok y t' o' := by
  unfold bnd bndR at h
  split at h
  · exact ⟨_, _, _, by assumption, h⟩
  · cases h

/-- What every reader keeps to: it goes forward; what it comes to hangs on the bits that it read alone; cut short within these it is too short; with less room than it fills it is too long. -/
structure Good (m : M α) : Prop where
  mono : ∀ {b n t o x t' o'}, m b n t o = .ok x t' o' → t ≤ t' ∧ (t ≤ 8 * b.length → t' ≤ 8 * b.length) ∧ o.length ≤ o'.length ∧ (o.length ≤ n → o'.length ≤ n)
  here : ∀ {b n t o x t' o'}, m b n t o = .ok x t' o' → ∀ (b' : List UInt8) (n' : Nat), (∀ i, i < t' → bit? b' i = bit? b i) → o'.length ≤ n' → m b' n' t o = .ok x t' o'
  cut : ∀ {b n t o x t' o'}, m b n t o = .ok x t' o' → ∀ (b' : List UInt8) (K : Nat), K % 8 = 0 → (∀ i, i < K → bit? b' i = bit? b i) → bit? b' K = none → o.length ≤ n → t ≤ K → K < t' → m b' n t o = .no 4
  full : ∀ {b n t o x t' o'}, m b n t o = .ok x t' o' → ∀ n', o.length ≤ n' → n' < o'.length → m b n' t o = .no 3

theorem good_ret (x : α) : Good (ret x) :=
  ⟨fun h => by cases h; exact ⟨Nat.le_refl _, id, Nat.le_refl _, id⟩, fun h _ _ _ _ => by cases h; rfl, fun h _ _ _ _ _ _ h1 h2 => by cases h; omega, fun h _ h1 h2 => by cases h; omega⟩
theorem good_fail (e : Nat) : Good (failM e : M α) := ⟨fun h => (by cases h), fun h => (by cases h), fun h => (by cases h), fun h => (by cases h)⟩
theorem good_out : Good outM :=
  ⟨fun h => by cases h; exact ⟨Nat.le_refl _, id, Nat.le_refl _, id⟩, fun h _ _ _ _ => by cases h; rfl, fun h _ _ _ _ _ _ h1 h2 => by cases h; omega, fun h _ h1 h2 => by cases h; omega⟩
theorem good_at : Good atM :=
  ⟨fun h => by cases h; exact ⟨Nat.le_refl _, id, Nat.le_refl _, id⟩, fun h _ _ _ _ => by cases h; rfl, fun h _ _ _ _ _ _ h1 h2 => by cases h; omega, fun h _ h1 h2 => by cases h; omega⟩
theorem good_align : Good alignM :=
  ⟨fun h => by cases h; exact ⟨by omega, by omega, Nat.le_refl _, id⟩, fun h _ _ _ _ => by cases h; rfl, fun h _ _ _ _ _ _ h1 h2 => by cases h; omega, fun h _ h1 h2 => by cases h; omega⟩
theorem bit?_lt {b : List UInt8} {i x : Nat} (h : bit? b i = some x) : i < 8 * b.length ∧ x < 2 := by
  unfold bit? at h
  cases hb : b[i / 8]? with
  | none => simp [hb] at h
  | some c =>
    have hlt := (List.getElem?_eq_some_iff.1 hb).1
    simp [hb] at h
    omega
theorem good_bit : Good bitM := by
  have key : ∀ {b : List UInt8} {n t : Nat} {o : List UInt8} {x t' : Nat} {o' : List UInt8}, bitM b n t o = .ok x t' o' → bit? b t = some x ∧ t' = t + 1 ∧ o' = o := by
    intro b n t o x t' o' h
    unfold bitM at h
    split at h
    · cases h; exact ⟨by assumption, rfl, rfl⟩
    · cases h
  refine ⟨fun h => ?_, fun h b' n' hb _ => ?_, fun h b' K h8 hb hK _ h1 h2 => ?_, fun h n' h1 h2 => ?_⟩
  · obtain ⟨hx, rfl, rfl⟩ := key h
    have := bit?_lt hx
    exact ⟨by omega, by omega, Nat.le_refl _, id⟩
  · obtain ⟨hx, rfl, rfl⟩ := key h
    unfold bitM
    rw [hb _ (by omega), hx]
  · obtain ⟨hx, rfl, rfl⟩ := key h
    have : K = _ := Nat.le_antisymm (Nat.le_of_lt_succ h2) h1
    subst this
    unfold bitM
    rw [hK]
  · obtain ⟨hx, rfl, rfl⟩ := key h; omega
theorem good_tell (c : UInt8) : Good (tellM c) := by
  have key : ∀ {b : List UInt8} {n t : Nat} {o : List UInt8} {x : Unit} {t' : Nat} {o' : List UInt8}, tellM c b n t o = .ok x t' o' → o.length < n ∧ t' = t ∧ o' = o ++ [c] := by
    intro b n t o x t' o' h
    unfold tellM at h
    split at h
    · cases h
    · cases h; exact ⟨by omega, rfl, rfl⟩
  refine ⟨fun h => ?_, fun h b' n' hb hn => ?_, fun h b' K h8 hb hK _ h1 h2 => ?_, fun h n' h1 h2 => ?_⟩
  · obtain ⟨hn, rfl, rfl⟩ := key h
    exact ⟨Nat.le_refl _, id, by simp, by simp; omega⟩
  · obtain ⟨_, rfl, rfl⟩ := key h
    unfold tellM
    rw [if_neg (by simp at hn; omega)]
  · obtain ⟨_, rfl, rfl⟩ := key h; omega
  · obtain ⟨_, rfl, rfl⟩ := key h
    unfold tellM
    rw [if_pos (by simp at h2; omega)]
theorem good_bnd {m : M α} {f : α → M β} (hm : Good m) (hf : ∀ x, Good (f x)) : Good (bnd m f) := by
  refine ⟨fun h => ?_, fun h b' n' hb hn => ?_, fun h b' K h8 hb hK ho h1 h2 => ?_, fun h n' h1 h2 => ?_⟩
  · obtain ⟨x, t1, o1, e1, e2⟩ := bnd_inv h
    have k1 := hm.mono e1
    have k2 := (hf x).mono e2
    exact ⟨Nat.le_trans k1.1 k2.1, fun q => k2.2.1 (k1.2.1 q), Nat.le_trans k1.2.2.1 k2.2.2.1, fun q => k2.2.2.2 (k1.2.2.2 q)⟩
  · obtain ⟨x, t1, o1, e1, e2⟩ := bnd_inv h
    have k2 := (hf x).mono e2
    rw [bnd_ok (hm.here e1 b' n' (fun i hi => hb i (by omega)) (by omega))]
    exact (hf x).here e2 b' n' hb hn
  · obtain ⟨x, t1, o1, e1, e2⟩ := bnd_inv h
    have k1 := hm.mono e1
    by_cases hK1 : K < t1
    · exact bnd_no (hm.cut e1 b' K h8 hb hK ho h1 hK1)
    · rw [bnd_ok (hm.here e1 b' _ (fun i hi => hb i (by omega)) (k1.2.2.2 ho))]
      exact (hf x).cut e2 b' K h8 hb hK (k1.2.2.2 ho) (by omega) h2
  · obtain ⟨x, t1, o1, e1, e2⟩ := bnd_inv h
    by_cases hn : n' < o1.length
    · exact bnd_no (hm.full e1 n' h1 hn)
    · rw [bnd_ok (hm.here e1 _ n' (fun i hi => rfl) (by omega))]
      exact (hf x).full e2 n' (by omega) h2
theorem good_field (n : Nat) : Good (fieldM n) := by
  have key : ∀ n i x, Good (fieldGo n i x) := by
    intro n
    induction n with
    | zero => intro i x; exact good_ret x
    | succ n ih => intro i x; exact good_bnd good_bit fun y => ih _ _
  exact key n 0 0
theorem good_rep (n : Nat) {m : M Unit} (hm : Good m) : Good (repM n m) := by
  induction n with
  | zero => exact good_ret ()
  | succ n ih => exact good_bnd hm fun _ => ih
theorem good_ite {p : Prop} [Decidable p] {m m' : M α} (h : Good m) (h' : Good m') : Good (if p then m else m') := by split <;> assumption
theorem good_stored : Good storedM :=
  good_bnd good_align fun _ => good_bnd (good_field _) fun _ => good_bnd (good_field _) fun _ => good_ite (good_rep _ (good_bnd (good_field _) fun _ => good_tell _)) (good_fail _)
theorem good_sym (L : List Nat) : Good (symM L) := by
  have key : ∀ f i x, Good (symGo L f i x) := by
    intro f
    induction f with
    | zero => intro i x; exact good_fail _
    | succ f ih =>
      intro i x
      refine good_bnd good_bit fun y => ?_
      split
      · exact good_ret _
      · exact ih _ _
  exact key _ _ _
theorem good_copy (k n : Nat) : Good (copyM k n) := good_rep _ (good_bnd good_out fun _ => good_tell _)
theorem good_piece (D : List Nat) (s : Nat) : Good (pieceM D s) :=
  good_ite (good_fail _) (good_bnd (good_field _) fun _ => good_bnd (good_sym _) fun _ => good_ite (good_fail _) (good_bnd (good_field _) fun _ => good_bnd good_out fun _ => good_ite (good_fail _) (good_copy _ _)))
theorem good_coded (L D : List Nat) (f : Nat) : Good (codedGo L D f) := by
  induction f with
  | zero => exact good_fail _
  | succ f ih => exact good_bnd (good_sym _) fun _ => good_ite (good_ret _) (good_bnd (good_ite (good_tell _) (good_piece _ _)) fun _ => ih)
theorem good_lens (C : List Nat) (n f : Nat) (l : List Nat) : Good (lensGo C n f l) := by
  induction f generalizing l with
  | zero => exact good_ret _
  | succ f ih =>
    exact good_ite (good_bnd (good_sym _) fun _ => good_ite (good_ite (good_fail _) (good_bnd (good_field _) fun _ => good_ite (good_fail _) (ih _)))
      (good_ite (good_bnd (good_field _) fun _ => good_ite (good_fail _) (ih _)) (good_ite (good_bnd (good_field _) fun _ => good_ite (good_fail _) (ih _)) (ih _)))) (good_ret _)
theorem good_readLens (n i : Nat) (c : List Nat) : Good (readLens n i c) := by
  induction n generalizing i c with
  | zero => exact good_ret _
  | succ n ih => exact good_bnd (good_field _) fun _ => ih _ _
theorem good_dyn : Good dynM :=
  good_bnd (good_field _) fun _ => good_bnd (good_field _) fun _ => good_bnd (good_field _) fun _ => good_ite (good_fail _) (good_bnd (good_readLens _ _ _) fun _ =>
    good_ite (good_bnd (good_lens _ _ _ _) fun _ => good_ite (good_ret _) (good_fail _)) (good_fail _))
theorem good_body (k : Nat) : Good (bodyM k) := good_ite good_stored (good_ite (good_coded _ _ _) (good_ite (good_bnd good_dyn fun _ => good_coded _ _ _) (good_fail _)))
theorem good_block : Good blockM :=
  good_bnd good_at fun _ => good_bnd good_out fun _ => good_bnd (good_field _) fun _ => good_bnd (good_field _) fun _ => good_bnd (good_body _) fun _ => good_bnd good_out fun _ => good_ret _
theorem good_blocks (f : Nat) (l : List Blk) : Good (blocksGo f l) := by
  induction f generalizing l with
  | zero => exact good_fail _
  | succ f ih => exact good_bnd good_block fun _ => good_ite (good_ret _) (ih _)
theorem good_all : Good blocksM := good_blocks _ _
end Go.Proofs.Ytpfalaghggjbjaa
