/-
  Plain: bits that were put are read back: fields, symbols.
  Conditions: none.
-/
import Derived.Test.YtpfalaghggjbjaaPlK
namespace Go.Proofs.Ytpfalaghggjbjaa

/-- The bits of b from bit t on begin with l. -/
def Bits (b : List UInt8) (t : Nat) (l : List Nat) : Prop := ∀ i (h : i < l.length), bit? b (t + i) = some l[i]
theorem Bits.app {b : List UInt8} {t : Nat} {l m : List Nat} (h : Bits b t (l ++ m)) : Bits b t l ∧ Bits b (t + l.length) m := by
  refine ⟨fun i hi => ?_, fun i hi => ?_⟩
  · rw [h i (by simp; omega), List.getElem_append_left hi]
  · rw [Nat.add_assoc, h (l.length + i) (by simp; omega), List.getElem_append_right (by omega)]
    simp
theorem Bits.cons {b : List UInt8} {t x : Nat} {l : List Nat} (h : Bits b t (x :: l)) : bit? b t = some x ∧ Bits b (t + 1) l :=
  ⟨h 0 (by simp), fun i hi => by rw [Nat.add_assoc, Nat.add_comm 1, h (i + 1) (by simp; omega)]; simp⟩

theorem orBit_toNat {c : UInt8} {k x : Nat} (hk : k < 8) (hc : c.toNat < 2 ^ k) (hx : x < 2) : (orBit c k x).toNat = c.toNat + x * 2 ^ k := by
  have hp : 2 ^ (k + 1) ≤ 2 ^ 8 := Nat.pow_le_pow_right (by omega) (by omega)
  have h2 : 2 ^ (k + 1) = 2 * 2 ^ k := by rw [Nat.pow_succ]; omega
  have h1 : c.toNat ||| x * 2 ^ k = c.toNat + x * 2 ^ k := by
    rw [Nat.or_comm, ← Nat.shiftLeft_eq, ← Nat.shiftLeft_add_eq_or_of_lt hc, Nat.add_comm]
  have hm : x * 2 ^ k ≤ 1 * 2 ^ k := Nat.mul_le_mul_right _ (by omega)
  unfold orBit
  rw [h1, UInt8.toNat_ofNat']
  exact Nat.mod_eq_of_lt (by omega)
/-- As many bytes as the bits want, and nothing behind the last bit. -/
structure Fit (s : List UInt8 × Nat) : Prop where
  len : s.1.length = (s.2 + 7) / 8
  low : s.2 % 8 ≠ 0 → (s.1.getD (s.2 / 8) 0).toNat < 2 ^ (s.2 % 8)
theorem fit_nil : Fit ([], 0) := ⟨rfl, fun h => absurd rfl h⟩
theorem putBit_fit {s : List UInt8 × Nat} {x : Nat} (h : Fit s) (hx : x < 2) :
    Fit (putBit s x) ∧ (∀ i, i < s.2 → bit? (putBit s x).1 i = bit? s.1 i) ∧ bit? (putBit s x).1 s.2 = some x := by
  obtain ⟨bs, n⟩ := s
  have hl := h.len
  have hlow := h.low
  simp only at hl hlow ⊢
  obtain ⟨B, hB⟩ : ∃ B, B = if n % 8 = 0 then bs ++ [0] else bs := ⟨_, rfl⟩
  have e : putBit (bs, n) x = (B.set (n / 8) (orBit (B.getD (n / 8) 0) (n % 8) x), n + 1) := by unfold putBit; simp only; rw [hB]
  have hBl : B.length = n / 8 + 1 := by
    rw [hB]; split
    · simp; omega
    · omega
  have hc : (B.getD (n / 8) 0).toNat < 2 ^ (n % 8) := by
    rw [hB]; split
    · rename_i h0
      rw [h0, List.getD, List.getElem?_append_right (by omega)]
      have : n / 8 - bs.length = 0 := by omega
      simp [this]
    · rename_i h0
      exact hlow h0
  have hk : n % 8 < 8 := Nat.mod_lt _ (by decide)
  have ho := orBit_toNat hk hc hx
  have hBi : ∀ i, i < n / 8 → B[i]? = bs[i]? := by
    intro i hi
    rw [hB]; split
    · rw [List.getElem?_append_left (by omega)]
    · rfl
  generalize hcc : B.getD (n / 8) 0 = c at *
  have hp : 2 ^ (n % 8 + 1) = 2 * 2 ^ (n % 8) := by rw [Nat.pow_succ]; omega
  have hxm : x * 2 ^ (n % 8) ≤ 1 * 2 ^ (n % 8) := Nat.mul_le_mul_right _ (by omega)
  rw [e]
  refine ⟨⟨by simp [hBl]; omega, fun h0 => ?_⟩, fun i hi => ?_, ?_⟩
  · simp only at h0 ⊢
    have e1 : (n + 1) / 8 = n / 8 := by omega
    have e2 : (n + 1) % 8 = n % 8 + 1 := by omega
    rw [e1, e2, List.getD, List.getElem?_set_self (by omega)]
    simp only [Option.getD_some]
    rw [ho]
    omega
  · simp only at hi ⊢
    unfold bit?
    by_cases hi8 : i / 8 < n / 8
    · rw [List.getElem?_set_ne (by omega), hBi _ hi8]
    · have e1 : i / 8 = n / 8 := by omega
      have h8 : n % 8 ≠ 0 := by omega
      have e3 : bs[n / 8]? = some c := by
        rw [if_neg h8] at hB
        rw [← hB, ← hcc, List.getD, List.getElem?_eq_getElem (by omega)]
        simp
      rw [e1, List.getElem?_set_self (by omega), e3]
      simp only [Option.map_some, Option.some.injEq]
      rw [ho]
      obtain ⟨d, hd⟩ : ∃ d, n % 8 = i % 8 + (d + 1) := ⟨n % 8 - i % 8 - 1, by omega⟩
      have : x * 2 ^ (n % 8) = (x * 2 ^ d * 2) * 2 ^ (i % 8) := by
        rw [hd, Nat.pow_add, Nat.pow_succ]
        ac_rfl
      rw [this, Nat.add_mul_div_right _ _ (Nat.two_pow_pos _)]
      omega
  · simp only
    unfold bit?
    rw [List.getElem?_set_self (by omega)]
    simp only [Option.map_some, Option.some.injEq]
    rw [ho, Nat.add_mul_div_right _ _ (Nat.two_pow_pos _), Nat.div_eq_of_lt hc]
    omega
theorem putAll_fit : ∀ (l : List Nat) {s : List UInt8 × Nat}, Fit s → (∀ x ∈ l, x < 2) → Fit (putAll s l) ∧ (∀ i, i < s.2 → bit? (putAll s l).1 i = bit? s.1 i) ∧ Bits (putAll s l).1 s.2 l
  | [], s, h, _ => ⟨h, fun i _ => rfl, fun i hi => by simp at hi⟩
  | x :: l, s, h, hx => by
    obtain ⟨h1, h2, h3⟩ := putBit_fit h (hx x (by simp))
    obtain ⟨k1, k2, k3⟩ := putAll_fit l h1 (fun y hy => hx y (by simp [hy]))
    rw [putAll_cons]
    rw [putBit_snd] at k2 k3
    refine ⟨k1, fun i hi => by rw [k2 i (by omega), h2 i hi], fun i hi => ?_⟩
    cases i with
    | zero => rw [Nat.add_zero, k2 s.2 (by omega), h3]; rfl
    | succ i =>
      have := k3 i (by simpa using hi)
      rw [show s.2 + (i + 1) = s.2 + 1 + i by omega, this]
      simp
theorem putAll_bits {l : List Nat} (h : ∀ x ∈ l, x < 2) : Bits (putAll ([], 0) l).1 0 l := (putAll_fit l fit_nil h).2.2

/-- A reader that, where the bits l stand, takes these and no more, and comes to x; it tells nothing. -/
def Takes {α : Type} (m : M α) (l : List Nat) (x : α) : Prop := ∀ (b : List UInt8) (n t : Nat) (o : List UInt8), Bits b t l → m b n t o = .ok x (t + l.length) o
theorem takes_ret {α : Type} (x : α) : Takes (ret x) [] x := fun _ _ _ _ _ => rfl
theorem takes_bit (x : Nat) : Takes bitM [x] x := fun b n t o h => by
  unfold bitM
  rw [h.cons.1]
  rfl
theorem takes_bnd {α β : Type} {m : M α} {f : α → M β} {l k : List Nat} {x : α} {y : β} (h : Takes m l x) (h' : Takes (f x) k y) : Takes (bnd m f) (l ++ k) y := fun b n t o hb => by
  rw [bnd_ok (h b n t o hb.app.1), h' b n _ o hb.app.2, List.length_append, Nat.add_assoc]
theorem takes_fieldGo (v : Nat) : ∀ (n i x : Nat), Takes (fieldGo n i x) ((List.range n).map fun j => bitOf (v : Int) (i + j)) (x + v / 2 ^ i % 2 ^ n * 2 ^ i)
  | 0, i, x => by simp [Nat.mod_one]; exact takes_ret x
  | n + 1, i, x => by
    have e : (List.range (n + 1)).map (fun j => bitOf (v : Int) (i + j)) = [bitOf (v : Int) i] ++ (List.range n).map fun j => bitOf (v : Int) (i + 1 + j) := by
      rw [List.range_succ_eq_map]
      simp [Function.comp_def]
      intro a _
      congr 1
      omega
    rw [e]
    have hv : x + v / 2 ^ i % 2 ^ (n + 1) * 2 ^ i = x + bitOf (v : Int) i * 2 ^ i + v / 2 ^ (i + 1) % 2 ^ n * 2 ^ (i + 1) := by
      have h1 : bitOf (v : Int) i = v / 2 ^ i % 2 := by
        unfold bitOf
        have : ((v : Int) / 2 ^ i) = ((v / 2 ^ i : Nat) : Int) := by simp
        rw [this]; omega
      have h2 : v / 2 ^ (i + 1) = v / 2 ^ i / 2 := by rw [Nat.pow_succ, Nat.div_div_eq_div_mul]
      have h3 : v / 2 ^ i % 2 ^ (n + 1) = v / 2 ^ i % 2 + 2 * (v / 2 ^ i / 2 % 2 ^ n) := by rw [Nat.pow_succ, Nat.mul_comm, Nat.mod_mul]
      rw [h1, h2, h3, Nat.pow_succ, Nat.add_mul]
      have : 2 * (v / 2 ^ i / 2 % 2 ^ n) * 2 ^ i = v / 2 ^ i / 2 % 2 ^ n * (2 ^ i * 2) := by
        rw [Nat.mul_comm 2, Nat.mul_assoc, Nat.mul_comm 2]
      omega
    rw [hv]
    exact takes_bnd (takes_bit _) (takes_fieldGo v n (i + 1) _)
theorem takes_field {v n : Nat} (h : v < 2 ^ n) : Takes (fieldM n) (fieldBits (v : Int) n) v := by
  have := takes_fieldGo v n 0 0
  simp only [Nat.pow_zero, Nat.div_one, Nat.mul_one, Nat.zero_add, Nat.mod_eq_of_lt h] at this
  exact this

/-- Canonical codes: a longer code lies above all shorter ones. -/
theorem firstOf_far (c : List Nat) {i : Nat} (hi : 1 ≤ i) : ∀ d, (firstOf c i + atN c i) * 2 ^ (d + 1) ≤ firstOf c (i + d + 1)
  | 0 => by
    obtain ⟨j, rfl⟩ : ∃ j, i = j + 1 := ⟨i - 1, by omega⟩
    simp [firstOf]
  | d + 1 => by
    have ih := firstOf_far c hi d
    obtain ⟨j, hj⟩ : ∃ j, i + d + 1 = j + 1 := ⟨i + d, by omega⟩
    have e : firstOf c (i + (d + 1) + 1) = (firstOf c (i + d + 1) + atN c (i + d + 1)) * 2 := by
      rw [show i + (d + 1) + 1 = j + 2 by omega, hj]; rfl
    rw [e, Nat.pow_succ, ← Nat.mul_assoc]
    omega
theorem posOf_take (L : List Nat) (i : Nat) : ∀ s, s ≤ L.length → ((List.range s).filter fun k => atN L k == i).length = (L.take s).count i
  | 0, _ => by simp
  | s + 1, h => by
    rw [List.range_succ, List.filter_append, List.length_append, posOf_take L i s (by omega), take_atN (by omega), List.count_append]
    by_cases e : atN L s = i
    · simp [e]
    · simp [e]
theorem posOf_length (L : List Nat) (i : Nat) : (posOf L i).length = L.count i := by
  unfold posOf; rw [posOf_take L i L.length (Nat.le_refl _), List.take_length]
theorem posOf_get {L : List Nat} {s : Nat} (h : s < L.length) : (posOf L (atN L s))[(L.take s).count (atN L s)]? = some s := by
  unfold posOf
  obtain ⟨d, hd⟩ : ∃ d, L.length = s + 1 + d := ⟨L.length - s - 1, by omega⟩
  rw [hd, List.range_add, List.filter_append, List.range_succ, List.filter_append]
  have hl := posOf_take L (atN L s) s (by omega)
  rw [List.getElem?_append_left (by simp [hl]), ← hl, List.getElem?_append_right (Nat.le_refl _)]
  simp
theorem rank_lt {L : List Nat} {s : Nat} (h : s < L.length) : (L.take s).count (atN L s) < L.count (atN L s) := by
  have h1 : (L.take (s + 1)).count (atN L s) = (L.take s).count (atN L s) + 1 := by rw [take_atN h, List.count_append]; simp
  have h2 : (L.take (s + 1)).count (atN L s) ≤ L.count (atN L s) := (List.take_sublist _ _).count_le _
  omega
theorem symOf_short {L : List Nat} {s i : Nat} (_hs : s < L.length) (h1 : 1 ≤ i) (h2 : i < atN L s) (h16 : atN L s < 16) :
    symOf L i ((firstOf (cnt L) (atN L s) + (L.take s).count (atN L s)) / 2 ^ (atN L s - i)) = none := by
  obtain ⟨d, hd⟩ : ∃ d, atN L s = i + d + 1 := ⟨atN L s - i - 1, by omega⟩
  have hf := firstOf_far (cnt L) h1 d
  rw [← hd] at hf
  have hq : firstOf (cnt L) i + atN (cnt L) i ≤ (firstOf (cnt L) (atN L s) + (L.take s).count (atN L s)) / 2 ^ (atN L s - i) := by
    rw [show atN L s - i = d + 1 by omega]
    exact (Nat.le_div_iff_mul_le (Nat.two_pow_pos _)).2 (by omega)
  rw [atN_cnt L (by omega)] at hq
  unfold symOf
  rw [if_pos (by omega), List.getElem?_eq_none]
  rw [posOf_length]
  omega
theorem symOf_hit {L : List Nat} {s : Nat} (hs : s < L.length) : symOf L (atN L s) (firstOf (cnt L) (atN L s) + (L.take s).count (atN L s)) = some s := by
  unfold symOf
  rw [if_pos (by omega), Nat.add_sub_cancel_left]
  exact posOf_get hs
theorem maxOf_le {L : List Nat} {x : Nat} (h : x ∈ L) : x ≤ maxOf L := by
  have key : ∀ (l : List Nat) (a : Nat), a ≤ l.foldl max a ∧ ∀ x ∈ l, x ≤ l.foldl max a := by
    intro l
    induction l with
    | nil => intro a; exact ⟨Nat.le_refl _, fun x hx => by simp at hx⟩
    | cons y l ih =>
      intro a
      have := ih (max a y)
      simp only [List.foldl_cons]
      refine ⟨by omega, fun x hx => ?_⟩
      rcases List.mem_cons.1 hx with rfl | hx
      · omega
      · exact this.2 x hx
  exact (key L 0).2 x h
theorem takes_symGo {L : List Nat} {s c : Nat} (hs : s < L.length) (h16 : atN L s < 16) (hc : c = firstOf (cnt L) (atN L s) + (L.take s).count (atN L s)) :
    ∀ (f i : Nat), 1 ≤ i → i ≤ atN L s → atN L s ≤ f + i - 1 → Takes (symGo L f i (c / 2 ^ (atN L s - (i - 1)))) ((List.range (atN L s - (i - 1))).reverse.map (bitOf (c : Int))) s
  | 0, i, h1, h2, h3 => by omega
  | f + 1, i, h1, h2, h3 => by
    obtain ⟨d, hd⟩ : ∃ d, atN L s - (i - 1) = d + 1 := ⟨atN L s - i, by omega⟩
    rw [hd, List.range_succ, List.reverse_append]
    simp only [List.reverse_cons, List.reverse_nil, List.nil_append, List.singleton_append, List.map_cons]
    show Takes _ ([bitOf (c : Int) d] ++ _) s
    refine takes_bnd (takes_bit _) ?_
    have hb : bitOf (c : Int) d = c / 2 ^ d % 2 := by
      unfold bitOf
      have : ((c : Int) / 2 ^ d) = ((c / 2 ^ d : Nat) : Int) := by simp
      rw [this]; omega
    have hx : 2 * (c / 2 ^ (d + 1)) + bitOf (c : Int) d = c / 2 ^ d := by
      rw [hb, Nat.pow_succ, ← Nat.div_div_eq_div_mul]; omega
    rw [hx]
    have hd2 : atN L s - i = d := by omega
    by_cases hi : i = atN L s
    · have hd0 : d = 0 := by omega
      subst hd0
      rw [hi, Nat.pow_zero, Nat.div_one, hc, symOf_hit hs]
      exact takes_ret s
    · have hsh := @symOf_short L s i hs h1 (by omega) h16
      rw [hd2, ← hc] at hsh
      rw [hsh]
      have := takes_symGo hs h16 hc f (i + 1) (by omega) (by omega) (by omega)
      rw [show atN L s - (i + 1 - 1) = d by omega] at this
      exact this
theorem takes_sym {L : List Nat} {s : Nat} (hs : s < L.length) (h1 : 1 ≤ atN L s) (h16 : atN L s < 16) (hk : firstOf (cnt L) (atN L s) + L.count (atN L s) ≤ 2 ^ atN L s) : Takes (symM L) (codeFor L s) s := by
  have hr := rank_lt hs
  have hm : atN L s ≤ maxOf L := maxOf_le (by unfold atN; rw [List.getD, List.getElem?_eq_getElem hs]; exact List.getElem_mem hs)
  have := takes_symGo hs h16 rfl (maxOf L) 1 (Nat.le_refl _) h1 (by omega)
  rw [Nat.sub_self, Nat.sub_zero, Nat.div_eq_of_lt (by omega)] at this
  have e : codeFor L s = (List.range (atN L s)).reverse.map (bitOf ((firstOf (cnt L) (atN L s) + (L.take s).count (atN L s) : Nat) : Int)) := by
    unfold codeFor codeBits
    have : atZ (codesP L) s = ((firstOf (cnt L) (atN L s) + (L.take s).count (atN L s) : Nat) : Int) := by
      unfold atZ codesP
      rw [List.getD, List.getElem?_map, List.getElem?_range hs]
      simp only [Option.map_some, Option.getD_some]
      unfold codeAt
      rw [if_neg (by omega)]
    rw [this]
  rw [e]
  exact this
end Go.Proofs.Ytpfalaghggjbjaa
