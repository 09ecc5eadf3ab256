/-
  Plain: whatever is made a stream is read back: by the fixed codes, stored; pieces make what they were cut from.
  Conditions: none.
-/
import Derived.Test.YtpfalaghggjbjaaPlL
import Derived.Test.YtpfalaghggjbjaaPlS
namespace Go.Proofs.Ytpfalaghggjbjaa

theorem fixL_room : ∀ i : Fin 16, firstOf (cnt fixL) i.val + fixL.count i.val ≤ 2 ^ i.val := by decide +kernel
theorem fixD_room : ∀ i : Fin 16, firstOf (cnt fixD) i.val + fixD.count i.val ≤ 2 ^ i.val := by decide +kernel
theorem fixL_pos : ∀ x ∈ fixL, 1 ≤ x := by decide +kernel
theorem fixD_pos : ∀ x ∈ fixD, 1 ≤ x := by decide +kernel
theorem atN_mem {l : List Nat} {j : Nat} (h : j < l.length) : atN l j ∈ l := by unfold atN; rw [List.getD, List.getElem?_eq_getElem h]; exact List.getElem_mem h
theorem takes_L {s : Nat} (h : s < 288) : Takes (symM fixL) (codeFor fixL s) s := by
  have hs : s < fixL.length := by rw [fixL_length]; exact h
  have h9 := fixL_le _ (atN_mem hs)
  exact takes_sym hs (fixL_pos _ (atN_mem hs)) (by omega) (fixL_room ⟨atN fixL s, by omega⟩)
theorem takes_D {s : Nat} (h : s < 32) : Takes (symM fixD) (codeFor fixD s) s := by
  have hs : s < fixD.length := by rw [fixD_length]; exact h
  have h9 := fixD_le _ (atN_mem hs)
  exact takes_sym hs (fixD_pos _ (atN_mem hs)) (by omega) (fixD_room ⟨atN fixD s, by omega⟩)
theorem bits_lt2 (x : Int) (n : Nat) : (∀ y ∈ fieldBits x n, y < 2) ∧ ∀ y ∈ codeBits x n, y < 2 := by
  constructor <;> intro y hy <;> simp [fieldBits, codeBits] at hy <;> obtain ⟨k, _, rfl⟩ := hy <;> exact bitOf_lt _ _
theorem fixedBits_lt2 (L D : List Nat) (ps : List Piece) : ∀ y ∈ fixedBits L D ps, y < 2 := by
  intro y hy
  have hc : ∀ L s, ∀ y ∈ codeFor L s, y < 2 := fun L s y hy => (bits_lt2 _ _).2 y hy
  simp only [fixedBits, restBits, List.mem_append, List.mem_flatMap] at hy
  rcases hy with hy | hy | ⟨p, _, hy⟩ | hy
  · exact (bits_lt2 _ _).1 y hy
  · exact (bits_lt2 _ _).1 y hy
  · unfold pieceBits at hy
    split at hy
    · exact hc _ _ y hy
    · simp only [List.mem_append] at hy
      rcases hy with hy | hy | hy | hy
      · exact hc _ _ y hy
      · exact (bits_lt2 _ _).1 y hy
      · exact hc _ _ y hy
      · exact (bits_lt2 _ _).1 y hy
  · exact hc _ _ y hy

theorem lastLe_lt (f : Nat → Nat) (x a : Nat) : ∀ n, lastLe f x a n = a + n ∨ x < f (lastLe f x a n + 1)
  | 0 => .inl rfl
  | n + 1 => by
    unfold lastLe
    split
    · exact .inl (by omega)
    · rename_i h
      rcases lastLe_lt f x a n with h1 | h1
      · right; rw [h1]; omega
      · exact .inr h1
theorem lbase_next : ∀ i : Fin 27, lbase (257 + i.val + 1) ≤ lbase (257 + i.val) + 2 ^ lbits (257 + i.val) := by decide
theorem dbase_next : ∀ i : Fin 29, dbase (i.val + 1) ≤ dbase i.val + 2 ^ dbits i.val := by decide
theorem len_room {n : Nat} (h1 : 3 ≤ n) (h2 : n ≤ 258) : 257 ≤ lsym n ∧ n - lbase (lsym n) < 2 ^ lbits (lsym n) := by
  unfold lsym
  split
  · rename_i h; subst h; decide
  · rename_i h
    have hg := lastLe_ge lbase n 257 27
    rcases lastLe_lt lbase n 257 27 with h3 | h3
    · rw [h3]
      exact ⟨by omega, by show n - 227 < 32; omega⟩
    · by_cases h4 : lastLe lbase n 257 27 = 284
      · rw [h4]; exact ⟨by omega, by show n - 227 < 32; omega⟩
      · have := lbase_next ⟨lastLe lbase n 257 27 - 257, by omega⟩
        simp only [show 257 + (lastLe lbase n 257 27 - 257) = lastLe lbase n 257 27 by omega] at this
        have hp := Nat.two_pow_pos (lbits (lastLe lbase n 257 27))
        exact ⟨by omega, by omega⟩
theorem dist_room {n : Nat} (h2 : n ≤ 32768) : n - dbase (dsym n) < 2 ^ dbits (dsym n) := by
  unfold dsym
  have hg := lastLe_ge dbase n 0 29
  rcases lastLe_lt dbase n 0 29 with h3 | h3
  · rw [h3]; show n - 24577 < 8192; omega
  · by_cases h4 : lastLe dbase n 0 29 = 29
    · rw [h4]; show n - 24577 < 8192; omega
    · have := dbase_next ⟨lastLe dbase n 0 29, by omega⟩
      simp only at this
      have hp := Nat.two_pow_pos (dbits (lastLe dbase n 0 29))
      omega

theorem expand_grow : ∀ (ps : List Piece) (o : List UInt8), (expand ps o).2 = 0 → o.length ≤ (expand ps o).1.length
  | [], o, _ => Nat.le_refl _
  | p :: ps, o, h => by
    revert h
    unfold expand
    split
    · intro h; simp at h
    · split
      · intro h; have := expand_grow ps _ h; simp at this; omega
      · split
        · intro h; simp at h
        · intro h; have := expand_grow ps _ h; rw [copyN_length] at this; omega
theorem copyM_ok {b : List UInt8} {m t d : Nat} : ∀ (n : Nat) (o : List UInt8), o.length + n ≤ m → copyM d n b m t o = .ok () t (copyN n d o)
  | 0, _, _ => rfl
  | n + 1, o, h => by
    have e : (bnd outM fun o => tellM (o.getD (o.length - d) 0)) b m t o = .ok () t (o ++ [o.getD (o.length - d) 0]) := by
      show tellM _ b m t o = _
      unfold tellM
      rw [if_neg (by omega)]
    show bnd _ _ b m t o = _
    rw [bnd_ok e]
    exact copyM_ok n _ (by simp; omega)
theorem pieceM_ok {b : List UInt8} {m t n d : Nat} {o : List UInt8} (h1 : 3 ≤ n) (h2 : n ≤ 258) (h3 : 1 ≤ d) (h4 : d ≤ 32768) (hd : d ≤ o.length) (hm : o.length + n ≤ m) (l : List Nat)
    (hl : l = fieldBits ((n : Int) - (lbase (lsym n) : Nat)) (lbits (lsym n)) ++ (codeFor fixD (dsym d) ++ fieldBits ((d : Int) - (dbase (dsym d) : Nat)) (dbits (dsym d)))) (hb : Bits b t l) :
    pieceM fixD (lsym n) b m t o = .ok () (t + l.length) (copyN n d o) := by
  have a1 := len_room h1 h2
  have a2 := lbase_le h1 h2
  have a3 := lsym_le h2
  have c1 := dist_room h4
  have c2 := dbase_le h3
  have c3 := dsym_le d
  rw [show ((n : Int) - (lbase (lsym n) : Nat)) = ((n - lbase (lsym n) : Nat) : Int) by omega, show ((d : Int) - (dbase (dsym d) : Nat)) = ((d - dbase (dsym d) : Nat) : Int) by omega] at hl
  subst hl
  obtain ⟨b1, b2⟩ := hb.app
  obtain ⟨b3, b4⟩ := b2.app
  unfold pieceM
  rw [if_neg (by omega), bnd_ok (takes_field a1.2 b m t o b1), bnd_ok (takes_D (by omega) b m _ o b3), if_neg (by omega), bnd_ok (takes_field c1 b m _ o b4)]
  show (if o.length < dbase (dsym d) + (d - dbase (dsym d)) then failM 5 else _) b m _ o = _
  rw [if_neg (by omega), show dbase (dsym d) + (d - dbase (dsym d)) = d by omega, show lbase (lsym n) + (n - lbase (lsym n)) = n by omega, copyM_ok n o hm]
  simp [Nat.add_assoc]
theorem codedGo_ok {b : List UInt8} {m : Nat} : ∀ (ps : List Piece) (f t : Nat) (o : List UInt8), ps.length < f → (expand ps o).2 = 0 → (expand ps o).1.length ≤ m → Bits b t (restBits fixL fixD ps) →
    codedGo fixL fixD f b m t o = .ok () (t + (restBits fixL fixD ps).length) (expand ps o).1
  | _, 0, _, _, hf, _, _, _ => by omega
  | [], f + 1, t, o, _, _, _, hb => by
    show bnd _ _ b m t o = _
    have e : restBits fixL fixD [] = codeFor fixL 256 := by simp [restBits]
    rw [e] at hb ⊢
    rw [bnd_ok (takes_L (by omega) b m t o hb), if_pos rfl]
    rfl
  | p :: ps, f + 1, t, o, hf, h0, hm, hb => by
    rw [restBits_cons] at hb ⊢
    obtain ⟨b1, b2⟩ := hb.app
    have hmay : mayB p = true := expand_may _ _ h0 p (by simp)
    rw [expand] at h0 hm ⊢
    rw [if_neg (by simp [hmay])] at h0 hm ⊢
    simp only [List.length_cons] at hf
    show bnd _ _ b m t o = _
    by_cases hp0 : p.len = 0
    · rw [if_pos hp0] at h0 hm ⊢
      have e : pieceBits fixL fixD p = codeFor fixL p.byte.toNat := by unfold pieceBits; rw [if_pos hp0]
      rw [e] at b1 b2 ⊢
      have h256 := p.byte.toNat_lt
      have hg := expand_grow ps _ h0
      simp only [List.length_append, List.length_cons, List.length_nil] at hg
      rw [bnd_ok (takes_L (by omega) b m t o b1), if_neg (by omega), if_pos (by omega)]
      have et : tellM (UInt8.ofNat p.byte.toNat) b m (t + (codeFor fixL p.byte.toNat).length) o = .ok () (t + (codeFor fixL p.byte.toNat).length) (o ++ [p.byte]) := by
        unfold tellM
        rw [if_neg (by omega)]
        simp
      rw [bnd_ok et, codedGo_ok ps f _ _ (by omega) h0 hm b2, List.length_append, Nat.add_assoc]
    · rw [if_neg hp0] at h0 hm ⊢
      obtain ⟨n, d, hn, hd, h1, h2, h3, h4⟩ : ∃ n d : Nat, p.len = n ∧ p.dist = d ∧ 3 ≤ n ∧ n ≤ 258 ∧ 1 ≤ d ∧ d ≤ 32768 := by
        rcases mayB_cases hmay with ⟨h1, _⟩ | ⟨h1, h2, h3, h4, _⟩
        · exact absurd h1 hp0
        · exact ⟨p.len.toNat, p.dist.toNat, by omega, by omega, by omega, by omega, by omega, by omega⟩
      by_cases hfar : (o.length : Int) < p.dist
      · rw [if_pos hfar] at h0; simp at h0
      · rw [if_neg hfar] at h0 hm ⊢
        have hg := expand_grow ps _ h0
        rw [copyN_length] at hg
        have e : pieceBits fixL fixD p = codeFor fixL (lsym n) ++ (fieldBits ((n : Int) - (lbase (lsym n) : Nat)) (lbits (lsym n)) ++ (codeFor fixD (dsym d) ++ fieldBits ((d : Int) - (dbase (dsym d) : Nat)) (dbits (dsym d)))) := by
          unfold pieceBits
          rw [if_neg hp0, hn, hd]
          simp only [Int.toNat_natCast]
        simp only [hn, hd, Int.toNat_natCast] at h0 hm hg hfar ⊢
        rw [e] at b1 b2 ⊢
        obtain ⟨c1, c2⟩ := b1.app
        have a1 := len_room h1 h2
        have a3 := lsym_le h2
        rw [bnd_ok (takes_L (by omega) b m t o c1), if_neg (by omega), if_neg (by omega), bnd_ok (pieceM_ok h1 h2 h3 h4 (by omega) (by omega) _ rfl c2)]
        rw [List.length_append, ← Nat.add_assoc] at b2
        rw [codedGo_ok ps f _ _ (by omega) h0 hm b2]
        simp [Nat.add_assoc]
theorem one_block {b : List UInt8} {m t : Nat} {o' : List UInt8} {k : Nat} (hb : bit? b 0 = some 1) (hk : fieldM 2 b m 1 [] = .ok k 3 []) (hc : bodyM k b m 3 [] = .ok () t o') : inflateP b m = (o', (t + 7) / 8, 0) := by
  have e1 : fieldM 1 b m 0 [] = .ok 1 1 [] := by
    show bnd bitM _ b m 0 [] = _
    have : bitM b m 0 [] = .ok 1 1 [] := by unfold bitM; rw [hb]
    rw [bnd_ok this]
    rfl
  have e : blockM b m 0 [] = .ok ⟨k, true, 0, o'.length - 0⟩ t o' := by
    show bnd (fieldM 1) _ b m 0 [] = _
    rw [bnd_ok e1, bnd_ok hk, bnd_ok hc]
    rfl
  have e2 : blocksM b m 0 [] = .ok [⟨k, true, 0, o'.length - 0⟩] t o' := by
    show bnd blockM _ b m 0 [] = _
    rw [bnd_ok e]
    rfl
  exact inflateP_ok e2
/-- A fixed stream is read back. -/
theorem inflate_fixed {ps : List Piece} {m : Nat} (h : (expand ps []).2 = 0) (hl : ps.length < lots) (hm : (expand ps []).1.length ≤ m) : inflateP (fixedP ps).1 m = ((expand ps []).1, (fixedP ps).1.length, 0) := by
  have hb := putAll_bits (fixedBits_lt2 fixL fixD ps)
  have hlen := putAll_len (fixedBits fixL fixD ps) ([], 0) rfl
  rw [putAll_snd] at hlen
  unfold fixedP fixedG
  rw [if_pos h]
  simp only
  generalize (putAll ([], 0) (fixedBits fixL fixD ps)).1 = b at *
  unfold fixedBits at hb hlen
  obtain ⟨b1, b2⟩ := hb.app
  obtain ⟨b3, b4⟩ := b2.app
  simp only [fieldBits_length, List.length_append] at hlen b3 b4
  have e1 : bit? b 0 = some 1 := b1 0 (by simp [fieldBits_length])
  have e2 : fieldM 2 b m 1 [] = .ok 1 3 [] := takes_field (v := 1) (n := 2) (by decide) b m 1 [] b3
  have e3 : bodyM 1 b m 3 [] = .ok () (3 + (restBits fixL fixD ps).length) (expand ps []).1 := by
    unfold bodyM
    rw [if_neg (by decide), if_pos rfl]
    exact codedGo_ok ps lots 3 [] hl h hm b4
  have e4 := one_block e1 e2 e3
  have e5 : (3 + (restBits fixL fixD ps).length + 7) / 8 = b.length := by omega
  rw [e5] at e4
  exact e4

theorem takes_byte {b : List UInt8} {k m : Nat} {o : List UInt8} {c : UInt8} (h : b[k]? = some c) : fieldM 8 b m (8 * k) o = .ok c.toNat (8 * k + 8) o := by
  have := takes_field (v := c.toNat) (n := 8) (by have := c.toNat_lt; omega) b m (8 * k) o
  rw [fieldBits_length] at this
  refine this fun i hi => ?_
  rw [fieldBits_length] at hi
  unfold bit?
  rw [show (8 * k + i) / 8 = k by omega, h]
  simp only [Option.map_some, fieldBits, List.getElem_map, List.getElem_range, Option.some.injEq]
  unfold bitOf
  rw [show (8 * k + i) % 8 = i by omega]
  have : ((c.toNat : Int) / 2 ^ i) = ((c.toNat / 2 ^ i : Nat) : Int) := by simp
  rw [this]; omega
theorem takes_two {b : List UInt8} {k m : Nat} {o : List UInt8} {c d : UInt8} (h : b[k]? = some c) (h' : b[k + 1]? = some d) : fieldM 16 b m (8 * k) o = .ok (c.toNat + 256 * d.toNat) (8 * k + 16) o := by
  have := takes_field (v := c.toNat + 256 * d.toNat) (n := 16) (by have := c.toNat_lt; have := d.toNat_lt; omega) b m (8 * k) o
  rw [fieldBits_length] at this
  refine this fun i hi => ?_
  rw [fieldBits_length] at hi
  simp only [fieldBits, List.getElem_map, List.getElem_range]
  unfold bitOf
  have hv : (((c.toNat + 256 * d.toNat : Nat) : Int) / 2 ^ i) = (((c.toNat + 256 * d.toNat) / 2 ^ i : Nat) : Int) := by simp
  rw [hv]
  have hc := c.toNat_lt
  unfold bit?
  by_cases h8 : i < 8
  · rw [show (8 * k + i) / 8 = k by omega, h, show (8 * k + i) % 8 = i by omega]
    simp only [Option.map_some, Option.some.injEq]
    obtain ⟨e, he⟩ : ∃ e, 8 = i + (e + 1) := ⟨7 - i, by omega⟩
    have h256 : (256 : Nat) = 2 ^ e * 2 * 2 ^ i := by rw [← Nat.pow_succ, ← Nat.pow_add, show e + 1 + i = 8 by omega]
    have : c.toNat + 256 * d.toNat = c.toNat + (2 * (2 ^ e * d.toNat)) * 2 ^ i := by rw [h256]; ac_rfl
    rw [this, Nat.add_mul_div_right _ _ (Nat.two_pow_pos _)]
    omega
  · rw [show (8 * k + i) / 8 = k + 1 by omega, h', show (8 * k + i) % 8 = i - 8 by omega]
    simp only [Option.map_some, Option.some.injEq]
    have : 2 ^ i = 256 * 2 ^ (i - 8) := by
      rw [show (256 : Nat) = 2 ^ 8 from rfl, ← Nat.pow_add, show 8 + (i - 8) = i by omega]
    rw [this, ← Nat.div_div_eq_div_mul, show (c.toNat + 256 * d.toNat) / 256 = d.toNat by omega]
    omega
theorem rep_bytes {b : List UInt8} {m : Nat} : ∀ (n k : Nat) (o : List UInt8), k + n ≤ b.length → o.length + n ≤ m → repM n (bnd (fieldM 8) fun c => tellM (UInt8.ofNat c)) b m (8 * k) o = .ok () (8 * (k + n)) (o ++ (b.drop k).take n)
  | 0, k, o, _, _ => by simp [repM, ret]
  | n + 1, k, o, h1, h2 => by
    have hk : b[k]? = some (b.getD k 0) := by rw [List.getD, List.getElem?_eq_getElem (by omega)]; rfl
    have e : (bnd (fieldM 8) fun c => tellM (UInt8.ofNat c)) b m (8 * k) o = .ok () (8 * (k + 1)) (o ++ [b.getD k 0]) := by
      rw [bnd_ok (takes_byte hk)]
      unfold tellM
      rw [if_neg (by omega)]
      simp [Nat.mul_add]
    show bnd _ _ b m (8 * k) o = _
    rw [bnd_ok e, rep_bytes n (k + 1) _ (by omega) (by simp; omega)]
    rw [show k + 1 + n = k + (n + 1) by omega]
    have hd : b.drop k = b.getD k 0 :: b.drop (k + 1) := by
      rw [List.drop_eq_getElem_cons (by omega), List.getD, List.getElem?_eq_getElem (by omega)]
      rfl
    rw [hd]
    simp
/-- A stored stream is read back. -/
theorem inflate_stored {l : List UInt8} {m : Nat} (h : l.length ≤ 65535) (hm : l.length ≤ m) : inflateP (stored l) m = (l, l.length + 5, 0) := by
  unfold stored
  rw [storedF_last h]
  obtain ⟨b, hb⟩ : ∃ b, b = head5 1 l.length ++ l := ⟨_, rfl⟩
  rw [← hb]
  have g0 : b[0]? = some 1 := by rw [hb]; rfl
  have g1 : b[1]? = some (UInt8.ofNat l.length) := by rw [hb]; rfl
  have g2 : b[2]? = some (UInt8.ofNat (l.length / 256)) := by rw [hb]; rfl
  have g3 : b[3]? = some (UInt8.ofNat (255 - l.length % 256)) := by rw [hb]; rfl
  have g4 : b[4]? = some (UInt8.ofNat (255 - l.length / 256)) := by rw [hb]; rfl
  have hbl : b.length = l.length + 5 := by rw [hb]; simp [head5]
  have hdr : b.drop 5 = l := by rw [hb]; rfl
  have z : ∀ i, i < 8 → bit? b i = some (1 / 2 ^ i % 2) := by
    intro i hi
    unfold bit?
    rw [show i / 8 = 0 by omega, g0, show i % 8 = i by omega]
    rfl
  have e1 : bit? b 0 = some 1 := z 0 (by decide)
  have e2 : fieldM 2 b m 1 [] = .ok 0 3 [] := by
    refine takes_field (v := 0) (n := 2) (by decide) b m 1 [] fun i hi => ?_
    rw [fieldBits_length] at hi
    rw [z _ (by omega)]
    rcases (show i = 0 ∨ i = 1 by omega) with rfl | rfl <;> rfl
  have e3 : bodyM 0 b m 3 [] = .ok () (8 * (5 + l.length)) l := by
    unfold bodyM storedM
    rw [if_pos rfl]
    show bnd (fieldM 16) _ b m (8 * 1) [] = _
    rw [bnd_ok (takes_two g1 g2)]
    show bnd (fieldM 16) _ b m (8 * 3) [] = _
    rw [bnd_ok (takes_two g3 g4)]
    have n1 : (UInt8.ofNat l.length).toNat + 256 * (UInt8.ofNat (l.length / 256)).toNat = l.length := by simp; omega
    have n2 : (UInt8.ofNat (255 - l.length % 256)).toNat + 256 * (UInt8.ofNat (255 - l.length / 256)).toNat = 65535 - l.length := by simp; omega
    rw [n1, n2, if_pos (by omega)]
    show repM _ _ b m (8 * 5) [] = _
    rw [rep_bytes _ _ _ (by omega) (by simpa using hm), hdr]
    simp
  rw [one_block e1 e2 e3]
  congr 2
  omega

theorem shared_same (l : List UInt8) (i k : Nat) : ∀ f n, (∀ j, j < n → l.getD (i + j) 0 = l.getD (k + j) 0) → ∀ j, j < shared l i k f n → l.getD (i + j) 0 = l.getD (k + j) 0
  | 0, _, h => h
  | f + 1, n, h => by
    unfold shared
    split
    · rename_i hc
      refine shared_same l i k f (n + 1) fun j hj => ?_
      by_cases e : j = n
      · subst e; exact hc.2
      · exact h j (by omega)
    · exact h
theorem longest_same {l : List UInt8} {i k j : Nat} (h : j < longest l i k) : l.getD (i + j) 0 = l.getD (k + j) 0 := shared_same l i k 258 0 (fun j hj => by omega) j h
theorem scan_long (l : List UInt8) (p : Nat) : ∀ f back s, (s.1 = 0 ∨ s.1 = longest l (p - s.2) p) → ((scan l p f back s).1 = 0 ∨ (scan l p f back s).1 = longest l (p - (scan l p f back s).2) p)
  | 0, _, _, h => h
  | f + 1, back, s, h => by
    unfold scan
    split
    · refine scan_long l p f _ _ ?_
      split
      · exact .inr rfl
      · exact h
    · exact h
theorem copyN_run {l : List UInt8} {d : Nat} : ∀ (k p : Nat), 1 ≤ d → d ≤ p → p + k ≤ l.length → (∀ j, j < k → l.getD (p - d + j) 0 = l.getD (p + j) 0) → copyN k d (l.take p) = l.take (p + k)
  | 0, _, _, _, _, _ => rfl
  | k + 1, p, h1, h2, h3, h => by
    have hl : (l.take p).length = p := by simp; omega
    have e : (l.take p).getD ((l.take p).length - d) 0 = l.getD p 0 := by
      rw [hl]
      have := h 0 (by omega)
      rw [Nat.add_zero, Nat.add_zero] at this
      rw [← this, List.getD, List.getD, List.getElem?_take_of_lt (by omega)]
    show copyN k d (l.take p ++ [_]) = _
    rw [e]
    have e2 : l.take p ++ [l.getD p 0] = l.take (p + 1) := by
      rw [List.take_succ_eq_append_getElem (by omega), List.getD, List.getElem?_eq_getElem (by omega)]
      rfl
    rw [e2, copyN_run k (p + 1) h1 (by omega) (by omega), Nat.add_assoc, Nat.add_comm 1]
    intro j hj
    have := h (j + 1) (by omega)
    rw [show p + 1 - d + j = p - d + (j + 1) by omega, show p + 1 + j = p + (j + 1) by omega]
    exact this
theorem expand_piecesF (l : List UInt8) : ∀ (f p : Nat), p ≤ l.length → l.length - p ≤ f → expand (piecesF l f p) (l.take p) = (l, 0)
  | 0, p, h1, h2 => by
    have : p = l.length := by omega
    subst this
    simp [piecesF, expand]
  | f + 1, p, h1, h2 => by
    unfold piecesF
    by_cases hp : p < l.length
    · rw [if_pos hp]
      obtain ⟨b1, b2, b3, b4, b5⟩ := best_inv l p h1
      by_cases h3 : 3 ≤ (best l p).1
      · rw [if_pos h3]
        have hlong : (best l p).1 = 0 ∨ (best l p).1 = longest l (p - (best l p).2) p := scan_long l p p 1 (0, 0) (.inl rfl)
        have hlong : (best l p).1 = longest l (p - (best l p).2) p := by omega
        have hd1 : 1 ≤ (best l p).2 := by omega
        rw [expand]
        have hm : mayB ⟨((best l p).1 : Int), ((best l p).2 : Int), 0⟩ = true := by
          unfold mayB
          rw [if_neg (by show ¬ ((best l p).1 : Int) = 0; omega)]
          simp
          omega
        have hl : (l.take p).length = p := by simp; omega
        rw [if_neg (by rw [hm]; simp), if_neg (by show ¬ ((best l p).1 : Int) = 0; omega), if_neg (by rw [hl]; show ¬ (p : Int) < ((best l p).2 : Int); omega)]
        simp only [Int.toNat_natCast]
        have hrun : copyN (best l p).1 (best l p).2 (l.take p) = l.take (p + (best l p).1) := by
          refine copyN_run _ p hd1 b3 b2 fun j hj => ?_
          exact longest_same (by omega)
        rw [hrun]
        exact expand_piecesF l f _ b2 (by omega)
      · rw [if_neg h3, expand]
        have e2 : l.take p ++ [l.getD p 0] = l.take (p + 1) := by
          rw [List.take_succ_eq_append_getElem (by omega), List.getD, List.getElem?_eq_getElem (by omega)]
          rfl
        rw [if_neg (by simp [mayB]), if_pos rfl, e2]
        exact expand_piecesF l f (p + 1) (by omega) (by omega)
    · rw [if_neg hp]
      have : p = l.length := by omega
      subst this
      simp [expand]
/-- The pieces of bytes make these bytes. -/
theorem expand_pieces (l : List UInt8) : expand (pieces l) [] = (l, 0) := expand_piecesF l l.length 0 (Nat.zero_le _) (Nat.le_refl _)
end Go.Proofs.Ytpfalaghggjbjaa
