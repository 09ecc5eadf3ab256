/-
  The walks of sluicegateref05.stream's field, code.
  Conditions: the stream holds bytes of its own, as many as its bits want.
-/
import Derived.Test.YtpfalaghggjbjaaWE
import Derived.Deep.RegionWith
namespace Go.Proofs.Ytpfalaghggjbjaa
open Go.RowKit

def SBitPost (e : Nat) (w : World) (p B : Nat) (s : List UInt8 × Nat) (en : Ending) (w' : World) : Prop := en = .returned (.tuple #[]) ∧ Wr e w' p B s ∧ Below B w w'

set_option maxRecDepth 100000 in
set_option maxHeartbeats 1000000 in
theorem sfield_any (p B n : Nat) (s : List UInt8 × Nat) (x : Int) (w : World) (h : Wr 108 w p B s) (hp : B ≤ p) (hs : s.1.length = (s.2 + 7) / 8) (hn : n ≤ 64) (hs2 : s.2 + n ≤ 1099511627776) :
    Calls Try.prog 77 #[.pointer (some ⟨p, 0, none⟩), .int .i64 x, .int .i64 n] w (SBitPost 108 w p B (putAll s (fieldBits x n))) := by
  have Hs := Lib.hid hs
  clear hs
  go_enter Try.func77, Try.ntmps77
  go_wp2
  go_loopw [6] (fun v wr => ∃ k : Nat, v = .int .i64 k ∧ k ≤ n ∧ Wr 108 wr p B (putAll s (fieldBits x k)) ∧ Below B w wr) (fun v _ => n - (intOf v).toNat)
  case atStart => exact ⟨0, rfl, by omega, h, Below.refl _ _⟩
  case round =>
    obtain ⟨k, rfl, hk, hw, hb⟩ := hrel
    by_cases hkn : k < n
    · have e : putBit (putAll s (fieldBits x k)) (bitOf (x / 2 ^ k) 0) = putAll s (fieldBits x (k + 1)) := by rw [bitOf_shift, fieldBits_succ, putAll_append]; rfl
      have He := Lib.hid e
      clear e
      have h2 : (putAll s (fieldBits x k)).2 ≤ 1099511627776 := by rw [putAll_snd, fieldBits_length]; omega
      have hl2 := Lib.hid (putAll_len (fieldBits x k) _ Hs.out)
      generalize putAll s (fieldBits x k) = st at *
      obtain ⟨bs, m⟩ := st
      obtain ⟨a, c, hp0, hown⟩ := hw
      simp only at hp0 hown h2
      have c0 := cell_at (j := 0) hp0 rfl
      have c1 := cell_at (j := 1) hp0 rfl
      have f0 := free_at (j := 0) hp0
      have f1 := free_at (j := 1) hp0
      go_wp2
      have hk64 : k < 64 := by omega
      have hBz : B ≤ wr.heap.size := by have := lt_at hp0; omega
      go_region_with (go_at_call 98; go_must (refine (put_at B m c (bitOf x k) _ a bs _ (and_shift x k hk64) (by exact hown) (by exact hBz) hl2.out h2 (bitOf_lt _ _)).mono ?_); rintro en w' ⟨a', c', rfl, hown', hmv⟩; have hp1 := hmv.heap (p := p) (by exact hp0) (own_ne_cells hown hp0 (by decide)); have c10 := cell_at (j := 0) hp1 rfl; have c11 := cell_at (j := 1) hp1 rfl; have f10 := free_at (j := 0) hp1; have f11 := free_at (j := 1) hp1)
      all_goals
        go_wp2
        go_roundw
        case rel =>
          refine ⟨k + 1, by go_num, by omega, ?_, ?_⟩
          · rw [← He.out, bitOf_shift]
            exact wr_mk (heap_set (j := 1) (heap_set (j := 0) hp1 _) _) (own_set (own_set hown' (own_ne_cells hown' hp1 (by decide)) _) (own_ne_cells hown' hp1 (by decide)) _) (by omega)
          · exact ((hb.drew.trans (hmv.below (by exact hBz) fun g hg => (OB.blk hown g hg).1)).setCell (by exact hp) _).setCell (by exact hp) _
        case measure => simp [intOf]; omega
    · have hkn' : k = n := by omega
      subst hkn'
      go_wp2
      go_end0
      exact ⟨rfl, hw, hb⟩

set_option maxRecDepth 100000 in
set_option maxHeartbeats 1000000 in
theorem scode_any (p B n : Nat) (s : List UInt8 × Nat) (x : Int) (w : World) (h : Wr 108 w p B s) (hp : B ≤ p) (hs : s.1.length = (s.2 + 7) / 8) (hn : n ≤ 64) (hs2 : s.2 + n ≤ 1099511627776) :
    Calls Try.prog 78 #[.pointer (some ⟨p, 0, none⟩), .int .i64 x, .int .i64 n] w (SBitPost 108 w p B (putAll s (codeBits x n))) := by
  have Hs := Lib.hid hs
  clear hs
  go_enter Try.func78, Try.ntmps78
  go_wp2
  go_loopw [6] (fun v wr => ∃ (k : Nat) (st : List UInt8 × Nat), ((∃ j : Nat, v = .int .i64 j ∧ k = j + 1) ∨ (v = .int .i64 (-1) ∧ k = 0)) ∧ k ≤ n ∧ Wr 108 wr p B st ∧ st.1.length = (st.2 + 7) / 8 ∧ st.2 + k = s.2 + n ∧ putAll st (codeBits x k) = putAll s (codeBits x n) ∧ Below B w wr)
    (fun v _ => (intOf v + 1).toNat)
  case atStart =>
    refine ⟨n, s, ?_, by omega, h, Hs.out, rfl, rfl, Below.refl _ _⟩
    rcases Nat.eq_zero_or_pos n with h0 | h0
    · subst h0; exact .inr ⟨by simp, rfl⟩
    · exact .inl ⟨n - 1, by congr 1; omega, by omega⟩
  case round =>
    obtain ⟨k, ⟨bs, m⟩, hv, hk, hw, hl, hs', he, hb⟩ := hrel
    have He := Lib.hid he
    have hl2 := Lib.hid hl
    have Hs' := Lib.hid hs'
    have h2 : m ≤ 1099511627776 := by simp only at hs'; omega
    clear he hl hs'
    rcases hv with ⟨j, rfl, rfl⟩ | ⟨rfl, rfl⟩
    · have e : putAll (putBit (bs, m) (bitOf x j)) (codeBits x j) = putAll s (codeBits x n) := by rw [← He.out, codeBits_succ]; rfl
      have He' := Lib.hid e
      have hk64 : j < 64 := by omega
      clear e
      obtain ⟨a, c, hp0, hown⟩ := hw
      simp only at hp0 hown h2
      have c0 := cell_at (j := 0) hp0 rfl
      have c1 := cell_at (j := 1) hp0 rfl
      have f0 := free_at (j := 0) hp0
      have f1 := free_at (j := 1) hp0
      have hBz : B ≤ wr.heap.size := by have := lt_at hp0; omega
      go_wp2
      go_region_with (go_at_call 98; go_must (refine (put_at B m c (bitOf x j) _ a bs _ (and_shift x j hk64) (by exact hown) (by exact hBz) hl2.out h2 (bitOf_lt _ _)).mono ?_); rintro en w' ⟨a', c', rfl, hown', hmv⟩; have hp1 := hmv.heap (p := p) (by exact hp0) (own_ne_cells hown hp0 (by decide)); have c10 := cell_at (j := 0) hp1 rfl; have c11 := cell_at (j := 1) hp1 rfl; have f10 := free_at (j := 0) hp1; have f11 := free_at (j := 1) hp1)
      all_goals
        go_wp2
        go_roundw
        case rel =>
          refine ⟨j, putBit (bs, m) (bitOf x j), ?_, by omega, ?_, putBit_len _ _ hl2.out, by rw [putBit_snd]; have := Hs'.out; simp only at this ⊢; omega, He'.out, ?_⟩
          · rcases Nat.eq_zero_or_pos j with h0 | h0
            · subst h0; exact .inr ⟨by simp, rfl⟩
            · exact .inl ⟨j - 1, by congr 1; omega, by omega⟩
          · exact wr_mk (heap_set (j := 1) (heap_set (j := 0) hp1 _) _) (own_set (own_set hown' (own_ne_cells hown' hp1 (by decide)) _) (own_ne_cells hown' hp1 (by decide)) _) (by omega)
          · exact ((hb.drew.trans (hmv.below (by exact hBz) fun g hg => (OB.blk hown g hg).1)).setCell (by exact hp) _).setCell (by exact hp) _
        case measure => first | (simp [intOf]; done) | (simp [intOf]; omega)
    · go_wp2
      go_end0
      exact ⟨rfl, by rw [← He.out]; exact hw, hb⟩
end Go.Proofs.Ytpfalaghggjbjaa
