/-
  The walk of deflate.Stored.
  Conditions: the slice reads as a list of bytes, no longer than 2^30.
-/
import Derived.Test.YtpfalaghggjbjaaWQ
import Derived.Test.YtpfalaghggjbjaaWO
namespace Go.Proofs.Ytpfalaghggjbjaa
open Go.RowKit

def FPost (w : World) (p : Nat) (s : List UInt8 × Nat) (en : Ending) (w' : World) : Prop :=
  en = .returned (.tuple #[]) ∧ Below p w w' ∧ ∃ (bs : List UInt8) (a : Option Addr) (c : Nat), s.1 = bs ∧ w'.heap[p]? = some (.cells #[.slice a bs.length c, .int .i64 (s.2 : Int)] 80 (0, 0)) ∧ OB w' p a bs.length c bs
theorem fpost_of {w w' : World} {p : Nat} {s : List UInt8 × Nat} {en : Ending} (h1 : en = .returned (.tuple #[])) (h2 : Below p w w') (h3 : Wr 80 w' p p s) : FPost w p s en w' := by
  obtain ⟨a, c, h4, h5⟩ := h3
  exact ⟨h1, h2, s.1, a, c, rfl, h4, h5⟩
theorem xor_lo (n : Nat) (hn : n ≤ 65535) : bits BinOp.xor IntKind.i64 (if IntKind.i64.signed = true then -1 else 9223372036854775807) (n : Int) % 256 = (((255 - n % 256) % 256 : Nat) : Int) := by
  rw [xor_not n hn]; omega
theorem xor_hi (n : Nat) (hn : n ≤ 65535) : bits BinOp.xor IntKind.i64 (if IntKind.i64.signed = true then -1 else 9223372036854775807) (n : Int) / 256 % 256 = (((255 - n / 256) % 256 : Nat) : Int) := by
  rw [xor_not n hn]; omega
theorem field3 {p fin : Nat} {bs : List UInt8} {w : World} (hf : fin ≤ 1) (h : Wr 80 w p p (bs, 8 * bs.length)) (hs2 : bs.length ≤ 10995116277) :
    Calls Try.prog 54 #[.pointer (some ⟨p, 0, none⟩), .int .i64 fin, .int .i64 3] w (FPost w p (bs ++ [UInt8.ofNat fin], 8 * bs.length + 3)) := by
  refine (field_any p p 3 _ fin w h (Nat.le_refl _) (by simp only; omega) (by omega) (by simp only; omega)).mono ?_
  rintro e w' ⟨h1, h2, h3, -⟩
  rw [putAll_3 bs fin (by omega)] at h2
  exact fpost_of h1 h3 h2
theorem field16 {p a b : Nat} {x : Int} {bs : List UInt8} {w : World} (ha : x % 256 = ((a % 256 : Nat) : Int)) (hb : x / 256 % 256 = ((b % 256 : Nat) : Int)) (h : Wr 80 w p p (bs, 8 * bs.length)) (hs2 : bs.length ≤ 10995116277) :
    Calls Try.prog 54 #[.pointer (some ⟨p, 0, none⟩), .int .i64 x, .int .i64 16] w (FPost w p (bs ++ [UInt8.ofNat a, UInt8.ofNat b], 8 * (bs.length + 2))) := by
  refine (field_any p p 16 _ x w h (Nat.le_refl _) (by simp only; omega) (by omega) (by simp only; omega)).mono ?_
  rintro e w' ⟨h1, h2, h3, -⟩
  rw [putAll_16 bs x a b ha hb] at h2
  exact fpost_of h1 h3 h2

set_option maxRecDepth 100000 in
set_option maxHeartbeats 2000000 in
theorem stored_any (a : Option Addr) (N cap : Nat) (l : List UInt8) (w : World) (hl : l.length ≤ 1073741824) (h : RB w a N cap l) :
    Calls Try.prog 22 #[.slice a N cap] w (RetB w (stored l)) := by
  obtain rfl := RB.len h
  have h0 := wr_new w
  go_enter Try.func22, Try.ntmps22
  go_wp2
  go_loopw [0] (fun u wr => ∃ (k n' c' f : Nat) (a' : Option Addr) (bs : List UInt8), u = .slice a' n' c' ∧ k + n' = l.length ∧ bs.length ≤ 6 * k ∧ n' < f ∧ n' ≤ c' ∧ RB w a' n' c' (l.drop k) ∧ blk a' = blk a ∧ Wr 80 wr w.heap.size w.heap.size (bs, 8 * bs.length) ∧ bs ++ storedF f (l.drop k) = stored l ∧ Below w.heap.size w wr)
    (fun u _ => match u with | .slice _ n _ => n | _ => 0)
  case atStart => exact ⟨0, l.length, cap, l.length + 1, a, [], rfl, by omega, by simp, by omega, h.le, h, rfl, h0, rfl, (Below.refl _ _).alloc (Nat.le_refl _) _⟩
  case round =>
    obtain ⟨k, n', c', f, a', bs, rfl, hk, hbl, hf, hnc, hr, hblk, hwr, hsp, hbel⟩ := hrel
    have Hsp := Lib.hid hsp
    clear hsp
    obtain ⟨f, rfl⟩ : ∃ g, f = g + 1 := ⟨f - 1, by omega⟩
    have hd : (l.drop k).length = n' := by simp; omega
    obtain ⟨n, em, hn1, hn2, hn3, hn4⟩ : ∃ n : Nat, (if 65535 < (n' : Int) then 65535 else (n' : Int)) = (n : Int) ∧ n ≤ 65535 ∧ n ≤ n' ∧ (n' ≤ 65535 → n = n') ∧ (¬ n' ≤ 65535 → n = 65535) := by
      by_cases h : 65535 < n'
      · exact ⟨65535, by rw [if_pos (by omega)]; rfl, by omega, by omega, by omega, fun _ => rfl⟩
      · exact ⟨n', by rw [if_neg (by omega)], by omega, by omega, by omega, by omega⟩
    obtain ⟨fin, hfin⟩ : ∃ fin : Nat, fin = if n' ≤ 65535 then 1 else 0 := ⟨_, rfl⟩
    have Hfin := Lib.hid hfin
    have hf1 : fin ≤ 1 := by rw [hfin]; split <;> omega
    clear hfin
    go_upto_if 14 with fail
    go_cut [5] from 8 to 62 (fun u wx => u = .int .i64 fin ∧ wr = wx)
    case first =>
      by_cases hlast : n' ≤ 65535
      · have e5 : ((n : Int) == n') = true := by simp; omega
        go_wp2
        go_meet
        exact ⟨by rw [Hfin.out, if_pos hlast]; rfl, rfl⟩
      · have e5 : ((n : Int) == n') = false := by simp; omega
        go_wp2
        go_meet
        exact ⟨by rw [Hfin.out, if_neg hlast]; rfl, rfl⟩
    case rest =>
      obtain ⟨rfl, rfl⟩ := hcut
      obtain ⟨e, he⟩ : ∃ p, p = w.heap.size := ⟨_, rfl⟩
      go_wp2_with (first
        | (go_at_call 54; have _t := ho8; go_must (refine (field16 (p := w.heap.size) (a := 255 - n % 256) (b := 255 - n / 256) (bs := bs2) (xor_lo n hn1) (xor_hi n hn1) hW8 (by omega)).mono ?_); rintro e w9 ⟨rfl, hb9, bs3, a9, c9, e9, hp9, ho9⟩
           have l9 : bs3.length ≤ bs2.length + 2 := by rw [← e9]; simp
           have d90 := cell_at (j := 0) hp9 rfl; have d91 := cell_at (j := 1) hp9 rfl; have f90 := free_at (j := 0) hp9; have f91 := free_at (j := 1) hp9)
        | (go_at_call 54; have _t := ho7; have hW7 := wr_mk (n := 8 * bs1.length) (heap_set (j := 1) hp7 (.int .i64 ((bs1.length : Int) * 8))) (own_set ho7 (own_ne_cells ho7 hp7 (by decide)) _) (by omega)
           go_must (refine (field16 (p := w.heap.size) (x := (n : Int)) (a := n) (b := n / 256) (bs := bs1) (by omega) (by omega) hW7 (by omega)).mono ?_); rintro e w8 ⟨rfl, hb8, bs2, a8, c8, e8, hp8, ho8⟩
           have l8 : bs2.length ≤ bs1.length + 2 := by rw [← e8]; simp
           have hW8 : Wr 80 w8 w.heap.size w.heap.size (bs2, 8 * bs2.length) := ⟨a8, c8, by rw [show bs2.length = bs1.length + 2 by rw [← e8]; simp]; rw [show bs2.length = bs1.length + 2 by rw [← e8]; simp] at hp8; exact hp8, ho8⟩)
        | (go_at_call 54; go_must (refine (field3 (p := w.heap.size) hf1 hwr (by omega)).mono ?_); rintro e w7 ⟨rfl, hb7, bs1, a7, c7, e7, hp7, ho7⟩
           have l7 : bs1.length ≤ bs.length + 1 := by rw [← e7]; simp
           have d70 := cell_at (j := 0) hp7 rfl; have d71 := cell_at (j := 1) hp7 rfl; have f71 := free_at (j := 1) hp7))
      have hsl : ∀ w, (Instr.slice 22 (.slice a' n' c') none (some (.int .i64 (n : Int))) none).run Try.prog w = .ok (.slice (adv a' c' 0) n c') w := fun w => slice_h w a' n' c' n .i64 _ rfl (by omega)
      have hb9w : Below w.heap.size w w9 := hbel.trans (hb7.trans (((Below.refl _ _).setCell (by exact Nat.le_refl _) _).trans (hb8.trans hb9)))
      have hsz9 := hb9w.size
      have rS : ∀ m, RB (w9.drewN m) (adv a' c' 0) n c' ((l.drop k).take n) := fun m => RB.drewN (rd_below0 (rb_h hr hn2) hb9w) m
      have hnl : ((l.drop k).take n).length = n := by simp; omega
      clear hnl
      go_region_law (refine step_appB rfl (.tmp 38) (.tmp 41) rfl w.heap.size a9 bs3.length c9 bs3 (by simp [Act.eval]) (by exact ho9) (adv a' c' 0) n c' ((l.drop k).take n) (by simp [Act.eval]) (rS 1) (by omega) (by exact hsz9) ?_; intro aA cA wA hownA hgrewA; have hpA := heap_grew hgrewA (p := w.heap.size) (by exact hp9) (own_ne_cells ho9 hp9 (by decide)); have dA0 := cell_at (j := 0) hpA rfl; have dA1 := cell_at (j := 1) hpA rfl; have fA0 := free_at (j := 0) hpA; have fA1 := free_at (j := 1) hpA)
      all_goals
        have g1 := heap_set (j := 0) hpA (.slice aA (bs3.length + n) cA)
        have x0 := cell_at (j := 0) g1 rfl
        have x1 := cell_at (j := 1) g1 rfl
        have y1 := free_at (j := 1) g1
        go_wp2_with (refine wpList_slL rfl _ _ rfl a' n' c' n .i64 _ rfl rfl rfl hn2 ?_)
      all_goals
        have hnl : ((l.drop k).take n).length = n := by simp; omega
        have hlen : (bs3 ++ (l.drop k).take n).length = bs3.length + n := by rw [List.length_append, hnl]
        have e3 : bs3 = bs ++ head5 fin n := by rw [← e9, ← e8, ← e7]; simp [head5]
        have hbA : Below w.heap.size w wA := below_grew hb9w.drew hgrewA (by exact hsz9) (fun g hg => (ho9.blk g hg).1)
        have hbB : ∀ v1 v2, Below w.heap.size w ((wA.setCell ⟨w.heap.size, 0, none⟩ v1).setCell ⟨w.heap.size, 1, none⟩ v2) := fun v1 v2 => (hbA.setCell (by exact Nat.le_refl _) v1).setCell (by exact Nat.le_refl _) v2
        have hne := own_ne_cells hownA hpA (by decide)
        have hq2 : fin = 1 ∨ fin = 0 := by omega
      · have hf1' : fin = 1 := by rcases hq2 with h | h <;> simp_all
        have hlast : n' ≤ 65535 := by
          have := Hfin.out
          by_cases h : n' ≤ 65535
          · exact h
          · rw [if_neg h] at this; omega
        have hnn := hn3 hlast
        have hst : bs3 ++ (l.drop k).take n = stored l := by
          rw [← Hsp.out, storedF_last (by omega), e3, hf1', List.take_of_length_le (by omega), List.append_assoc, hd, hnn]
        rw [hst] at hlen hownA
        rw [← hlen] at hownA
        go_ret
        exact ⟨aA, cA, by rw [hlen]; rfl, own_set (own_set hownA hne _) hne _, hbB _ _⟩
      · have hf1' : fin = 0 := by rcases hq2 with h | h <;> simp_all
        have hlast : ¬ n' ≤ 65535 := by
          have := Hfin.out
          by_cases h : n' ≤ 65535
          · rw [if_pos h] at this; omega
          · exact h
        have hnn := hn4 hlast
        have hst : bs3 ++ (l.drop k).take n ++ storedF f (l.drop (k + n)) = stored l := by
          rw [← Hsp.out, storedF_more (by omega), e3, hf1', hnn, List.drop_drop]
          simp only [List.append_assoc]
        have hx := wr_mk (n := 8 * (bs3 ++ (l.drop k).take n).length) (heap_set (j := 1) g1 (.int .i64 (((bs3.length : Int) + n) * 8))) (own_set (own_set hownA hne _) hne _) (by rw [hlen]; omega)
        have hrl := rb_l hr hn2
        rw [List.drop_drop] at hrl
        have hkn : bs3.length + n ≤ 6 * (k + n) := by omega
        exact ⟨⟨k + n, n' - n, c' - n, f, adv a' c' n, bs3 ++ (l.drop k).take n, rfl, by omega, by rw [hlen]; exact hkn, by omega, by omega, hrl, by rw [blk_adv, hblk], hx, hst, hbB _ _⟩, by simp; omega⟩
end Go.Proofs.Ytpfalaghggjbjaa
