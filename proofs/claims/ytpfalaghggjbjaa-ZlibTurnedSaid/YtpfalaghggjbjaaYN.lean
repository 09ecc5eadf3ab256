/-
  The walk of the law DeflateBack.
  Conditions: the argument reads as a list of bytes.
-/
import Derived.Test.YtpfalaghggjbjaaYK
import Derived.Test.YtpfalaghggjbjaaWU
import Derived.Test.YtpfalaghggjbjaaPlM
namespace Go.Proofs.Ytpfalaghggjbjaa
open Go.RowKit

theorem stored_len {l : List UInt8} (h : l.length ≤ 65535) : (stored l).length = l.length + 5 := by
  unfold stored
  rw [storedF_last h, List.length_append]
  show 5 + l.length = _
  omega
theorem back_stored {l : List UInt8} (h : l.length ≤ 65535) : inflateP (stored l) l.length = (l, (stored l).length, 0) := by
  rw [stored_len h]; exact inflate_stored h (Nat.le_refl _)
theorem back_deflate {l : List UInt8} (h : l.length ≤ 65535) : inflateP (deflateP l) l.length = (l, (deflateP l).length, 0) ∧ (deflateP l).length ≤ l.length + 5 := by
  have hs := back_stored h
  have hn := stored_len h
  have hp := pieces_length l
  have he := expand_pieces l
  have hf := inflate_fixed (ps := pieces l) (m := l.length) (by rw [he]) (by unfold lots; omega) (by rw [he]; exact Nat.le_refl _)
  rw [he] at hf
  unfold deflateP
  split
  · exact ⟨hs, by omega⟩
  · exact ⟨hf, by omega⟩

set_option maxRecDepth 100000 in
set_option maxHeartbeats 8000000 in
theorem deflateBack_any (a : Option Addr) (N cap : Nat) (l : List UInt8) (w : World) (h : RB w a N cap l) :
    Calls Try.prog 8 #[.slice a N cap] w (TruePost w) := by
  obtain rfl := RB.len h
  by_cases hlt : 1200 < l.length
  · have d : decide ((1200 : Int) < l.length) = true := by simp; omega
    go_enter Try.func8, Try.ntmps8
    go_wp2_with (go_at_call 16; go_must (refine (lives5_any _).mono ?_); rintro e w1 ⟨rfl, hb1⟩)
    go_ret
    exact ⟨rfl, hb1⟩
  have d : decide ((1200 : Int) < l.length) = false := by simp; omega
  have hl : l.length ≤ 1073741824 := by omega
  have hl6 : l.length ≤ 65535 := by omega
  have hpl := pieces_length l
  have hC := fun a b n m c d l w => sameBytes_any a b n m c d l l w
  have hP := fun a N cap w => pieces_any a N cap l w (by omega)
  have hE := fun a N cap w => expand_any a N cap (pieces l) w (by omega)
  rw [expand_pieces l] at hE
  have hS := fun a N cap w => stored_any a N cap l w hl
  have hD := fun a N cap w => deflate_any a N cap l w hl
  have hsl := stored_len hl6
  have hbs := back_stored hl6
  obtain ⟨hbd, hdl⟩ := back_deflate hl6
  have hI1 : ∀ a N c w, RB w a N c (stored l) → Calls Try.prog 31 #[.slice a N c, .int .i64 l.length] w (RetInf w (l, (stored l).length, 0)) := fun a N c w h => by
    have := inflate_any a N c l.length _ w (by omega) hl h
    rw [hbs] at this
    exact this
  have hI2 : ∀ a N c w, RB w a N c (deflateP l) → Calls Try.prog 31 #[.slice a N c, .int .i64 l.length] w (RetInf w (l, (deflateP l).length, 0)) := fun a N c w h => by
    have := inflate_any a N c l.length _ w (by omega) hl h
    rw [hbd] at this
    exact this
  clear hbs hbd
  generalize pieces l = ps at *
  generalize stored l = S at *
  generalize deflateP l = D at *
  have f1 : decide ((D.length : Int) ≤ (l.length : Int) + 5) = true := by simp; omega
  clear hsl
  go_enter Try.func8, Try.ntmps8
  go_wp2_with (first
    | (go_at_call 16; go_must (refine (lives5_any _).mono ?_); rintro e w1 ⟨rfl, hb1⟩
       have q2 : ∀ wx, Below w1.heap.size w1 wx → RB wx a l.length cap l := fun wx hx => rd_below0 h (hb1.trans (hx.mono hb1.size)))
    | (go_at_call 19; go_must (refine (hP _ _ _ w1 (q2 _ (Below.refl _ _))).mono ?_); rintro e w2 ⟨a2, n2, c2, rfl, ho2, hb2⟩; have B2 := hb2.mono (Nat.le_refl _); have z2 := B2.size)
    | (go_at_call 33; go_must (refine (hE _ _ _ w2 ho2.rp).mono ?_); rintro e w3 ⟨a3, n3, c3, rfl, ho3, hb3⟩; have B3 := B2.trans (hb3.mono z2); have z3 := B3.size)
    | (go_at_call 22; go_must (refine (hS _ _ _ w3 (q2 _ B3)).mono ?_); rintro e w4 ⟨a4, c4, rfl, ho4, hb4⟩; have B4 := B3.trans (hb4.mono z3); have z4 := B4.size)
    | (go_at_call 24; go_must (refine (hD _ _ _ w4 (q2 _ B4)).mono ?_); rintro e w5 ⟨a5, c5, rfl, ho5, hb5⟩; have B5 := B4.trans (hb5.mono z4); have z5 := B5.size)
    | (go_at_call 31; have _t := hb6; go_must (refine (hI2 _ _ _ w6 (rd_below (OB.rb ho5) hb6 (fun g hg => (ho5.blk g hg).2))).mono ?_); rintro e w7 ⟨a7, c7, rfl, ho7, hb7⟩; have B7 := B6.trans (hb7.mono z6); have z7 := B7.size)
    | (go_at_call 31; go_must (refine (hI1 _ _ _ w5 (rd_below (OB.rb ho4) hb5 (fun g hg => (ho4.blk g hg).2))).mono ?_); rintro e w6 ⟨a6, c6, rfl, ho6, hb6⟩; have B6 := B5.trans (hb6.mono z5); have z6 := B6.size)
    | (go_at_call 21; have _t := y6; go_must (refine (hC a7 _ _ _ _ _ l w7 (OB.rb ho7) (q2 _ B7)).mono ?_); rintro e wx ⟨rfl, rfl⟩)
    | (go_at_call 21; have _t := y3; go_must (refine (hC a6 _ _ _ _ _ l w7 (rd_below (OB.rb ho6) hb7 (fun g hg => (ho6.blk g hg).2)) (q2 _ B7)).mono ?_); rintro e wx ⟨rfl, rfl⟩; have y6 := 0)
    | (go_at_call 21; go_must (refine (hC a3 _ _ _ _ _ l w7 (rd_below (OB.rb ho3) (((hb4.mono (Nat.le_refl _)).trans (hb5.mono hb4.size)).trans ((hb6.mono (hb4.trans (hb5.mono hb4.size)).size).trans (hb7.mono ((hb4.trans (hb5.mono hb4.size)).trans (hb6.mono (hb4.trans (hb5.mono hb4.size)).size)).size))) (fun g hg => (ho3.blk g hg).2)) (q2 _ B7)).mono ?_); rintro e wx ⟨rfl, rfl⟩; have y3 := 0))
  go_ret
  exact ⟨rfl, hb1.trans (B7.mono hb1.size)⟩
end Go.Proofs.Ytpfalaghggjbjaa
