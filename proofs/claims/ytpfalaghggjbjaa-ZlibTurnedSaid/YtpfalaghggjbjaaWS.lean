/-
  The walks of deflate.Deflate, sluicegateref05.Deflate, sluicegatelaw05.same.
  Conditions: the slice reads as a list of bytes, no longer than 2^30.
-/
import Derived.Test.YtpfalaghggjbjaaWR
import Derived.Test.YtpfalaghggjbjaaWP
import Derived.Test.YtpfalaghggjbjaaWD
import Derived.Test.YtpfalaghggjbjaaWM
namespace Go.Proofs.Ytpfalaghggjbjaa
open Go.RowKit

/-- The shorter of the two ways, the fixed codes where they are as long. -/
def deflateP (l : List UInt8) : List UInt8 := if (stored l).length < (fixedP (pieces l)).1.length then stored l else (fixedP (pieces l)).1
theorem tab59 (w : World) : Calls Try.prog 59 #[] w (TabPost fixL fixD w) := fixed_any w
theorem tab75 (w : World) : Calls Try.prog 75 #[] w (TabPost fixL fixD w) := refFixed_any w
theorem pieces_length (l : List UInt8) : (pieces l).length ≤ l.length := piecesF_length l _ _
theorem fixedF_any (a : Option Addr) (N cap : Nat) (l : List Piece) (w : World) (hl : l.length ≤ 1073741824) (h : RP w a N cap l) :
    Calls Try.prog 34 #[.slice a N cap] w (RetBE w (fixedP l).1 (fixedP l).2) := fixedW_any fixL fixD fixTab tab59 a N cap l w hl h
theorem refFixedF_any (a : Option Addr) (N cap : Nat) (l : List Piece) (w : World) (hl : l.length ≤ 1073741824) (h : RP w a N cap l) :
    Calls Try.prog 55 #[.slice a N cap] w (RetBE w (fixedP l).1 (fixedP l).2) := refFixedW_any fixL fixD fixTab tab75 a N cap l w hl h

set_option maxRecDepth 100000 in
set_option maxHeartbeats 2000000 in
theorem deflate_any (a : Option Addr) (N cap : Nat) (l : List UInt8) (w : World) (hl : l.length ≤ 1073741824) (h : RB w a N cap l) :
    Calls Try.prog 24 #[.slice a N cap] w (RetB w (deflateP l)) := by
  have hpl := pieces_length l
  have hP := pieces_any a N cap l w (by omega) h
  have hF := fun a N cap w => fixedF_any a N cap (pieces l) w (by omega)
  have hS := fun w => stored_any a N cap l w hl
  unfold deflateP
  generalize fixedP (pieces l) = F at *
  generalize pieces l = ps at *
  generalize stored l = S at *
  obtain ⟨F1, F2⟩ := F
  simp only at hF ⊢
  obtain ⟨D, hD⟩ : ∃ D, D = if S.length < F1.length then S else F1 := ⟨_, rfl⟩
  rw [← hD]
  have HD := Lib.hid hD
  clear hD
  go_enter Try.func24, Try.ntmps24
  go_wp2_with (first
    | (go_at_call 19; go_must (refine hP.mono ?_); rintro e w1 ⟨a1, n1, c1, rfl, hop1, hb1⟩)
    | (go_at_call 34; go_must (refine (hF a1 n1 c1 w1 hop1.rp).mono ?_); rintro e w2 ⟨a2, m2, c2, rfl, hob2, hb2⟩
       have hm2 := hob2.rb.len
       have hz1 := hb1.size; have hz2 := hb2.size; have hb12 := hb1.trans (hb2.mono hz1))
    | (go_at_call 22; go_must (refine (hS w2 (rd_below0 h hb12)).mono ?_); rintro e w3 ⟨a3, c3, rfl, hob3, hb3⟩))
  · have hlt : S.length < F1.length := by omega
    go_ret
    rw [HD.out, if_pos hlt]
    exact ⟨a3, c3, rfl, own_mono hob3 (by omega), hb12.trans (hb3.mono (by omega))⟩
  · have hlt : ¬ S.length < F1.length := by omega
    go_ret
    rw [HD.out, if_neg hlt]
    subst hm2
    exact ⟨a2, c2, rfl, own_mono (own_mod hob2 (Mod.of_below hb3) (fun g hg h => by have := (hob2.blk g hg).2; omega)) (by omega), hb12.trans (hb3.mono (by omega))⟩

set_option maxRecDepth 100000 in
set_option maxHeartbeats 2000000 in
theorem refDeflate_any (a : Option Addr) (N cap : Nat) (l : List UInt8) (w : World) (hl : l.length ≤ 1073741824) (h : RB w a N cap l) :
    Calls Try.prog 25 #[.slice a N cap] w (RetB w (deflateP l)) := by
  have hpl := pieces_length l
  have hP := refPieces_any a N cap l w (by omega) h
  have hF := fun a N cap w => refFixedF_any a N cap (pieces l) w (by omega)
  have hS := fun w => refStored_any a N cap l w hl
  unfold deflateP
  generalize fixedP (pieces l) = F at *
  generalize pieces l = ps at *
  generalize stored l = S at *
  obtain ⟨F1, F2⟩ := F
  simp only at hF ⊢
  obtain ⟨D, hD⟩ : ∃ D, D = if S.length < F1.length then S else F1 := ⟨_, rfl⟩
  rw [← hD]
  have HD := Lib.hid hD
  clear hD
  go_enter Try.func25, Try.ntmps25
  go_wp2_with (first
    | (go_at_call 20; go_must (refine hP.mono ?_); rintro e w1 ⟨a1, n1, c1, rfl, hop1, hb1⟩)
    | (go_at_call 55; go_must (refine (hF a1 n1 c1 w1 hop1.rp).mono ?_); rintro e w2 ⟨a2, m2, c2, rfl, hob2, hb2⟩
       have hm2 := hob2.rb.len
       have hz1 := hb1.size; have hz2 := hb2.size; have hb12 := hb1.trans (hb2.mono hz1))
    | (go_at_call 23; go_must (refine (hS w2 (rd_below0 h hb12)).mono ?_); rintro e w3 ⟨a3, c3, rfl, hob3, hb3⟩))
  · have hlt : ¬ S.length < F1.length := by omega
    go_ret
    rw [HD.out, if_neg hlt]
    subst hm2
    exact ⟨a2, c2, rfl, own_mono (own_mod hob2 (Mod.of_below hb3) (fun g hg h => by have := (hob2.blk g hg).2; omega)) (by omega), hb12.trans (hb3.mono (by omega))⟩
  · have hlt : S.length < F1.length := by omega
    go_ret
    rw [HD.out, if_pos hlt]
    exact ⟨a3, c3, rfl, own_mono hob3 (by omega), hb12.trans (hb3.mono (by omega))⟩

set_option maxRecDepth 100000 in
set_option maxHeartbeats 2000000 in
/-- Two slices that read as the same pieces are the same. -/
theorem samePieces_any (a b : Option Addr) (n m c d : Nat) (l : List Piece) (w : World) (hl : l.length ≤ 1073741824) (h : RP w a n c l) (h' : RP w b m d l) :
    Calls Try.prog 18 #[.slice a n c, .slice b m d] w fun e w' => e = .returned (.bool true) ∧ ∃ k, w' = w.drewN k := by
  obtain rfl := RP.len h
  obtain rfl := RP.len h'
  obtain ⟨b1, o1, i1, k1'⟩ := Rd.open h 26 31 Try.underlying26 (by kernel_rfl)
  have k1 := fun i hi => @rp_cells w b1 o1 l k1' i hi
  obtain ⟨b2, o2, i2, k2'⟩ := Rd.open h' 26 31 Try.underlying26 (by kernel_rfl)
  have k2 := fun i hi => @rp_cells w b2 o2 l k2' i hi
  clear k1' k2'
  go_enter Try.func18, Try.ntmps18
  go_wp2
  go_loopw [5] (fun u wr => ∃ i k : Nat, u = .int .i64 i ∧ i ≤ l.length ∧ wr = w.drewN k) (fun u _ => l.length - (intOf u).toNat)
  case atStart => exact ⟨0, 0, rfl, by omega, rfl⟩
  case round =>
    obtain ⟨i, k, rfl, hi, rfl⟩ := hrel
    by_cases hlt : i < l.length
    · obtain ⟨c0, c1, c2⟩ := k1 i hlt
      obtain ⟨c3, c4, c5⟩ := k2 i hlt
      clear k1 k2
      generalize l.getD i ⟨0, 0, 0⟩ = p at *
      obtain ⟨p0, p1, p2⟩ := p
      simp only at c0 c1 c2 c3 c4 c5
      have d : decide ((i : Int) < l.length) = true := by simp; omega
      go_wp2
      go_quiet (fail)
      go_wp2
      exact ⟨⟨i + 1, k + nq, by go_num, by omega, rfl⟩, by simp [intOf]; omega⟩
    · have hil : i = l.length := by omega
      subst hil
      go_wp2
      go_ret
      exact ⟨rfl, k, rfl⟩
end Go.Proofs.Ytpfalaghggjbjaa
