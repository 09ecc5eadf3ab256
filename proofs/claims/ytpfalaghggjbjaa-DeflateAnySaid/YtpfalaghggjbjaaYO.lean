/-
  The walk of the law DeflateAny.
  Conditions: the argument reads as a list of pieces.
-/
import Derived.Test.YtpfalaghggjbjaaYN
namespace Go.Proofs.Ytpfalaghggjbjaa
open Go.RowKit

theorem expand_err : ∀ (l : List Piece) (out : List UInt8), (expand l out).2 ≠ 0 → (expand l out).1 = []
  | [], _, h => absurd rfl h
  | p :: l, out, h => by
    unfold expand at h ⊢
    by_cases h1 : mayB p = false
    · rw [if_pos h1]
    · rw [if_neg h1] at h ⊢
      by_cases h2 : p.len = 0
      · rw [if_pos h2] at h ⊢; exact expand_err l _ h
      · rw [if_neg h2] at h ⊢
        by_cases h3 : (out.length : Int) < p.dist
        · rw [if_pos h3]
        · rw [if_neg h3] at h ⊢; exact expand_err l _ h
theorem pieceBits_le {p : Piece} (h : mayB p = true) : (pieceBits fixL fixD p).length ≤ 37 := by
  have hL := fun j => atN_le_of fixL_le j
  have hD := fun j => atN_le_of fixD_le j
  unfold pieceBits codeFor
  rcases mayB_cases h with ⟨h0, _⟩ | ⟨h1, h2, h3, h4, _⟩
  · rw [if_pos h0, codeBits_length]; have := hL p.byte.toNat; omega
  · rw [if_neg (by omega)]
    simp only [List.length_append, codeBits_length, fieldBits_length]
    have := hL (lsym p.len.toNat)
    have := hD (dsym p.dist.toNat)
    have := lbits_le (lsym_le (n := p.len.toNat) (by omega))
    have := dbits_le (dsym_le p.dist.toNat)
    omega
theorem restBits_le : ∀ {ps : List Piece}, (∀ p ∈ ps, mayB p = true) → (restBits fixL fixD ps).length ≤ 37 * ps.length + 9
  | [], _ => by
    have := atN_le_of fixL_le 256
    unfold restBits codeFor
    simp only [List.flatMap_nil, List.nil_append, codeBits_length, List.length_nil]
    omega
  | p :: ps, h => by
    have h1 := pieceBits_le (h p (by simp))
    have h2 := restBits_le (ps := ps) fun q hq => h q (by simp [hq])
    rw [restBits_cons, List.length_append, List.length_cons]
    omega
theorem fixedP_len {ps : List Piece} (h : (expand ps []).2 = 0) : (fixedP ps).1.length ≤ 5 * ps.length + 3 := by
  have h1 := restBits_le (expand_may ps [] h)
  have hlen := putAll_len (fixedBits fixL fixD ps) ([], 0) rfl
  rw [putAll_snd] at hlen
  unfold fixedP fixedG
  rw [if_pos h]
  show (putAll ([], 0) (fixedBits fixL fixD ps)).1.length ≤ _
  rw [hlen]
  unfold fixedBits
  simp only [List.length_append, fieldBits_length]
  omega

set_option maxRecDepth 100000 in
set_option maxHeartbeats 8000000 in
theorem deflateAny_any (a : Option Addr) (N cap : Nat) (l : List Piece) (w : World) (h : RP w a N cap l) :
    Calls Try.prog 9 #[.slice a N cap] w (TruePost w) := by
  obtain rfl := RP.len h
  by_cases hlt : 300 < l.length
  · have d : decide ((300 : Int) < l.length) = true := by simp; omega
    go_enter Try.func9, Try.ntmps9
    go_wp2_with (go_at_call 16; go_must (refine (lives5_any _).mono ?_); rintro e w1 ⟨rfl, hb1⟩)
    go_ret
    exact ⟨rfl, hb1⟩
  have d : decide ((300 : Int) < l.length) = false := by simp; omega
  have hE := fun w => expand_any a l.length cap l w (by omega)
  have hF := fun w => fixedF_any a l.length cap l w (by omega)
  have hC := fun a b n m c d l w => sameBytes_any a b n m c d l l w
  have hOl := expand_length l []
  by_cases he : (expand l []).2 = 0
  · have hFl := fixedP_len he
    have hin := inflate_fixed (m := (expand l []).1.length) he (by unfold lots; omega) (Nat.le_refl _)
    have hF2 : (fixedP l).2 = 0 := by unfold fixedP fixedG; rw [if_pos he]
    have hI : ∀ a N c w, RB w a N c (fixedP l).1 → Calls Try.prog 31 #[.slice a N c, .int .i64 ((expand l []).1.length : Int)] w (RetInf w ((expand l []).1, (fixedP l).1.length, 0)) := fun a N c w h => by
      have := inflate_any a N c (expand l []).1.length _ w (by omega) (by simp only [List.length_nil] at hOl; omega) h
      rw [hin] at this
      exact this
    rw [he] at hE
    rw [hF2] at hF
    clear hin he hF2 hFl hOl
    generalize (expand l []).1 = O at *
    generalize (fixedP l).1 = F at *
    go_enter Try.func9, Try.ntmps9
    go_wp2_with (first
      | (go_at_call 16; go_must (refine (lives5_any _).mono ?_); rintro e w1 ⟨rfl, hb1⟩)
      | (go_at_call 33; go_must (refine (hE w1 (rd_below0 h hb1)).mono ?_); rintro e w2 ⟨a2, n2, c2, rfl, ho2, hb2⟩; obtain rfl := RB.len (OB.rb ho2); have b2 := hb1.trans (hb2.mono hb1.size))
      | (go_at_call 34; go_must (refine (hF w2 (rd_below0 h b2)).mono ?_); rintro e w3 ⟨a3, n3, c3, rfl, ho3, hb3⟩; obtain rfl := RB.len (OB.rb ho3); have b3 := b2.trans (hb3.mono b2.size))
      | (go_at_call 31; go_must (refine (hI _ _ _ w3 (OB.rb ho3)).mono ?_); rintro e w4 ⟨a4, c4, rfl, ho4, hb4⟩; have b4 := b3.trans (hb4.mono b3.size))
      | (go_at_call 21; go_must (refine (hC a4 a2 _ _ _ _ O w4 (OB.rb ho4) (rd_below (OB.rb ho2) (hb3.trans (hb4.mono hb3.size)) (fun g hg => (ho2.blk g hg).2))).mono ?_); rintro e wx ⟨rfl, rfl⟩))
    go_ret
    exact ⟨rfl, b4⟩
  · have hO := expand_err l [] he
    have hFe : fixedP l = ([], (expand l []).2) := by unfold fixedP fixedG; rw [if_neg he]
    rw [hFe] at hF
    rw [hO] at hE
    have d3 : (((expand l []).2 : Int) != 0) = true := by simp; omega
    clear hO hFe hOl
    generalize (expand l []).2 = er at *
    go_enter Try.func9, Try.ntmps9
    go_wp2_with (first
      | (go_at_call 16; go_must (refine (lives5_any _).mono ?_); rintro e w1 ⟨rfl, hb1⟩)
      | (go_at_call 33; go_must (refine (hE w1 (rd_below0 h hb1)).mono ?_); rintro e w2 ⟨a2, n2, c2, rfl, ho2, hb2⟩; obtain rfl := RB.len (OB.rb ho2); have b2 := hb1.trans (hb2.mono hb1.size))
      | (go_at_call 34; go_must (refine (hF w2 (rd_below0 h b2)).mono ?_); rintro e w3 ⟨a3, n3, c3, rfl, ho3, hb3⟩; obtain rfl := RB.len (OB.rb ho3); have b3 := b2.trans (hb3.mono b2.size)))
    go_ret
    exact ⟨rfl, b3⟩
end Go.Proofs.Ytpfalaghggjbjaa
