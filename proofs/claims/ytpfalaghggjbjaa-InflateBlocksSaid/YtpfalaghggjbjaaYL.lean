/-
  The walks of sluicegatelaw04.lives and of the law InflateEnds.
  Conditions: the arguments read as lists of bytes.
-/
import Derived.Test.YtpfalaghggjbjaaYK
import Derived.Test.YtpfalaghggjbjaaWU
namespace Go.Proofs.Ytpfalaghggjbjaa
open Go.RowKit

theorem inf_aaa : inflateP [75, 132, 0, 0] 100 = ([97, 97, 97, 97, 97, 97, 97], 4, 0) := by decide +kernel
theorem inf_ab : inflateP [1, 2, 0, 253, 255, 97, 98] 100 = ([97, 98], 7, 0) := by decide +kernel

set_option maxRecDepth 100000 in
set_option maxHeartbeats 2000000 in
theorem lives4_any (w : World) : Calls Try.prog 30 #[] w (TruePost w) := by
  have hA : ∀ a n c w, RB w a n c [75, 132, 0, 0] → Calls Try.prog 31 #[.slice a n c, .int .i64 100] w (RetInf w ([97, 97, 97, 97, 97, 97, 97], 4, 0)) := fun a n c w h => by
    have := inflate_any a n c 100 [75, 132, 0, 0] w (by decide) (by decide) h
    rw [inf_aaa] at this
    exact this
  have hB : ∀ a n c w, RB w a n c [1, 2, 0, 253, 255, 97, 98] → Calls Try.prog 31 #[.slice a n c, .int .i64 100] w (RetInf w ([97, 98], 7, 0)) := fun a n c w h => by
    have := inflate_any a n c 100 [1, 2, 0, 253, 255, 97, 98] w (by decide) (by decide) h
    rw [inf_ab] at this
    exact this
  go_enter Try.func30, Try.ntmps30
  go_wp2_with (first
    | (go_at_call 31; have _t := hz1; go_must (refine (hB (some ⟨w1.heap.size, 0, none⟩) 7 7 _ (rb_news rfl rfl rfl (by decide))).mono ?_); rintro e w2 ⟨a2, c2, rfl, ho2, hb2⟩
       have e1 : (convert 22 9 (.slice a1 7 c1)).run Try.prog w2 = .ok (.string ⟨#[97, 97, 97, 97, 97, 97, 97]⟩) w2 := run_str (rd_below ho1.rb (((Below.refl _ _).alloc (Nat.le_refl _) _).trans (hb2.mono (by rw [World.size_alloc]; omega))) (fun g hg => (ho1.blk g hg).2))
       have e2 : (convert 22 9 (.slice a2 2 c2)).run Try.prog w2 = .ok (.string ⟨#[97, 98]⟩) w2 := run_str ho2.rb)
    | (go_at_call 31; go_must (refine (hA (some ⟨w.heap.size, 0, none⟩) 4 4 _ (rb_news rfl rfl rfl (by decide))).mono ?_); rintro e w1 ⟨a1, c1, rfl, ho1, hb1⟩
       have hz1 := hb1.size
       rw [World.size_alloc] at hz1))
  go_ret
  refine ⟨rfl, ?_⟩
  simp only [World.size_alloc] at hb1 hb2
  have k1 := ((Below.refl w.heap.size w).alloc (Nat.le_refl _) _).trans (hb1.mono (by omega))
  exact (k1.alloc (by omega) _).trans (hb2.mono (by omega))

theorem ob_made1 {w : World} {B g n : Nat} {c : Array Value} {l : List UInt8} (hg : w.heap.size = g) (hc : c.toList = cB l) (hn : n = l.length) (hs : n ≤ 1099511627776) (hB : B ≤ w.heap.size) : OB (w.alloc (.cells c 5)) B (some ⟨g, 0, none⟩) n n l := by
  subst hg hn
  have hz : c.size = l.length := by rw [← Array.length_toList, hc]; simp
  exact ⟨by simp, .inr ⟨w.heap.size, l.length, c, rfl, hB, heap_alloc_new w _, Nat.le_refl _, by unfold maxLen; omega, by rw [hz]; omega, by rw [hc, List.take_of_length_le (by simp)]⟩⟩

set_option maxRecDepth 100000 in
set_option maxHeartbeats 8000000 in
theorem inflateEnds_any (a b : Option Addr) (N cap M capb : Nat) (l k : List UInt8) (w : World) (h : RB w a N cap l) (hk : RB w b M capb k) :
    Calls Try.prog 6 #[.slice a N cap, .slice b M capb] w (TruePost w) := by
  obtain rfl := RB.len h
  obtain rfl := RB.len hk
  by_cases hlt : 3000 < l.length
  · have d : decide ((3000 : Int) < l.length) = true := by simp; omega
    go_enter Try.func6, Try.ntmps6
    go_wp2_with (go_at_call 30; go_must (refine (lives4_any _).mono ?_); rintro e w1 ⟨rfl, hb1⟩)
    go_ret
    exact ⟨rfl, hb1⟩
  have d : decide ((3000 : Int) < l.length) = false := by simp; omega
  by_cases hlt2 : 3000 < k.length
  · have d2 : decide ((3000 : Int) < k.length) = true := by simp; omega
    go_enter Try.func6, Try.ntmps6
    go_wp2_with (go_at_call 30; go_must (refine (lives4_any _).mono ?_); rintro e w1 ⟨rfl, hb1⟩)
    go_ret
    exact ⟨rfl, hb1⟩
  have d2 : decide ((3000 : Int) < k.length) = false := by simp; omega
  have hS := h
  have hI : ∀ w, RB w a l.length cap l → Calls Try.prog 31 #[.slice a l.length cap, .int .i64 20000] w (RetInf w (inflateP l 20000)) := fun w h => inflate_any a l.length cap 20000 l w (by omega) (by decide) h
  by_cases he : (inflateP l 20000).2.2 = 0
  · have hlen := ends_len he
    have hsame := ends_same (c := k) he (Nat.le_refl _)
    have hshort := ends_short (k := (inflateP l 20000).2.1 - 1) he (by omega)
    have hlong := fun hm => ends_long (b := l) (n := 20000) (m := (inflateP l 20000).1.length - 1) hm
    generalize inflateP l 20000 = R at *
    obtain ⟨O, n, er⟩ := R
    simp only at he hlen hsame hshort hlong hI
    subst he
    obtain ⟨hn1, hn2, hn3⟩ := hlen
    have hcap := h.le
    have hI2 : ∀ a n' c w, RB w a n' c (l.take n ++ k) → Calls Try.prog 31 #[.slice a n' c, .int .i64 O.length] w (RetInf w (O, n, 0)) := fun a n' c w h => by
      have := inflate_any a n' c O.length _ w (by simp; omega) (by omega) h
      rw [hsame] at this
      exact this
    have hI3 : ∀ a n' c w, RB w a n' c (l.take (n - 1)) → Calls Try.prog 31 #[.slice a n' c, .int .i64 20000] w (RetInf w ([], 0, 4)) := fun a n' c w h => by
      have := inflate_any a n' c 20000 _ w (by simp; omega) (by decide) h
      rw [hshort] at this
      exact this
    have hC := fun a b n m c d l w => sameBytes_any a b n m c d l l w
    clear hsame hshort
    have g1 : decide ((n : Int) < 1) = false := by simp; omega
    have g2 : decide ((l.length : Int) < n) = false := by simp; omega
    have g3 : decide ((20000 : Int) < O.length) = false := by simp; omega
    have hsub : (n : Int) - 1 = ((n - 1 : Nat) : Int) := by omega
    by_cases hO : O = []
    · have g4 : ((O.length : Int) == 0) = true := by simp; exact hO
      have Hs := Lib.hid hsub
      clear hsub hlong hO
      go_enter Try.func6, Try.ntmps6
      go_wp2_with (first
        | (go_at_call 30; go_must (refine (lives4_any _).mono ?_); rintro e w1 ⟨rfl, hb1⟩)
        | (go_at_call 31; have _t := hb5; go_must (refine (hI3 a (n - 1) cap w5 (by have := rb_h (qa _ b5) (hi := n - 1) (by omega); rw [adv0] at this; exact this)).mono ?_); rintro e w6 ⟨a6, c6, rfl, ho6, hb6⟩; have b6 := b5.trans (hb6.mono b5.size))
        | (go_at_call 31; have _t := hg4; go_must (refine (hI2 a4 _ c4 w4 (OB.rb ho4)).mono ?_); rintro e w5 ⟨a5, c5, rfl, ho5, hb5⟩; have b5 := b4.trans (hb5.mono b4.size))
        | (go_at_call 31; go_must (refine (hI w1 (rd_below0 h hb1)).mono ?_); rintro e w2 ⟨a2, c2, rfl, ho2, hb2⟩
           have b2 := hb1.trans (hb2.mono hb1.size)
           have b20 := (Below.refl w2.heap.size w2).alloc (Nat.le_refl _) (.cells #[] 5)
           have qa : ∀ wx, Below w2.heap.size w2 wx → RB wx a l.length cap l := fun wx hx => rd_below0 h (b2.trans (hx.mono b2.size))
           have qb : ∀ wx, Below w2.heap.size w2 wx → RB wx b k.length capb k := fun wx hx => rd_below0 hk (b2.trans (hx.mono b2.size))
           have qo : ∀ wx, Below w2.heap.size w2 wx → RB wx a2 O.length c2 O := fun wx hx => rd_below (OB.rb ho2) hx (fun g hg => (ho2.blk g hg).2)
           have hm2 := ob_made1 (w := w2) (B := w2.heap.size) (c := #[]) (l := []) rfl rfl rfl (by decide) (Nat.le_refl _))
        | (at_builtin; have _t := hg3; go_must (refine wpList_appB rfl _ _ rfl w2.heap.size a3 n c3 (l.take n) rfl ho3 b k.length capb k rfl (qb _ b3) (by omega) b3.size ?_); intro a4 c4 w4 ho4 hg4
           have b4 := below_grew b3 hg4 b3.size (fun g hg => (ho3.blk g hg).1))
        | (at_builtin; go_must (refine wpList_appB rfl _ _ rfl w2.heap.size _ 0 0 [] rfl hm2 a n cap (l.take n) rfl (by have := rb_h (qa _ b20) (hi := n) (by omega); rw [adv0] at this; exact this) (by omega) (by rw [World.size_alloc]; omega) ?_); intro a3 c3 w3 ho3 hg3; rw [Nat.zero_add, List.nil_append] at ho3
           have b3 := below_grew b20 hg3 (by rw [World.size_alloc]; omega) (fun g hg => (hm2.blk g hg).1))
        | (refine wpList_slH rfl _ _ rfl a l.length cap n .i64 _ rfl rfl rfl (by omega) ?_; rw [adv0])
        | (refine wpList_slH rfl _ _ rfl a l.length cap (n - 1) .i64 _ rfl rfl Hs.out (by omega) ?_; rw [adv0])
        | (go_at_call 21; go_must (refine (hC a2 a5 _ _ _ _ O _ (qo _ b6) (rd_below (OB.rb ho5) hb6 (fun g hg => (ho5.blk g hg).2))).mono ?_); rintro e wx ⟨rfl, rfl⟩))
      go_ret
      exact ⟨rfl, b2.trans (b6.mono b2.size)⟩
    · have hOl : 0 < O.length := List.length_pos_iff.2 hO
      have hlong := hlong (by omega)
      have hI4 : ∀ w, RB w a l.length cap l → Calls Try.prog 31 #[.slice a l.length cap, .int .i64 ((O.length - 1 : Nat) : Int)] w (RetInf w ([], 0, 3)) := fun w h => by
        have := inflate_any a l.length cap (O.length - 1) _ w (by omega) (by omega) h
        rw [hlong] at this
        exact this
      have g4 : ((O.length : Int) == 0) = false := by simp; exact hO
      have hsubO : (O.length : Int) - 1 = ((O.length - 1 : Nat) : Int) := by omega
      clear hlong
      have HsO := Lib.hid hsubO
      have Hs := Lib.hid hsub
      clear hsub hsubO
      go_enter Try.func6, Try.ntmps6
      go_wp2_with (first
        | (go_at_call 30; go_must (refine (lives4_any _).mono ?_); rintro e w1 ⟨rfl, hb1⟩)
        | (go_at_call 31; have _t := hb6; rw [HsO.out]; go_must (refine (hI4 w6 (qa _ b6)).mono ?_); rintro e w7 ⟨a7, c7, rfl, ho7, hb7⟩; have b7 := b6.trans (hb7.mono b6.size))
        | (go_at_call 31; have _t := hb5; go_must (refine (hI3 a (n - 1) cap w5 (by have := rb_h (qa _ b5) (hi := n - 1) (by omega); rw [adv0] at this; exact this)).mono ?_); rintro e w6 ⟨a6, c6, rfl, ho6, hb6⟩; have b6 := b5.trans (hb6.mono b5.size))
        | (go_at_call 31; have _t := hg4; go_must (refine (hI2 a4 _ c4 w4 (OB.rb ho4)).mono ?_); rintro e w5 ⟨a5, c5, rfl, ho5, hb5⟩; have b5 := b4.trans (hb5.mono b4.size))
        | (go_at_call 31; go_must (refine (hI w1 (rd_below0 h hb1)).mono ?_); rintro e w2 ⟨a2, c2, rfl, ho2, hb2⟩
           have b2 := hb1.trans (hb2.mono hb1.size)
           have b20 := (Below.refl w2.heap.size w2).alloc (Nat.le_refl _) (.cells #[] 5)
           have qa : ∀ wx, Below w2.heap.size w2 wx → RB wx a l.length cap l := fun wx hx => rd_below0 h (b2.trans (hx.mono b2.size))
           have qb : ∀ wx, Below w2.heap.size w2 wx → RB wx b k.length capb k := fun wx hx => rd_below0 hk (b2.trans (hx.mono b2.size))
           have qo : ∀ wx, Below w2.heap.size w2 wx → RB wx a2 O.length c2 O := fun wx hx => rd_below (OB.rb ho2) hx (fun g hg => (ho2.blk g hg).2)
           have hm2 := ob_made1 (w := w2) (B := w2.heap.size) (c := #[]) (l := []) rfl rfl rfl (by decide) (Nat.le_refl _))
        | (at_builtin; have _t := hg3; go_must (refine wpList_appB rfl _ _ rfl w2.heap.size a3 n c3 (l.take n) rfl ho3 b k.length capb k rfl (qb _ b3) (by omega) b3.size ?_); intro a4 c4 w4 ho4 hg4
           have b4 := below_grew b3 hg4 b3.size (fun g hg => (ho3.blk g hg).1))
        | (at_builtin; go_must (refine wpList_appB rfl _ _ rfl w2.heap.size _ 0 0 [] rfl hm2 a n cap (l.take n) rfl (by have := rb_h (qa _ b20) (hi := n) (by omega); rw [adv0] at this; exact this) (by omega) (by rw [World.size_alloc]; omega) ?_); intro a3 c3 w3 ho3 hg3; rw [Nat.zero_add, List.nil_append] at ho3
           have b3 := below_grew b20 hg3 (by rw [World.size_alloc]; omega) (fun g hg => (hm2.blk g hg).1))
        | (refine wpList_slH rfl _ _ rfl a l.length cap n .i64 _ rfl rfl rfl (by omega) ?_; rw [adv0])
        | (refine wpList_slH rfl _ _ rfl a l.length cap (n - 1) .i64 _ rfl rfl Hs.out (by omega) ?_; rw [adv0])
        | (go_at_call 21; go_must (refine (hC a2 a5 _ _ _ _ O _ (qo _ b6) (rd_below (OB.rb ho5) hb6 (fun g hg => (ho5.blk g hg).2))).mono ?_); rintro e wx ⟨rfl, rfl⟩))
      go_ret
      exact ⟨rfl, b2.trans (b7.mono b2.size)⟩
  · have hno := ends_no he
    generalize inflateP l 20000 = R at *
    obtain ⟨O, n, er⟩ := R
    simp only at he hno hI
    obtain ⟨rfl, rfl⟩ := hno
    have d3 : ((er : Int) != 0) = true := by simp; omega
    go_enter Try.func6, Try.ntmps6
    go_wp2_with (first
      | (go_at_call 30; go_must (refine (lives4_any _).mono ?_); rintro e w1 ⟨rfl, hb1⟩)
      | (go_at_call 31; go_must (refine (hI w1 (rd_below0 h hb1)).mono ?_); rintro e w2 ⟨a2, c2, rfl, ho2, hb2⟩))
    go_ret
    exact ⟨rfl, hb1.trans (hb2.mono hb1.size)⟩
end Go.Proofs.Ytpfalaghggjbjaa
