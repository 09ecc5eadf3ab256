/-
  The walks of sluicegatelaw10.lives and of the law SqueezeCalls.
  Conditions: the argument reads as a list of bytes.
-/
import Derived.Test.YtpfalaghggjbjaaWZb
import Derived.Test.YtpfalaghggjbjaaWU
namespace Go.Proofs.Ytpfalaghggjbjaa
open Go.RowKit

theorem sq_ab : squeezeP [97, 98] 3 60 50 = ([2, 0, 0, 3, 0, 0, 0, 97, 98], 4, 0) := by decide +kernel

set_option maxRecDepth 100000 in
set_option maxHeartbeats 2000000 in
theorem lives10_any (w : World) : Calls Try.prog 27 #[] w (TruePost w) := by
  have hA := fun a n c w => squeeze_any a n c [97, 98] 3 60 50 w (by decide)
  rw [sq_ab] at hA
  have hC := fun a b n m c d l w => sameBytes_any a b n m c d l l w
  have hcv := conv22
  go_enter Try.func27, Try.ntmps27
  go_wp2_with (first
    | (go_at_call 28; go_must (refine (hA (some ⟨w.heap.size, 0, none⟩) 2 2 _ (rb_mark rfl rfl rfl (by omega))).mono ?_); rintro e w1 ⟨a1, c1, rfl, hob1, hb1⟩
       have hz1 := hb1.size
       rw [World.size_alloc] at hz1)
    | (go_at_call 21; go_must (refine (hC a1 _ _ _ _ _ [2, 0, 0, 3, 0, 0, 0, 97, 98] _ (OB.rb (hob1.alloc _)) (rb_news rfl rfl rfl (by decide))).mono ?_); rintro e w3 ⟨rfl, rfl⟩))
  go_ret
  simp only [World.size_alloc] at hb1
  refine ⟨rfl, ?_⟩
  have k1 := ((Below.refl w.heap.size w).alloc (Nat.le_refl _) _).trans (hb1.mono (by omega))
  exact k1.alloc (by omega) _

set_option maxRecDepth 100000 in
set_option maxHeartbeats 2000000 in
theorem squeezeCalls_any (a : Option Addr) (N cap : Nat) (l : List UInt8) (s : UInt8) (n thr : Int) (w : World) (h : RB w a N cap l) :
    Calls Try.prog 5 #[.slice a N cap, .int .u8 (s.toNat : Int), .int .i64 n, .int .i64 thr] w (TruePost w) := by
  obtain rfl := RB.len h
  by_cases hlt : 1000 < l.length
  · have d : decide ((1000 : Int) < l.length) = true := by simp; omega
    go_enter Try.func5, Try.ntmps5
    go_wp2_with (go_at_call 27; go_must (refine (lives10_any _).mono ?_); rintro e w1 ⟨rfl, hb1⟩)
    go_ret
    exact ⟨rfl, hb1⟩
  · have d : decide ((1000 : Int) < l.length) = false := by simp; omega
    have hl : l.length ≤ 1073741824 := by omega
    have hl2 : l.length ≤ 16777215 := by omega
    have hC := fun a b n m c d l w => sameBytes_any a b n m c d l l w
    have hS := fun a N cap w => squeeze_any a N cap l s n thr w hl2
    have hS' := fun a N cap w => refSqueeze_any a N cap l s n thr w hl2
    generalize squeezeP l s n thr = R at *
    obtain ⟨S, t, er⟩ := R
    go_enter Try.func5, Try.ntmps5
    go_wp2_with (first
      | (go_at_call 27; go_must (refine (lives10_any _).mono ?_); rintro e w1 ⟨rfl, hb1⟩)
      | (go_at_call 17; go_must (refine (own_any a _ cap l w1 hl (rd_below0 h hb1)).mono ?_); rintro e w2 ⟨g, c2, rfl, hg2, hg2', hr2, hb2⟩
         have B2 := Below.refl w2.heap.size w2
         have hz1 := hb1.size; have hz2 := hb2.size
         have hb12 := hb1.trans (hb2.mono hz1)
         have q3 : ∀ wx, Below w2.heap.size w2 wx → RB wx (some ⟨g, 0, none⟩) (l.length + 8) c2 (l ++ marks) := fun wx hx => rd_below hr2 hx (fun g' hg' => by simp [blk] at hg'; omega)
         have hadv : adv (some ⟨g, 0, none⟩) c2 0 = some ⟨g, 0, none⟩ := by have := hr2.le; unfold adv; rw [if_neg (by omega)]; simp [Addr.add_lit]
         have q1 : ∀ wx, Below w2.heap.size w2 wx → RB wx (some ⟨g, 0, none⟩) l.length c2 l := fun wx hx => by
           have hr := rb_h (q3 wx hx) (hi := l.length) (by omega)
           rw [hadv, List.take_left] at hr
           exact hr
         have q2 : ∀ wx, Below w2.heap.size w2 wx → RB wx a l.length cap l := fun wx hx => rd_below0 (rd_below0 h hb12) hx
         clear hadv)
      | (go_at_call 28; go_must (refine (hS _ _ _ w2 (q1 _ B2)).mono ?_); rintro e w3 ⟨a3, c3, rfl, ho3, hb3⟩; have B3 := B2.trans (hb3.mono (Nat.le_refl _)); have z3 := B3.size)
      | (go_at_call 29; go_must (refine (hS' _ _ _ w3 (q2 _ B3)).mono ?_); rintro e w4 ⟨a4, c4, rfl, ho4, hb4⟩; have B4 := B3.trans (hb4.mono z3); have z4 := B4.size)
      | (go_at_call 21; go_must (refine (hC _ _ _ _ _ _ S w4 (rd_below ho3.rb hb4 (fun g hg => (ho3.blk g hg).2)) ho4.rb).mono ?_); rintro e wx ⟨rfl, rfl⟩)
      | (go_at_call 26; go_must (refine (kept_any g c2 cap a l w4 hl (q3 _ B4) (q2 _ B4)).mono ?_); rintro e wx ⟨rfl, kx, rfl⟩))
    go_ret
    exact ⟨rfl, below_drewN (hb12.trans (B4.mono (by omega))) kx⟩
end Go.Proofs.Ytpfalaghggjbjaa
