/-
  The walks of sluicegatelaw05.lives and of the law DeflateCalls.
  Conditions: the argument reads as a list of bytes.
-/
import Derived.Test.YtpfalaghggjbjaaWS
import Derived.Test.YtpfalaghggjbjaaWT
import Derived.Lib.SmallJoins
namespace Go.Proofs.Ytpfalaghggjbjaa
open Go.RowKit

theorem def_aaa : deflateP [97, 97, 97, 97, 97, 97, 97] = [75, 132, 0, 0] := by decide +kernel
theorem sto_ab : stored [97, 98] = [1, 2, 0, 253, 255, 97, 98] := by decide +kernel

/-- 'It answers true; of what was there nothing has turned.' -/
def TruePost (w : World) (e : Ending) (w' : World) : Prop := e = .returned (.bool true) ∧ Below w.heap.size w w'

/-- What a constant's bytes read as, the run-time's mark behind them. -/
theorem rb_mark {w : World} {g n e : Nat} {fr : Nat × Nat} {c : Array Value} {l : List UInt8} (hg : w.heap.size = g) (hc : c.toList = cB l) (hn : n = l.length) (hs : n ≤ 9223372036854775807) : RB (w.alloc (.cells c e fr)) (some ⟨g, 0, none⟩) n n l := by
  subst hg hn
  refine ⟨by simp, Nat.le_refl _, hs, .inr ⟨_, _, rfl, fun j hj => ?_⟩⟩
  rw [Nat.zero_add, World.cell?_alloc_mark]
  rw [← Array.getElem?_toList, hc]
  simp only [List.getElem?_eq_getElem hj]
theorem und5 : Try.prog.underlying 5 = some (.int .u8) := by kernel_rfl
theorem conv22 (w : World) (C : Array Value) (n c : Nat) : (convert 22 22 (.slice (some ⟨w.heap.size, 0, none⟩) n c)).run Try.prog (w.alloc (.cells C 5)) = .ok (.slice (some ⟨w.heap.size, 0, none⟩) n c) (w.alloc (.cells C 5 (C.size, C.size + 1))) :=
  Go.Joins.run_convert_bytes_const_at w 22 5 C n c _ rfl Try.underlying22 und5
theorem conv22' (w : World) (o : Obj) (C : Array Value) (n c : Nat) : (convert 22 22 (.slice (some ⟨w.heap.size + 1, 0, none⟩) n c)).run Try.prog ((w.alloc o).alloc (.cells C 5)) = .ok (.slice (some ⟨w.heap.size + 1, 0, none⟩) n c) ((w.alloc o).alloc (.cells C 5 (C.size, C.size + 1))) :=
  Go.Joins.run_convert_bytes_const_at (w.alloc o) 22 5 C n c _ (by simp) Try.underlying22 und5

set_option maxRecDepth 100000 in
set_option maxHeartbeats 2000000 in
theorem lives5_any (w : World) : Calls Try.prog 16 #[] w (TruePost w) := by
  have hA := fun a n c w => deflate_any a n c [97, 97, 97, 97, 97, 97, 97] w (by decide)
  rw [def_aaa] at hA
  have hB := fun a n c w => stored_any a n c [97, 98] w (by decide)
  rw [sto_ab] at hB
  have hC := fun a b n m c d l w => sameBytes_any a b n m c d l l w
  have hcv := conv22
  have hcv' := conv22'
  go_enter Try.func16, Try.ntmps16
  go_wp2_with (first
    | (go_at_call 24; go_must (refine (hA (some ⟨w.heap.size, 0, none⟩) 7 7 _ (rb_mark rfl rfl rfl (by omega))).mono ?_); rintro e w1 ⟨a1, c1, rfl, hob1, hb1⟩
       have hz1 := hb1.size
       rw [World.size_alloc] at hz1)
    | (go_at_call 22; have _t := hB1; go_must (refine (hB (some ⟨w1.heap.size + 1, 0, none⟩) 2 2 _ (rb_mark (by simp) rfl rfl (by omega))).mono ?_); rintro e w2 ⟨a2, c2, rfl, hob2, hb2⟩)
    | (go_at_call 21; have _t := hb2; go_must (refine (hC a2 _ _ _ _ _ [1, 2, 0, 253, 255, 97, 98] _ (OB.rb (hob2.alloc _)) (rb_news rfl rfl rfl (by decide))).mono ?_); rintro e w3 ⟨rfl, rfl⟩)
    | (go_at_call 21; go_must (refine (hC a1 _ _ _ _ _ [75, 132, 0, 0] _ (OB.rb (hob1.alloc _)) (rb_news rfl rfl rfl (by decide))).mono ?_); rintro e w3 ⟨rfl, rfl⟩
       have hB1 := 0))
  go_ret
  have hz2 := hb2.size
  simp only [World.size_alloc] at hz2 hb1 hb2
  refine ⟨rfl, ?_⟩
  have k1 := ((Below.refl w.heap.size w).alloc (Nat.le_refl _) _).trans (hb1.mono (by omega))
  exact (((k1.alloc (by omega) _).alloc (by simp; omega) _).trans (hb2.mono (by omega))).alloc (by omega) _

set_option maxRecDepth 100000 in
set_option maxHeartbeats 2000000 in
theorem deflateCalls_any (a : Option Addr) (N cap : Nat) (l : List UInt8) (w : World) (h : RB w a N cap l) :
    Calls Try.prog 3 #[.slice a N cap] w (TruePost w) := by
  obtain rfl := RB.len h
  by_cases hlt : 1200 < l.length
  · have d : decide ((1200 : Int) < l.length) = true := by simp; omega
    go_enter Try.func3, Try.ntmps3
    go_wp2_with (go_at_call 16; go_must (refine (lives5_any _).mono ?_); rintro e w1 ⟨rfl, hb1⟩)
    go_ret
    exact ⟨rfl, hb1⟩
  · have d : decide ((1200 : Int) < l.length) = false := by simp; omega
    have hl : l.length ≤ 1073741824 := by omega
    have hl2 : l.length ≤ 1099511627776 := by omega
    have hpl := pieces_length l
    have hC := fun a b n m c d l w => sameBytes_any a b n m c d l l w
    have hP := fun a N cap w => pieces_any a N cap l w hl2
    have hP' := fun a N cap w => refPieces_any a N cap l w hl2
    have hE := fun a b n m c d w => samePieces_any a b n m c d (pieces l) w (by omega)
    have hS := fun a N cap w => stored_any a N cap l w hl
    have hS' := fun a N cap w => refStored_any a N cap l w hl
    have hD := fun a N cap w => deflate_any a N cap l w hl
    have hD' := fun a N cap w => refDeflate_any a N cap l w hl
    generalize pieces l = ps at *
    generalize stored l = S at *
    generalize deflateP l = D at *
    go_enter Try.func3, Try.ntmps3
    go_wp2_with (first
      | (go_at_call 16; go_must (refine (lives5_any _).mono ?_); rintro e w1 ⟨rfl, hb1⟩)
      | (go_at_call 17; go_must (refine (own_any a _ cap l w1 hl (rd_below0 h hb1)).mono ?_); rintro e w2 ⟨g, c2, rfl, hg2, hg2', hr2, hb2⟩
         have B2 := Below.refl w2.heap.size w2
         have hz1 := hb1.size; have hz2 := hb2.size
         have hb12 := hb1.trans (hb2.mono hz1)
         have q3 : ∀ wx, Below w2.heap.size w2 wx → RB wx (some ⟨g, 0, none⟩) (l.length + 8) c2 (l ++ marks) := fun wx hx => rd_below hr2 hx (fun g' hg' => by simp [blk] at hg'; omega)
         have hadv : adv (some ⟨g, 0, none⟩) c2 0 = some ⟨g, 0, none⟩ := by have := hr2.le; unfold adv; rw [if_neg (by omega)]; simp [Addr.add_lit]
         have q1 : ∀ wx, Below w2.heap.size w2 wx → RB wx (some ⟨g, 0, none⟩) l.length c2 l := fun wx hx => by
           have hr := rb_h (q3 wx hx) (hi := l.length) (by omega)
           rw [hadv, List.take_left] at hr
           exact hr
         have q2 : ∀ wx, Below w2.heap.size w2 wx → RB wx a l.length cap l := fun wx hx => rd_below0 (rd_below0 h hb12) hx
         clear hadv)
      | (go_at_call 19; go_must (refine (hP _ _ _ w2 (q1 _ B2)).mono ?_); rintro e w3 ⟨a3, n3, c3, rfl, ho3, hb3⟩; have B3 := B2.trans (hb3.mono (Nat.le_refl _)); have z3 := B3.size)
      | (go_at_call 20; go_must (refine (hP' _ _ _ w3 (q2 _ B3)).mono ?_); rintro e w4 ⟨a4, n4, c4, rfl, ho4, hb4⟩; have B4 := B3.trans (hb4.mono z3); have z4 := B4.size)
      | (go_at_call 18; go_must (refine (hE _ _ _ _ _ _ w4 (rd_below ho3.rp hb4 (fun g hg => (ho3.blk g hg).2)) ho4.rp).mono ?_); rintro e w5 ⟨rfl, k5, hw5⟩; have B5 := below_drewN B4 k5; rw [← hw5] at B5; have z5 := B5.size; clear hw5)
      | (go_at_call 22; go_must (refine (hS _ _ _ w5 (q1 _ B5)).mono ?_); rintro e w6 ⟨a6, c6, rfl, ho6, hb6⟩; have B6 := B5.trans (hb6.mono z5); have z6 := B6.size)
      | (go_at_call 23; go_must (refine (hS' _ _ _ w6 (q2 _ B6)).mono ?_); rintro e w7 ⟨a7, c7, rfl, ho7, hb7⟩; have B7 := B6.trans (hb7.mono z6); have z7 := B7.size)
      | (go_at_call 24; go_must (refine (hD _ _ _ w7 (q1 _ B7)).mono ?_); rintro e w8 ⟨a8, c8, rfl, ho8, hb8⟩; have B8 := B7.trans (hb8.mono z7); have z8 := B8.size)
      | (go_at_call 25; go_must (refine (hD' _ _ _ w8 (q2 _ B8)).mono ?_); rintro e w9 ⟨a9, c9, rfl, ho9, hb9⟩; have B9 := B8.trans (hb9.mono z8); have z9 := B9.size)
      | (go_at_call 21; have _t := hb9; go_must (refine (hC _ _ _ _ _ _ D w9 (rd_below ho8.rb hb9 (fun g hg => (ho8.blk g hg).2)) ho9.rb).mono ?_); rintro e wx ⟨rfl, rfl⟩)
      | (go_at_call 21; go_must (refine (hC _ _ _ _ _ _ S w7 (rd_below ho6.rb hb7 (fun g hg => (ho6.blk g hg).2)) ho7.rb).mono ?_); rintro e wx ⟨rfl, rfl⟩)
      | (go_at_call 26; go_must (refine (kept_any g c2 cap a l w9 hl (q3 _ B9) (q2 _ B9)).mono ?_); rintro e wx ⟨rfl, kx, rfl⟩))
    go_ret
    exact ⟨rfl, below_drewN (hb12.trans (B9.mono (by omega))) kx⟩
end Go.Proofs.Ytpfalaghggjbjaa
