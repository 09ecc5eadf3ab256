/-
  The walks of inflate.Inflate and inflate.Blocks.
  Conditions: the slice reads as a list of no more than 2^30 bytes; the limit is from 0 to 2^30.
-/
import Derived.Test.YtpfalaghggjbjaaYJ
namespace Go.Proofs.Ytpfalaghggjbjaa
open Go.RowKit

/-- 'It hands back bytes, the place behind the stream, an error.' -/
def RetInf (w : World) (r : List UInt8 × Nat × Nat) (e : Ending) (w' : World) : Prop :=
  ∃ a c, e = .returned (.tuple #[.slice a r.1.length c, .int .i64 (r.2.1 : Int), .int .i64 (r.2.2 : Int)]) ∧ OB w' w.heap.size a r.1.length c r.1 ∧ Below w.heap.size w w'
/-- 'It hands back blocks, an error.' -/
def RetBlks (w : World) (r : List Blk × Nat) (e : Ending) (w' : World) : Prop :=
  ∃ a c, e = .returned (.tuple #[.slice a r.1.length c, .int .i64 (r.2 : Int)]) ∧ OK4 w' w.heap.size a r.1.length c r.1 ∧ Below w.heap.size w w'

/-- The reader as it is made. -/
theorem rr_start {w : World} {a : Option Addr} {cap m : Nat} {l : List UInt8} {C : Array Value} (hC : C = #[.slice a l.length cap, .int .i64 0, .slice none 0 0, .int .i64 (m : Int), .int .i64 0]) (h : RB w a l.length cap l) (hl : l.length ≤ 1073741824) (hm : m ≤ 1073741824) :
    Rr w.heap.size w.heap.size a cap l m (w.alloc (.cells C 86)) 0 [] 0 none := by
  subst hC
  refine ⟨⟨0, heap_alloc_new _ _, World.ownsRow_nil _ _ _ _⟩, fun w' a' hs => ?_, Nat.le_refl _, hl, hm, Nat.zero_le _, Nat.zero_le _⟩
  have hb : Below w.heap.size (w.alloc (.cells #[.slice a l.length cap, .int .i64 0, .slice none 0 0, .int .i64 (m : Int), .int .i64 0] 86)) w' := hs.below (by rw [World.size_alloc]; omega) (Nat.le_refl _) fun g hg => by cases hg
  exact rd_below0 h (((Below.refl _ w).alloc (Nat.le_refl _) _).trans hb)
theorem Stp.fresh {w : World} {o : Obj} {w' : World} {a' : Option Addr} (hs : Stp w.heap.size (w.alloc o) none w' a') : Below w.heap.size w w' :=
  ((Below.refl _ w).alloc (Nat.le_refl _) _).trans (hs.below (by rw [World.size_alloc]; omega) (Nat.le_refl _) fun g hg => by cases hg)

theorem inflateP_err {l : List UInt8} {m er : Nat} (h : blocksGo lots [] l m 0 [] = .no er) : er ≠ 0 := (errs_blocks lots [] h).1

set_option maxRecDepth 100000 in
set_option maxHeartbeats 4000000 in
theorem inflate_any (a : Option Addr) (N cap m : Nat) (l : List UInt8) (w : World) (hl : l.length ≤ 1073741824) (hm : m ≤ 1073741824) (h : RB w a N cap l) :
    Calls Try.prog 31 #[.slice a N cap, .int .i64 (m : Int)] w (RetInf w (inflateP l m)) := by
  obtain rfl := RB.len h
  have hR0 := rr_start rfl h hl hm
  have d0 : decide ((m : Int) < 0) = false := by simp
  go_enter Try.func31, Try.ntmps31
  cases hr : blocksGo lots [] l m 0 [] with
  | ok lb t o =>
    have hP : inflateP l m = (o, (t + 7) / 8, 0) := inflateP_ok hr
    rw [hP]
    go_wp2_with (go_at_call 57; go_must (refine (blocks_live hR0 hm).mono ?_); rw [hr]; rintro e w1 ⟨al, cl, a1, rfl, hol, hs1, hr1⟩
                 obtain ⟨c1, k0, k1, k2, k3, k4, -, -, -, kown⟩ := hr1.cells
                 have htl := hr1.tl)
    go_quiet (fail)
    go_wp2
    go_ret3
    refine ⟨a1, c1, ?_, kown.drewN _, below_drewN hs1.fresh _⟩
    have e7 : ((t : Int) + 7) / 8 = (((t + 7) / 8 : Nat) : Int) := by omega
    first | rfl | (simp)
  | no er =>
    have hP : inflateP l m = ([], 0, er) := inflateP_no hr
    have hne := inflateP_err hr
    have d1 : ((er : Int) != 0) = true := by simp; omega
    rw [hP]
    go_wp2_with (go_at_call 57; go_must (refine (blocks_live hR0 hm).mono ?_); rw [hr]; rintro e w1 ⟨v, a1, t1, o1, rfl, hs1, hr1⟩
                 obtain ⟨c1, k0, k1, k2, k3, k4, -, -, -, kown⟩ := hr1.cells)
    go_quiet (fail)
    go_wp2
    go_ret3
    exact ⟨none, 0, rfl, World.ownsRow_nil _ _ _ _, below_drewN hs1.fresh _⟩

set_option maxRecDepth 100000 in
set_option maxHeartbeats 4000000 in
theorem blocks_any (a : Option Addr) (N cap m : Nat) (l : List UInt8) (w : World) (hl : l.length ≤ 1073741824) (hm : m ≤ 1073741824) (h : RB w a N cap l) :
    Calls Try.prog 32 #[.slice a N cap, .int .i64 (m : Int)] w (RetBlks w (blocksP l m)) := by
  obtain rfl := RB.len h
  have hR0 := rr_start rfl h hl hm
  have d0 : decide ((m : Int) < 0) = false := by simp
  go_enter Try.func32, Try.ntmps32
  cases hr : blocksGo lots [] l m 0 [] with
  | ok lb t o =>
    have hP : blocksP l m = (lb, 0) := by unfold blocksP; rw [show blocksM l m 0 [] = _ from hr]
    rw [hP]
    go_wp2_with (go_at_call 57; go_must (refine (blocks_live hR0 hm).mono ?_); rw [hr]; rintro e w1 ⟨al, cl, a1, rfl, hol, hs1, hr1⟩
                 obtain ⟨c1, k0, k1, k2, k3, k4, -, -, -, kown⟩ := hr1.cells
                 have htl := hr1.tl)
    go_ret2
    exact ⟨al, cl, rfl, own_mono hol (by rw [World.size_alloc]; omega), hs1.fresh⟩
  | no er =>
    have hP : blocksP l m = ([], er) := by unfold blocksP; rw [show blocksM l m 0 [] = _ from hr]
    have hne := inflateP_err hr
    have d1 : ((er : Int) != 0) = true := by simp; omega
    rw [hP]
    go_wp2_with (go_at_call 57; go_must (refine (blocks_live hR0 hm).mono ?_); rw [hr]; rintro e w1 ⟨v, a1, t1, o1, rfl, hs1, hr1⟩
                 obtain ⟨c1, k0, k1, k2, k3, k4, -, -, -, kown⟩ := hr1.cells)
    go_quiet (fail)
    go_wp2
    go_ret2
    exact ⟨none, 0, rfl, World.ownsRow_nil _ _ _ _, below_drewN hs1.fresh _⟩
end Go.Proofs.Ytpfalaghggjbjaa
