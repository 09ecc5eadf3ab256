/-
  The walks of may (twice), Length, Distance, lengthOf, distanceOf, deflate.length, deflate.distance.
  Conditions: lengths from 3 to 258, distances from 1 to 32768; symbols that there are.
-/
import Derived.Test.YtpfalaghggjbjaaWA
import Derived.Test.YtpfalaghggjbjaaPlD
import Derived.Deep.CutRange
namespace Go.Proofs.Ytpfalaghggjbjaa
open Go.RowKit

theorem byte0n (c : UInt8) : c.toNat = 0 ↔ c = 0 := by
  constructor
  · intro h; exact UInt8.toNat_inj.1 (by simp; omega)
  · rintro rfl; rfl

set_option maxRecDepth 100000 in
set_option maxHeartbeats 1000000 in
theorem may_any (p : Piece) (w : World) :
    Calls Try.prog 58 #[.agg #[.int .i64 p.len, .int .i64 p.dist, .int .u8 (p.byte.toNat : Int)]] w fun e w' => e = .returned (.bool (mayB p)) ∧ ∃ o, w' = w.alloc o := by
  obtain ⟨n, d, c⟩ := p
  go_enter Try.func58, Try.ntmps58
  go_wp2
  all_goals
    go_ret
    refine ⟨ret_bool ?_, _, rfl⟩
    unfold mayB
    first
      | (rw [if_pos (by simpa using ‹(n == 0) = true›)]; rw [Bool.eq_iff_iff]; simp; done)
      | (rw [if_neg (by simpa using ‹(n == 0) = false›)]; rw [Bool.eq_iff_iff]; simp [byte0n]; first | done | omega | (constructor <;> intro hh <;> (first | exact ⟨by omega, by omega, by omega, by omega, hh⟩ | exact hh.2.2.2.2)))

set_option maxRecDepth 100000 in
set_option maxHeartbeats 1000000 in
theorem Length_any (s : Nat) (h1 : 257 ≤ s) (h2 : s ≤ 285) (w : World) :
    Calls Try.prog 80 #[.int .i64 s] w fun e w' => e = .returned (.tuple #[.int .i64 (lbase s : Nat), .int .i64 (lbits s : Nat)]) ∧ w = w' := by
  go_enter Try.func80, Try.ntmps80
  go_wp2
  · have h : s = 285 := by have := ‹((s : Int) == 285) = true›; simp at this; omega
    subst h
    go_ret2
    exact ⟨ret_int2 rfl rfl, rfl⟩
  · have h : s < 265 := by have := ‹(s : Int) < 265›; omega
    go_ret2
    refine ⟨ret_int2 ?_ ?_, rfl⟩
    · unfold lbase; rw [if_neg (by omega), if_pos h]; omega
    · unfold lbits; rw [if_neg (by omega), if_pos h]; rfl
  · have h : 265 ≤ s := by have := ‹(265 : Int) ≤ s›; omega
    have h' : s ≠ 285 := by have := ‹((s : Int) == 285) = false›; simp at this; omega
    go_ret2
    have hc : s = 265 ∨ s = 266 ∨ s = 267 ∨ s = 268 ∨ s = 269 ∨ s = 270 ∨ s = 271 ∨ s = 272 ∨ s = 273 ∨ s = 274 ∨ s = 275 ∨ s = 276 ∨ s = 277 ∨ s = 278 ∨ s = 279 ∨ s = 280 ∨ s = 281 ∨ s = 282 ∨ s = 283 ∨ s = 284 := by omega
    refine ⟨ret_int2 ?_ ?_, rfl⟩ <;> rcases hc with rfl | rfl | rfl | rfl | rfl | rfl | rfl | rfl | rfl | rfl | rfl | rfl | rfl | rfl | rfl | rfl | rfl | rfl | rfl | rfl <;> decide +kernel
set_option maxRecDepth 100000 in
set_option maxHeartbeats 1000000 in
theorem refMay_any (p : Piece) (w : World) :
    Calls Try.prog 96 #[.agg #[.int .i64 p.len, .int .i64 p.dist, .int .u8 (p.byte.toNat : Int)]] w fun e w' => e = .returned (.bool (mayB p)) ∧ ∃ o, w' = w.alloc o := by
  obtain ⟨n, d, c⟩ := p
  go_enter Try.func96, Try.ntmps96
  go_wp2
  all_goals
    go_ret
    refine ⟨ret_bool ?_, _, rfl⟩
    unfold mayB
    first
      | (rw [if_pos (by simpa using ‹(n == 0) = true›)]; rw [Bool.eq_iff_iff]; simp; done)
      | (rw [if_neg (by simpa using ‹(n == 0) = false›)]; rw [Bool.eq_iff_iff]; simp [byte0n]; first | done | omega | (constructor <;> intro hh <;> (first | exact ⟨by omega, by omega, by omega, by omega, hh⟩ | exact hh.2.2.2.2)))


set_option maxRecDepth 100000 in
set_option maxHeartbeats 1000000 in
theorem Distance_any (s : Nat) (h2 : s ≤ 29) (w : World) :
    Calls Try.prog 82 #[.int .i64 s] w fun e w' => e = .returned (.tuple #[.int .i64 (dbase s : Nat), .int .i64 (dbits s : Nat)]) ∧ w = w' := by
  go_enter Try.func82, Try.ntmps82
  go_wp2
  · have h : s < 4 := by have := ‹(s : Int) < 4›; omega
    go_ret2
    refine ⟨ret_int2 ?_ ?_, rfl⟩
    · unfold dbase; rw [if_pos h]; omega
    · unfold dbits; rw [if_pos h]; rfl
  · have h : 4 ≤ s := by have := ‹(4 : Int) ≤ s›; omega
    go_ret2
    have hc : s = 4 ∨ s = 5 ∨ s = 6 ∨ s = 7 ∨ s = 8 ∨ s = 9 ∨ s = 10 ∨ s = 11 ∨ s = 12 ∨ s = 13 ∨ s = 14 ∨ s = 15 ∨ s = 16 ∨ s = 17 ∨ s = 18 ∨ s = 19 ∨ s = 20 ∨ s = 21 ∨ s = 22 ∨ s = 23 ∨ s = 24 ∨ s = 25 ∨ s = 26 ∨ s = 27 ∨ s = 28 ∨ s = 29 := by omega
    refine ⟨ret_int2 ?_ ?_, rfl⟩ <;> rcases hc with rfl | rfl | rfl | rfl | rfl | rfl | rfl | rfl | rfl | rfl | rfl | rfl | rfl | rfl | rfl | rfl | rfl | rfl | rfl | rfl | rfl | rfl | rfl | rfl | rfl | rfl <;> decide +kernel

set_option maxRecDepth 100000 in
set_option maxHeartbeats 1000000 in
theorem lengthOf_any (n : Nat) (h2 : n ≤ 258) (w : World) :
    Calls Try.prog 79 #[.int .i64 n] w fun e w' => e = .returned (.int .i64 (lsym n : Nat)) ∧ w = w' := by
  by_cases hA : n = 258
  · subst hA
    go_enter Try.func79, Try.ntmps79
    go_wp2
    go_ret
    exact ⟨ret_int (by decide +kernel), rfl⟩
  · have d1 : ((n : Int) == 258) = false := by simp; omega
    have hs : lsym n = lastLe lbase n 257 27 := by unfold lsym; rw [if_neg hA]
    have Hs := Lib.hid hs
    clear hs hA
    go_enter Try.func79, Try.ntmps79
    go_wp2
    go_loopw [3, 4] (fun u v wr => ∃ i : Nat, i ≤ 27 ∧ u = .int .i64 (lastLe lbase n 257 i : Nat) ∧ v = .int .i64 ((258 + i : Nat) : Int) ∧ w = wr) (fun _ v _ => 285 - (intOf v).toNat)
    case atStart => exact ⟨0, by omega, rfl, rfl, rfl⟩
    case round =>
      obtain ⟨i, hi, rfl, rfl, rfl⟩ := hrel
      have hll : lastLe lbase n 257 (i + 1) = if lbase (257 + i + 1) ≤ n then 257 + i + 1 else lastLe lbase n 257 i := rfl
      have Hll := Lib.hid hll
      clear hll
      by_cases h27 : i < 27
      · have d : decide ((258 : Int) + i ≤ 284) = true := by simp; omega
        go_wp2_with (go_at_call 80; go_must (refine (Length_any (258 + i) (by omega) (by omega) _).mono ?_); rintro e w' ⟨rfl, rfl⟩)
        · have hle : lbase (258 + i) ≤ n := by assumption
          go_roundw
          case rel => exact ⟨i + 1, by omega, by rw [Hll.out, if_pos (by rw [show 257 + i + 1 = 258 + i by omega]; exact hle)]; congr 1; omega, by go_num, trivial⟩
          case measure => simp [intOf]; omega
        · have hle : ¬ lbase (258 + i) ≤ n := by assumption
          go_roundw
          case rel => exact ⟨i + 1, by omega, by rw [Hll.out, if_neg (by rw [show 257 + i + 1 = 258 + i by omega]; exact hle)], by go_num, trivial⟩
          case measure => simp [intOf]; omega
      · have h27' : i = 27 := by omega
        subst h27'
        go_wp2
        go_ret
        exact ⟨ret_int (by rw [Hs.out]), rfl⟩

set_option maxRecDepth 100000 in
set_option maxHeartbeats 1000000 in
theorem distanceOf_any (n : Nat) (_h2 : n ≤ 32768) (w : World) :
    Calls Try.prog 81 #[.int .i64 n] w fun e w' => e = .returned (.int .i64 (dsym n : Nat)) ∧ w = w' := by
  have hs : dsym n = lastLe dbase n 0 29 := rfl
  have Hs := Lib.hid hs
  clear hs
  go_enter Try.func81, Try.ntmps81
  go_wp2
  go_loopw [3, 4] (fun u v wr => ∃ i : Nat, i ≤ 29 ∧ u = .int .i64 (lastLe dbase n 0 i : Nat) ∧ v = .int .i64 ((1 + i : Nat) : Int) ∧ w = wr) (fun _ v _ => 31 - (intOf v).toNat)
  case atStart => exact ⟨0, by omega, rfl, rfl, rfl⟩
  case round =>
    obtain ⟨i, hi, rfl, rfl, rfl⟩ := hrel
    have hll : lastLe dbase n 0 (i + 1) = if dbase (0 + i + 1) ≤ n then 0 + i + 1 else lastLe dbase n 0 i := rfl
    have Hll := Lib.hid hll
    clear hll
    by_cases h27 : i < 29
    · have d : decide ((1 : Int) + i ≤ 29) = true := by simp; omega
      go_wp2_with (go_at_call 82; go_must (refine (Distance_any (1 + i) (by omega) _).mono ?_); rintro e w' ⟨rfl, rfl⟩)
      · have hle : dbase (1 + i) ≤ n := by assumption
        go_roundw
        case rel => exact ⟨i + 1, by omega, by rw [Hll.out, if_pos (by rw [show 0 + i + 1 = 1 + i by omega]; exact hle)]; congr 1; omega, by go_num, trivial⟩
        case measure => simp [intOf]; omega
      · have hle : ¬ dbase (1 + i) ≤ n := by assumption
        go_roundw
        case rel => exact ⟨i + 1, by omega, by rw [Hll.out, if_neg (by rw [show 0 + i + 1 = 1 + i by omega]; exact hle)], by go_num, trivial⟩
        case measure => simp [intOf]; omega
    · have h27' : i = 29 := by omega
      subst h27'
      go_wp2
      go_ret
      exact ⟨ret_int (by rw [Hs.out]), rfl⟩
end Go.Proofs.Ytpfalaghggjbjaa
