/-
  The walks of adler.halves, adler.More, adler.Sum, sluicegateref02.More, sluicegateref02.Sum.
  Conditions: the slice reads as a list of bytes; the sum begins at 1.
-/
import Derived.Test.YtpfalaghggjbjaaWA
import Derived.Test.YtpfalaghggjbjaaPlI
namespace Go.Proofs.Ytpfalaghggjbjaa
open Go.RowKit

theorem halves_one (w : World) : Calls Try.prog 105 #[.int .u32 1] w fun e w' => e = .returned (.tuple #[.int .u32 1, .int .u32 0]) ∧ w = w' := by
  have e1 : bits .and .u32 1 65535 = 1 := by decide
  go_enter Try.func105, Try.ntmps105
  go_wp2
  go_ret2
  exact ⟨rfl, rfl⟩
theorem or_halves (a b : Nat) (ha : a < 65536) (hb : b < 65536) : bits .or .u32 ((b : Int) * 65536) (a : Int) = ((b * 65536 + a : Nat) : Int) := by
  show IntKind.u32.wrap (((BitVec.ofInt 32 ((b : Int) * 65536) ||| BitVec.ofInt 32 (a : Int)).toNat : Nat) : Int) = _
  have h : (BitVec.ofInt 32 ((b : Int) * 65536) ||| BitVec.ofInt 32 (a : Int)).toNat = b * 65536 + a := by
    rw [BitVec.toNat_or, BitVec.toNat_ofInt, BitVec.toNat_ofInt]
    have e1 : (((b : Int) * 65536) % ((2 ^ 32 : Nat) : Int)).toNat = b * 2 ^ 16 := by omega
    have e2 : ((a : Int) % ((2 ^ 32 : Nat) : Int)).toNat = a := by omega
    rw [e1, e2, ← Nat.shiftLeft_eq, ← Nat.shiftLeft_add_eq_or_of_lt (by omega), Nat.shiftLeft_eq]
  rw [h]
  have hs : IntKind.u32.signed = false := rfl
  simp [IntKind.wrap, IntKind.bits, hs]
  omega

set_option maxRecDepth 100000 in
set_option maxHeartbeats 1000000 in
theorem more_one (a : Option Addr) (N cap : Nat) (l : List UInt8) (w : World) (h : RB w a N cap l) :
    Calls Try.prog 92 #[.int .u32 1, .slice a N cap] w fun e w' => e = .returned (.int .u32 (adler l : Nat)) ∧ w = w' := by
  obtain rfl := RB.len h
  have hsm : l.length ≤ 9223372036854775807 := by have := h.small; have := h.le; omega
  obtain ⟨b, off, hidx, hc⟩ := Rd.open h 22 5 Try.underlying22 (by kernel_rfl)
  have hcs : ∀ j, j < l.length → w.cell? ⟨b, off + j, none⟩ = some (.int .u8 (at8 l j)) := fun j hj => by rw [hc j (by simpa using hj), cB_get]
  clear hc
  go_enter Try.func92, Try.ntmps92
  go_wp2_with (go_at_call 105; go_must (refine (halves_one _).mono ?_); rintro e w1 ⟨rfl, rfl⟩)
  go_loop [5, 6, 20] (fun u v x => ∃ i : Nat, u = .int .u32 ((adlerOf (l.take i)).1 : Nat) ∧ v = .int .u32 ((adlerOf (l.take i)).2 : Nat) ∧ x = .int .i64 i ∧ i ≤ l.length) (fun _ _ x => l.length - (intOf x).toNat)
  case atStart => exact ⟨0, rfl, rfl, rfl, by omega⟩
  case round =>
    obtain ⟨i, rfl, rfl, rfl, hi⟩ := hrel
    have hlt := adlerOf_lt (l.take i)
    by_cases hil : i < l.length
    · have c0 := hcs i hil
      have hst := adlerOf_take hil
      have Hst := Lib.hid hst
      have h8 := (l.getD i 0).toNat_lt
      unfold at8 at c0
      clear hst hcs
      generalize l.getD i 0 = x at *
      generalize adlerOf (l.take i) = s at *
      obtain ⟨s1, s2⟩ := s
      simp only at hlt ⊢
      go_wp2
      have e : adlerOf (l.take (i + 1)) = ((s1 + x.toNat) % 65521, (s2 + (s1 + x.toNat) % 65521) % 65521) := Hst.out
      exact ⟨⟨i + 1, by rw [e]; simp, by rw [e]; simp, by go_num, by omega⟩, by simp [intOf]; omega⟩
    · have hil : i = l.length := by omega
      subst hil
      rw [List.take_length] at hlt ⊢
      have had : adler l = (adlerOf l).2 * 65536 + (adlerOf l).1 := rfl
      have Had := Lib.hid had
      clear had hcs
      generalize adlerOf l = s at *
      obtain ⟨s1, s2⟩ := s
      simp only at hlt Had ⊢
      have hor := or_halves s1 s2 (by omega) (by omega)
      go_wp2
      go_ret
      exact ⟨by rw [Had.out]; exact congrArg (fun x => Ending.returned (.int .u32 x)) (by simp), rfl⟩
theorem sum_any (a : Option Addr) (N cap : Nat) (l : List UInt8) (w : World) (h : RB w a N cap l) :
    Calls Try.prog 64 #[.slice a N cap] w fun e w' => e = .returned (.int .u32 (adler l : Nat)) ∧ w = w' := by
  have hm := fun w h => more_one a N cap l w h
  go_enter Try.func64, Try.ntmps64
  go_wp2_with (go_at_call 92; go_must (refine (hm _ h).mono ?_); rintro e w1 ⟨rfl, rfl⟩)
  go_ret
  exact ⟨rfl, rfl⟩

set_option maxRecDepth 100000 in
set_option maxHeartbeats 1000000 in
theorem refMore_one (a : Option Addr) (N cap : Nat) (l : List UInt8) (w : World) (h : RB w a N cap l) :
    Calls Try.prog 94 #[.int .u32 1, .slice a N cap] w fun e w' => e = .returned (.int .u32 (adler l : Nat)) ∧ w = w' := by
  obtain rfl := RB.len h
  have hsm : l.length ≤ 9223372036854775807 := by have := h.small; have := h.le; omega
  obtain ⟨b, off, hidx, hc⟩ := Rd.open h 22 5 Try.underlying22 (by kernel_rfl)
  have hcs : ∀ j, j < l.length → w.cell? ⟨b, off + j, none⟩ = some (.int .u8 (at8 l j)) := fun j hj => by rw [hc j (by simpa using hj), cB_get]
  clear hc
  go_enter Try.func94, Try.ntmps94
  go_wp2
  go_loop [5, 6, 7] (fun u v x => ∃ i : Nat, u = .int .u32 ((adlerOf (l.take i)).1 : Nat) ∧ v = .int .u32 ((adlerOf (l.take i)).2 : Nat) ∧ x = .int .i64 i ∧ i ≤ l.length) (fun _ _ x => l.length - (intOf x).toNat)
  case atStart => exact ⟨0, rfl, rfl, rfl, by omega⟩
  case round =>
    obtain ⟨i, rfl, rfl, rfl, hi⟩ := hrel
    have hlt := adlerOf_lt (l.take i)
    by_cases hil : i < l.length
    · have c0 := hcs i hil
      have hst := adlerOf_take hil
      have Hst := Lib.hid hst
      have h8 := (l.getD i 0).toNat_lt
      unfold at8 at c0
      clear hst hcs
      generalize l.getD i 0 = x at *
      generalize adlerOf (l.take i) = s at *
      obtain ⟨s1, s2⟩ := s
      simp only at hlt ⊢
      go_wp2
      have e : adlerOf (l.take (i + 1)) = ((s1 + x.toNat) % 65521, (s2 + (s1 + x.toNat) % 65521) % 65521) := Hst.out
      exact ⟨⟨i + 1, by rw [e]; simp, by rw [e]; simp, by go_num, by omega⟩, by simp [intOf]; omega⟩
    · have hil : i = l.length := by omega
      subst hil
      rw [List.take_length] at hlt ⊢
      have had : adler l = (adlerOf l).2 * 65536 + (adlerOf l).1 := rfl
      have Had := Lib.hid had
      clear had hcs
      generalize adlerOf l = s at *
      obtain ⟨s1, s2⟩ := s
      simp only at hlt Had ⊢
      go_wp2
      go_ret
      refine ⟨?_, rfl⟩
      rw [Had.out]
      exact congrArg (fun x => Ending.returned (.int .u32 x)) (by simp)
theorem refSum_any (a : Option Addr) (N cap : Nat) (l : List UInt8) (w : World) (h : RB w a N cap l) :
    Calls Try.prog 66 #[.slice a N cap] w fun e w' => e = .returned (.int .u32 (adler l : Nat)) ∧ w = w' := by
  have hm := fun w h => refMore_one a N cap l w h
  go_enter Try.func66, Try.ntmps66
  go_wp2_with (go_at_call 94; go_must (refine (hm _ h).mono ?_); rintro e w1 ⟨rfl, rfl⟩)
  go_ret
  exact ⟨rfl, rfl⟩
end Go.Proofs.Ytpfalaghggjbjaa
