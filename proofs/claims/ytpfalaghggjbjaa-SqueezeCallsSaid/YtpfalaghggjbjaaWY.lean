/-
  The walks of bytes.Clone and lenenc.AppendFixed (of three bytes).
  Conditions: the slice reads as a list of bytes, no longer than 2^40; the number fits three bytes.
-/
import Derived.Test.YtpfalaghggjbjaaWX
import Derived.Test.YtpfalaghggjbjaaPlN
import Derived.Lib.SliceRun
namespace Go.Proofs.Ytpfalaghggjbjaa
open Go.RowKit

set_option maxRecDepth 100000 in
set_option maxHeartbeats 1000000 in
theorem clone_any (a : Option Addr) (N cap : Nat) (l : List UInt8) (w : World) (hl : l.length ≤ 1099511627776) (h : RB w a N cap l) :
    Calls Try.prog 83 #[.slice a N cap] w (RetB w l) := by
  obtain rfl := RB.len h
  have hnil : ∀ w : World, ∀ n c : Nat, (binOp .eql 22 (.slice a n c) (.slice none 0 0)).run Try.prog w = .ok (.bool a.isNone) w := fun w n c => Lib.run_eql_slice_nil w 22 5 a n c 0 0 Try.underlying22
  cases a with
  | none =>
    have h0 : l = [] := by
      rcases h.at' with h0 | ⟨b, off, h1, _⟩
      · exact List.eq_nil_of_length_eq_zero h0
      · cases h1
    subst h0
    go_enter Try.func83, Try.ntmps83
    go_wp2
    go_ret
    exact ⟨none, 0, rfl, ob_nil _ _, Below.refl _ _⟩
  | some ad =>
    have h1 := rd_below0 h ((Below.refl _ w).alloc (Nat.le_refl _) (.cells #[] 5))
    have ho := ob_made (w := w) (B := w.heap.size) (c := #[]) (l := []) rfl rfl rfl (by decide) (Nat.le_refl _)
    have hb := (Below.refl w.heap.size w).alloc (Nat.le_refl _) (.cells #[] 5)
    have ho := Lib.hid ho
    go_enter Try.func83, Try.ntmps83
    go_wp2_with (at_builtin; go_must (refine wpList_appB rfl _ _ rfl w.heap.size _ 0 0 [] rfl ho.out _ l.length cap l rfl h1 (by omega) (by simp) ?_); intro a2 c2 w2 hown2 hgrew2)
    go_ret
    refine ⟨a2, c2, ?_, ?_, below_grew hb hgrew2 (by simp) (fun g hg => by simp [blk] at hg; omega)⟩
    · rw [← Nat.zero_add l.length]; rfl
    · rw [← Nat.zero_add l.length]; exact hown2

set_option maxRecDepth 100000 in
set_option maxHeartbeats 1000000 in
theorem appendFixed_any (x : Nat) (a : Option Addr) (N cap : Nat) (l : List UInt8) (w : World) (hx : x < 16777216) (hl : l.length ≤ 1073741824) (h : RB w a N cap l) :
    Calls Try.prog 56 #[.slice a N cap, .int .u64 x, .int .i64 3] w (RetBE w (l ++ le x 3) 0) := by
  have hC := fun w h => clone_any a N cap l w (by omega) h
  go_enter Try.func56, Try.ntmps56
  go_wp2_with (go_at_call 83; go_must (refine (hC _ h).mono ?_); rintro e w1 ⟨a1, c1, rfl, ho1, hb1⟩)
  go_loopw [8, 30] (fun u v wr => ∃ (k : Nat) (b : Option Addr) (n c : Nat), u = .slice b n c ∧ v = .int .i64 k ∧ k ≤ 3 ∧ OB wr w.heap.size b n c (l ++ le x k) ∧ Below w.heap.size w wr) (fun _ v _ => 3 - (intOf v).toNat)
  case atStart => exact ⟨0, a1, _, c1, rfl, rfl, by omega, by simpa [le] using ho1, hb1⟩
  case round =>
    obtain ⟨k, b, n, c, rfl, rfl, hk, ho, hb⟩ := hrel
    have hn := ho.rb.len
    rw [List.length_append, le_length] at hn
    have hn2 : n ≤ l.length + 3 := by omega
    clear hn
    have hz := hb.size
    rcases (show k = 0 ∨ k = 1 ∨ k = 2 ∨ k = 3 by omega) with rfl | rfl | rfl | rfl
    · go_wp2_with (at_builtin; go_must (refine wpList_appB rfl _ _ rfl w.heap.size b n c _ rfl (ho.alloc _) _ 1 1 [UInt8.ofNat (x / 256 ^ 0)] rfl (rb_new _ _ _ _ _ rfl (by simp)) (by omega) (by simp; omega) ?_); intro a' c' w2 hown2 hgrew)
      go_roundw
      case rel => exact ⟨1, a', _, c', rfl, by go_num, by omega, by rw [le_succ, ← List.append_assoc]; exact hown2, below_grew (hb.alloc hz _) hgrew (by simp; omega) (fun g hg => (ho.blk g hg).1)⟩
      case measure => simp [intOf]
    · go_wp2_with (at_builtin; go_must (refine wpList_appB rfl _ _ rfl w.heap.size b n c _ rfl (ho.alloc _) _ 1 1 [UInt8.ofNat (x / 256 ^ 1)] rfl (rb_new _ _ _ _ _ rfl (by simp)) (by omega) (by simp; omega) ?_); intro a' c' w2 hown2 hgrew)
      go_roundw
      case rel => exact ⟨2, a', _, c', rfl, by go_num, by omega, by rw [le_succ, ← List.append_assoc]; exact hown2, below_grew (hb.alloc hz _) hgrew (by simp; omega) (fun g hg => (ho.blk g hg).1)⟩
      case measure => simp [intOf]
    · go_wp2_with (at_builtin; go_must (refine wpList_appB rfl _ _ rfl w.heap.size b n c _ rfl (ho.alloc _) _ 1 1 [UInt8.ofNat (x / 256 ^ 2)] rfl (rb_new _ _ _ _ _ rfl (by simp; omega)) (by omega) (by simp; omega) ?_); intro a' c' w2 hown2 hgrew)
      go_roundw
      case rel => exact ⟨3, a', _, c', rfl, by go_num, by omega, by rw [le_succ, ← List.append_assoc]; exact hown2, below_grew (hb.alloc hz _) hgrew (by simp; omega) (fun g hg => (ho.blk g hg).1)⟩
      case measure => simp [intOf]
    · go_wp2
      go_ret2
      exact ⟨b, n, c, rfl, ho, hb⟩
end Go.Proofs.Ytpfalaghggjbjaa
